/- The functions that this law reaches, and their laws. -/
import Derived.Test.YtbaoaedmbhpolaaGreatDoorZ3B
import Derived.Lib.TrimByte
import Derived.Deep.AppendSrc
import Derived.Lib.JoinLaws
import Derived.Lib.AppendZeros
import Derived.Lib.AppendZerosOnto
import Derived.Lib.Overlaps
import Derived.Laws.Externs
import Derived.Deep.LoopGhost
import Derived.Lib.SliceRun
import Derived.Lib.Walk
import Derived.Shelf.RegionOpenPlain
import Derived.Shelf.Strings.Builder1
import Derived.Shelf.Strings.Builder2
import Derived.Shelf.Strings.OnBuilder
import Derived.Shelf.Strings.Trim
import Derived.Shelf.Small.Utf8
import Derived.Shelf.Small.Strs
import Derived.Shelf.Strings.BuilderF
import Derived.Shelf.Strings.BuilderK
import Derived.Shelf.Utf8.RuneCount
import Derived.Shelf.Strings.Builder2Cap
import Derived.Shelf.Strconv.Itoa0
import Derived.Shelf.Strconv.Itoa1
import Derived.Shelf.LaysM
import Derived.Shelf.Strconv.Itoa2
import Derived.Shelf.Strconv.Itoa3
import Derived.Shelf.Strconv.Itoa4
import Derived.Shelf.Strconv.ParseIntEmpty
import Derived.Shelf.Strconv.Clone
import Derived.Shelf.Strconv.SyntaxError
import Derived.Shelf.LaysC
import Derived.Shelf.Strconv.ToError
import Derived.Shelf.Strconv.Lower
import Derived.Shelf.Strconv.ParseUint10
import Derived.Shelf.Strconv.ParseUint10Empty
import Derived.Shelf.Strconv.ParseUint10Any
import Derived.Shelf.Strconv.ParseInt10
import Derived.Shelf.Strconv.RangeError
import Derived.Shelf.Strconv.ToErrorRange
import Derived.Shelf.Strconv.ParseUintEmpty
import Derived.Shelf.Strconv.ParseUint10b64
import Derived.Shelf.Strconv.ParseUint10b32
import Derived.Shelf.Strconv.ParseUint10b16
import Derived.Shelf.Strconv.ParseUint10b8
import Derived.Shelf.Strconv.ParseUint10At
import Derived.Shelf.Strconv.ParseInt10At64
import Derived.Shelf.Strconv.ParseInt10At32
import Derived.Shelf.Strconv.ParseInt10At16
import Derived.Shelf.Strconv.ParseInt10At8
import Derived.Shelf.Strconv.ParseInt10All
import Derived.Shelf.Strconv.ParseIntPublic10
import Derived.Shelf.Strings.Search1
import Derived.Shelf.Strings.Search2
import Derived.Shelf.Strings.Search3
import Derived.Shelf.Strings.Cut
import Derived.Shelf.Strings.Count
import Derived.Shelf.Strings.Shaped
import Derived.Shelf.Strings.Prefix
import Derived.Shelf.Strings.Split
import Derived.Shelf.Strings.SplitShaped
import Derived.Shelf.Unicode.Decode
import Derived.Shelf.Strings.Runes
import Derived.Shelf.Strings.RuneCount
import Derived.Shelf.Strings.AsciiSet
import Derived.Shelf.Strings.Explode
import Derived.Shelf.Bits.Mul64
import Derived.Shelf.Strings.Repeat
import Derived.Shelf.Unicode.DecodeSlow
import Derived.Shelf.Unicode.DecodeAny
import Derived.Shelf.Unicode.DecodeLast
import Derived.Shelf.Strings.BuilderCap
import Derived.Shelf.Slices.Turned
import Derived.Ground.SlgnProg
import Derived.Shelf.SlicesG.Turned
import Derived.Shelf.SlicesG.Clone
import Derived.Shelf.SlicesE.Clone
import Derived.Ground.SlgfProg
import Derived.Shelf.SlicesE.IndexFunc
set_option linter.unusedVariables false
set_option linter.unusedSimpArgs false
set_option linter.defProp false
open Array renaming length_toList->iB,size_append->sK,size_push->BT,toList->cC
open Bool renaming and_false->Ct,eq_false_iff->bV,false_and->yP,false_or->Lm,true_and->Ei
open ByteArray renaming data->bO,empty->aC,extract->aO,mk->aA,size->aG,size_append->dH,toList->aB
open False renaming elim->aH
open Go.Addr renaming add_lit->fX
open Go.Am renaming Good->Bi,Spec->Pq
open Go.Am.iE renaming mk->fE
open Go.Am.c7 renaming ptr->rR,st->mZ
open Go.Am.aS renaming mk->aI
open Go.Am.dD renaming of_below->iR
open Go.Am.TI renaming slice->jG,struct->AW
open Go.Builtin renaming append_->iP,copy_->jX,firstCells->eQ,zeroCells->gS
open Go.Extern.SlicesOverlaps renaming overlaps->AX
open Go.Lib renaming countB->gX,cut->lC,pow10Tab->Be
open Go.Op renaming bytesLess->bL
open Go.Proofs.Tryz renaming func100->lw,func106->lr,func108->lu,func11->aAe,func110->lp,func111->lq,func120->Pr,func121->Ps,func122->Pt,func123->Pu,func124->Pv,func125->Pw,func126->Px,func127->Py,func13->aAf,func14->aAo,func145->kz,func17->aAp,func18->aAq,func185->mi,func20->aAr,func21->aAs,func224->mh,func229->ky,func23->aA8,func235->lf,func25->aAt,func27->aAu,func274->ln,func276->lh,func277->lg,func28->aAv,func287->oe,func292->HX,func31->aAw,func33->aAx,func331->ll,func334->ma,func335->mf,func336->mc,func337->mg,func338->mj,func34->aAy,func35->aAz,func36->aA0,func383->nh,func385->QE,func386->QG,func387->QF,func388->og,func389->QR,func395->nl,func396->rG,func397->mr,func398->mu,func399->QA,func4->aDs,func42->Q',func426->mm,func427->ml,func428->mp,func433->lj,func44->U',func440->lm,func442->lz,func445->H0,func45->X',func462->ni,func463->QH,func464->om,func470->np,func471->nq,func472->nr,func473->ns,func474->mv,func475->mx,func48->Y',func484->H1,func496->lx,func498->Pz,func499->me,func50->Z',func503->oo,func51->aAa,func518->nt,func519->nj,func52->aAb,func520->nu,func521->nw,func522->ny,func523->my,func524->mz,func53->aAc,func532->ly,func54->aAg,func542->nz,func543->oa,func55->aAh,func56->aAi,func57->aAj,func58->aAk,func59->aAl,func6->aDt,func60->aAm,func61->aAn,func62->aAd,func76->aA1,func78->aA2,func79->aA3,func82->aA4,func84->aA5,func86->aA6,func87->aA7,func88->aA9,isAgg0->xH,isAgg2->aAC,isAgg20->H2,isAgg21->QI,isAgg210->A6,isAgg268->Lq,isAgg3->oM,isAgg396->Z0,isAgg4->qL,isAgg400->vK,isAgg403->Ls,isAgg410->Lo,isAgg412->Lp,isAgg414->ZY,isAgg450->A7,isAgg451->Lu,isAgg457->Z4,isAgg460->Z5,isAgg462->Ek,isAgg482->Z1,isAgg484->Z2,isAgg485->Z3,isAgg490->Z6,isAgg491->Z7,isAgg494->ZZ,isAgg5->qK,isAgg513->Z8,isAgg514->Z9,isAgg55->na,isAgg9->oN,ntmps120->ZO,ntmps121->ZP,ntmps122->ZQ,ntmps123->ZR,ntmps124->ZS,ntmps125->ZT,ntmps126->ZU,ntmps127->ZV,ntmps445->Ln,ntmps498->ZW,prog->aN,sizeOf0->uP,sizeOf2->oc,sizeOf20->El,sizeOf21->Lr,sizeOf210->yR,sizeOf268->K1,sizeOf3->nA,sizeOf396->Y8,sizeOf4->oP,sizeOf400->uD,sizeOf403->K2,sizeOf410->KZ,sizeOf412->K0,sizeOf414->Y6,sizeOf450->yU,sizeOf451->K3,sizeOf457->Yc,sizeOf460->Yd,sizeOf462->Cx,sizeOf482->Y9,sizeOf484->Ya,sizeOf485->Yb,sizeOf490->Ye,sizeOf491->Yf,sizeOf494->Y7,sizeOf5->oO,sizeOf513->Yg,sizeOf514->Yh,sizeOf55->ZX,sizeOf9->nB,underlying0->nH,underlying2->Sc,underlying20->yT,underlying21->Dh,underlying210->rH,underlying268->rI,underlying3->eR,underlying396->OE,underlying4->iY,underlying400->nW,underlying403->wX,underlying410->Cv,underlying412->Cw,underlying414->OC,underlying450->rJ,underlying451->DB,underlying457->OI,underlying460->OJ,underlying462->wW,underlying482->OF,underlying484->OG,underlying485->OH,underlying490->Cy,underlying491->OL,underlying494->OD,underlying5->jR,underlying513->OM,underlying514->ON,underlying55->QB,underlying9->gO,zeroValue0->oE,zeroValue2->Tt,zeroValue20->AY,zeroValue21->F8,zeroValue210->sN,zeroValue268->Dg,zeroValue3->jK,zeroValue396->QJ,zeroValue4->kL,zeroValue400->oQ,zeroValue403->Di,zeroValue410->De,zeroValue412->Df,zeroValue414->QC,zeroValue450->sO,zeroValue451->Dj,zeroValue457->QM,zeroValue460->QN,zeroValue462->yS,zeroValue484->QK,zeroValue485->QL,zeroValue490->QO,zeroValue494->QD,zeroValue5->kK,zeroValue513->QP,zeroValue514->QQ,zeroValue55->Sb,zeroValue9->jL
open Go.World renaming cell?->iK,cell?_of_block->iM,cell?_setCells_out->Ej,frozen?->Ee,frozen?_setCells->HZ,shape?->Bg
open Int renaming le_refl->dX,tdiv->aQ,tmod->bY,toNat->aE,toNat_natCast->aK
open List renaming append_nil->dN,drop->bG,drop_eq_nil_of_le->bT,foldl_cons->iQ,getD->aD,getD_eq_getElem?_getD->bW,getElem?_append_left->c6,getElem?_append_right->cY,getElem?_eq_getElem->aV,length->aF,length_append->bS,length_drop->p7,length_set->vS,length_take->fL,map_nil->Bj,mem_cons_of_mem->aM,mem_of_mem_drop->iO,mem_of_mem_take->iN,replicate->aP,set->eU,size_toArray->gA,take->bK,take_of_length_le->eA
open Nat renaming add_assoc->fS,add_mul->fZ,ble->pJ,le_refl->aU,le_trans->gI,min->HV,min_def->KV,mul_comm->HY,mul_le_mul_right->cV,mul_pos->aAB,succ_mul->yN,zero_add->cO,zero_le->aY
open UInt8 renaming ofNat->kJ,toNat->cN
set_option maxRecDepth 100000
namespace Go.Proofs.YtbaoaedmbhpolaaGreatDoor
open Go Go.Am Go.Proofs
abbrev nY:TI:=TI.other
abbrev cR:TI:=TI.scal (Ty.fn)
abbrev tq2:TI:=TI.scal (.int .i64)
abbrev tq3:TI:=TI.scal (.int .u8)
abbrev tq4:TI:=TI.scal (.str)
abbrev tq5:TI:=TI.scal (.int .u64)
abbrev tq6:TI:=TI.scal (.int .i32)
abbrev tq7:TI:=TI.struct (.cons (.int .i64) (.cons (.int .i64) (.cons (.int .i64) (.cons (.int .i64) .unit))))
abbrev tq8:TI:=TI.struct (.cons (.int .i64) (.cons (.int .i64) (.cons (.int .i64) .unit)))
abbrev tq9:TI:=TI.struct (.cons (.sl (.cons .str (.cons (.int .i64) (.cons (.int .i64) (.cons (.int .i64) .unit))))) (.cons (.cons (.int .i64) (.cons (.int .i64) (.cons (.int .i64) (.cons (.int .i64) .unit)))) (.cons (.sl (.cons (.int .i64) (.cons (.int .i64) (.cons (.int .i64) .unit)))) (.cons (.sl (.cons (.int .i64) (.cons (.int .i64) (.cons (.int .i64) .unit)))) (.cons (.cons (.int .i64) (.cons (.int .i64) (.cons (.int .i64) .unit))) (.cons (.cons (.int .i64) (.cons (.int .i64) (.cons (.int .i64) .unit))) (.cons (.sl (.cons .str (.cons (.int .i64) (.cons (.int .i64) .unit)))) (.cons (.cons (.int .i64) (.cons (.int .i64) (.cons (.int .i64) (.cons (.int .i64) .unit)))) (.cons (.sl (.cons .str (.cons (.int .i64) (.cons (.int .i64) (.cons (.int .i64) .unit))))) (.cons (.sl (.cons (.int .i64) (.cons (.int .i64) (.cons (.int .i64) .unit)))) (.cons (.sl (.cons .str (.cons (.int .i64) (.cons (.int .i64) .unit)))) (.cons (.sl (.cons .str (.cons (.int .i64) (.cons (.int .i64) .unit)))) .unit))))))))))))
abbrev aFS:TI:=TI.struct (.cons .str (.cons (.int .i64) (.cons (.int .i64) (.cons (.int .i64) .unit))))
abbrev gn:TI:=TI.struct (.cons .str (.cons (.int .i64) (.cons (.int .i64) .unit)))
def tab:Γ TI:=[nY,cR,tq2,tq2,TI.scal (.bool),tq3,tq3,AW (.cons (.int .i64) (.cons (.int .i64) (.cons .bool (.cons (.int .u8) .unit)))),AW (.cons (.int .i64) (.cons (.int .i64) (.cons .bool (.cons (.int .u8) .unit)))),tq4,tq4,tq4,tq5,nY,nY,nY,nY,nY,nY,nY,nY,tq6,jG 122 (.cons .str (.cons (.int .i64) (.cons (.int .i64) (.cons (.int .i64) .unit)))) 40,tq7,tq7,jG 159 (.cons (.int .i64) (.cons (.int .i64) (.cons (.int .i64) .unit))) 24,jG 163 (.cons (.int .i64) (.cons (.int .i64) (.cons (.int .i64) .unit))) 24,tq8,tq8,tq8,tq8,jG 125 (.cons .str (.cons (.int .i64) (.cons (.int .i64) .unit))) 32,tq7,tq7,jG 128 (.cons .str (.cons (.int .i64) (.cons (.int .i64) (.cons (.int .i64) .unit)))) 40,jG 171 (.cons (.int .i64) (.cons (.int .i64) (.cons (.int .i64) .unit))) 24,jG 131 (.cons .str (.cons (.int .i64) (.cons (.int .i64) .unit))) 32,jG 134 (.cons .str (.cons (.int .i64) (.cons (.int .i64) .unit))) 32,tq9,tq9,cR,jG 154 (.cons .str (.cons (.int .i64) (.cons (.int .i64) (.cons (.int .i64) .unit)))) 40,tq7,jG 157 (.cons (.int .i64) (.cons (.int .i64) (.cons (.int .i64) .unit))) 24,jG 161 (.cons (.int .i64) (.cons (.int .i64) (.cons (.int .i64) .unit))) 24,tq8,tq8,jG 164 (.cons .str (.cons (.int .i64) (.cons (.int .i64) .unit))) 32,tq7,jG 166 (.cons .str (.cons (.int .i64) (.cons (.int .i64) (.cons (.int .i64) .unit)))) 40,jG 169 (.cons (.int .i64) (.cons (.int .i64) (.cons (.int .i64) .unit))) 24,jG 172 (.cons .str (.cons (.int .i64) (.cons (.int .i64) .unit))) 32,jG 174 (.cons .str (.cons (.int .i64) (.cons (.int .i64) .unit))) 32,tq9,tq9,jG 9 (.str) 16,nY,cR,cR,cR,cR,cR,cR,cR,cR,cR,cR,cR,cR,cR,cR,cR,cR,nY,cR,nY,cR,cR,cR,cR,cR,cR,cR,cR,cR,cR,cR,cR,cR,cR,jG 2 (.int .i64) 8,AW (.cons .str (.cons .str (.cons (.sl (.int .i64)) (.cons (.sl (.int .i64)) .unit)))),AW (.cons .str (.cons .str (.cons (.sl (.int .i64)) (.cons (.sl (.int .i64)) .unit)))),nY,cR,cR,nY,cR,cR,cR,cR,cR,cR,cR,cR,cR,cR,cR,cR,cR,cR,cR,cR,cR,cR,cR,cR,cR,cR,cR,cR,aFS,aFS,cR,gn,gn,cR,aFS,aFS,cR,gn,gn,cR,gn,gn,cR,cR,nY,cR,cR,cR,nY,cR,nY,cR,cR,nY,cR,cR,cR,cR,cR,cR,cR,aFS,cR,tq8,tq8,cR,tq8,tq8,tq8,cR,tq8,gn,cR,aFS,cR,tq8,tq8,cR,tq8,gn,cR,gn,cR,cR,cR,cR,cR,cR,cR,cR,cR,nY,cR,nY,cR,nY,cR,cR,cR,cR,cR,cR,cR,cR,cR,nY,cR,nY,cR,cR,cR,cR,cR,cR,cR,cR,cR,jG 5 (.int .u8) 1,cR,nY,cR,cR,nY,nY,cR,cR,nY,cR,nY,cR,nY,cR,nY,nY,cR,cR,cR,cR,cR,cR,nY,cR,cR,cR,nY,cR,nY,cR,nY,cR,nY,cR,cR,nY,cR,nY,cR,cR,nY,cR,cR,cR,cR,cR,cR,cR,cR,cR,cR,cR,cR,cR,cR,cR,nY,nY,nY,cR,cR,cR,nY,cR,cR,nY,cR,cR,nY,cR,nY,cR,cR,nY,cR,nY,cR,cR,nY,cR,nY,cR,cR,nY,cR,nY,cR,nY,cR,nY,cR,cR,nY,cR,cR,cR,cR,cR,cR,nY,cR,cR,cR,cR,jG 55 (.sl .str) 24,cR,cR,nY,cR,nY,cR,cR,cR,cR,cR,jG 3 (.int .i64) 8,cR,cR,cR,nY,cR,cR,cR,cR,cR,cR,cR,cR,cR,cR,cR,cR,cR,cR,cR,cR,nY,cR,cR,cR,cR,cR,cR,cR,cR,cR,cR,nY,cR,cR,cR,cR,cR,cR,cR,cR,cR,nY,cR,cR,cR,cR,cR,cR,cR,cR,cR,cR,cR,cR,cR,cR,cR,cR,jG 4 (.bool) 1,cR,cR,cR,cR,cR,cR,cR,cR,cR,cR,nY,cR,cR,cR,tq5,cR,tq2,tq5,nY,cR,nY,cR,cR,cR,nY,nY,nY,cR,nY,cR,cR,cR,cR,cR,cR,cR,cR,cR,cR,cR,cR,cR,cR,cR,cR,cR,cR,cR,cR,cR,cR,cR,cR,cR,cR,cR,cR,cR,cR,cR,cR,cR,cR,cR,TI.scal (.int .u32),nY,cR,cR,nY,nY,cR,nY,cR,cR,nY,cR,nY,cR,cR,cR,cR,cR,cR,nY,cR,cR,cR,cR,cR,cR,nY,nY,nY,cR,cR,nY,nY,AW (.cons (.int .u8) (.cons (.int .u8) .unit)),AW (.cons (.int .u8) (.cons (.int .u8) .unit)),nY,nY,AW (.cons .str .unit),AW (.cons .str .unit),cR,nY,nY,cR,cR,nY,cR,cR,cR,cR,cR,cR,cR,cR,cR,cR,cR,nY,cR,cR,cR,cR,cR,cR,nY,nY,cR,nY,nY,nY,nY,nY,tq3,tq3,cR,tq6,tq6]
def Ah:kW aN tab:=U7 (by kernel_rfl)
def mixed:Tryz.prog.follows .mixedOrders=true:=by kernel_rfl
@[reducible] def eI(k:Nat)(v:Int):Nat×PV:=(k,.a (.val (.int .i64 v)))
@[reducible] def eB(k:Nat)(v:Bool):Nat×PV:=(k,.a (.val (.bool v)))
@[reducible] def eS(k:Nat)(v:Δ):Nat×PV:=(k,.a (.val (.string v)))
@[reducible] def eL(k:Nat)(T:Ty)(v:Γ T.den):Nat×PV:=(k,.a (.sl T v))
@[reducible] def eT(k:Nat)(T:Ty)(v:T.den):Nat×PV:=(k,.a (.st T v))
@[reducible] def eO(k a b:Nat)(p:Γ Nat):Nat×PV:=(k,.a (.optr a b p))
@[reducible] def eP(k a b:Nat)(T:Ty):Nat×PV:=(k,.a (.bptr a b T))
@[reducible] def eW(k a:Nat):Nat×PV:=(k,.a (.osl a none))
@[reducible] def UD(v:Int):c7:=.val (.int .i64 v)
@[reducible] def OS(v:Bool):c7:=.val (.bool v)
@[reducible] def lI_(v:Int):gB:=.val (.int .i64 v)
@[reducible] def lO_(a:Nat):gB:=.osl a none
@[reducible] def cL(T:Ty)(v:Γ T.den):Option iE:=some (fE T v false none none)
@[reducible] def hB_(T:Ty)(l:Γ gB):Option iE:=some (fE T [] false (some l) none)
@[reducible] def mkS(d:gC)(p:eF d.sig->Prop)(r:eF d.sig->Γ aS):Pq:=⟨d.sig,p,λ_=>[],r,d.kds⟩
@[reducible] def bKQ(d:gC)(p:eF d.sig->Prop)(u:eF d.sig->Γ (Option jD))(r:eF d.sig->Γ aS):Pq:=⟨d.sig,p,u,r,d.kds⟩
abbrev FO(d:gC):Prop:=Fok aN tab d
def mo{d:gC}(h:aN.funcs[d.f]? = some d.fn)(x:rM aN d.ext):Fok aN tab d:=⟨h,Ah,x,mixed⟩
abbrev Th(f:FuncId)(S:Pq):Prop:=Con aN f S
section
variable {d:gC} {ds:Γ aS} {us:Γ (Option jD)} {K:fG} {q:Nat->Value} {path:Γ Bool} {cs:Γ Prop} {k:Γ Item} {E:gH} {L:bM} {A B p p2 p3 p4:Prop} {x:Bool} {t0 t1 t2 t3 T:Ty} {p0 q0:t0.den} {p1 q1:t1.den} {y2 q2:t2.den} {y3 q3:t3.den} {y z:T.den}
abbrev GW(A:Prop)(d:gC)(ds:Γ aS)(us:Γ (Option jD))(K:fG)(q:Nat->Value)(path:Γ Bool)(cs:Γ Prop)(k:Γ Item)(E:gH)(L:bM):Prop:=A->G aN tab d ds us K q path cs k E L
def bH(t:GW A d ds us K q path (True::cs) k E L):GW A d ds us K q path cs k E L:=λh o c=>t h o ⟨c,trivial⟩
def jM(t:GW A d ds us K q (true::path) ((true=true)::cs) k E L):GW A d ds us K q path cs k E L:=λh o c=>t h o ⟨c,rfl⟩
def dK(t:GW A d ds us K q (false::path) ((false=false)::cs) k E L):GW A d ds us K q path cs k E L:=λh o c=>t h o ⟨c,rfl⟩
def sQ(b:p)(t:GW A d ds us K q path (p::cs) k E L):GW A d ds us K q path cs k E L:=λh o c=>t h o ⟨c,b⟩
theorem pq(n:Nat)(t:GW A d ds us K q path ((0<=(n:Int))::cs) k E L):GW A d ds us K q path cs k E L:=sQ (by omega) t
def pw(n:Nat)(t:GW A d ds us K q path (((n:Int)≠0)::cs) k E L)(b:(n:Int)≠0:=by decide):GW A d ds us K q path cs k E L:=sQ b t
def pkT(b:x=true)(t:GW A d ds us K q (true::path) ((x=true)::cs) k E L):GW A d ds us K q path cs k E L:=λh o c=>t h o ⟨c,b⟩
def pkF(b:x=false)(t:GW A d ds us K q (false::path) ((x=false)::cs) k E L):GW A d ds us K q path cs k E L:=λh o c=>t h o ⟨c,b⟩
theorem pbS(t:x=true->GW A d ds us K q (true::path) ((x=true)::cs) k E L)(e:x=false->GW B d ds us K q (false::path) ((x=false)::cs) k E L):GW (if x=true then A else B) d ds us K q path cs k E L:=λh o c=>by
 cases x
 ·exact e rfl h o ⟨c,rfl⟩
 ·exact t rfl h o ⟨c,rfl⟩
def bD(t:GW A d ds us K q (true::path) ((x=true)::cs) k E L)(e:GW B d ds us K q (false::path) ((x=false)::cs) k E L):GW (if x=true then A else B) d ds us K q path cs k E L:=pbS (λ_=>t) λ_=>e
def Hv(t:p->GW A d ds us K q path (p::cs) k E L):GW (p/\A) d ds us K q path cs k E L:=λh o c=>t h.1 h.2 o ⟨c,h.1⟩
def aL(t:GW A d ds us K q path (p::cs) k E L):GW (p/\A) d ds us K q path cs k E L:=Hv λ_=>t
def cP(t:GW A d ds us K q path (p2::p::cs) k E L):GW (p/\p2/\A) d ds us K q path cs k E L:=aL<|aL t
def UE(t:GW A d ds us K q path (p3::p2::p::cs) k E L):GW (p/\p2/\p3/\A) d ds us K q path cs k E L:=aL<|cP t
def pc4(t:GW A d ds us K q path (p4::p3::p2::p::cs) k E L):GW (p/\p2/\p3/\p4/\A) d ds us K q path cs k E L:=aL<|UE t
def pcF(t:GW A d ds us K q (false::path) ((x=false)::cs) k E L):GW (x=false/\A) d ds us K q path cs k E L:=λh=>pkF h.1 t h.2
def pr(r:Ol tab d.ext d.wr d.fn.ntmps d.stops 2000 (lS 0 d.sig) (CA d.sig) d.kds d.tys d.fn.results (path.reverseAux []) k E L=some (ds,az us (usF (Ol tab d.ext d.wr d.fn.ntmps d.stops 2000 (lS 0 d.sig) (CA d.sig) d.kds d.tys d.fn.results (path.reverseAux []) k E L)),cs.reverseAux []):=by kernel_rfl):GW A d ds us K q path cs k E L:=λ_=>rt r
def cM{ds':Γ aS}(r:Ol tab d.ext d.wr d.fn.ntmps d.stops 2000 (lS 0 d.sig) (CA d.sig) d.kds d.tys d.fn.results (path.reverseAux []) k E L=some (ds',us,cs.reverseAux []):=by kernel_rfl):GW (ds=ds') d ds us K q path cs k E L:=λh=>rh h r
def Et{ds':Γ aS}{us':Γ (Option jD)}(r:Ol tab d.ext d.wr d.fn.ntmps d.stops 2000 (lS 0 d.sig) (CA d.sig) d.kds d.tys d.fn.results (path.reverseAux []) k E L=some (ds',us',cs.reverseAux []):=by kernel_rfl):GW (ds=ds'/\us=us') d ds us K q path cs k E L:=λh=>ru h r
def Dr(nils:Γ (Nat×Ty)){k':Γ Item}{E':gH}{L':bM}(hk:GW A d ds us K q [] [] k' E' L')(r:runJ tab d.ext d.wr d.fn.ntmps d.stops 2000 (lS 0 d.sig) nils (path.reverseAux []) E' L' k E L=some (k',E',L',cs.reverseAux []):=by kernel_rfl):GW A d ds us K q path cs k E L:=λh=>jn nils (hk h) r
def bX{k':Γ Item}{E':gH}{L':bM}(hk:GW A d ds us K q [] [] k' E' L')(r:runJ tab d.ext d.wr d.fn.ntmps d.stops 2000 (lS 0 d.sig) [] (path.reverseAux []) E' L' k E L=some (k',E',L',cs.reverseAux []):=by kernel_rfl):GW A d ds us K q path cs k E L:=Dr [] hk r
theorem dS(t:GW A d [⟨t0,p0⟩] us K q (true::path) ((x=true)::cs) k E L)(e:GW A d [⟨t0,q0⟩] us K q (false::path) ((x=false)::cs) k E L):GW A d [⟨t0,if x=true then p0 else q0⟩] us K q path cs k E L:=λh o c=>by
 cases x
 ·exact e h o ⟨c,rfl⟩
 ·exact t h o ⟨c,rfl⟩
theorem lT(t:GW A d [⟨t0,p0⟩] us K q (true::path) ((x=true)::cs) k E L)(e:GW B d [⟨t0,q0⟩] us K q (false::path) ((x=false)::cs) k E L):GW (if x=true then A else B) d [⟨t0,if x=true then p0 else q0⟩] us K q path cs k E L:=λh o c=>by
 cases x
 ·exact e h o ⟨c,rfl⟩
 ·exact t h o ⟨c,rfl⟩
theorem ba(t:x=true->GW A d [⟨t0,p0⟩] us K q (true::path) ((x=true)::cs) k E L)(e:x=false->GW B d [⟨t0,q0⟩] us K q (false::path) ((x=false)::cs) k E L):GW (if x=true then A else B) d [⟨t0,if x=true then p0 else q0⟩] us K q path cs k E L:=λh o c=>by
 cases x
 ·exact e rfl h o ⟨c,rfl⟩
 ·exact t rfl h o ⟨c,rfl⟩
theorem vY(t:GW A d [⟨t0,p0⟩,⟨t1,p1⟩] us K q (true::path) ((x=true)::cs) k E L)(e:GW A d [⟨t0,q0⟩,⟨t1,q1⟩] us K q (false::path) ((x=false)::cs) k E L):GW A d [⟨t0,if x=true then p0 else q0⟩,⟨t1,if x=true then p1 else q1⟩] us K q path cs k E L:=λh o c=>by
 cases x
 ·exact e h o ⟨c,rfl⟩
 ·exact t h o ⟨c,rfl⟩
theorem dL(t:GW A d [⟨t0,p0⟩,⟨t1,p1⟩] us K q (true::path) ((x=true)::cs) k E L)(e:GW B d [⟨t0,q0⟩,⟨t1,q1⟩] us K q (false::path) ((x=false)::cs) k E L):GW (if x=true then A else B) d [⟨t0,if x=true then p0 else q0⟩,⟨t1,if x=true then p1 else q1⟩] us K q path cs k E L:=λh o c=>by
 cases x
 ·exact e h o ⟨c,rfl⟩
 ·exact t h o ⟨c,rfl⟩
theorem bH4(t:x=true->GW A d [⟨t0,p0⟩,⟨t1,p1⟩] us K q (true::path) ((x=true)::cs) k E L)(e:x=false->GW A d [⟨t0,q0⟩,⟨t1,q1⟩] us K q (false::path) ((x=false)::cs) k E L):GW A d [⟨t0,if x=true then p0 else q0⟩,⟨t1,if x=true then p1 else q1⟩] us K q path cs k E L:=λh o c=>by
 cases x
 ·exact e rfl h o ⟨c,rfl⟩
 ·exact t rfl h o ⟨c,rfl⟩
theorem sF(t:GW A d [⟨t0,p0⟩,⟨t1,p1⟩] [some ⟨T,[y]⟩] K q (true::path) ((x=true)::cs) k E L)(e:GW B d [⟨t0,q0⟩,⟨t1,q1⟩] [some ⟨T,[z]⟩] K q (false::path) ((x=false)::cs) k E L):GW (if x=true then A else B) d [⟨t0,if x=true then p0 else q0⟩,⟨t1,if x=true then p1 else q1⟩] [some ⟨T,[if x=true then y else z]⟩] K q path cs k E L:=λh o c=>by
 cases x
 ·exact e h o ⟨c,rfl⟩
 ·exact t h o ⟨c,rfl⟩
theorem pe3(t:GW A d [⟨t0,p0⟩,⟨t1,p1⟩,⟨t2,y2⟩] us K q (true::path) ((x=true)::cs) k E L)(e:GW A d [⟨t0,q0⟩,⟨t1,q1⟩,⟨t2,q2⟩] us K q (false::path) ((x=false)::cs) k E L):GW A d [⟨t0,if x=true then p0 else q0⟩,⟨t1,if x=true then p1 else q1⟩,⟨t2,if x=true then y2 else q2⟩] us K q path cs k E L:=λh o c=>by
 cases x
 ·exact e h o ⟨c,rfl⟩
 ·exact t h o ⟨c,rfl⟩
theorem Yz(t:GW A d [⟨t0,p0⟩,⟨t1,p1⟩,⟨t2,y2⟩] us K q (true::path) ((x=true)::cs) k E L)(e:GW B d [⟨t0,q0⟩,⟨t1,q1⟩,⟨t2,q2⟩] us K q (false::path) ((x=false)::cs) k E L):GW (if x=true then A else B) d [⟨t0,if x=true then p0 else q0⟩,⟨t1,if x=true then p1 else q1⟩,⟨t2,if x=true then y2 else q2⟩] us K q path cs k E L:=λh o c=>by
 cases x
 ·exact e h o ⟨c,rfl⟩
 ·exact t h o ⟨c,rfl⟩
theorem aIC(t:GW A d [⟨t0,p0⟩,⟨t1,p1⟩,⟨t2,y2⟩] [some ⟨T,[y]⟩] K q (true::path) ((x=true)::cs) k E L)(e:GW B d [⟨t0,q0⟩,⟨t1,q1⟩,⟨t2,q2⟩] [some ⟨T,[z]⟩] K q (false::path) ((x=false)::cs) k E L):GW (if x=true then A else B) d [⟨t0,if x=true then p0 else q0⟩,⟨t1,if x=true then p1 else q1⟩,⟨t2,if x=true then y2 else q2⟩] [some ⟨T,[if x=true then y else z]⟩] K q path cs k E L:=λh o c=>by
 cases x
 ·exact e h o ⟨c,rfl⟩
 ·exact t h o ⟨c,rfl⟩
theorem pe4(t:GW A d [⟨t0,p0⟩,⟨t1,p1⟩,⟨t2,y2⟩,⟨t3,y3⟩] us K q (true::path) ((x=true)::cs) k E L)(e:GW A d [⟨t0,q0⟩,⟨t1,q1⟩,⟨t2,q2⟩,⟨t3,q3⟩] us K q (false::path) ((x=false)::cs) k E L):GW A d [⟨t0,if x=true then p0 else q0⟩,⟨t1,if x=true then p1 else q1⟩,⟨t2,if x=true then y2 else q2⟩,⟨t3,if x=true then y3 else q3⟩] us K q path cs k E L:=λh o c=>by
 cases x
 ·exact e h o ⟨c,rfl⟩
 ·exact t h o ⟨c,rfl⟩
theorem bAi(t:GW A d [⟨t0,p0⟩,⟨t1,p1⟩,⟨t2,y2⟩,⟨t3,y3⟩] us K q (true::path) ((x=true)::cs) k E L)(e:GW B d [⟨t0,q0⟩,⟨t1,q1⟩,⟨t2,q2⟩,⟨t3,q3⟩] us K q (false::path) ((x=false)::cs) k E L):GW (if x=true then A else B) d [⟨t0,if x=true then p0 else q0⟩,⟨t1,if x=true then p1 else q1⟩,⟨t2,if x=true then y2 else q2⟩,⟨t3,if x=true then y3 else q3⟩] us K q path cs k E L:=λh o c=>by
 cases x
 ·exact e h o ⟨c,rfl⟩
 ·exact t h o ⟨c,rfl⟩
end
theorem nI{p:Nat->Prop}(z:p 0)(s:∀n,p n->p (n+1)):∀n,p n
 | 0=>z
 | n+1=>s n (nI z s n)
structure KK where
 f:FuncId
 S:Pq
 h:Th f S
abbrev exK:Γ KK->Aw
 | []=>[]
 | k::r=>(k.f,k.S)::exK r
theorem exO:∀l,rM aN (exK l)
 | []=>trivial
 | k::r=>⟨k.h,exO r⟩
abbrev Cc:Γ (Bool×Ty)->Type->Type
 | [],X=>X
 | (_,t)::r,X=>t.den->Cc r X
abbrev Ca:AT->Type->Type
 | .fn _ c,X=>Cc c X
 | .own t,X=>Γ t.den->X
 | .v t,X=>t.den->X
 | .p t,X=>t.den->X
 | .po t,X=>t.den->X
 | .sv t,X=>t.den->X
abbrev Cu0:Γ AT->Type->Type
 | [],X=>X
 | a::r,X=>Ca a (Cu0 r X)
abbrev ac{X:Type}:∀c,Cc c X->vL c->X
 | [],f,_=>f
 | (_,_)::r,f,x=>ac r (f x.1) x.2
abbrev aa{X:Type}:∀a,Ca a X->a.den->X
 | .fn _ c,f,x=>ac c f x
 | .own _,f,x=>f x
 | .v _,f,x=>f x
 | .p _,f,x=>f x
 | .po _,f,x=>f x
 | .sv _,f,x=>f x
abbrev ap{X:Type}:∀s,Cu0 s X->eF s->X
 | [],f,_=>f
 | a::r,f,x=>ap r (aa a f x.1) x.2
abbrev qc{X:Type}(y:X):∀c,Cc c X
 | []=>y
 | (_,_)::r=>λ_=>qc y r
abbrev qa{X:Type}(y:X):∀a,Ca a X
 | .fn _ c=>qc y c
 | .own _=>λ_=>y
 | .v _=>λ_=>y
 | .p _=>λ_=>y
 | .po _=>λ_=>y
 | .sv _=>λ_=>y
abbrev nP:∀ {s},Cu0 s Prop
 | []=>True
 | a::_=>qa nP a
abbrev Gs(s:Γ AT):Γ Ty->Type
 | []=>Unit
 | t::r=>Cu0 s t.den×Gs s r
abbrev rs(s:Γ AT):∀l,Gs s l->eF s->Γ aS
 | [],_,_=>[]
 | t::r,g,x=>⟨t,ap s g.1 x⟩::rs s r g.2 x
noncomputable abbrev D{n:FuncId}{fn:Func}(hf:aN.funcs[n]? = some fn)(sig:Γ AT)(tys:Γ Ty)(kds:Γ RK)(l:Γ KK)(wr:Bool)(stops:Γ Nat):gC:=⟨n,fn,sig,tys,kds,exK l,wr,stops⟩
noncomputable abbrev D0{n:FuncId}{fn:Func}(hf:aN.funcs[n]? = some fn)(sig:Γ AT)(tys:Γ Ty)(l:Γ KK):gC:=D hf sig tys [] l false []
def DO{n:FuncId}{fn:Func}(hf:aN.funcs[n]? = some fn){sig:Γ AT}{tys:Γ Ty}{kds:Γ RK}{l:Γ KK}{wr:Bool}{stops:Γ Nat}:FO (D hf sig tys kds l wr stops):=mo hf (exO l)
section
variable (d:gC) (o:FO d) (P:Cu0 d.sig Prop) (u:eF d.sig->Γ (Option jD)) (g:Gs d.sig d.tys)
include o
noncomputable def mM(p:eF d.sig->Prop)(u:eF d.sig->Γ (Option jD))(r:eF d.sig->Γ aS)(h:∀x,p x->Ie d.sig x->∀K q,G aN tab d (r x) (u x) K q [] [] [.code (zU d.fn)] (LP 0 0 d.sig x) (Te d.sig x))(hc:(fnB d.fn&&pJ d.sig.length d.fn.ntmps)=true:=by kernel_rfl):KK:=⟨d.f,⟨d.sig,p,u,r,d.kds⟩,mkC o h hc⟩
noncomputable def mR(p:eF d.sig->Prop)(u:eF d.sig->Γ (Option jD))(r:eF d.sig->Γ aS)(h:∀x:eF d.sig×fG×(Nat->Value),GW (p x.1) d (r x.1) (u x.1) x.2.1 x.2.2 [] [] [.code (zU d.fn)] (LP 0 0 d.sig x.1) (Te d.sig x.1))(hc:(fnB d.fn&&pJ d.sig.length d.fn.ntmps)=true:=by kernel_rfl):KK:=mM d o p u r (λx a _ K q=>h (x,K,q) a) hc
noncomputable def mN(h:∀x,ap d.sig P x->Ie d.sig x->∀K q,G aN tab d (rs d.sig d.tys g x) (u x) K q [] [] [.code (zU d.fn)] (LP 0 0 d.sig x) (Te d.sig x))(hc:(fnB d.fn&&pJ d.sig.length d.fn.ntmps)=true:=by kernel_rfl):KK:=mM d o (ap d.sig P) u (rs d.sig d.tys g) h hc
noncomputable def mL(h:∀x,ap d.sig P x->Ie d.sig x->∀K q,G aN tab d (rs d.sig d.tys g x) [] K q [] [] [.code (zU d.fn)] (LP 0 0 d.sig x) (Te d.sig x))(hc:(fnB d.fn&&pJ d.sig.length d.fn.ntmps)=true:=by kernel_rfl):KK:=mN d o P (λ_=>[]) g h hc
noncomputable def mU(h:∀x:eF d.sig×fG×(Nat->Value),GW (ap d.sig P x.1) d (rs d.sig d.tys g x.1) (u x.1) x.2.1 x.2.2 [] [] [.code (zU d.fn)] (LP 0 0 d.sig x.1) (Te d.sig x.1))(hc:(fnB d.fn&&pJ d.sig.length d.fn.ntmps)=true:=by kernel_rfl):KK:=mR d o (ap d.sig P) u (rs d.sig d.tys g) h hc
noncomputable def mA(h:∀x:eF d.sig×fG×(Nat->Value),GW (ap d.sig P x.1) d (rs d.sig d.tys g x.1) [] x.2.1 x.2.2 [] [] [.code (zU d.fn)] (LP 0 0 d.sig x.1) (Te d.sig x.1))(hc:(fnB d.fn&&pJ d.sig.length d.fn.ntmps)=true:=by kernel_rfl):KK:=mU d o P (λ_=>[]) g h hc
end
section
variable {n:FuncId} {fn:Func} (hf:aN.funcs[n]? = some fn) (s:Γ AT) (t:Γ Ty) (l:Γ KK) (P:Cu0 s Prop) (u:eF s->Γ (Option jD)) (g:Gs s t)
noncomputable def mV(h:∀x:eF s×fG×(Nat->Value),GW (ap s P x.1) (D0 hf s t l) (rs s t g x.1) (u x.1) x.2.1 x.2.2 [] [] [.code (zU fn)] (LP 0 0 s x.1) (Te s x.1))(hc:(fnB fn&&pJ s.length fn.ntmps)=true:=by kernel_rfl):KK:=mU (D0 hf s t l) (DO hf) P u g h hc
noncomputable def mB(h:∀x:eF s×fG×(Nat->Value),GW (ap s P x.1) (D0 hf s t l) (rs s t g x.1) [] x.2.1 x.2.2 [] [] [.code (zU fn)] (LP 0 0 s x.1) (Te s x.1))(hc:(fnB fn&&pJ s.length fn.ntmps)=true:=by kernel_rfl):KK:=mV hf s t l P (λ_=>[]) g h hc
end
abbrev St(d:gC)(x:eF d.sig)(ds:Γ aS)(us:Γ (Option jD))(K:fG)(q:Nat->Value):Prop:=G aN tab d ds us K q [] [] [.code (zU d.fn)] (LP 0 0 d.sig x) (Te d.sig x)
abbrev Cu(d:gC)(c:Nat)(z:gH×bM)(ds:Γ aS)(us:Γ (Option jD))(K:fG)(q:Nat->Value):Prop:=G aN tab d ds us K q [] [] (aZZ (zU d.fn) c) z.1 z.2
variable {W:World}
def gv0(h:Eu W):zH W 0 (.int .i64):=h.1
def aSq(W:World)(h:W.ShapedOpen aN):∃m,W.cell? ⟨0,0,none⟩=some (.int .i64 m) :=
 Go.Proofs.cell_of_shapedOpen_int (zero := #[.int .i64 0]) (t:=3) h (of_decide_eq_true (by kernel_rfl)) (by kernel_rfl) rfl (by kernel_rfl) (by kernel_rfl) eR
def gv1(h:Eu W):zH W 1 (.ifc):=h.2.1
def gv2(h:Eu W):zH W 2 (.ifc):=h.2.2.1
def gv5(h:Eu W):zH W 5 (.tab .u64 Be):=h.2.2.2.1
def aDO(h:Eu W):∃m,W.cell? ⟨0,0,none⟩=some (.int .i64 m):=gv0 h
def aSr{W : World}(h : Eu W) : Lib.TabIs aN W "internal/strconv.uint64pow10" .u64 Be := zH.tab (by kernel_rfl) (gv5 h)
def aB5(h:Eu W):∃ev,W.cell? ⟨1,0,none⟩=some ev/\(ev = .nilIface\/∃te pe,ev = .iface te pe):=zH.ifc_cell (gv1 h)
def aFU(h:Eu W):∃ev,W.cell? ⟨2,0,none⟩=some ev/\(ev = .nilIface\/∃te pe,ev = .iface te pe):=zH.ifc_cell (gv2 h)
def ginv(W:World)(h:W.ShapedOpen aN)(h1:zH W 1 (.ifc))(h2:zH W 2 (.ifc))(h5:zH W 5 (.tab .u64 Be)):Eu W:=⟨aSq W h,h1,h2,h5,trivial⟩
@[reducible] def bF:Type:=Γ (Δ×Int×Int×Int×Unit)×(Int×Int×Int×Int×Unit)×Γ (Int×Int×Int×Unit)×Γ (Int×Int×Int×Unit)×(Int×Int×Int×Unit)×(Int×Int×Int×Unit)×Γ (Δ×Int×Int×Unit)×(Int×Int×Int×Int×Unit)×Γ (Δ×Int×Int×Int×Unit)×Γ (Int×Int×Int×Unit)×Γ (Δ×Int×Int×Unit)×Γ (Δ×Int×Int×Unit)×Unit
@[reducible] def dO:Type:=Δ×Int×Int×Int×Unit
@[reducible] def bP:Type:=Δ×Int×Int×Unit
@[reducible] def b6:Type:=Int×Int×Int×Unit
@[reducible] def iT:Ty := .cons (.sl (.cons .str (.cons (.int .i64) (.cons (.int .i64) (.cons (.int .i64) .unit))))) (.cons (.cons (.int .i64) (.cons (.int .i64) (.cons (.int .i64) (.cons (.int .i64) .unit)))) (.cons (.sl (.cons (.int .i64) (.cons (.int .i64) (.cons (.int .i64) .unit)))) (.cons (.sl (.cons (.int .i64) (.cons (.int .i64) (.cons (.int .i64) .unit)))) (.cons (.cons (.int .i64) (.cons (.int .i64) (.cons (.int .i64) .unit))) (.cons (.cons (.int .i64) (.cons (.int .i64) (.cons (.int .i64) .unit))) (.cons (.sl (.cons .str (.cons (.int .i64) (.cons (.int .i64) .unit)))) (.cons (.cons (.int .i64) (.cons (.int .i64) (.cons (.int .i64) (.cons (.int .i64) .unit)))) (.cons (.sl (.cons .str (.cons (.int .i64) (.cons (.int .i64) (.cons (.int .i64) .unit))))) (.cons (.sl (.cons (.int .i64) (.cons (.int .i64) (.cons (.int .i64) .unit)))) (.cons (.sl (.cons .str (.cons (.int .i64) (.cons (.int .i64) .unit)))) (.cons (.sl (.cons .str (.cons (.int .i64) (.cons (.int .i64) .unit)))) .unit)))))))))))
@[reducible] def YA1:Ty := .cons (.cons (.int .i64) (.cons (.int .i64) (.cons (.int .i64) (.cons (.int .i64) .unit)))) (.cons (.sl (.cons (.int .i64) (.cons (.int .i64) (.cons (.int .i64) .unit)))) (.cons (.sl (.cons (.int .i64) (.cons (.int .i64) (.cons (.int .i64) .unit)))) (.cons (.cons (.int .i64) (.cons (.int .i64) (.cons (.int .i64) .unit))) (.cons (.cons (.int .i64) (.cons (.int .i64) (.cons (.int .i64) .unit))) (.cons (.sl (.cons .str (.cons (.int .i64) (.cons (.int .i64) .unit)))) (.cons (.cons (.int .i64) (.cons (.int .i64) (.cons (.int .i64) (.cons (.int .i64) .unit)))) (.cons (.sl (.cons .str (.cons (.int .i64) (.cons (.int .i64) (.cons (.int .i64) .unit))))) (.cons (.sl (.cons (.int .i64) (.cons (.int .i64) (.cons (.int .i64) .unit)))) (.cons (.sl (.cons .str (.cons (.int .i64) (.cons (.int .i64) .unit)))) (.cons (.sl (.cons .str (.cons (.int .i64) (.cons (.int .i64) .unit)))) .unit))))))))))
@[reducible] def Km:Ty := .cons .str (.cons .str (.cons (.sl (.int .i64)) (.cons (.sl (.int .i64)) .unit)))
@[reducible] def gp:Ty := .cons (.int .i64) (.cons (.int .i64) (.cons (.int .i64) (.cons (.int .i64) .unit)))
@[reducible] def eC:Ty := .cons .str (.cons (.int .i64) (.cons (.int .i64) (.cons (.int .i64) .unit)))
@[reducible] def cZ:Ty := .cons (.int .i64) (.cons (.int .i64) (.cons (.int .i64) .unit))
@[reducible] def c8:Ty := .cons .str (.cons (.int .i64) (.cons (.int .i64) .unit))
@[reducible] def Ti:Ty := .cons (.int .i64) (.cons (.int .i64) .unit)
@[reducible] def Za:Ty:=.int .i64
@[reducible] def TD(d:bF)(a b c e f g h i:Nat):Option iE:=hB_ iT [lO_ a,lI_ d.2.1.1,lI_ d.2.1.2.1,lI_ d.2.1.2.2.1,lI_ d.2.1.2.2.2.1,lO_ b,lO_ c,lI_ d.2.2.2.2.1.1,lI_ d.2.2.2.2.1.2.1,lI_ d.2.2.2.2.1.2.2.1,lI_ d.2.2.2.2.2.1.1,lI_ d.2.2.2.2.2.1.2.1,lI_ d.2.2.2.2.2.1.2.2.1,lO_ e,lI_ d.2.2.2.2.2.2.2.1.1,lI_ d.2.2.2.2.2.2.2.1.2.1,lI_ d.2.2.2.2.2.2.2.1.2.2.1,lI_ d.2.2.2.2.2.2.2.1.2.2.2.1,lO_ f,lO_ g,lO_ h,lO_ i]
theorem Hb{b:Bool}(h:¬b=true):b=false:=bV.2 h
noncomputable section
def V5(x0:dO)(x1:dO):Bool:=if !aB x0.1==aB x1.1 then false else if x0.2.1 != x1.2.1 then false else if x0.2.2.1 != x1.2.2.1 then false else if x0.2.2.2.1 != x1.2.2.2.1 then false else true
def bAj:KK:=mB Tryz.func131 [.v eC,.v eC] [.bool] [] nP (V5,()) λ_=>dS pr<|dS pr<|dS pr<|dS pr pr
theorem aSs(x y):V5 x y=true↔x=y:=by grind [V5,Af]
def d42:gC:=D0 Q' [.v (.sl eC),.v (.sl eC)] [.bool] [bAj]
def bAk(ds:Γ aS)(K:fG)(q:Nat->Value):∀n,(∀ {x0 x1},RE0 V5 (aC,(0:Int),(0:Int),(0:Int),()) n x0 x1 ds->St d42 (x0,x1,()) ds [] K q)/\(∀ {v5 x0 x1},RE V5 (aC,(0:Int),(0:Int),(0:Int),()) n v5 x0 x1 ds->Cu d42 4 ([eL 0 eC x0,eL 1 eC x1,eI 5 v5],[]) ds [] K q):=nI ⟨aH,aH⟩ λn ⟨i,i4⟩=>⟨bD cM<|bX i4,
  bD (cP<|cP<|bH<|bD cM<|aL<|bX i4) cM⟩
def aID(x0 x1:Γ dO):Bool:=decide (x0=x1)
def bH7:KK:=mL d42 (DO Q') nP (aID,()) (λ⟨x0,x1,_⟩ h hwf K q=>(bAk _ K q _).1 (gj aSs hwf.1.1))
def aIE(x0:Int×Int×Int×Int×Unit)(x1:Int×Int×Int×Int×Unit):Bool:=if x0.1 != x1.1 then false else if x0.2.1 != x1.2.1 then false else if x0.2.2.1 != x1.2.2.1 then false else if x0.2.2.2.1 != x1.2.2.2.1 then false else true
def bH8:KK:=mB Tryz.func43 [.v gp,.v gp] [.bool] [] nP (aIE,()) λ_=>dS pr<|dS pr<|dS pr<|dS pr pr
def V6(x0:b6)(x1:b6):Bool:=if x0.1 != x1.1 then false else if x0.2.1 != x1.2.1 then false else if x0.2.2.1 != x1.2.2.1 then false else true
def bAl:KK:=mB Tryz.func132 [.v cZ,.v cZ] [.bool] [] nP (V6,()) λ_=>dS pr<|dS pr<|dS pr pr
theorem aSt(x y):V6 x y=true↔x=y:=by grind [V6,Af]
def d44:gC:=D0 U' [.v (.sl cZ),.v (.sl cZ)] [.bool] [bAl]
def bAm(ds:Γ aS)(K:fG)(q:Nat->Value):∀n,(∀ {x0 x1},RE0 V6 ((0:Int),(0:Int),(0:Int),()) n x0 x1 ds->St d44 (x0,x1,()) ds [] K q)/\(∀ {v5 x0 x1},RE V6 ((0:Int),(0:Int),(0:Int),()) n v5 x0 x1 ds->Cu d44 4 ([eL 0 cZ x0,eL 1 cZ x1,eI 5 v5],[]) ds [] K q):=nI ⟨aH,aH⟩ λn ⟨i,i4⟩=>⟨bD cM<|bX i4,
  bD (cP<|cP<|bH<|bD cM<|aL<|bX i4) cM⟩
def aIF(x0 x1:Γ b6):Bool:=decide (x0=x1)
def bHA:KK:=mL d44 (DO U') nP (aIF,()) (λ⟨x0,x1,_⟩ h hwf K q=>(bAm _ K q _).1 (gj aSt hwf.1.1))
def bAn:KK:=mB Tryz.func133 [.v cZ,.v cZ] [.bool] [] nP (V6,()) λ_=>dS pr<|dS pr<|dS pr pr
def d45:gC:=D0 X' [.v (.sl cZ),.v (.sl cZ)] [.bool] [bAn]
def bAo(ds:Γ aS)(K:fG)(q:Nat->Value):∀n,(∀ {x0 x1},RE0 V6 ((0:Int),(0:Int),(0:Int),()) n x0 x1 ds->St d45 (x0,x1,()) ds [] K q)/\(∀ {v5 x0 x1},RE V6 ((0:Int),(0:Int),(0:Int),()) n v5 x0 x1 ds->Cu d45 4 ([eL 0 cZ x0,eL 1 cZ x1,eI 5 v5],[]) ds [] K q):=nI ⟨aH,aH⟩ λn ⟨i,i4⟩=>⟨bD cM<|bX i4,
  bD (cP<|cP<|bH<|bD cM<|aL<|bX i4) cM⟩
def aIG(x0 x1:Γ b6):Bool:=decide (x0=x1)
def bHC:KK:=mL d45 (DO X') nP (aIG,()) (λ⟨x0,x1,_⟩ h hwf K q=>(bAo _ K q _).1 (gj aSt hwf.1.1))
def bHD:KK:=mB Tryz.func46 [.v cZ,.v cZ] [.bool] [] nP (V6,()) λ_=>dS pr<|dS pr<|dS pr pr
def aII(x0:b6)(x1:b6):Bool:=if x0.1 != x1.1 then false else if x0.2.1 != x1.2.1 then false else if x0.2.2.1 != x1.2.2.1 then false else true
def bHE:KK:=mB Tryz.func47 [.v cZ,.v cZ] [.bool] [] nP (aII,()) λ_=>dS pr<|dS pr<|dS pr pr
def V8(x0:bP)(x1:bP):Bool:=if !aB x0.1==aB x1.1 then false else if x0.2.1 != x1.2.1 then false else if x0.2.2.1 != x1.2.2.1 then false else true
def bAp:KK:=mB Tryz.func134 [.v c8,.v c8] [.bool] [] nP (V8,()) λ_=>dS pr<|dS pr<|dS pr pr
theorem aSv(x y):V8 x y=true↔x=y:=by grind [V8,Af]
def d48:gC:=D0 Y' [.v (.sl c8),.v (.sl c8)] [.bool] [bAp]
def bAq(ds:Γ aS)(K:fG)(q:Nat->Value):∀n,(∀ {x0 x1},RE0 V8 (aC,(0:Int),(0:Int),()) n x0 x1 ds->St d48 (x0,x1,()) ds [] K q)/\(∀ {v5 x0 x1},RE V8 (aC,(0:Int),(0:Int),()) n v5 x0 x1 ds->Cu d48 4 ([eL 0 c8 x0,eL 1 c8 x1,eI 5 v5],[]) ds [] K q):=nI ⟨aH,aH⟩ λn ⟨i,i4⟩=>⟨bD cM<|bX i4,
  bD (cP<|cP<|bH<|bD cM<|aL<|bX i4) cM⟩
def aIJ(x0 x1:Γ bP):Bool:=decide (x0=x1)
def bHG:KK:=mL d48 (DO Y') nP (aIJ,()) (λ⟨x0,x1,_⟩ h hwf K q=>(bAq _ K q _).1 (gj aSv hwf.1.1))
def aIK(x0:Int×Int×Int×Int×Unit)(x1:Int×Int×Int×Int×Unit):Bool:=if x0.1 != x1.1 then false else if x0.2.1 != x1.2.1 then false else if x0.2.2.1 != x1.2.2.1 then false else if x0.2.2.2.1 != x1.2.2.2.1 then false else true
def bHH:KK:=mB Tryz.func49 [.v gp,.v gp] [.bool] [] nP (aIK,()) λ_=>dS pr<|dS pr<|dS pr<|dS pr pr
def bAr:KK:=mB Tryz.func135 [.v eC,.v eC] [.bool] [] nP (V5,()) λ_=>dS pr<|dS pr<|dS pr<|dS pr pr
def d50:gC:=D0 Z' [.v (.sl eC),.v (.sl eC)] [.bool] [bAr]
def bAs(ds:Γ aS)(K:fG)(q:Nat->Value):∀n,(∀ {x0 x1},RE0 V5 (aC,(0:Int),(0:Int),(0:Int),()) n x0 x1 ds->St d50 (x0,x1,()) ds [] K q)/\(∀ {v5 x0 x1},RE V5 (aC,(0:Int),(0:Int),(0:Int),()) n v5 x0 x1 ds->Cu d50 4 ([eL 0 eC x0,eL 1 eC x1,eI 5 v5],[]) ds [] K q):=nI ⟨aH,aH⟩ λn ⟨i,i4⟩=>⟨bD cM<|bX i4,
  bD (cP<|cP<|bH<|bD cM<|aL<|bX i4) cM⟩
def aIL(x0 x1:Γ dO):Bool:=decide (x0=x1)
def bHJ:KK:=mL d50 (DO Z') nP (aIL,()) (λ⟨x0,x1,_⟩ h hwf K q=>(bAs _ K q _).1 (gj aSs hwf.1.1))
def bAt:KK:=mB Tryz.func136 [.v cZ,.v cZ] [.bool] [] nP (V6,()) λ_=>dS pr<|dS pr<|dS pr pr
def d51:gC:=D0 aAa [.v (.sl cZ),.v (.sl cZ)] [.bool] [bAt]
def bAu(ds:Γ aS)(K:fG)(q:Nat->Value):∀n,(∀ {x0 x1},RE0 V6 ((0:Int),(0:Int),(0:Int),()) n x0 x1 ds->St d51 (x0,x1,()) ds [] K q)/\(∀ {v5 x0 x1},RE V6 ((0:Int),(0:Int),(0:Int),()) n v5 x0 x1 ds->Cu d51 4 ([eL 0 cZ x0,eL 1 cZ x1,eI 5 v5],[]) ds [] K q):=nI ⟨aH,aH⟩ λn ⟨i,i4⟩=>⟨bD cM<|bX i4,
  bD (cP<|cP<|bH<|bD cM<|aL<|bX i4) cM⟩
def aIM(x0 x1:Γ b6):Bool:=decide (x0=x1)
def bHL:KK:=mL d51 (DO aAa) nP (aIM,()) (λ⟨x0,x1,_⟩ h hwf K q=>(bAu _ K q _).1 (gj aSt hwf.1.1))
def bAv:KK:=mB Tryz.func137 [.v c8,.v c8] [.bool] [] nP (V8,()) λ_=>dS pr<|dS pr<|dS pr pr
def d52:gC:=D0 aAb [.v (.sl c8),.v (.sl c8)] [.bool] [bAv]
def bAw(ds:Γ aS)(K:fG)(q:Nat->Value):∀n,(∀ {x0 x1},RE0 V8 (aC,(0:Int),(0:Int),()) n x0 x1 ds->St d52 (x0,x1,()) ds [] K q)/\(∀ {v5 x0 x1},RE V8 (aC,(0:Int),(0:Int),()) n v5 x0 x1 ds->Cu d52 4 ([eL 0 c8 x0,eL 1 c8 x1,eI 5 v5],[]) ds [] K q):=nI ⟨aH,aH⟩ λn ⟨i,i4⟩=>⟨bD cM<|bX i4,
  bD (cP<|cP<|bH<|bD cM<|aL<|bX i4) cM⟩
def aIN(x0 x1:Γ bP):Bool:=decide (x0=x1)
def bHN:KK:=mL d52 (DO aAb) nP (aIN,()) (λ⟨x0,x1,_⟩ h hwf K q=>(bAw _ K q _).1 (gj aSv hwf.1.1))
def bAx:KK:=mB Tryz.func138 [.v c8,.v c8] [.bool] [] nP (V8,()) λ_=>dS pr<|dS pr<|dS pr pr
def d53:gC:=D0 aAc [.v (.sl c8),.v (.sl c8)] [.bool] [bAx]
def bAy(ds:Γ aS)(K:fG)(q:Nat->Value):∀n,(∀ {x0 x1},RE0 V8 (aC,(0:Int),(0:Int),()) n x0 x1 ds->St d53 (x0,x1,()) ds [] K q)/\(∀ {v5 x0 x1},RE V8 (aC,(0:Int),(0:Int),()) n v5 x0 x1 ds->Cu d53 4 ([eL 0 c8 x0,eL 1 c8 x1,eI 5 v5],[]) ds [] K q):=nI ⟨aH,aH⟩ λn ⟨i,i4⟩=>⟨bD cM<|bX i4,
  bD (cP<|cP<|bH<|bD cM<|aL<|bX i4) cM⟩
def aIO(x0 x1:Γ bP):Bool:=decide (x0=x1)
def bHP:KK:=mL d53 (DO aAc) nP (aIO,()) (λ⟨x0,x1,_⟩ h hwf K q=>(bAy _ K q _).1 (gj aSv hwf.1.1))
def aB6(x0:bF)(x1:bF):Bool:=if !aID x0.1 x1.1 then false else if !aIE x0.2.1 x1.2.1 then false else if !aIF x0.2.2.1 x1.2.2.1 then false else if !aIG x0.2.2.2.1 x1.2.2.2.1 then false else if !V6 x0.2.2.2.2.1 x1.2.2.2.2.1 then false else if !aII x0.2.2.2.2.2.1 x1.2.2.2.2.2.1 then false else if !aIJ x0.2.2.2.2.2.2.1 x1.2.2.2.2.2.2.1 then false else if !aIK x0.2.2.2.2.2.2.2.1 x1.2.2.2.2.2.2.2.1 then false else if !aIL x0.2.2.2.2.2.2.2.2.1 x1.2.2.2.2.2.2.2.2.1 then false else if !aIM x0.2.2.2.2.2.2.2.2.2.1 x1.2.2.2.2.2.2.2.2.2.1 then false else if !aIN x0.2.2.2.2.2.2.2.2.2.2.1 x1.2.2.2.2.2.2.2.2.2.2.1 then false else if !aIO x0.2.2.2.2.2.2.2.2.2.2.2.1 x1.2.2.2.2.2.2.2.2.2.2.2.1 then false else true
def kx8:KK:=mB Tryz.func8 [.v iT,.v iT] [.bool] [bH7,bH8,bHA,bHC,bHD,bHE,bHG,bHH,bHJ,bHL,bHN,bHP] nP (aB6,()) λ_=>bH<|dS pr<|bH<|dS pr<|bH<|dS pr<|bH<|dS pr<|bH<|dS pr<|bH<|dS pr<|bH<|dS pr<|bH<|dS pr<|bH<|dS pr<|bH<|dS pr<|bH<|dS pr<|bH<|dS pr pr
def d62:gC:=D0 aAd [.v (.int .i64)] [.str] []
mutual
def R62:Nat->Int->Γ aS->Prop
 | 0,_,_=>False
 | n+1,x0,ds=>if decide (x0<=0)then ds=[aI .str (aA #[109,48])] else bb n (aA #[]) x0 ds
def bb:Nat->Δ->Int->Γ aS->Prop
 | 0,_,_,_=>False
 | n+1,v3,x0,ds=>if decide (x0>0)then aX .i64 (bY x0 10)/\aX .i64 (48+bY x0 10)/\aX .u8 (48+bY x0 10)/\aG (jQ [48+bY x0 10])+aG v3<=9223372036854775807/\aX .i64 (aQ x0 10)/\bb n (jQ [48+bY x0 10]++v3) (aQ x0 10) ds else 1+aG v3<=9223372036854775807/\ds=[aI .str (aA #[109]++v3)]
end
def bAz(ds:Γ aS)(K:fG)(q:Nat->Value):∀n,(∀ {x0},R62 n x0 ds->St d62 (x0,()) ds [] K q)/\(∀ {v3 x0},bb n v3 x0 ds->Cu d62 4 ([eI 0 x0,eS 3 v3],[]) ds [] K q):=nI ⟨aH,aH⟩ λn ⟨i,i4⟩=>⟨bD cM<|bX i4,
  bD (pw 10<|aL<|aL<|aL<|aL<|pw 10<|aL<|bX i4)<|aL cM⟩
def Ve:Nat->Δ->Int->Δ
 | 0,v,_=>v
 | n+1,v,x=>if 0<x then Ve n (jQ [48+bY x 10]++v) (aQ x 10)else v
theorem bA0:∀(n:Nat) (v:Δ) (x:Int),x<10^n->aX .i64 x->v.size+n<=1000->bb (n+1) v x [⟨.str,aA #[109]++Ve n v x⟩]:=by
 intro n
 induction n with
 | zero =>
  intro v x h1 _ h2;rw[bb,ν (by simp at h1 ⊢;omega)];exact⟨by omega,rfl⟩
 | succ n ih =>
  intro v x h1 hi h2;rw[aJ]at hi;rw[bb];by_cases hx:0<x
  ·rw[π (by simpa using hx)];have e1:bY x 10=x%10:=Int.tmod_eq_emod_of_nonneg (by omega);have e2:aQ x 10=x/10:=Int.tdiv_eq_ediv_of_nonneg (by omega);have hs:(jQ [48+bY x 10]).size=1:=L5 _;have hp:(10:Int)^(n+1)=10*10^n:=by rw[Int.pow_succ,Int.mul_comm]
   refine⟨by rw[aJ,e1];omega,by rw[aJ,e1];omega,by rw[MQ,e1];omega,by rw[hs];omega,by rw[aJ,e2];omega,?_⟩;have:=ih (jQ [48+bY x 10]++v) (aQ x 10) (by rw[e2];omega) (by rw[aJ,e2];omega) (by rw[dH,hs];omega);simp only[Ve,π hx];exact this
  ·rw[ν (by simp;omega)];simp only[Ve,ν hx];exact⟨by omega,trivial⟩
def iZ(x0:Int):Δ:=if x0<=0 then aA #[109,48] else aA #[109]++Ve 19 (aA #[]) x0
theorem bA1(x0:Int)(hi:aX .i64 x0):R62 21 x0 [⟨.str,iZ x0⟩]:=by
 rw[R62];unfold iZ;by_cases h:x0<=0
 ·rw[π (by simpa using h),π h]
 ·rw[ν (by simpa using h),ν h];have hi':=hi;rw[aJ]at hi';exact bA0 19 _ x0 (by omega) hi (by decide)
def Tj:KK:=mL d62 (DO aAd) nP (iZ,()) (λ⟨x0,_⟩ h hwf K q =>
 (bAz _ K q _).1 (bA1 x0 hwf.1))
def d11:gC:=D0 aAe [.own .str,.v (.int .i64)] [.int .i64] [Tj]
def bA2(ds:Γ aS)(us:Γ (Option jD))(K:fG)(q:Nat->Value):∀n,(∀ {x0 x1},RM0 .str aC (vmS iZ) n x0 x1 ds us->St d11 (x0,x1,()) ds us K q)/\(∀ {v5 x1 x0},RM .str aC (vmS iZ) n v5 x1 x0 ds us->Cu d11 2 ([eW 0 0,eI 1 x1,eI 5 v5],[cL .str x0]) ds us K q):=nI ⟨aH,aH⟩ λn ⟨i,i2⟩=>⟨bX i2,
  bD (bH<|cP<|aL<|aL<|bX i2) Et⟩
def bc(x0:Γ (Δ))(x1:Int):Int:=gM 1 x0 x1
def P11(x0:Γ (Δ))(x1:Int):Prop:=PM 1 x0 x1
def Ii(x0:Γ (Δ))(x1:Int):Γ (Δ):=ML (vmS iZ) x1 x0
def bHU:KK:=mN d11 (DO aAe) P11 (λx=>[some ⟨.str,Ii x.1 x.2.1⟩]) (bc,()) (λ⟨x0,x1,_⟩ h hwf K q=>(bA2 _ _ K q _).1 (gl h hwf.1.1))
def d13:gC:=D0 aAf [.v (.sl .str),.v (.int .i64)] [.int .i64] [Tj]
def bA3(ds:Γ aS)(K:fG)(q:Nat->Value):∀n,(∀ {x0 x1},RH0 aC (hS iZ) n x0 x1 ds->St d13 (x0,x1,()) ds [] K q)/\(∀ {v5 x0 x1},RH aC (hS iZ) n v5 x0 x1 ds->Cu d13 2 ([eL 0 .str x0,eI 1 x1,eI 5 v5],[]) ds [] K q):=nI ⟨aH,aH⟩ λn ⟨i,i2⟩=>⟨bX i2,
  bD (cP<|bH<|bD cM<|aL<|aL<|bX i2) cM⟩
def be(x0:Γ (Δ))(x1:Int):Int:=gM 1 x0 x1
def P13(x0:Γ (Δ))(x1:Int):Prop:=PH (hS iZ) x0 x1
def bHW:KK:=mL d13 (DO aAf) P13 (be,()) (λ⟨x0,x1,_⟩ h hwf K q=>(bA3 _ K q _).1 (gm h hwf.1.1))
def d54:gC:=D0 aAg [.own eC,.v (.int .i64)] [.int .i64] [Tj]
def bA4(ds:Γ aS)(us:Γ (Option jD))(K:fG)(q:Nat->Value):∀n,(∀ {x0 x1},RM0 eC (aC,(0:Int),(0:Int),(0:Int),()) (vmA iZ) n x0 x1 ds us->St d54 (x0,x1,()) ds us K q)/\(∀ {v5 x1 x0},RM eC (aC,(0:Int),(0:Int),(0:Int),()) (vmA iZ) n v5 x1 x0 ds us->Cu d54 2 ([eW 0 0,eI 1 x1,eI 5 v5],[cL eC x0]) ds us K q):=nI ⟨aH,aH⟩ λn ⟨i,i2⟩=>⟨bX i2,
  bD (bH<|cP<|aL<|cP<|aL<|cP<|aL<|cP<|aL<|aL<|bX i2) Et⟩
def sG(x0:Γ dO)(x1:Int):Int:=gM 4 x0 x1
def P54(x0:Γ dO)(x1:Int):Prop:=PM 4 x0 x1
def aDP(x0:Γ dO)(x1:Int):Γ dO:=ML (vmA iZ) x1 x0
def bHZ:KK:=mN d54 (DO aAg) P54 (λx=>[some ⟨eC,aDP x.1 x.2.1⟩]) (sG,()) (λ⟨x0,x1,_⟩ h hwf K q=>(bA4 _ _ K q _).1 (gl h hwf.1.1))
def d55:gC:=D0 aAh [.own cZ,.v (.int .i64)] [.int .i64] []
def bA5(ds:Γ aS)(us:Γ (Option jD))(K:fG)(q:Nat->Value):∀n,(∀ {x0 x1},RM0 cZ ((0:Int),(0:Int),(0:Int),()) vmC n x0 x1 ds us->St d55 (x0,x1,()) ds us K q)/\(∀ {v5 x1 x0},RM cZ ((0:Int),(0:Int),(0:Int),()) vmC n v5 x1 x0 ds us->Cu d55 2 ([eW 0 0,eI 1 x1,eI 5 v5],[cL cZ x0]) ds us K q):=nI ⟨aH,aH⟩ λn ⟨i,i2⟩=>⟨bX i2,
  bD (cP<|aL<|cP<|aL<|cP<|aL<|aL<|bX i2) Et⟩
def vE(x0:Γ b6)(x1:Int):Int:=gM 3 x0 x1
def P55(x0:Γ b6)(x1:Int):Prop:=PM 3 x0 x1
def aDQ(x0:Γ b6)(x1:Int):Γ b6:=ML vmC x1 x0
def bIc:KK:=mN d55 (DO aAh) P55 (λx=>[some ⟨cZ,aDQ x.1 x.2.1⟩]) (vE,()) (λ⟨x0,x1,_⟩ h hwf K q=>(bA5 _ _ K q _).1 (gl h hwf.1.1))
def d56:gC:=D0 aAi [.own cZ,.v (.int .i64)] [.int .i64] []
def bA6(ds:Γ aS)(us:Γ (Option jD))(K:fG)(q:Nat->Value):∀n,(∀ {x0 x1},RM0 cZ ((0:Int),(0:Int),(0:Int),()) vmC n x0 x1 ds us->St d56 (x0,x1,()) ds us K q)/\(∀ {v5 x1 x0},RM cZ ((0:Int),(0:Int),(0:Int),()) vmC n v5 x1 x0 ds us->Cu d56 2 ([eW 0 0,eI 1 x1,eI 5 v5],[cL cZ x0]) ds us K q):=nI ⟨aH,aH⟩ λn ⟨i,i2⟩=>⟨bX i2,
  bD (cP<|aL<|cP<|aL<|cP<|aL<|aL<|bX i2) Et⟩
def zA(x0:Γ b6)(x1:Int):Int:=gM 3 x0 x1
def P56(x0:Γ b6)(x1:Int):Prop:=PM 3 x0 x1
def aDR(x0:Γ b6)(x1:Int):Γ b6:=ML vmC x1 x0
def bIf:KK:=mN d56 (DO aAi) P56 (λx=>[some ⟨cZ,aDR x.1 x.2.1⟩]) (zA,()) (λ⟨x0,x1,_⟩ h hwf K q=>(bA6 _ _ K q _).1 (gl h hwf.1.1))
def d57:gC:=D0 aAj [.own c8,.v (.int .i64)] [.int .i64] [Tj]
def bA7(ds:Γ aS)(us:Γ (Option jD))(K:fG)(q:Nat->Value):∀n,(∀ {x0 x1},RM0 c8 (aC,(0:Int),(0:Int),()) (vmB iZ) n x0 x1 ds us->St d57 (x0,x1,()) ds us K q)/\(∀ {v5 x1 x0},RM c8 (aC,(0:Int),(0:Int),()) (vmB iZ) n v5 x1 x0 ds us->Cu d57 2 ([eW 0 0,eI 1 x1,eI 5 v5],[cL c8 x0]) ds us K q):=nI ⟨aH,aH⟩ λn ⟨i,i2⟩=>⟨bX i2,
  bD (bH<|cP<|aL<|cP<|aL<|cP<|aL<|aL<|bX i2) Et⟩
def CO(x0:Γ bP)(x1:Int):Int:=gM 3 x0 x1
def P57(x0:Γ bP)(x1:Int):Prop:=PM 3 x0 x1
def aDS(x0:Γ bP)(x1:Int):Γ bP:=ML (vmB iZ) x1 x0
def bIi:KK:=mN d57 (DO aAj) P57 (λx=>[some ⟨c8,aDS x.1 x.2.1⟩]) (CO,()) (λ⟨x0,x1,_⟩ h hwf K q=>(bA7 _ _ K q _).1 (gl h hwf.1.1))
def d58:gC:=D0 aAk [.own eC,.v (.int .i64)] [.int .i64] [Tj]
def bA8(ds:Γ aS)(us:Γ (Option jD))(K:fG)(q:Nat->Value):∀n,(∀ {x0 x1},RM0 eC (aC,(0:Int),(0:Int),(0:Int),()) (vmA iZ) n x0 x1 ds us->St d58 (x0,x1,()) ds us K q)/\(∀ {v5 x1 x0},RM eC (aC,(0:Int),(0:Int),(0:Int),()) (vmA iZ) n v5 x1 x0 ds us->Cu d58 2 ([eW 0 0,eI 1 x1,eI 5 v5],[cL eC x0]) ds us K q):=nI ⟨aH,aH⟩ λn ⟨i,i2⟩=>⟨bX i2,
  bD (bH<|cP<|aL<|cP<|aL<|cP<|aL<|cP<|aL<|aL<|bX i2) Et⟩
def Hc(x0:Γ dO)(x1:Int):Int:=gM 4 x0 x1
def P58(x0:Γ dO)(x1:Int):Prop:=PM 4 x0 x1
def aDT(x0:Γ dO)(x1:Int):Γ dO:=ML (vmA iZ) x1 x0
def bIl:KK:=mN d58 (DO aAk) P58 (λx=>[some ⟨eC,aDT x.1 x.2.1⟩]) (Hc,()) (λ⟨x0,x1,_⟩ h hwf K q=>(bA8 _ _ K q _).1 (gl h hwf.1.1))
def d59:gC:=D0 aAl [.own cZ,.v (.int .i64)] [.int .i64] []
def bA9(ds:Γ aS)(us:Γ (Option jD))(K:fG)(q:Nat->Value):∀n,(∀ {x0 x1},RM0 cZ ((0:Int),(0:Int),(0:Int),()) vmC n x0 x1 ds us->St d59 (x0,x1,()) ds us K q)/\(∀ {v5 x1 x0},RM cZ ((0:Int),(0:Int),(0:Int),()) vmC n v5 x1 x0 ds us->Cu d59 2 ([eW 0 0,eI 1 x1,eI 5 v5],[cL cZ x0]) ds us K q):=nI ⟨aH,aH⟩ λn ⟨i,i2⟩=>⟨bX i2,
  bD (cP<|aL<|cP<|aL<|cP<|aL<|aL<|bX i2) Et⟩
def Ou(x0:Γ b6)(x1:Int):Int:=gM 3 x0 x1
def P59(x0:Γ b6)(x1:Int):Prop:=PM 3 x0 x1
def aDU(x0:Γ b6)(x1:Int):Γ b6:=ML vmC x1 x0
def bIo:KK:=mN d59 (DO aAl) P59 (λx=>[some ⟨cZ,aDU x.1 x.2.1⟩]) (Ou,()) (λ⟨x0,x1,_⟩ h hwf K q=>(bA9 _ _ K q _).1 (gl h hwf.1.1))
def d60:gC:=D0 aAm [.own c8,.v (.int .i64)] [.int .i64] [Tj]
def bAA(ds:Γ aS)(us:Γ (Option jD))(K:fG)(q:Nat->Value):∀n,(∀ {x0 x1},RM0 c8 (aC,(0:Int),(0:Int),()) (vmB iZ) n x0 x1 ds us->St d60 (x0,x1,()) ds us K q)/\(∀ {v5 x1 x0},RM c8 (aC,(0:Int),(0:Int),()) (vmB iZ) n v5 x1 x0 ds us->Cu d60 2 ([eW 0 0,eI 1 x1,eI 5 v5],[cL c8 x0]) ds us K q):=nI ⟨aH,aH⟩ λn ⟨i,i2⟩=>⟨bX i2,
  bD (bH<|cP<|aL<|cP<|aL<|cP<|aL<|aL<|bX i2) Et⟩
def bf(x0:Γ bP)(x1:Int):Int:=gM 3 x0 x1
def P60(x0:Γ bP)(x1:Int):Prop:=PM 3 x0 x1
def aDV(x0:Γ bP)(x1:Int):Γ bP:=ML (vmB iZ) x1 x0
def bIr:KK:=mN d60 (DO aAm) P60 (λx=>[some ⟨c8,aDV x.1 x.2.1⟩]) (bf,()) (λ⟨x0,x1,_⟩ h hwf K q=>(bAA _ _ K q _).1 (gl h hwf.1.1))
def d61:gC:=D0 aAn [.own c8,.v (.int .i64)] [.int .i64] [Tj]
def bAB(ds:Γ aS)(us:Γ (Option jD))(K:fG)(q:Nat->Value):∀n,(∀ {x0 x1},RM0 c8 (aC,(0:Int),(0:Int),()) (vmB iZ) n x0 x1 ds us->St d61 (x0,x1,()) ds us K q)/\(∀ {v5 x1 x0},RM c8 (aC,(0:Int),(0:Int),()) (vmB iZ) n v5 x1 x0 ds us->Cu d61 2 ([eW 0 0,eI 1 x1,eI 5 v5],[cL c8 x0]) ds us K q):=nI ⟨aH,aH⟩ λn ⟨i,i2⟩=>⟨bX i2,
  bD (bH<|cP<|aL<|cP<|aL<|cP<|aL<|aL<|bX i2) Et⟩
def aIP(x0:Γ bP)(x1:Int):Int:=gM 3 x0 x1
def P61(x0:Γ bP)(x1:Int):Prop:=PM 3 x0 x1
def aDW(x0:Γ bP)(x1:Int):Γ bP:=ML (vmB iZ) x1 x0
def bIu:KK:=mN d61 (DO aAn) P61 (λx=>[some ⟨c8,aDW x.1 x.2.1⟩]) (aIP,()) (λ⟨x0,x1,_⟩ h hwf K q=>(bAB _ _ K q _).1 (gl h hwf.1.1))
def P10(x0:bF)(x1:Int):Prop:=((P54 x0.1 x1)/\(aF (aDP x0.1 x1)=aF x0.1)/\((P55 x0.2.2.1 (sG x0.1 x1))/\(aF (aDQ x0.2.2.1 (sG x0.1 x1))=aF x0.2.2.1)/\((P56 x0.2.2.2.1 (vE x0.2.2.1 (sG x0.1 x1)))/\(aF (aDR x0.2.2.2.1 (vE x0.2.2.1 (sG x0.1 x1)))=aF x0.2.2.2.1)/\((P57 x0.2.2.2.2.2.2.1 (zA x0.2.2.2.1 (vE x0.2.2.1 (sG x0.1 x1))))/\(aF (aDS x0.2.2.2.2.2.2.1 (zA x0.2.2.2.1 (vE x0.2.2.1 (sG x0.1 x1))))=aF x0.2.2.2.2.2.2.1)/\((P58 x0.2.2.2.2.2.2.2.2.1 (CO x0.2.2.2.2.2.2.1 (zA x0.2.2.2.1 (vE x0.2.2.1 (sG x0.1 x1)))))/\(aF (aDT x0.2.2.2.2.2.2.2.2.1 (CO x0.2.2.2.2.2.2.1 (zA x0.2.2.2.1 (vE x0.2.2.1 (sG x0.1 x1)))))=aF x0.2.2.2.2.2.2.2.2.1)/\((P59 x0.2.2.2.2.2.2.2.2.2.1 (Hc x0.2.2.2.2.2.2.2.2.1 (CO x0.2.2.2.2.2.2.1 (zA x0.2.2.2.1 (vE x0.2.2.1 (sG x0.1 x1))))))/\(aF (aDU x0.2.2.2.2.2.2.2.2.2.1 (Hc x0.2.2.2.2.2.2.2.2.1 (CO x0.2.2.2.2.2.2.1 (zA x0.2.2.2.1 (vE x0.2.2.1 (sG x0.1 x1))))))=aF x0.2.2.2.2.2.2.2.2.2.1)/\((P60 x0.2.2.2.2.2.2.2.2.2.2.1 (Ou x0.2.2.2.2.2.2.2.2.2.1 (Hc x0.2.2.2.2.2.2.2.2.1 (CO x0.2.2.2.2.2.2.1 (zA x0.2.2.2.1 (vE x0.2.2.1 (sG x0.1 x1)))))))/\(aF (aDV x0.2.2.2.2.2.2.2.2.2.2.1 (Ou x0.2.2.2.2.2.2.2.2.2.1 (Hc x0.2.2.2.2.2.2.2.2.1 (CO x0.2.2.2.2.2.2.1 (zA x0.2.2.2.1 (vE x0.2.2.1 (sG x0.1 x1)))))))=aF x0.2.2.2.2.2.2.2.2.2.2.1)/\((P61 x0.2.2.2.2.2.2.2.2.2.2.2.1 (bf x0.2.2.2.2.2.2.2.2.2.2.1 (Ou x0.2.2.2.2.2.2.2.2.2.1 (Hc x0.2.2.2.2.2.2.2.2.1 (CO x0.2.2.2.2.2.2.1 (zA x0.2.2.2.1 (vE x0.2.2.1 (sG x0.1 x1))))))))/\(aF (aDW x0.2.2.2.2.2.2.2.2.2.2.2.1 (bf x0.2.2.2.2.2.2.2.2.2.2.1 (Ou x0.2.2.2.2.2.2.2.2.2.1 (Hc x0.2.2.2.2.2.2.2.2.1 (CO x0.2.2.2.2.2.2.1 (zA x0.2.2.2.1 (vE x0.2.2.1 (sG x0.1 x1))))))))=aF x0.2.2.2.2.2.2.2.2.2.2.2.1)/\True))))))))
def w6(x0:bF)(x1:Int):Int:=aIP x0.2.2.2.2.2.2.2.2.2.2.2.1 (bf x0.2.2.2.2.2.2.2.2.2.2.1 (Ou x0.2.2.2.2.2.2.2.2.2.1 (Hc x0.2.2.2.2.2.2.2.2.1 (CO x0.2.2.2.2.2.2.1 (zA x0.2.2.2.1 (vE x0.2.2.1 (sG x0.1 x1)))))))
def dU(x0:bF)(x1:Int):bF:=(aDP x0.1 x1,(x0.2.1.1,x0.2.1.2.1,x0.2.1.2.2.1,x0.2.1.2.2.2.1,()),aDQ x0.2.2.1 (sG x0.1 x1),aDR x0.2.2.2.1 (vE x0.2.2.1 (sG x0.1 x1)),(x0.2.2.2.2.1.1,x0.2.2.2.2.1.2.1,x0.2.2.2.2.1.2.2.1,()),(x0.2.2.2.2.2.1.1,x0.2.2.2.2.2.1.2.1,x0.2.2.2.2.2.1.2.2.1,()),aDS x0.2.2.2.2.2.2.1 (zA x0.2.2.2.1 (vE x0.2.2.1 (sG x0.1 x1))),(x0.2.2.2.2.2.2.2.1.1,x0.2.2.2.2.2.2.2.1.2.1,x0.2.2.2.2.2.2.2.1.2.2.1,x0.2.2.2.2.2.2.2.1.2.2.2.1,()),aDT x0.2.2.2.2.2.2.2.2.1 (CO x0.2.2.2.2.2.2.1 (zA x0.2.2.2.1 (vE x0.2.2.1 (sG x0.1 x1)))),aDU x0.2.2.2.2.2.2.2.2.2.1 (Hc x0.2.2.2.2.2.2.2.2.1 (CO x0.2.2.2.2.2.2.1 (zA x0.2.2.2.1 (vE x0.2.2.1 (sG x0.1 x1))))),aDV x0.2.2.2.2.2.2.2.2.2.2.1 (Ou x0.2.2.2.2.2.2.2.2.2.1 (Hc x0.2.2.2.2.2.2.2.2.1 (CO x0.2.2.2.2.2.2.1 (zA x0.2.2.2.1 (vE x0.2.2.1 (sG x0.1 x1)))))),aDW x0.2.2.2.2.2.2.2.2.2.2.2.1 (bf x0.2.2.2.2.2.2.2.2.2.2.1 (Ou x0.2.2.2.2.2.2.2.2.2.1 (Hc x0.2.2.2.2.2.2.2.2.1 (CO x0.2.2.2.2.2.2.1 (zA x0.2.2.2.1 (vE x0.2.2.1 (sG x0.1 x1))))))),())
def bIv:KK:=mV Tryz.func10 [.sv iT,.v (.int .i64)] [.int .i64] [bHZ,bIc,bIf,bIi,bIl,bIo,bIr,bIu] P10 (λx=>[some ⟨.cons (.sl eC) YA1,[dU x.1 x.2.1]⟩]) (w6,()) λ_=>cP<|cP<|cP<|cP<|cP<|cP<|cP<|cP pr
def P71(x0:dO)(x1:Int):Prop:=((aX .i64 (x1-(↑(aG x0.1):Int)))/\True)
def bg(x0:dO)(x1:Int):Int:=if decide (x1-(↑(aG x0.1):Int)<0)then -1 else x1-(↑(aG x0.1):Int)
def bIw:KK:=mB Tryz.func71 [.v eC,.v (.int .i64)] [.int .i64] [] P71 (bg,()) λ_=>aL<|dS pr pr
theorem bAD:gk P71 bg (Wf eC):=λx l h hi hw=>by
 have h0:x.1.size<=9223372036854775807:=hw.1
 grind [P71,bg,aJ]
def d14:gC:=D0 aAo [.v (.sl eC),.v (.int .i64)] [.int .i64] [bIw]
def bAE(ds:Γ aS)(K:fG)(q:Nat->Value):∀n,(∀ {x0 x1},RZ0 P71 bg (aC,(0:Int),(0:Int),(0:Int),()) n x0 x1 ds->St d14 (x0,x1,()) ds [] K q)/\(∀ {v1 v5 x0},RZ P71 bg (aC,(0:Int),(0:Int),(0:Int),()) n v1 v5 x0 ds->Cu d14 5 ([eL 0 eC x0,eI 1 v1,eI 5 v5],[]) ds [] K q):=nI ⟨aH,aH⟩ λn ⟨i,i5⟩=>⟨aL<|bD cM<|bX i5,
  bD (cP<|aL<|bD cM<|aL<|bX i5) cM⟩
def sH(x0:Γ dO)(x1:Int):Int:=szF bg x0 x1
def P14(x0:Γ dO)(x1:Int):Prop:=0<=x1
def bIy:KK:=mL d14 (DO aAo) P14 (sH,()) (λ⟨x0,x1,_⟩ h hwf K q=>(bAE _ K q _).1 (aIB bAD h hwf.2.1 hwf.1.1 hwf.1.2))
def P15(x0:Γ b6)(x1:Int):Prop:=((aX .i64 (x1-(x0.length:Int)))/\True)
def vF(x0:Γ b6)(x1:Int):Int:=if decide (x1-(x0.length:Int)<0)then -1 else x1-(x0.length:Int)
def bIz:KK:=mB Tryz.func15 [.v (.sl cZ),.v (.int .i64)] [.int .i64] [] P15 (vF,()) λ_=>aL<|dS pr pr
def bI0:KK:=mB Tryz.func16 [.v (.sl cZ),.v (.int .i64)] [.int .i64] [] P15 (vF,()) λ_=>aL<|dS pr pr
def P72(x0:bP)(x1:Int):Prop:=((aX .i64 (x1-(↑(aG x0.1):Int)))/\True)
def bh(x0:bP)(x1:Int):Int:=if decide (x1-(↑(aG x0.1):Int)<0)then -1 else x1-(↑(aG x0.1):Int)
def bI1:KK:=mB Tryz.func72 [.v c8,.v (.int .i64)] [.int .i64] [] P72 (bh,()) λ_=>aL<|dS pr pr
theorem bAG:gk P72 bh (Wf c8):=λx l h hi hw=>by
 have h0:x.1.size<=9223372036854775807:=hw.1
 grind [P72,bh,aJ]
def d17:gC:=D0 aAp [.v (.sl c8),.v (.int .i64)] [.int .i64] [bI1]
def bAH(ds:Γ aS)(K:fG)(q:Nat->Value):∀n,(∀ {x0 x1},RZ0 P72 bh (aC,(0:Int),(0:Int),()) n x0 x1 ds->St d17 (x0,x1,()) ds [] K q)/\(∀ {v1 v5 x0},RZ P72 bh (aC,(0:Int),(0:Int),()) n v1 v5 x0 ds->Cu d17 5 ([eL 0 c8 x0,eI 1 v1,eI 5 v5],[]) ds [] K q):=nI ⟨aH,aH⟩ λn ⟨i,i5⟩=>⟨aL<|bD cM<|bX i5,
  bD (cP<|aL<|bD cM<|aL<|bX i5) cM⟩
def CP(x0:Γ bP)(x1:Int):Int:=szF bh x0 x1
def P17(x0:Γ bP)(x1:Int):Prop:=0<=x1
def bI3:KK:=mL d17 (DO aAp) P17 (CP,()) (λ⟨x0,x1,_⟩ h hwf K q=>(bAH _ K q _).1 (aIB bAG h hwf.2.1 hwf.1.1 hwf.1.2))
def bI4:KK:=mB Tryz.func73 [.v eC,.v (.int .i64)] [.int .i64] [] P71 (bg,()) λ_=>aL<|dS pr pr
theorem bAJ:gk P71 bg (Wf eC):=λx l h hi hw=>by
 have h0:x.1.size<=9223372036854775807:=hw.1
 grind [P71,bg,aJ]
def d18:gC:=D0 aAq [.v (.sl eC),.v (.int .i64)] [.int .i64] [bI4]
def bAK(ds:Γ aS)(K:fG)(q:Nat->Value):∀n,(∀ {x0 x1},RZ0 P71 bg (aC,(0:Int),(0:Int),(0:Int),()) n x0 x1 ds->St d18 (x0,x1,()) ds [] K q)/\(∀ {v1 v5 x0},RZ P71 bg (aC,(0:Int),(0:Int),(0:Int),()) n v1 v5 x0 ds->Cu d18 5 ([eL 0 eC x0,eI 1 v1,eI 5 v5],[]) ds [] K q):=nI ⟨aH,aH⟩ λn ⟨i,i5⟩=>⟨aL<|bD cM<|bX i5,
  bD (cP<|aL<|bD cM<|aL<|bX i5) cM⟩
def bI6:KK:=mL d18 (DO aAq) P14 (sH,()) (λ⟨x0,x1,_⟩ h hwf K q=>(bAK _ K q _).1 (aIB bAJ h hwf.2.1 hwf.1.1 hwf.1.2))
def bI7:KK:=mB Tryz.func19 [.v (.sl cZ),.v (.int .i64)] [.int .i64] [] P15 (vF,()) λ_=>aL<|dS pr pr
def bI8:KK:=mB Tryz.func74 [.v c8,.v (.int .i64)] [.int .i64] [] P72 (bh,()) λ_=>aL<|dS pr pr
theorem bAM:gk P72 bh (Wf c8):=λx l h hi hw=>by
 have h0:x.1.size<=9223372036854775807:=hw.1
 grind [P72,bh,aJ]
def d20:gC:=D0 aAr [.v (.sl c8),.v (.int .i64)] [.int .i64] [bI8]
def bAN(ds:Γ aS)(K:fG)(q:Nat->Value):∀n,(∀ {x0 x1},RZ0 P72 bh (aC,(0:Int),(0:Int),()) n x0 x1 ds->St d20 (x0,x1,()) ds [] K q)/\(∀ {v1 v5 x0},RZ P72 bh (aC,(0:Int),(0:Int),()) n v1 v5 x0 ds->Cu d20 5 ([eL 0 c8 x0,eI 1 v1,eI 5 v5],[]) ds [] K q):=nI ⟨aH,aH⟩ λn ⟨i,i5⟩=>⟨aL<|bD cM<|bX i5,
  bD (cP<|aL<|bD cM<|aL<|bX i5) cM⟩
def bIA:KK:=mL d20 (DO aAr) P17 (CP,()) (λ⟨x0,x1,_⟩ h hwf K q=>(bAN _ K q _).1 (aIB bAM h hwf.2.1 hwf.1.1 hwf.1.2))
def bIB:KK:=mB Tryz.func75 [.v c8,.v (.int .i64)] [.int .i64] [] P72 (bh,()) λ_=>aL<|dS pr pr
theorem bAP:gk P72 bh (Wf c8):=λx l h hi hw=>by
 have h0:x.1.size<=9223372036854775807:=hw.1
 grind [P72,bh,aJ]
def d21:gC:=D0 aAs [.v (.sl c8),.v (.int .i64)] [.int .i64] [bIB]
def bAQ(ds:Γ aS)(K:fG)(q:Nat->Value):∀n,(∀ {x0 x1},RZ0 P72 bh (aC,(0:Int),(0:Int),()) n x0 x1 ds->St d21 (x0,x1,()) ds [] K q)/\(∀ {v1 v5 x0},RZ P72 bh (aC,(0:Int),(0:Int),()) n v1 v5 x0 ds->Cu d21 5 ([eL 0 c8 x0,eI 1 v1,eI 5 v5],[]) ds [] K q):=nI ⟨aH,aH⟩ λn ⟨i,i5⟩=>⟨aL<|bD cM<|bX i5,
  bD (cP<|aL<|bD cM<|aL<|bX i5) cM⟩
def bID:KK:=mL d21 (DO aAs) P17 (CP,()) (λ⟨x0,x1,_⟩ h hwf K q=>(bAQ _ K q _).1 (aIB bAP h hwf.2.1 hwf.1.1 hwf.1.2))
def d4:gC:=D0 aDs [.v iT,.v (.int .i64)] [.int .i64] [bIy,bIz,bI0,bI3,bI6,bI7,bIA,bID]
def P4(x0:bF)(x1:Int):Prop:=((P14 x0.1 x1)/\(if decide (sH x0.1 x1<0)=true then True else((P15 x0.2.2.1 (sH x0.1 x1))/\(if decide (vF x0.2.2.1 (sH x0.1 x1)<0)=true then True else((P15 x0.2.2.2.1 (vF x0.2.2.1 (sH x0.1 x1)))/\(if decide (vF x0.2.2.2.1 (vF x0.2.2.1 (sH x0.1 x1))<0)=true then True else((P17 x0.2.2.2.2.2.2.1 (vF x0.2.2.2.1 (vF x0.2.2.1 (sH x0.1 x1))))/\(if decide (CP x0.2.2.2.2.2.2.1 (vF x0.2.2.2.1 (vF x0.2.2.1 (sH x0.1 x1)))<0)=true then True else((P14 x0.2.2.2.2.2.2.2.2.1 (CP x0.2.2.2.2.2.2.1 (vF x0.2.2.2.1 (vF x0.2.2.1 (sH x0.1 x1)))))/\(if decide (sH x0.2.2.2.2.2.2.2.2.1 (CP x0.2.2.2.2.2.2.1 (vF x0.2.2.2.1 (vF x0.2.2.1 (sH x0.1 x1))))<0)=true then True else((P15 x0.2.2.2.2.2.2.2.2.2.1 (sH x0.2.2.2.2.2.2.2.2.1 (CP x0.2.2.2.2.2.2.1 (vF x0.2.2.2.1 (vF x0.2.2.1 (sH x0.1 x1))))))/\(if decide (vF x0.2.2.2.2.2.2.2.2.2.1 (sH x0.2.2.2.2.2.2.2.2.1 (CP x0.2.2.2.2.2.2.1 (vF x0.2.2.2.1 (vF x0.2.2.1 (sH x0.1 x1)))))<0)=true then True else((P17 x0.2.2.2.2.2.2.2.2.2.2.1 (vF x0.2.2.2.2.2.2.2.2.2.1 (sH x0.2.2.2.2.2.2.2.2.1 (CP x0.2.2.2.2.2.2.1 (vF x0.2.2.2.1 (vF x0.2.2.1 (sH x0.1 x1)))))))/\(if decide (CP x0.2.2.2.2.2.2.2.2.2.2.1 (vF x0.2.2.2.2.2.2.2.2.2.1 (sH x0.2.2.2.2.2.2.2.2.1 (CP x0.2.2.2.2.2.2.1 (vF x0.2.2.2.1 (vF x0.2.2.1 (sH x0.1 x1))))))<0)=true then True else((P17 x0.2.2.2.2.2.2.2.2.2.2.2.1 (CP x0.2.2.2.2.2.2.2.2.2.2.1 (vF x0.2.2.2.2.2.2.2.2.2.1 (sH x0.2.2.2.2.2.2.2.2.1 (CP x0.2.2.2.2.2.2.1 (vF x0.2.2.2.1 (vF x0.2.2.1 (sH x0.1 x1))))))))/\True)))))))))))))))
def aIR(x0:bF)(x1:Int):Int:=if decide (sH x0.1 x1<0)then -1 else if decide (vF x0.2.2.1 (sH x0.1 x1)<0)then -1 else if decide (vF x0.2.2.2.1 (vF x0.2.2.1 (sH x0.1 x1))<0)then -1 else if decide (CP x0.2.2.2.2.2.2.1 (vF x0.2.2.2.1 (vF x0.2.2.1 (sH x0.1 x1)))<0)then -1 else if decide (sH x0.2.2.2.2.2.2.2.2.1 (CP x0.2.2.2.2.2.2.1 (vF x0.2.2.2.1 (vF x0.2.2.1 (sH x0.1 x1))))<0)then -1 else if decide (vF x0.2.2.2.2.2.2.2.2.2.1 (sH x0.2.2.2.2.2.2.2.2.1 (CP x0.2.2.2.2.2.2.1 (vF x0.2.2.2.1 (vF x0.2.2.1 (sH x0.1 x1)))))<0)then -1 else if decide (CP x0.2.2.2.2.2.2.2.2.2.2.1 (vF x0.2.2.2.2.2.2.2.2.2.1 (sH x0.2.2.2.2.2.2.2.2.1 (CP x0.2.2.2.2.2.2.1 (vF x0.2.2.2.1 (vF x0.2.2.1 (sH x0.1 x1))))))<0)then -1 else if decide (CP x0.2.2.2.2.2.2.2.2.2.2.2.1 (CP x0.2.2.2.2.2.2.2.2.2.2.1 (vF x0.2.2.2.2.2.2.2.2.2.1 (sH x0.2.2.2.2.2.2.2.2.1 (CP x0.2.2.2.2.2.2.1 (vF x0.2.2.2.1 (vF x0.2.2.1 (sH x0.1 x1)))))))<0)then -1 else CP x0.2.2.2.2.2.2.2.2.2.2.2.1 (CP x0.2.2.2.2.2.2.2.2.2.2.1 (vF x0.2.2.2.2.2.2.2.2.2.1 (sH x0.2.2.2.2.2.2.2.2.1 (CP x0.2.2.2.2.2.2.1 (vF x0.2.2.2.1 (vF x0.2.2.1 (sH x0.1 x1)))))))
def kx4:KK:=mA d4 (DO aDs) P4 (aIR,()) λ_=>aL<|lT pr<|aL<|lT pr<|aL<|lT pr<|aL<|lT pr<|aL<|lT pr<|aL<|lT pr<|aL<|lT pr<|aL<|dS pr pr
def bAR(x0:dO):dO:=(x0.1,x0.2.1,x0.2.2.1,x0.2.2.2.1,())
def bIE:KK:=mB Tryz.func92 [.v eC] [.cons .str cZ] [] nP (bAR,()) λ_=>pr
def d25:gC:=D0 aAt [.v (.sl eC)] [.sl eC] [bIE]
def bAS(ds:Γ aS)(K:fG)(q:Nat->Value):∀n,(∀ {x0},RT0 eC (aC,(0:Int),(0:Int),(0:Int),()) 40 n x0 ds->St d25 (x0,()) ds [] K q)/\(∀ {v4 h0 x0},RT eC (aC,(0:Int),(0:Int),(0:Int),()) n v4 h0 x0 ds->Cu d25 3 ([eL 0 eC x0,eW 3 0,eI 4 v4],[cL eC h0]) ds [] K q):=nI ⟨aH,aH⟩ λn ⟨i,i3⟩=>⟨UE<|bX i3,
  bD (cP<|bH<|cP<|aL<|bX i3) cM⟩
def aPW(x0:Γ dO):Γ dO:=x0
def P25(x0:Γ dO):Prop:=40*(x0.length:Int)<=281474976710656
def bIG:KK:=mL d25 (DO aAt) P25 (aPW,()) (λ⟨x0,_⟩ h hwf K q=>(bAS _ K q _).1 (wk h hwf.1.1))
def bAT(x0:Int×Int×Int×Int×Unit):Int×Int×Int×Int×Unit:=(x0.1,x0.2.1,x0.2.2.1,x0.2.2.2.1,())
def bIH:KK:=mB Tryz.func26 [.v gp] [.cons Za cZ] [] nP (bAT,()) λ_=>pr
def bAU(x0:b6):b6:=(x0.1,x0.2.1,x0.2.2.1,())
def bII:KK:=mB Tryz.func93 [.v cZ] [.cons Za Ti] [] nP (bAU,()) λ_=>pr
def d27:gC:=D0 aAu [.v (.sl cZ)] [.sl cZ] [bII]
def bAV(ds:Γ aS)(K:fG)(q:Nat->Value):∀n,(∀ {x0},RT0 cZ ((0:Int),(0:Int),(0:Int),()) 24 n x0 ds->St d27 (x0,()) ds [] K q)/\(∀ {v4 h0 x0},RT cZ ((0:Int),(0:Int),(0:Int),()) n v4 h0 x0 ds->Cu d27 3 ([eL 0 cZ x0,eW 3 0,eI 4 v4],[cL cZ h0]) ds [] K q):=nI ⟨aH,aH⟩ λn ⟨i,i3⟩=>⟨UE<|bX i3,
  bD (cP<|bH<|cP<|aL<|bX i3) cM⟩
def aPX(x0:Γ b6):Γ b6:=x0
def P27(x0:Γ b6):Prop:=24*(x0.length:Int)<=281474976710656
def bIK:KK:=mL d27 (DO aAu) P27 (aPX,()) (λ⟨x0,_⟩ h hwf K q=>(bAV _ K q _).1 (wk h hwf.1.1))
def bIL:KK:=mB Tryz.func94 [.v cZ] [.cons Za Ti] [] nP (bAU,()) λ_=>pr
def d28:gC:=D0 aAv [.v (.sl cZ)] [.sl cZ] [bIL]
def bAX(ds:Γ aS)(K:fG)(q:Nat->Value):∀n,(∀ {x0},RT0 cZ ((0:Int),(0:Int),(0:Int),()) 24 n x0 ds->St d28 (x0,()) ds [] K q)/\(∀ {v4 h0 x0},RT cZ ((0:Int),(0:Int),(0:Int),()) n v4 h0 x0 ds->Cu d28 3 ([eL 0 cZ x0,eW 3 0,eI 4 v4],[cL cZ h0]) ds [] K q):=nI ⟨aH,aH⟩ λn ⟨i,i3⟩=>⟨UE<|bX i3,
  bD (cP<|bH<|cP<|aL<|bX i3) cM⟩
def bIN:KK:=mL d28 (DO aAv) P27 (aPX,()) (λ⟨x0,_⟩ h hwf K q=>(bAX _ K q _).1 (wk h hwf.1.1))
def bIO:KK:=mB Tryz.func29 [.v cZ] [.cons Za Ti] [] nP (bAU,()) λ_=>pr
def bIP:KK:=mB Tryz.func30 [.v cZ] [.cons Za Ti] [] nP (bAU,()) λ_=>pr
def bBa(x0:bP):bP:=(x0.1,x0.2.1,x0.2.2.1,())
def bIQ:KK:=mB Tryz.func95 [.v c8] [.cons .str Ti] [] nP (bBa,()) λ_=>pr
def d31:gC:=D0 aAw [.v (.sl c8)] [.sl c8] [bIQ]
def bBb(ds:Γ aS)(K:fG)(q:Nat->Value):∀n,(∀ {x0},RT0 c8 (aC,(0:Int),(0:Int),()) 32 n x0 ds->St d31 (x0,()) ds [] K q)/\(∀ {v4 h0 x0},RT c8 (aC,(0:Int),(0:Int),()) n v4 h0 x0 ds->Cu d31 3 ([eL 0 c8 x0,eW 3 0,eI 4 v4],[cL c8 h0]) ds [] K q):=nI ⟨aH,aH⟩ λn ⟨i,i3⟩=>⟨UE<|bX i3,
  bD (cP<|bH<|cP<|aL<|bX i3) cM⟩
def aPZ(x0:Γ bP):Γ bP:=x0
def P31(x0:Γ bP):Prop:=32*(x0.length:Int)<=281474976710656
def bIS:KK:=mL d31 (DO aAw) P31 (aPZ,()) (λ⟨x0,_⟩ h hwf K q=>(bBb _ K q _).1 (wk h hwf.1.1))
def bIT:KK:=mB Tryz.func32 [.v gp] [.cons Za cZ] [] nP (bAT,()) λ_=>pr
def bIU:KK:=mB Tryz.func96 [.v eC] [.cons .str cZ] [] nP (bAR,()) λ_=>pr
def d33:gC:=D0 aAx [.v (.sl eC)] [.sl eC] [bIU]
def bBe(ds:Γ aS)(K:fG)(q:Nat->Value):∀n,(∀ {x0},RT0 eC (aC,(0:Int),(0:Int),(0:Int),()) 40 n x0 ds->St d33 (x0,()) ds [] K q)/\(∀ {v4 h0 x0},RT eC (aC,(0:Int),(0:Int),(0:Int),()) n v4 h0 x0 ds->Cu d33 3 ([eL 0 eC x0,eW 3 0,eI 4 v4],[cL eC h0]) ds [] K q):=nI ⟨aH,aH⟩ λn ⟨i,i3⟩=>⟨UE<|bX i3,
  bD (cP<|bH<|cP<|aL<|bX i3) cM⟩
def bIW:KK:=mL d33 (DO aAx) P25 (aPW,()) (λ⟨x0,_⟩ h hwf K q=>(bBe _ K q _).1 (wk h hwf.1.1))
def bIX:KK:=mB Tryz.func97 [.v cZ] [.cons Za Ti] [] nP (bAU,()) λ_=>pr
def d34:gC:=D0 aAy [.v (.sl cZ)] [.sl cZ] [bIX]
def bBg(ds:Γ aS)(K:fG)(q:Nat->Value):∀n,(∀ {x0},RT0 cZ ((0:Int),(0:Int),(0:Int),()) 24 n x0 ds->St d34 (x0,()) ds [] K q)/\(∀ {v4 h0 x0},RT cZ ((0:Int),(0:Int),(0:Int),()) n v4 h0 x0 ds->Cu d34 3 ([eL 0 cZ x0,eW 3 0,eI 4 v4],[cL cZ h0]) ds [] K q):=nI ⟨aH,aH⟩ λn ⟨i,i3⟩=>⟨UE<|bX i3,
  bD (cP<|bH<|cP<|aL<|bX i3) cM⟩
def bIZ:KK:=mL d34 (DO aAy) P27 (aPX,()) (λ⟨x0,_⟩ h hwf K q=>(bBg _ K q _).1 (wk h hwf.1.1))
def bJa:KK:=mB Tryz.func98 [.v c8] [.cons .str Ti] [] nP (bBa,()) λ_=>pr
def d35:gC:=D0 aAz [.v (.sl c8)] [.sl c8] [bJa]
def bBi(ds:Γ aS)(K:fG)(q:Nat->Value):∀n,(∀ {x0},RT0 c8 (aC,(0:Int),(0:Int),()) 32 n x0 ds->St d35 (x0,()) ds [] K q)/\(∀ {v4 h0 x0},RT c8 (aC,(0:Int),(0:Int),()) n v4 h0 x0 ds->Cu d35 3 ([eL 0 c8 x0,eW 3 0,eI 4 v4],[cL c8 h0]) ds [] K q):=nI ⟨aH,aH⟩ λn ⟨i,i3⟩=>⟨UE<|bX i3,
  bD (cP<|bH<|cP<|aL<|bX i3) cM⟩
def bJc:KK:=mL d35 (DO aAz) P31 (aPZ,()) (λ⟨x0,_⟩ h hwf K q=>(bBi _ K q _).1 (wk h hwf.1.1))
def bJd:KK:=mB Tryz.func99 [.v c8] [.cons .str Ti] [] nP (bBa,()) λ_=>pr
def d36:gC:=D0 aA0 [.v (.sl c8)] [.sl c8] [bJd]
def bBj(ds:Γ aS)(K:fG)(q:Nat->Value):∀n,(∀ {x0},RT0 c8 (aC,(0:Int),(0:Int),()) 32 n x0 ds->St d36 (x0,()) ds [] K q)/\(∀ {v4 h0 x0},RT c8 (aC,(0:Int),(0:Int),()) n v4 h0 x0 ds->Cu d36 3 ([eL 0 c8 x0,eW 3 0,eI 4 v4],[cL c8 h0]) ds [] K q):=nI ⟨aH,aH⟩ λn ⟨i,i3⟩=>⟨UE<|bX i3,
  bD (cP<|bH<|cP<|aL<|bX i3) cM⟩
def bJf:KK:=mL d36 (DO aA0) P31 (aPZ,()) (λ⟨x0,_⟩ h hwf K q=>(bBj _ K q _).1 (wk h hwf.1.1))
def d6:gC:=D0 aDt [.v iT] [.cons (.sl eC) YA1] [bIG,bIH,bIK,bIN,bIO,bIP,bIS,bIT,bIW,bIZ,bJc,bJf]
def P6(x0:bF):Prop:=((P25 x0.1)/\((P27 x0.2.2.1)/\((P27 x0.2.2.2.1)/\((P31 x0.2.2.2.2.2.2.1)/\((P25 x0.2.2.2.2.2.2.2.2.1)/\((P27 x0.2.2.2.2.2.2.2.2.2.1)/\((P31 x0.2.2.2.2.2.2.2.2.2.2.1)/\((P31 x0.2.2.2.2.2.2.2.2.2.2.2.1)/\True))))))))
def cX(x0:bF):bF:=(aPW x0.1,(x0.2.1.1,x0.2.1.2.1,x0.2.1.2.2.1,x0.2.1.2.2.2.1,()),aPX x0.2.2.1,aPX x0.2.2.2.1,(x0.2.2.2.2.1.1,x0.2.2.2.2.1.2.1,x0.2.2.2.2.1.2.2.1,()),(x0.2.2.2.2.2.1.1,x0.2.2.2.2.2.1.2.1,x0.2.2.2.2.2.1.2.2.1,()),aPZ x0.2.2.2.2.2.2.1,(x0.2.2.2.2.2.2.2.1.1,x0.2.2.2.2.2.2.2.1.2.1,x0.2.2.2.2.2.2.2.1.2.2.1,x0.2.2.2.2.2.2.2.1.2.2.2.1,()),aPW x0.2.2.2.2.2.2.2.2.1,aPX x0.2.2.2.2.2.2.2.2.2.1,aPZ x0.2.2.2.2.2.2.2.2.2.2.1,aPZ x0.2.2.2.2.2.2.2.2.2.2.2.1,())
def kx6:KK:=mA d6 (DO aDt) P6 (cX,()) λ_=>aL<|bH<|aL<|aL<|bH<|bH<|aL<|bH<|aL<|aL<|aL<|aL pr
def uY(x0:Int):Bool:=if decide (x0>=97)then decide (x0<=122)else false
def bBk:KK:=mB Tryz.func351 [.v (.int .u8)] [.bool] [] nP (uY,()) λ_=>dS pr pr
def uZ(x0:Int):Bool:=if decide (x0>=48)then decide (x0<=57)else false
def aIS:KK:=mB Tryz.func256 [.v (.int .u8)] [.bool] [] nP (uZ,()) λ_=>dS pr pr
def aS0:gC:=D0 ky [.v (.str)] [.bool] [bBk,aIS]
mutual
def aS1:Nat->Δ->Γ aS->Prop
 | 0,_,_=>False
 | n+1,x0,ds=>if aB x0==aB (aA #[])then ds=[aI .bool false] else if decide ((↑(aG x0):Int)>10)then ds=[aI .bool false] else 0<(↑(aG x0):Int)/\if !uY (↑(cN (aD (cC (bO x0)) 0 0)):Int)then ds=[aI .bool false] else GB n 0 x0 ds
def GB:Nat->Int->Δ->Γ aS->Prop
 | 0,_,_,_=>False
 | n+1,v3,x0,ds=>if decide (v3<(↑(aG x0):Int))then 0<=v3/\v3<(↑(aG x0):Int)/\if !uY (↑(cN (aD (cC (bO x0)) (aE v3) 0)):Int)then 0<=v3/\v3<(↑(aG x0):Int)/\if !uZ (↑(cN (aD (cC (bO x0)) (aE v3) 0)):Int)then ds=[aI .bool false] else aX .i64 (v3+1)/\GB n (v3+1) x0 ds else aX .i64 (v3+1)/\GB n (v3+1) x0 ds else ds=[aI .bool true]
end
def aS2(ds:Γ aS)(K:fG)(q:Nat->Value):∀n,(∀ {x0},aS1 n x0 ds->St aS0 (x0,()) ds [] K q)/\(∀ {v3 x0},GB n v3 x0 ds->Cu aS0 4 ([eS 0 x0,eI 3 v3],[]) ds [] K q):=nI ⟨aH,aH⟩ λn ⟨i,i4⟩=>⟨bD (jM<|jM cM)<|bD (jM cM)<|pq 0<|aL<|bH<|bD cM<|bX i4,
  bD (cP<|bH<|bD (cP<|bH<|bD cM<|aL<|bX i4)<|dK<|aL<|bX i4) cM⟩
def zX(x0:Δ):Bool:=decide (1<=x0.size)&&decide (x0.size<=10)&&uY ((cD x0).getD 0 0)&&(cD x0).all λb=>uY b||uZ b
theorem aS3(x0:Δ)(hw:Wf .str x0):aS1 (x0.size+1+1) x0 [⟨.bool,zX x0⟩]:=by
 have hl:=sW x0;rw[aS1];by_cases h0:x0=aA #[]
 ·rw[π ((bC _ _).2 h0)];subst h0;rfl
 ·rw[ν (λh=>h0 ((bC _ _).1 h))];have hs:1<=x0.size:=by
   rcases Nat.lt_or_ge 0 x0.size with h | h
   ·exact h
   ·exact absurd (vx (s:=x0) (t:=aA #[]) (List.eq_nil_of_length_eq_zero (by rw[hl];omega))) h0
  by_cases h1:(x0.size:Int)>10
  ·rw[π (by simpa using h1)];have:¬x0.size<=10:=by omega
   simp[zX,this]
  ·rw[ν (by simpa using h1)];refine⟨by omega,?_⟩;rw[Ig];cases h2:uY ((cD x0).getD 0 0)with
   | false =>
    rw[π (by simp)];simp[zX,h2, -bW]
   | true =>
    rw[ν (by simp)];have key:=uH (cD x0) 0 (λb=>uY b||uZ b) [(⟨.bool,false⟩:aS)] [⟨.bool,true⟩] (λn i ds=>GB n i x0 ds) (λn=>?_) (λn i hi hok ds hr=>?_) (λn i hi hok=>?_)
    ·rw[hl]at key;have e:zX x0=(cD x0).all λb=>uY b||uZ b:=by
      have:x0.size<=10:=by omega
      unfold zX;simp only[hs,this,decide_true,Ei,h2]
     rw[e];cases h:(cD x0).all λb=>uY b||uZ b with
     | true=>rw[π h]at key;exact key
     | false=>rw[ν (by rw[h];simp)]at key;exact key
    ·show GB (n+1) ((cD x0).length:Int) x0 _;rw[GB,hl,ν (by simp)]
    ·rw[GB,π (by simp;omega)];simp only[aK,Ig];generalize (cD x0).getD i 0=c at *;refine⟨by omega,by omega,?_⟩;have hu:=iJ (xs:=cD x0) (by rw[hl];exact hw) hi;cases h3:uY c with
     | true=>rw[ν (by simp)];exact⟨hu,hr⟩
     | false =>
      rw[π (by simp)];rw[h3,Lm]at hok;refine⟨by omega,by omega,?_⟩;rw[ν (by rw[hok];simp)];exact⟨hu,hr⟩
    ·simp only[Bool.or_eq_false_iff]at hok;rw[GB,π (by simp;omega)];simp only[aK,Ig];refine⟨by omega,by omega,?_⟩;rw[π (by rw[hok.1];rfl)];refine⟨by omega,by omega,?_⟩;rw[π (by rw[hok.2];rfl)] <;> trivial
def wl:KK:=mL aS0 (DO ky) nP (zX,()) (λ⟨x0,_⟩ h hwf K q =>
 (aS2 _ K q _).1 (aS3 x0 hwf.1))
def cG(x0:Int)(x1:Int)(x2:Int):Bool:=if decide (x0>=x1)then decide (x0<=x2)else false
def lO:KK:=mB Tryz.func140 [.v (.int .i64),.v (.int .i64),.v (.int .i64)] [.bool] [] nP (cG,()) λ_=>dS pr pr
def aIT(x0:Int):Bool:=cG x0 0 200
def bBl:KK:=mB Tryz.func230 [.v (.int .i64)] [.bool] [lO] nP (aIT,()) λ_=>bH pr
def Ij(x0:dO):Bool:=if zX x0.1 then(if cG x0.2.1 10000 10000000 then(if cG x0.2.2.1 1000 1000000 then aIT x0.2.2.2.1 else false)else false)else false
def aQe:KK:=mB Tryz.func139 [.p eC] [.bool] [wl,lO,bBl] nP (Ij,()) λ_=>bH<|dS (bH<|dS (bH<|dS (bH pr) pr)<|dK pr)<|dK<|dK pr
def cI{α:Type}(x y:Δ×α):Bool:=bL (aB x.1) (aB y.1)
def RW{α:Type}(e:α)(g:α->Bool)(b:α->α->Bool)(k:Nat):Nat->Int->Γ α->Γ aS->Prop
 | 0,_,_,_=>False
 | n+1,v,x0,ds=>if decide (v<(x0.length:Int))then 0<=v/\v<(x0.length:Int)/\if !g (aD x0 (aE v) e)then ds=[aI .bool false] else if decide (v>0)then aX .i64 (v-1)/\0<=v-1/\v-1<(x0.length:Int)/\0<=v/\v<(x0.length:Int)/\if !b (aD x0 (aE (v-1)) e) (aD x0 (aE v) e)then ds=[aI .bool false] else aX .i64 (v+1)/\RW e g b k n (v+1) x0 ds else aX .i64 (v+1)/\RW e g b k n (v+1) x0 ds else ds=[aI .bool (decide ((x0.length:Int)<=k))]
def RW0{α:Type}(e:α)(g:α->Bool)(b:α->α->Bool)(k:Nat):Nat->Γ α->Γ aS->Prop
 | 0,_,_=>False
 | n+1,x0,ds=>RW e g b k n 0 x0 ds
theorem aIU{α:Type}{e:α}{g:α->Bool}{b:α->α->Bool}{k:Nat}{x0:Γ α}(hw:x0.length<=maxLen):RW0 e g b k (x0.length+1+1) x0 [⟨.bool,nF (λi x=>g x&&(i==0||b (x0.getD (i-1) e) x)) 0 x0&&decide (x0.length<=k)⟩]:=by
 rw[RW0]
 have st:∀n i,i<x0.length->∀ds,(if(g (x0.getD i e)&&(i==0||b (x0.getD (i-1) e) (x0.getD i e)))=true then RW e g b k n ((i:Int)+1) x0 ds else ds=[⟨.bool,false⟩])->RW e g b k (n+1) (i:Int) x0 ds:=by
  intro n i hi ds h;have hu:=iJ hw hi
  rw[RW,π (by simp;omega)];refine⟨by omega,by omega,?_⟩;simp only[aK]
  cases h1:g (x0.getD i e) <;> rw[h1]at h
  ·simpa using h
  ·rw[ν (by simp)];by_cases h0:(i:Int)>0
   ·have hi0:(i==0)=false:=by simp;omega
    have e:((i:Int)-1).toNat=i-1:=by omega
    rw[π (by simpa using h0)];refine⟨by rw[aJ];unfold maxLen at hw;omega,by omega,by omega,by omega,by omega,?_⟩
    rw[e];rw[hi0]at h;split <;> simp_all
   ·have hi0:(i==0)=true:=by simp;omega
    rw[ν (by simpa using h0)];rw[hi0]at h;exact⟨hu,by simpa using h⟩
 have key:=zV x0 e (λi x=>g x&&(i==0||b (x0.getD (i-1) e) x)) [(⟨.bool,false⟩:aS)] [⟨.bool,decide (x0.length<=k)⟩] (λn i ds=>RW e g b k n i x0 ds) (λn=>?_) (λn i hi hok ds hr=>?_) (λn i hi hok=>?_)
 ·cases h:nF (λi x=>g x&&(i==0||b (x0.getD (i-1) e) x)) 0 x0 <;> rw[h]at key <;> simpa using key
 ·rw[RW,ν (by simp)];congr 3;simp
 ·exact st n i hi ds (by rw[π hok];exact hr)
 ·exact st n i hi _ (by rw[ν (by rw[hok];simp)])
def d76:gC:=D0 aA1 [.v (.sl eC)] [.bool] [aQe]
def bBm(ds:Γ aS)(K:fG)(q:Nat->Value):∀n,(∀ {x0},RW0 (aC,0,0,0,()) Ij cI 12 n x0 ds->St d76 (x0,()) ds [] K q)/\(∀ {v3 x0},RW (aC,0,0,0,()) Ij cI 12 n v3 x0 ds->Cu d76 2 ([eL 0 eC x0,eI 3 v3],[]) ds [] K q):=nI ⟨aH,aH⟩ λn ⟨i,i2⟩=>⟨bX i2,
  bD (cP<|bH<|bD (jM cM)<|bD (aL<|cP<|cP<|bD cM<|aL<|bX i2)<|dK<|aL<|bX i2) cM⟩
def bBn(x0:Γ dO)(i:Nat)(x:dO):Bool :=
 Ij x&&(i==0||bL (aB (x0.getD (i-1) (aC,(0:Int),(0:Int),(0:Int),())).1) (aB x.1))
def wm(x0:Γ dO):Bool:=nF (bBn x0) 0 x0&&decide (x0.length<=12)
def bBo:KK:=mL d76 (DO aA1) nP (wm,()) (λ⟨x0,_⟩ h hwf K q =>
 (bBm _ K q _).1 (aIU hwf.1.1))
def L7(x0:Int×Int×Int×Int×Unit):Bool:=if cG x0.1 1000 4000000 then(if cG x0.2.1 100 20000 then(if cG x0.2.2.1 6 400 then cG x0.2.2.2.1 1000 10000000 else false)else false)else false
def aS5:KK:=mB Tryz.func77 [.p gp] [.bool] [lO] nP (L7,()) λ_=>bH<|dS (bH<|dS (bH<|dS (bH pr) pr)<|dK pr)<|dK<|dK pr
def Ds(x0:b6):Bool:=if cG x0.1 0 1000 then(if cG x0.2.1 (-400) 500 then cG x0.2.2.1 0 1000 else false)else false
def aQf:KK:=mB Tryz.func141 [.p cZ] [.bool] [lO] nP (Ds,()) λ_=>bH<|dS (bH<|dS (bH pr) pr)<|dK pr
def d78:gC:=D0 aA2 [.v (.sl cZ)] [.bool] [aQf]
mutual
def R78:Nat->Γ b6->Γ aS->Prop
 | 0,_,_=>False
 | n+1,x0,ds=>Vf n 0 x0 ds
def Vf:Nat->Int->Γ b6->Γ aS->Prop
 | 0,_,_,_=>False
 | n+1,v3,x0,ds=>if decide (v3<(x0.length:Int))then 0<=v3/\v3<(x0.length:Int)/\if !Ds (aD x0 (aE v3) (0,0,0,()))then ds=[aI .bool false] else aX .i64 (v3+1)/\Vf n (v3+1) x0 ds else ds=[aI .bool (decide ((x0.length:Int)<=48))]
end
def bBp(ds:Γ aS)(K:fG)(q:Nat->Value):∀n,(∀ {x0},R78 n x0 ds->St d78 (x0,()) ds [] K q)/\(∀ {v3 x0},Vf n v3 x0 ds->Cu d78 2 ([eL 0 cZ x0,eI 3 v3],[]) ds [] K q):=nI ⟨aH,aH⟩ λn ⟨i,i2⟩=>⟨bX i2,
  bD (cP<|bH<|bD cM<|aL<|bX i2) cM⟩
def Vg(x0:Γ b6):Bool:=x0.all Ds&&decide (x0.length<=48)
theorem bBq(x0:Γ b6)(hw:Wf (.sl cZ) x0):R78 (x0.length+1+1) x0 [⟨.bool,Vg x0⟩]:=by
 rw[R78];have key:=uH x0 ((0:Int),(0:Int),(0:Int),()) Ds [(⟨.bool,false⟩:aS)] [⟨.bool,decide (x0.length<=48)⟩] (λn i ds=>Vf n i x0 ds) (λn=>?_) (λn i hi hok ds hr=>?_) (λn i hi hok=>?_)
 ·unfold Vg;cases h:x0.all Ds <;> rw[h]at key <;> simpa using key
 ·rw[Vf,ν (by simp)];simp only[aS.mk.injEq,heq_eq_eq,true_and,List.cons.injEq,and_true]
  congr 1
  exact propext ⟨λh=>by omega,λh=>by omega⟩
 ·rw[Vf,π (by simp;omega)];simp only[aK];refine⟨by omega,by omega,?_⟩;rw[ν (by rw[hok];simp)];exact⟨iJ hw.1 hi,hr⟩
 ·rw[Vf,π (by simp;omega)];simp only[aK];refine⟨by omega,by omega,?_⟩;rw[π (by rw[hok];simp)] <;> trivial
def bBr:KK:=mL d78 (DO aA2) nP (Vg,()) (λ⟨x0,_⟩ h hwf K q =>
 (bBp _ K q _).1 (bBq x0 hwf.1))
def Vh(x0:Int):Bool:=cG x0 0 20000
def bBs:KK:=mB Tryz.func142 [.v (.int .i64)] [.bool] [lO] nP (Vh,()) λ_=>bH pr
def d79:gC:=D0 aA3 [.v (.sl cZ)] [.bool] [lO,bBs]
mutual
def R79:Nat->Γ b6->Γ aS->Prop
 | 0,_,_=>False
 | n+1,x0,ds=>TE n 0 x0 ds
def TE:Nat->Int->Γ b6->Γ aS->Prop
 | 0,_,_,_=>False
 | n+1,v3,x0,ds=>if decide (v3<(x0.length:Int))then 0<=v3/\v3<(x0.length:Int)/\if !cG (aD x0 (aE v3) (0,0,0,())).1 1 4 then ds=[aI .bool false] else if !cG (aD x0 (aE v3) (0,0,0,())).2.1 0 1000 then ds=[aI .bool false] else if !Vh (aD x0 (aE v3) (0,0,0,())).2.2.1 then ds=[aI .bool false] else aX .i64 (v3+1)/\TE n (v3+1) x0 ds else ds=[aI .bool (decide ((x0.length:Int)<=8))]
end
def bBt(ds:Γ aS)(K:fG)(q:Nat->Value):∀n,(∀ {x0},R79 n x0 ds->St d79 (x0,()) ds [] K q)/\(∀ {v3 x0},TE n v3 x0 ds->Cu d79 2 ([eL 0 cZ x0,eI 3 v3],[]) ds [] K q):=nI ⟨aH,aH⟩ λn ⟨i,i2⟩=>⟨bX i2,
  bD (cP<|bH<|bD (jM<|jM cM)<|bH<|bD (jM cM)<|bH<|bD cM<|aL<|bX i2) cM⟩
def Ow(x:b6):Bool:=cG x.1 1 4&&cG x.2.1 0 1000&&Vh x.2.2.1
def CR(x0:Γ b6):Bool:=x0.all Ow&&decide (x0.length<=8)
theorem aIV(n i:Nat)(x0:Γ b6)(hm:x0.length<=maxLen)(hi:i<x0.length)(ds:Γ aS)
  (h:if Ow (x0.getD i ((0:Int),(0:Int),(0:Int),()))=true then TE n ((i:Int)+1) x0 ds else ds=[⟨.bool,false⟩]):TE (n+1) (i:Int) x0 ds:=by
 rw[TE,π (by simp;omega)];simp only[aK];refine⟨by omega,by omega,?_⟩;have hu:=iJ hm hi;unfold Ow at h;by_cases h1:cG (x0.getD i ((0:Int),(0:Int),(0:Int),())).1 1 4=true
 case neg=>rw[Hb h1]at h;rw[π (by rw[Hb h1]<;>rfl)];simpa using h
 rw[ν (by rw[h1];simp)];by_cases h2:cG (x0.getD i ((0:Int),(0:Int),(0:Int),())).2.1 0 1000=true
 case neg=>rw[h1,Hb h2]at h;rw[π (by rw[Hb h2]<;>rfl)];simpa using h
 rw[ν (by rw[h2];simp)];by_cases h3:Vh (x0.getD i ((0:Int),(0:Int),(0:Int),())).2.2.1=true
 case neg=>rw[h1,h2,Hb h3]at h;rw[π (by rw[Hb h3]<;>rfl)];simpa using h
 rw[ν (by rw[h3];simp)];rw[h1,h2,h3]at h;exact⟨hu,by simpa using h⟩
theorem bBu(x0:Γ b6)(hw:x0.length<=maxLen):R79 (x0.length+1+1) x0 [⟨.bool,CR x0⟩]:=by
 rw[R79];have key:=uH x0 ((0:Int),(0:Int),(0:Int),()) Ow [(⟨.bool,false⟩:aS)] [⟨.bool,decide (x0.length<=8)⟩] (λn i ds=>TE n i x0 ds) (λn=>?_) (λn i hi hok ds hr=>?_) (λn i hi hok=>?_)
 ·unfold CR;cases h:x0.all Ow <;> rw[h]at key <;> simpa using key
 ·rw[TE,ν (by simp)];simp only[aS.mk.injEq,heq_eq_eq,true_and,List.cons.injEq,and_true]
  congr 1
  exact propext ⟨λh=>by omega,λh=>by omega⟩
 ·exact aIV n i x0 hw hi ds (by rw[π hok];exact hr)
 ·exact aIV n i x0 hw hi _ (by rw[ν (by rw[hok];simp)])
def aS6:KK:=mL d79 (DO aA3) nP (CR,()) (λ⟨x0,_⟩ h hwf K q =>
 (bBt _ K q _).1 (bBu x0 hwf.1.1))
def L8(x0:b6):Bool:=if cG x0.1 1000 10000000 then(if cG x0.2.1 100 1000000 then cG x0.2.2.1 0 500 else false)else false
def aS7:KK:=mB Tryz.func80 [.p cZ] [.bool] [lO] nP (L8,()) λ_=>bH<|dS (bH<|dS (bH pr) pr)<|dK pr
def He(x0:b6):Bool:=if x0.1==0 then(if x0.2.1==0 then x0.2.2.1==0 else false)else if x0.1==2 then(if x0.2.1==0 then x0.2.2.1==0 else false)else if x0.1==1 then(if cG x0.2.1 0 2 then cG x0.2.2.1 0 3 else false)else if x0.1==3 then(if cG x0.2.1 0 2 then cG x0.2.2.1 0 3 else false)else false
def aS8:KK:=mB Tryz.func81 [.p cZ] [.bool] [lO] nP (He,()) λ_=>dS (jM<|dS pr pr)<|dS (dS pr pr)<|dS (jM<|bH<|dS (bH pr) pr)<|dS (bH<|dS (bH pr) pr)<|dK pr
def Ik(x0:Int):Bool:=cG x0 0 1440
def aQg:KK:=mB Tryz.func231 [.v (.int .i64)] [.bool] [lO] nP (Ik,()) λ_=>bH pr
def CS(x0:bP):Bool:=if zX x0.1 then(if Ik x0.2.1 then(if Ik x0.2.2.1 then decide (x0.2.1<x0.2.2.1)else false)else false)else false
def aQh:KK:=mB Tryz.func143 [.p c8] [.bool] [wl,aQg] nP (CS,()) λ_=>bH<|dS (bH<|dS (bH<|dS pr pr)<|dK pr)<|dK<|dK pr
def d82:gC:=D0 aA4 [.v (.sl c8)] [.bool] [aQh]
def bBv(ds:Γ aS)(K:fG)(q:Nat->Value):∀n,(∀ {x0},RW0 (aC,0,0,()) CS cI 12 n x0 ds->St d82 (x0,()) ds [] K q)/\(∀ {v3 x0},RW (aC,0,0,()) CS cI 12 n v3 x0 ds->Cu d82 2 ([eL 0 c8 x0,eI 3 v3],[]) ds [] K q):=nI ⟨aH,aH⟩ λn ⟨i,i2⟩=>⟨bX i2,
  bD (cP<|bH<|bD (jM cM)<|bD (aL<|cP<|cP<|bD cM<|aL<|bX i2)<|dK<|aL<|bX i2) cM⟩
def bBw(x0:Γ bP)(i:Nat)(x:bP):Bool :=
 CS x&&(i==0||bL (aB (x0.getD (i-1) (aC,(0:Int),(0:Int),())).1) (aB x.1))
def wn(x0:Γ bP):Bool:=nF (bBw x0) 0 x0&&decide (x0.length<=12)
def bBx:KK:=mL d82 (DO aA4) nP (wn,()) (λ⟨x0,_⟩ h hwf K q =>
 (bBv _ K q _).1 (aIU hwf.1.1))
def L9(x0:Int×Int×Int×Int×Unit):Bool:=if cG x0.1 1 20000 then(if cG x0.2.1 1 1000 then(if cG x0.2.2.1 0 10000000 then cG x0.2.2.2.1 0 1000 else false)else false)else false
def aS9:KK:=mB Tryz.func83 [.p gp] [.bool] [lO] nP (L9,()) λ_=>bH<|dS (bH<|dS (bH<|dS (bH pr) pr)<|dK pr)<|dK<|dK pr
def Il(x0:dO):Bool:=if zX x0.1 then(if cG x0.2.1 0 100000 then(if cG x0.2.2.1 1 1000 then cG x0.2.2.2.1 1 400 else false)else false)else false
def aQi:KK:=mB Tryz.func144 [.p eC] [.bool] [wl,lO] nP (Il,()) λ_=>bH<|dS (bH<|dS (bH<|dS (bH pr) pr)<|dK pr)<|dK<|dK pr
def d84:gC:=D0 aA5 [.v (.sl eC)] [.bool] [aQi]
def bBy(ds:Γ aS)(K:fG)(q:Nat->Value):∀n,(∀ {x0},RW0 (aC,0,0,0,()) Il cI 8 n x0 ds->St d84 (x0,()) ds [] K q)/\(∀ {v3 x0},RW (aC,0,0,0,()) Il cI 8 n v3 x0 ds->Cu d84 2 ([eL 0 eC x0,eI 3 v3],[]) ds [] K q):=nI ⟨aH,aH⟩ λn ⟨i,i2⟩=>⟨bX i2,
  bD (cP<|bH<|bD (jM cM)<|bD (aL<|cP<|cP<|bD cM<|aL<|bX i2)<|dK<|aL<|bX i2) cM⟩
def bBz(x0:Γ dO)(i:Nat)(x:dO):Bool :=
 Il x&&(i==0||bL (aB (x0.getD (i-1) (aC,(0:Int),(0:Int),(0:Int),())).1) (aB x.1))
def wo(x0:Γ dO):Bool:=nF (bBz x0) 0 x0&&decide (x0.length<=8)
def bB0:KK:=mL d84 (DO aA5) nP (wo,()) (λ⟨x0,_⟩ h hwf K q =>
 (bBy _ K q _).1 (aIU hwf.1.1))
def MV(x0:Int):Bool:=cG x0 0 36524
def aIW:KK:=mB Tryz.func259 [.v (.int .i64)] [.bool] [lO] nP (MV,()) λ_=>bH pr
def Qy(x0:Int):Bool:=cG x0 0 24000
def aQj:KK:=mB Tryz.func352 [.v (.int .i64)] [.bool] [lO] nP (Qy,()) λ_=>bH pr
def vZ(x0:b6):Bool:=if MV x0.1 then(if Qy x0.2.1 then cG x0.2.2.1 0 1000 else false)else false
def aIX:KK:=mB Tryz.func232 [.p cZ] [.bool] [aIW,aQj,lO] nP (vZ,()) λ_=>bH<|dS (bH<|dS (bH pr) pr)<|dK pr
def aSA:gC:=D0 kz [.v (.sl cZ)] [.bool] [aIX]
mutual
def aSB:Nat->Γ b6->Γ aS->Prop
 | 0,_,_=>False
 | n+1,x0,ds=>GC n 0 x0 ds
def GC:Nat->Int->Γ b6->Γ aS->Prop
 | 0,_,_,_=>False
 | n+1,v3,x0,ds=>if decide (v3<(x0.length:Int))then 0<=v3/\v3<(x0.length:Int)/\if !vZ (aD x0 (aE v3) (0,0,0,()))then ds=[aI .bool false] else if decide (v3>0)then aX .i64 (v3-1)/\0<=v3-1/\v3-1<(x0.length:Int)/\0<=v3/\v3<(x0.length:Int)/\if decide ((aD x0 (aE (v3-1)) (0,0,0,())).1>=(aD x0 (aE v3) (0,0,0,())).1)then ds=[aI .bool false] else aX .i64 (v3-1)/\0<=v3-1/\v3-1<(x0.length:Int)/\0<=v3/\v3<(x0.length:Int)/\if decide ((aD x0 (aE (v3-1)) (0,0,0,())).2.1>(aD x0 (aE v3) (0,0,0,())).2.1)then ds=[aI .bool false] else aX .i64 (v3-1)/\0<=v3-1/\v3-1<(x0.length:Int)/\0<=v3/\v3<(x0.length:Int)/\if decide ((aD x0 (aE (v3-1)) (0,0,0,())).2.2.1>(aD x0 (aE v3) (0,0,0,())).2.2.1)then ds=[aI .bool false] else aX .i64 (v3+1)/\GC n (v3+1) x0 ds else aX .i64 (v3+1)/\GC n (v3+1) x0 ds else ds=[aI .bool true]
end
def aSC(ds:Γ aS)(K:fG)(q:Nat->Value):∀n,(∀ {x0},aSB n x0 ds->St aSA (x0,()) ds [] K q)/\(∀ {v3 x0},GC n v3 x0 ds->Cu aSA 2 ([eL 0 cZ x0,eI 3 v3],[]) ds [] K q):=nI ⟨aH,aH⟩ λn ⟨i,i2⟩=>⟨bX i2,
  bD (cP<|bH<|bD cM<|bD (aL<|cP<|cP<|bD (jM<|jM cM)<|aL<|cP<|cP<|bD (jM cM)<|aL<|cP<|cP<|bD cM<|aL<|bX i2)<|dK<|aL<|bX i2) cM⟩
def aIY(y x:b6):Bool:=decide (y.1<x.1)&&decide (y.2.1<=x.2.1)&&decide (y.2.2.1<=x.2.2.1)
def bq(x0:Γ b6)(i:Nat)(x:b6):Bool:=vZ x&&(i==0||aIY (x0.getD (i-1) ((0:Int),(0:Int),(0:Int),())) x)
def Im(x0:Γ b6):Bool:=nF (bq x0) 0 x0
theorem aDX(n i:Nat)(x0:Γ b6)(hm:x0.length<=maxLen)(hi:i<x0.length)(ds:Γ aS)
  (h:if bq x0 i (x0.getD i ((0:Int),(0:Int),(0:Int),()))=true then GC n ((i:Int)+1) x0 ds else ds=[⟨.bool,false⟩]):GC (n+1) (i:Int) x0 ds:=by
 have hu:=iJ hm hi;have hmx:maxLen<=9223372036854775807:=by decide
 rw[GC,π (by simp;omega)];refine⟨by omega,by omega,?_⟩;simp only[aK];unfold bq aIY at h;by_cases hv:vZ (x0.getD i ((0:Int),(0:Int),(0:Int),()))=true
 case neg=>rw[Hb hv]at h;rw[π (by rw[Hb hv]<;>rfl)];simpa using h
 rw[ν (by rw[hv];simp)];rw[hv]at h;by_cases h0:(i:Int)>0
 case neg =>
  rw[ν (by simpa using h0)];have hi0:(i==0)=true:=by simp;omega
  rw[hi0]at h;exact⟨hu,by simpa using h⟩
 rw[π (by simpa using h0)];have hi0:(i==0)=false:=by simp;omega
 have e:((i:Int)-1).toNat=i-1:=by omega
 have hd:aX .i64 ((i:Int)-1):=by rw[aJ];omega
 rw[hi0]at h;simp only[e];refine⟨hd,by omega,by omega,by omega,by omega,?_⟩;by_cases c0:(x0.getD (i-1) ((0:Int),(0:Int),(0:Int),())).1>=(x0.getD i ((0:Int),(0:Int),(0:Int),())).1
 case pos =>
  rw[π (decide_eq_true c0)];have:decide ((x0.getD (i-1) ((0:Int),(0:Int),(0:Int),())).1<(x0.getD i ((0:Int),(0:Int),(0:Int),())).1)=false:=decide_eq_false (by omega);rw[this]at h;simpa using h
 rw[ν (by simpa using c0)];refine⟨hd,by omega,by omega,by omega,by omega,?_⟩;by_cases c1:(x0.getD (i-1) ((0:Int),(0:Int),(0:Int),())).2.1>(x0.getD i ((0:Int),(0:Int),(0:Int),())).2.1
 case pos =>
  rw[π (decide_eq_true c1)];have:decide ((x0.getD (i-1) ((0:Int),(0:Int),(0:Int),())).2.1<=(x0.getD i ((0:Int),(0:Int),(0:Int),())).2.1)=false:=decide_eq_false (by omega);rw[this]at h;simpa using h
 rw[ν (by simpa using c1)];refine⟨hd,by omega,by omega,by omega,by omega,?_⟩;by_cases c2:(x0.getD (i-1) ((0:Int),(0:Int),(0:Int),())).2.2.1>(x0.getD i ((0:Int),(0:Int),(0:Int),())).2.2.1
 case pos =>
  rw[π (decide_eq_true c2)];have:decide ((x0.getD (i-1) ((0:Int),(0:Int),(0:Int),())).2.2.1<=(x0.getD i ((0:Int),(0:Int),(0:Int),())).2.2.1)=false:=decide_eq_false (by omega);rw[this]at h;simpa using h
 rw[ν (by simpa using c2)];have d0:decide ((x0.getD (i-1) ((0:Int),(0:Int),(0:Int),())).1<(x0.getD i ((0:Int),(0:Int),(0:Int),())).1)=true:=decide_eq_true (by omega);have d1:decide ((x0.getD (i-1) ((0:Int),(0:Int),(0:Int),())).2.1<=(x0.getD i ((0:Int),(0:Int),(0:Int),())).2.1)=true:=decide_eq_true (by omega);have d2:decide ((x0.getD (i-1) ((0:Int),(0:Int),(0:Int),())).2.2.1<=(x0.getD i ((0:Int),(0:Int),(0:Int),())).2.2.1)=true:=decide_eq_true (by omega);rw[d0,d1,d2]at h;exact⟨hu,by simpa using h⟩
theorem aSD(x0:Γ b6)(hw:x0.length<=maxLen):aSB (x0.length+1+1) x0 [⟨.bool,Im x0⟩]:=by
 rw[aSB];have key:=zV x0 ((0:Int),(0:Int),(0:Int),()) (bq x0) [(⟨.bool,false⟩:aS)] [⟨.bool,true⟩] (λn i ds=>GC n i x0 ds) (λn=>?_) (λn i hi hok ds hr=>?_) (λn i hi hok=>?_)
 ·unfold Im;cases h:nF (bq x0) 0 x0 with
  | true=>rw[π h]at key;simpa using key
  | false=>rw[ν (by rw[h];simp)]at key;simpa using key
 ·rw[GC,ν (by simp)]
 ·exact aDX n i x0 hw hi ds (by rw[π hok];exact hr)
 ·exact aDX n i x0 hw hi _ (by rw[ν (by rw[hok];simp)])
def aQk:KK:=mL aSA (DO kz) nP (Im,()) (λ⟨x0,_⟩ h hwf K q =>
 (aSC _ K q _).1 (aSD x0 hwf.1.1))
def w7(x0:Γ b6):Bool:=if decide ((x0.length:Int)<=24)then Im x0 else false
def aMW:KK:=mB Tryz.func85 [.v (.sl cZ)] [.bool] [aQk] nP (w7,()) λ_=>dS (bH pr) pr
def aB7(x0:Int):Bool:=cG x0 0 7
def aQl:KK:=mB Tryz.func233 [.v (.int .i64)] [.bool] [lO] nP (aB7,()) λ_=>bH pr
def aB8(x0:Int):Bool:=cG x0 0 1000
def aQm:KK:=mB Tryz.func234 [.v (.int .i64)] [.bool] [lO] nP (aB8,()) λ_=>bH pr
def Ip(x0:bP):Bool:=if zX x0.1 then(if aB7 x0.2.1 then aB8 x0.2.2.1 else false)else false
def aQn:KK:=mB Tryz.func146 [.p c8] [.bool] [wl,aQl,aQm] nP (Ip,()) λ_=>bH<|dS (bH<|dS (bH pr) pr)<|dK pr
def d86:gC:=D0 aA6 [.v (.sl c8)] [.bool] [aQn]
def bB1(ds:Γ aS)(K:fG)(q:Nat->Value):∀n,(∀ {x0},RW0 (aC,0,0,()) Ip cI 10 n x0 ds->St d86 (x0,()) ds [] K q)/\(∀ {v3 x0},RW (aC,0,0,()) Ip cI 10 n v3 x0 ds->Cu d86 2 ([eL 0 c8 x0,eI 3 v3],[]) ds [] K q):=nI ⟨aH,aH⟩ λn ⟨i,i2⟩=>⟨bX i2,
  bD (cP<|bH<|bD (jM cM)<|bD (aL<|cP<|cP<|bD cM<|aL<|bX i2)<|dK<|aL<|bX i2) cM⟩
def bB2(x0:Γ bP)(i:Nat)(x:bP):Bool :=
 Ip x&&(i==0||bL (aB (x0.getD (i-1) (aC,(0:Int),(0:Int),())).1) (aB x.1))
def wq(x0:Γ bP):Bool:=nF (bB2 x0) 0 x0&&decide (x0.length<=10)
def bB3:KK:=mL d86 (DO aA6) nP (wq,()) (λ⟨x0,_⟩ h hwf K q =>
 (bB1 _ K q _).1 (aIU hwf.1.1))
def aQo:KK:=mB Tryz.func147 [.p c8] [.bool] [wl,aQl,aQm] nP (Ip,()) λ_=>bH<|dS (bH<|dS (bH pr) pr)<|dK pr
def d87:gC:=D0 aA7 [.v (.sl c8)] [.bool] [aQo]
def bB4(ds:Γ aS)(K:fG)(q:Nat->Value):∀n,(∀ {x0},RW0 (aC,0,0,()) Ip cI 8 n x0 ds->St d87 (x0,()) ds [] K q)/\(∀ {v3 x0},RW (aC,0,0,()) Ip cI 8 n v3 x0 ds->Cu d87 2 ([eL 0 c8 x0,eI 3 v3],[]) ds [] K q):=nI ⟨aH,aH⟩ λn ⟨i,i2⟩=>⟨bX i2,
  bD (cP<|bH<|bD (jM cM)<|bD (aL<|cP<|cP<|bD cM<|aL<|bX i2)<|dK<|aL<|bX i2) cM⟩
def wt(x0:Γ bP):Bool:=nF (bB2 x0) 0 x0&&decide (x0.length<=8)
def bB6:KK:=mL d87 (DO aA7) nP (wt,()) (λ⟨x0,_⟩ h hwf K q =>
 (bB4 _ K q _).1 (aIU hwf.1.1))
def Ir(x0:bF):Bool:=if wm x0.1 then(if L7 x0.2.1 then(if Vg x0.2.2.1 then(if CR x0.2.2.2.1 then(if L8 x0.2.2.2.2.1 then(if He x0.2.2.2.2.2.1 then(if wn x0.2.2.2.2.2.2.1 then(if L9 x0.2.2.2.2.2.2.2.1 then(if wo x0.2.2.2.2.2.2.2.2.1 then(if w7 x0.2.2.2.2.2.2.2.2.2.1 then(if wq x0.2.2.2.2.2.2.2.2.2.2.1 then wt x0.2.2.2.2.2.2.2.2.2.2.2.1 else false)else false)else false)else false)else false)else false)else false)else false)else false)else false)else false
def bB7:KK:=mB Tryz.func22 [.p iT] [.bool] [bBo,aS5,bBr,aS6,aS7,aS8,bBx,aS9,bB0,aMW,bB3,bB6] nP (Ir,()) λ_=>bH<|dS (bH<|dS (bH<|dS (bH<|dS (bH<|dS (bH<|dS (bH<|dS (bH<|dS (bH<|dS (bH<|dS (bH<|dS (bH pr) pr)<|dK pr)<|dK<|dK pr)<|dK<|dK<|dK pr)<|dK<|dK<|dK<|dK pr)<|dK<|dK<|dK<|dK<|dK pr)<|dK<|dK<|dK<|dK<|dK<|dK pr)<|dK<|dK<|dK<|dK<|dK<|dK<|dK pr)<|dK<|dK<|dK<|dK<|dK<|dK<|dK<|dK pr)<|dK<|dK<|dK<|dK<|dK<|dK<|dK<|dK<|dK pr)<|dK<|dK<|dK<|dK<|dK<|dK<|dK<|dK<|dK<|dK pr
def P23(x0:bF):Prop:=(((0+aF x0.1)*40<=140737488355328)/\(((0+aF x0.2.2.1)*24<=140737488355328)/\(((0+aF x0.2.2.2.1)*24<=140737488355328)/\(((0+aF x0.2.2.2.2.2.2.1)*32<=140737488355328)/\(((0+aF x0.2.2.2.2.2.2.2.2.1)*40<=140737488355328)/\(((0+aF x0.2.2.2.2.2.2.2.2.2.1)*24<=140737488355328)/\(((0+aF x0.2.2.2.2.2.2.2.2.2.2.1)*32<=140737488355328)/\(((0+aF x0.2.2.2.2.2.2.2.2.2.2.2.1)*32<=140737488355328)/\True))))))))
def TF(x0:bF):bF:=([]++x0.1,(x0.2.1.1,x0.2.1.2.1,x0.2.1.2.2.1,x0.2.1.2.2.2.1,()),[]++x0.2.2.1,[]++x0.2.2.2.1,(x0.2.2.2.2.1.1,x0.2.2.2.2.1.2.1,x0.2.2.2.2.1.2.2.1,()),(x0.2.2.2.2.2.1.1,x0.2.2.2.2.2.1.2.1,x0.2.2.2.2.2.1.2.2.1,()),[]++x0.2.2.2.2.2.2.1,(x0.2.2.2.2.2.2.2.1.1,x0.2.2.2.2.2.2.2.1.2.1,x0.2.2.2.2.2.2.2.1.2.2.1,x0.2.2.2.2.2.2.2.1.2.2.2.1,()),[]++x0.2.2.2.2.2.2.2.2.1,[]++x0.2.2.2.2.2.2.2.2.2.1,[]++x0.2.2.2.2.2.2.2.2.2.2.1,[]++x0.2.2.2.2.2.2.2.2.2.2.2.1,())
def bJq:KK:=mA (D aA8 [.p iT] [.cons (.sl eC) YA1] [] [] true []) (DO aA8) P23 (TF,()) λ_=>aL<|aL<|aL<|aL<|aL<|aL<|aL<|aL pr
end
end Go.Proofs.YtbaoaedmbhpolaaGreatDoor
set_option maxRecDepth 100000
namespace Go.Proofs.YtbaoaedmbhpolaaGreatDoor
open Go Go.Am Go.Proofs
noncomputable section
def d88:gC:=D0 aA9 [.v (.str),.v (.int .u8)] [.sl .str] []
mutual
def R88:Nat->Δ->Int->Γ aS->Prop
 | 0,_,_,_=>False
 | n+1,x0,x1,ds=>Vi n 0 0 ([]) x0 x1 ds
def Vi:Nat->Int->Int->Γ Δ->Δ->Int->Γ aS->Prop
 | 0,_,_,_,_,_,_=>False
 | n+1,v6,v7,h0,x0,x1,ds=>if decide (v7<(↑(aG x0):Int))then 0<=v7/\v7<(↑(aG x0):Int)/\if(↑(cN (aD (cC (bO x0)) (aE v7) 0)):Int)==x1 then 0<=v6/\v6<=v7/\v7<=(↑(aG x0):Int)/\(aF h0+1)*16<=140737488355328/\aX .i64 (v7+1)/\aX .i64 (v7+1)/\Vi n (v7+1) (v7+1) (h0++[aO x0 (aE v6) (aE v7)]) x0 x1 ds else aX .i64 (v7+1)/\Vi n v6 (v7+1) h0 x0 x1 ds else 0<=v6/\v6<=(↑(aG x0):Int)/\(aF h0+1)*16<=140737488355328/\ds=[aI (.sl .str) (h0++[aO x0 (aE v6) (aE (↑(aG x0):Int))])]
end
def bB8(ds:Γ aS)(K:fG)(q:Nat->Value):∀n,(∀ {x0 x1},R88 n x0 x1 ds->St d88 (x0,x1,()) ds [] K q)/\(∀ {v6 v7 h0 x0 x1},Vi n v6 v7 h0 x0 x1 ds->Cu d88 4 ([eS 0 x0,(1,.a (.val (.int .u8 x1))),eW 5 0,eI 6 v6,eI 7 v7],[cL .str h0]) ds [] K q):=nI ⟨aH,aH⟩ λn ⟨i,i4⟩=>⟨bX i4,
  bD (cP<|bD (UE<|aL<|aL<|aL<|bX i4)<|aL<|bX i4)<|cP<|aL cM⟩
def c88(x1:Int):UInt8:=kJ x1.toNat
def bU(x0:Δ)(x1:Int):Γ Δ:=bss (dB (c88 x1) x0.data.toList)
def P88(x0:Δ)(x1:Int):Prop:=x0.size<4294967281/\0<=x1/\x1<=255
def bB9(x0:Δ)(x1:Int)(hs:x0.size<4294967281)(h0:0<=x1)(h1:x1<=255):∀(k i frm:Nat) (h:Γ Δ),i+k=x0.size->frm<=i->c88 x1 ∉ (x0.data.toList.drop frm).take (i-frm)->h.length<=i ->
  Vi (k+1) (frm:Int) (i:Int) h x0 x1 [⟨.sl .str,h++bss (dB (c88 x1) (x0.data.toList.drop frm))⟩]:=by
 intro k;have hll:x0.data.toList.length=x0.size:=rfl
 induction k with
 | zero =>
  intro i frm h hi hf hc hl;rw[Vi,ν (by lia)];refine⟨by lia,by lia,by lia,?_⟩;have e:(x0.data.toList.drop frm).take (i-frm)=x0.data.toList.drop frm:=eA (by grind);rw[e]at hc;rw[lE _ hc,aK,aK,Lib.extract_from];rfl
 | succ k ih =>
  intro i frm h hi hf hc hl;have hup:aX .i64 ((i:Int)+1):=by grind [aJ]
  have hlt:i<x0.data.toList.length:=by lia
  have hcons:x0.data.toList.drop i=x0.data.toList.getD i 0::x0.data.toList.drop (i+1):=dQ _ i 0 hlt;have hsplit:x0.data.toList.drop frm=(x0.data.toList.drop frm).take (i-frm)++x0.data.toList.drop i:=by
   conv=>lhs;rw[<- List.take_append_drop (i-frm) (x0.data.toList.drop frm)]
   simp_all
  rw[Vi,π (by lia)];simp only[aK];refine⟨by lia,by lia,?_⟩;have hb:(((x0.data.toList.getD i 0).toNat:Int)==x1)=true↔x0.data.toList.getD i 0=c88 x1:=by
   rw[beq_iff_eq, <- UInt8.toNat_inj]
   grind [c88,kJ,UInt8.toNat_ofNat']
  by_cases he:x0.data.toList.getD i 0=c88 x1
  ·rw[π (hb.2 he)];refine⟨by lia,by lia,by lia,by lia,hup,hup,?_⟩;have:=ih (i+1) (i+1) (h++[x0.extract frm i]) (by lia) (aU _) (by simp) (by grind);have e2:x0.extract frm i=⟨((x0.data.toList.drop frm).take (i-frm)).toArray⟩:=Lib.extract_mk x0.data.toList frm i;have e3:dB (c88 x1) (x0.data.toList.drop frm)=(x0.data.toList.drop frm).take (i-frm)::dB (c88 x1) (x0.data.toList.drop (i+1)):=by
    grind [nJ]
   rw[e3,e2];rw[List.append_assoc,e2]at this;exact this
  ·rw[ν (λhh=>he (hb.1 hh))];refine⟨hup,?_⟩;refine ih (i+1) frm h (by lia) (by lia) (λhm=>?_) (by lia);have e4:(x0.data.toList.drop frm).take (i+1-frm)=(x0.data.toList.drop frm).take (i-frm)++[x0.data.toList.getD i 0]:=by
    conv=>lhs;rw[hsplit,hcons]
    rw[List.take_append,eA (by grind)];have:i+1-frm-((x0.data.toList.drop frm).take (i-frm)).length=1:=by grind
    grind
   grind
def bBA(x0:Δ)(x1:Int)(h:P88 x0 x1):R88 (x0.size+1+1) x0 x1 [⟨.sl .str,bU x0 x1⟩]:=by
 rw[R88];have:=bB9 x0 x1 h.1 h.2.1 h.2.2 x0.size 0 0 [] (by omega) (aU _) (by simp) (by simp);simpa [bU] using this
def aB9:KK:=mL d88 (DO aA9) P88 (bU,()) (λ⟨x0,x1,_⟩ h hwf K q =>
 (bB8 _ K q _).1 (bBA x0 x1 h))
def aIZ(x0:b6)(x1:Int):Prop:=if x1==1 then True else if x1==2 then True else if x1==3 then True else aX .i64 (0-x0.2.1)/\True
def Vj(x0:b6)(x1:Int):Bool:=if x1==1 then(if decide (x0.1>0)then decide (x0.2.1>10)else false)else if x1==2 then(if decide (x0.1>0)then decide (x0.2.1<=10)else false)else if x1==3 then decide (x0.2.2.1>150)else decide (x0.2.1 < -100)
def Vk(x0:b6)(x1:Int):Int:=if x1==1 then(if decide (x0.1>0)then x0.1 else x0.1)else if x1==2 then(if decide (x0.1>0)then x0.1 else x0.1)else if x1==3 then x0.2.2.1 else 0-x0.2.1
def bBB:KK:=mB Tryz.func353 [.p cZ,.v (.int .i64)] [.bool,.int .i64] [] aIZ (Vj,Vk,()) λ_=>dL (vY pr pr)<|dL (vY pr pr)<|dL pr<|aL pr
def Dt(x0:Int)(x1:Int):Int:=if decide (x0<x1)then x0 else x1
def aQq:KK:=mB Tryz.func354 [.v (.int .i64),.v (.int .i64)] [.int .i64] [] nP (Dt,()) λ_=>dS pr pr
def aSE:gC:=D0 lf [.v (.sl cZ),.p cZ,.v (.int .i64)] [.int .i64] [bBB,aQq]
mutual
def bBC:Nat->Γ b6->Int×Int×Int×Unit->Int->Γ aS->Prop
 | 0,_,_,_,_=>False
 | n+1,x0,x1,x2,ds=>Is n 0 x0 x1 x2 ds
def Is:Nat->Int->Γ b6->Int×Int×Int×Unit->Int->Γ aS->Prop
 | 0,_,_,_,_,_=>False
 | n+1,v7,x0,x1,x2,ds=>if decide (v7<(x0.length:Int))then 0<=v7/\v7<(x0.length:Int)/\aIZ x1 (aD x0 (aE v7) (0,0,0,())).1/\if Vj x1 (aD x0 (aE v7) (0,0,0,())).1 then 0<=v7/\v7<(x0.length:Int)/\if decide (Vk x1 (aD x0 (aE v7) (0,0,0,())).1>(aD x0 (aE v7) (0,0,0,())).2.1)then 0<=v7/\v7<(x0.length:Int)/\aX .i64 (v7+1)/\Is n (v7+1) x0 x1 (Dt x2 (aD x0 (aE v7) (0,0,0,())).2.2.1) ds else aX .i64 (v7+1)/\Is n (v7+1) x0 x1 x2 ds else aX .i64 (v7+1)/\Is n (v7+1) x0 x1 x2 ds else ds=[aI (.int .i64) x2]
end
def aSF(ds:Γ aS)(K:fG)(q:Nat->Value):∀n,(∀ {x0 x1 x2},bBC n x0 x1 x2 ds->St aSE (x0,x1,x2,()) ds [] K q)/\(∀ {v7 x0 x1 x2},Is n v7 x0 x1 x2 ds->Cu aSE 2 ([eL 0 cZ x0,(1,.a (.ptr cZ x1)),eI 2 x2,eI 7 v7],[]) ds [] K q):=nI ⟨aH,aH⟩ λn ⟨i,i2⟩=>⟨bX i2,
  bD (cP<|aL<|bD (cP<|bD (cP<|bH<|aL<|bX i2)<|aL<|bX i2)<|dK<|aL<|bX i2) cM⟩
def br(x1:I3)(s:Int)(l:I3):Int:=if Vj x1 l.1=true then(if decide (Vk x1 l.1>l.2.1)=true then Dt s l.2.2.1 else s)else s
def gq(x0:Γ I3)(x1:I3)(x2:Int):Int:=x0.foldl (br x1) x2
def aSG(x0:Γ I3)(x1:I3)(x2:Int):Prop:=∀l∈x0,aIZ x1 l.1
def aSH(x0:Γ I3)(x1:I3)(hm:x0.length<=maxLen)(hp:∀l∈x0,aIZ x1 l.1):∀(k i:Nat) (s:Int),i+k=x0.length->Is (k+1) (i:Int) x0 x1 s [⟨.int .i64,(x0.drop i).foldl (br x1) s⟩]:=by
 intro k
 induction k with
 | zero =>
  intro i s hi;rw[Is,ν (by lia),bT (by lia)]<;>rfl
 | succ k ih =>
  intro i s hi;have hlt:i<x0.length:=by lia
  have hu:=iJ hm hlt;have e3:(i:Int)+1=((i+1:Nat):Int):=by lia
  have hx:=hp _ (cF x0 i (0,0,0,()) hlt);rw[Is,π (by lia),dQ x0 i (0,0,0,()) hlt,iQ,aK];generalize x0.getD i (0,0,0,())=l at *;refine⟨by lia,by lia,hx,?_⟩;unfold br;by_cases c:Vj x1 l.1=true
  ·refine(π c).mpr ⟨by lia,by lia,?_⟩;rw[π c];by_cases d:decide (Vk x1 l.1>l.2.1)=true
   ·refine(π d).mpr ⟨by lia,by lia,hu,?_⟩;rw[π d];exact ih (i+1) _ (by lia)
   ·refine(ν d).mpr ⟨hu,?_⟩;rw[ν d];exact ih (i+1) _ (by lia)
  ·refine(ν c).mpr ⟨hu,?_⟩;rw[ν c];exact ih (i+1) _ (by lia)
def bBD:KK:=mL aSE (DO lf) aSG (gq,()) (λ⟨x0,x1,x2,_⟩ h hwf K q =>
 (aSF _ K q ((x0.length+2))).1 (by rw[bBC];exact aSH x0 x1 hwf.1.1 h x0.length 0 x2 (by omega)))
def bE(x0:Int)(x1:Int)(x2:Int):Bool:=if decide (x0>=x1)then decide (x0<=x2)else false
def lF:KK:=mB Tryz.func174 [.v (.int .i64),.v (.int .i64),.v (.int .i64)] [.bool] [] nP (bE,()) λ_=>dS pr pr
def aBA(x0:Int):Bool:=bE x0 1 4
def bBE:KK:=mB Tryz.func278 [.v (.int .i64)] [.bool] [lF] nP (aBA,()) λ_=>bH pr
def GD(x0:Int):Bool:=bE x0 0 20000
def aQr:KK:=mB Tryz.func279 [.v (.int .i64)] [.bool] [lF] nP (GD,()) λ_=>bH pr
def qV(x0:b6):Bool:=if aBA x0.1 then(if bE x0.2.1 0 1000 then GD x0.2.2.1 else false)else false
def aQs:KK:=mB Tryz.func180 [.v cZ] [.bool] [bBE,lF,aQr] nP (qV,()) λ_=>bH<|dS (bH<|dS (bH pr) pr)<|dK pr
def It(x0:b6):Bool := !qV x0
def aQt:KK:=mB Tryz.func179 [.v cZ] [.bool] [aQs] nP (It,()) λ_=>bH pr
def RI{α:Type}(g:α->Bool)(e:α):Nat->Int->Γ α->Γ aS->Prop
 | 0,_,_,_=>False
 | n+1,v,x0,ds=>if decide (v<(x0.length:Int))then 0<=v/\v<(x0.length:Int)/\if g (aD x0 (aE v) e)then ds=[aI (.int .i64) v] else aX .i64 (v+1)/\RI g e n (v+1) x0 ds else ds=[aI (.int .i64) (-1)]
def RI0{α:Type}(g:α->Bool)(e:α):Nat->Γ α->Γ aS->Prop
 | 0,_,_=>False
 | n+1,x0,ds=>RI g e n 0 x0 ds
def Vl{α:Type}{g:α->Bool}{e:α}{x0:Γ α}(hm:x0.length<=maxLen):RI0 g e (x0.length+1+1) x0 [⟨.int .i64,idx (x0.findIdx? g)⟩]:=by
 rw[RI0];have key:=FE x0 e g [(⟨.int .i64, -1⟩:aS)] (λk=>[⟨.int .i64,k⟩]) (λn i ds=>RI g e n i x0 ds) (λn=>?_) (λn i hi hok ds hr=>?_) (λn i hi hok=>?_)
 ·cases h:x0.findIdx? g <;> rw[h]at key <;> exact key
 ·rw[RI,ν (by simp)]
 ·rw[RI,π (by simp;omega)];simp only[aK];refine⟨by omega,by omega,?_⟩;rw[ν (by rw[hok];simp)];exact⟨iJ hm hi,hr⟩
 ·rw[RI,π (by simp;omega)];simp only[aK];refine⟨by omega,by omega,?_⟩;rw[π hok] <;> trivial
def Vm{α:Type}{g:α->Bool}{x0:Γ α}:decide (idx (x0.findIdx? g)>=0)=x0.any g:=by
 have:=DW g x0;cases h:x0.any g <;> rw[h]at this <;> simpa using this
def Vn:gC:=D0 lg [.v (.sl cZ),.fn 179 []] [.int .i64] [aQt]
def aBB(ds:Γ aS)(K:fG)(q:Nat->Value):∀n,(∀ {x0},RI0 It (0,0,0,()) n x0 ds->St Vn (x0,(),()) ds [] K q)/\(∀ {v8 x0},RI It (0,0,0,()) n v8 x0 ds->Cu Vn 2 ([eL 0 cZ x0,(1,PV.fn 179 []),eI 7 (x0.length:Int),eI 8 v8],[]) ds [] K q):=nI ⟨aH,aH⟩ λn ⟨i,i2⟩=>⟨bX i2,
  bD (cP<|bH<|bD cM<|aL<|bX i2) cM⟩
def MW(x0:Γ b6):Int:=idx (x0.findIdx? It)
def aFX:KK:=mL Vn (DO lg) nP (MW,()) (λ⟨x0,_⟩ h hwf K q =>
 (aBB _ K q _).1 (Vl hwf.1.1))
theorem MX(x0:Γ b6):decide (MW x0>=0)=x0.any It:=Vm
def CT(x0:Γ b6):Bool:=decide (MW x0>=0)
def aFY:KK:=mB Tryz.func178 [.v (.sl cZ),.fn 179 []] [.bool] [aFX,aQt] nP (CT,()) λ_=>bH pr
def qW(x0:Γ b6):Bool:=if decide ((x0.length:Int)<=8)then !CT x0 else false
def aQu:KK:=mB Tryz.func103 [.v (.sl cZ)] [.bool] [aFY] nP (qW,()) λ_=>dS (bH pr) pr
def xW(x0:b6):Bool:=if bE x0.1 0 1000 then(if bE x0.2.1 (-400) 500 then bE x0.2.2.1 0 1000 else false)else false
def aQv:KK:=mB Tryz.func177 [.v cZ] [.bool] [lF] nP (xW,()) λ_=>bH<|dS (bH<|dS (bH pr) pr)<|dK pr
def Iu(x0:b6):Bool := !xW x0
def aQw:KK:=mB Tryz.func176 [.v cZ] [.bool] [aQv] nP (Iu,()) λ_=>bH pr
def Vo:gC:=D0 lh [.v (.sl cZ),.fn 176 []] [.int .i64] [aQw]
def aBC(ds:Γ aS)(K:fG)(q:Nat->Value):∀n,(∀ {x0},RI0 Iu (0,0,0,()) n x0 ds->St Vo (x0,(),()) ds [] K q)/\(∀ {v8 x0},RI Iu (0,0,0,()) n v8 x0 ds->Cu Vo 2 ([eL 0 cZ x0,(1,PV.fn 176 []),eI 7 (x0.length:Int),eI 8 v8],[]) ds [] K q):=nI ⟨aH,aH⟩ λn ⟨i,i2⟩=>⟨bX i2,
  bD (cP<|bH<|bD cM<|aL<|bX i2) cM⟩
def MY(x0:Γ b6):Int:=idx (x0.findIdx? Iu)
def aFZ:KK:=mL Vo (DO lh) nP (MY,()) (λ⟨x0,_⟩ h hwf K q =>
 (aBC _ K q _).1 (Vl hwf.1.1))
theorem MZ(x0:Γ b6):decide (MY x0>=0)=x0.any Iu:=Vm
def CU(x0:Γ b6):Bool:=decide (MY x0>=0)
def aGa:KK:=mB Tryz.func175 [.v (.sl cZ),.fn 176 []] [.bool] [aFZ,aQw] nP (CU,()) λ_=>bH pr
def u0(x0:Γ b6):Bool:=if decide ((x0.length:Int)<=48)then !CU x0 else false
def aQx:KK:=mB Tryz.func102 [.v (.sl cZ)] [.bool] [aGa] nP (u0,()) λ_=>dS (bH pr) pr
def Vp(x0:b6)(x1:Int):Bool:=if x1==1 then(if decide (x0.1>0)then decide (x0.2.1>10)else false)else if x1==2 then(if decide (x0.1>0)then decide (x0.2.1<=10)else false)else if x1==3 then decide (x0.2.2.1>150)else decide (x0.2.1 < -100)
def bBF:KK:=mB Tryz.func530 [.v cZ,.v (.int .i64)] [.bool] [] nP (Vp,()) λ_=>dS (dS pr pr)<|dS (dS pr pr)<|dS pr pr
def aJa(x0:b6)(x1:b6):Prop:=if x0.1==3 then True else if x0.1==4 then aX .i64 (0-x1.2.1)/\True else True
def Vq(x0:b6)(x1:b6):Bool:=if x0.1==3 then(if Vp x1 x0.1 then decide (x1.2.2.1>x0.2.1)else false)else if x0.1==4 then(if Vp x1 x0.1 then decide (0-x1.2.1>x0.2.1)else false)else if Vp x1 x0.1 then decide (x1.1>x0.2.1)else false
def bBG:KK:=mB Tryz.func495 [.v cZ,.v cZ] [.bool] [bBF] aJa (Vq,()) λ_=>lT (bH<|dS pr pr)<|lT (aL<|bH<|dS pr pr)<|bH<|dS pr pr
def aSI:gC:=D0 lj [.v (.sl cZ),.v cZ,.v (.int .i64)] [.int .i64] [bBG]
mutual
def bBH:Nat->Γ b6->Int×Int×Int×Unit->Int->Γ aS->Prop
 | 0,_,_,_,_=>False
 | n+1,x0,x1,x2,ds=>M0 n 0 x2 x0 x1 ds
def M0:Nat->Int->Int->Γ b6->Int×Int×Int×Unit->Γ aS->Prop
 | 0,_,_,_,_,_=>False
 | n+1,v11,x2,x0,x1,ds=>if decide (v11<(x0.length:Int))then 0<=v11/\v11<(x0.length:Int)/\aJa (aD x0 (aE v11) (0,0,0,())) x1/\if Vq (aD x0 (aE v11) (0,0,0,())) x1 then aX .i64 (v11+1)/\M0 n (v11+1) (if(aD x0 (aE v11) (0,0,0,())).2.2.1<x2 then(aD x0 (aE v11) (0,0,0,())).2.2.1 else x2) x0 x1 ds else aX .i64 (v11+1)/\M0 n (v11+1) x2 x0 x1 ds else ds=[aI (.int .i64) x2]
end
def aSJ(ds:Γ aS)(K:fG)(q:Nat->Value):∀n,(∀ {x0 x1 x2},bBH n x0 x1 x2 ds->St aSI (x0,x1,x2,()) ds [] K q)/\(∀ {v11 x2 x0 x1},M0 n v11 x2 x0 x1 ds->Cu aSI 2 ([eI 2 x2,eO 4 0 0 [],eL 9 cZ x0,eI 10 (x0.length:Int),eI 11 v11],[some (fE cZ [x1] true none (some false))]) ds [] K q):=nI ⟨aH,aH⟩ λn ⟨i,i2⟩=>⟨bX i2,
  bD (cP<|aL<|bD (aL<|bX i2)<|aL<|bX i2) cM⟩
def bu(x1:I3)(s:Int)(l:I3):Int:=if Vq l x1=true then(if l.2.2.1<s then l.2.2.1 else s)else s
def M1(x0:Γ I3)(x1:I3)(x2:Int):Int:=x0.foldl (bu x1) x2
def aMX(x0:Γ I3)(x1:I3)(x2:Int):Prop:=∀l∈x0,aJa l x1
def aSK(x0:Γ I3)(x1:I3)(hm:x0.length<=maxLen)(hp:∀l∈x0,aJa l x1):∀(k i:Nat) (s:Int),i+k=x0.length->M0 (k+1) (i:Int) s x0 x1 [⟨.int .i64,(x0.drop i).foldl (bu x1) s⟩]:=by
 intro k
 induction k with
 | zero =>
  intro i s hi;rw[M0,ν (by lia),bT (by lia)]<;>rfl
 | succ k ih =>
  intro i s hi;have hlt:i<x0.length:=by lia
  have hu:=iJ hm hlt;have e3:(i:Int)+1=((i+1:Nat):Int):=by lia
  have hx:=hp _ (cF x0 i (0,0,0,()) hlt);rw[M0,π (by lia),dQ x0 i (0,0,0,()) hlt,iQ,aK];generalize x0.getD i (0,0,0,())=l at *;refine⟨by lia,by lia,hx,?_⟩;unfold bu;by_cases c:Vq l x1=true
  ·refine(π c).mpr ⟨hu,?_⟩;rw[π c];exact ih (i+1) _ (by lia)
  ·refine(ν c).mpr ⟨hu,?_⟩;rw[ν c];exact ih (i+1) _ (by lia)
def bBI:KK:=mL aSI (DO lj) aMX (M1,()) (λ⟨x0,x1,x2,_⟩ h hwf K q =>
 (aSJ _ K q ((x0.length+2))).1 (by rw[bBH];exact aSK x0 x1 hwf.1.1 h x0.length 0 x2 (by omega)))
def aSL:gC:=D0 ll [.v (.sl cZ),.v (.sl cZ)] [.sl Za,.int .i64] [aQu,aQx,bBI]
mutual
def aJb:Nat->Γ b6->Γ b6->Γ aS->Prop
 | 0,_,_,_=>False
 | n+1,x0,x1,ds=>if !qW x0 then ds=[aI (.sl Za) [],aI (.int .i64) 1] else if !u0 x1 then ds=[aI (.sl Za) [],aI (.int .i64) 1] else M2 n 0 ([]) x0 x1 ds
def M2:Nat->Int->Γ Int->Γ b6->Γ b6->Γ aS->Prop
 | 0,_,_,_,_,_=>False
 | n+1,v19,h0,x0,x1,ds=>if decide (v19<(x1.length:Int))then 0<=v19/\v19<(x1.length:Int)/\aMX x0 (aD x1 (aE v19) (0,0,0,())) 1/\if decide (M1 x0 (aD x1 (aE v19) (0,0,0,())) 1>0)then(aF h0+1)*8<=140737488355328/\aX .i64 (v19+1)/\M2 n (v19+1) (h0++[v19]) x0 x1 ds else aX .i64 (v19+1)/\M2 n (v19+1) h0 x0 x1 ds else ds=[aI (.sl Za) h0,aI (.int .i64) 0]
end
def aSM(ds:Γ aS)(K:fG)(q:Nat->Value):∀n,(∀ {x0 x1},aJb n x0 x1 ds->St aSL (x0,x1,()) ds [] K q)/\(∀ {v19 h0 x0 x1},M2 n v19 h0 x0 x1 ds->Cu aSL 5 ([eL 0 cZ x0,eW 6 0,eL 17 cZ x1,eI 18 (x1.length:Int),eI 19 v19],[cL (.int .i64) h0]) ds [] K q):=nI ⟨aH,aH⟩ λn ⟨i,i5⟩=>⟨bH<|bD (jM cM)<|bH<|bD cM<|Dr [(6,.int .i64)] i5,
  bD (cP<|aL<|bD (aL<|aL<|Dr [(6,.int .i64)] i5)<|aL<|Dr [(6,.int .i64)] i5) cM⟩
def vN(x0:Γ I3):Γ I3->Nat->Γ Int
 | [],_=>[]
 | h::r,i=>if decide (M1 x0 h 1>0)=true then(i:Int)::vN x0 r (i+1)else vN x0 r (i+1)
def Hf(x0 x1:Γ I3):Bool:=qW x0&&u0 x1
def Du(x0 x1:Γ I3):Γ Int:=if Hf x0 x1 then vN x0 x1 0 else []
def Iv(x0 x1:Γ I3):Int:=if Hf x0 x1 then 0 else 1
def aMY(x0 x1:Γ I3):Prop:=Hf x0 x1=true->x1.length<=1000000/\∀h∈x1,aMX x0 h 1
def aSN(x0 x1:Γ I3)(hl:x1.length<=1000000)(hp:∀h∈x1,aMX x0 h 1):∀(k i:Nat) (h0:Γ Int),i+k=x1.length->h0.length<=i->M2 (k+1) (i:Int) h0 x0 x1 [⟨.sl Za,h0++vN x0 (x1.drop i) i⟩,⟨.int .i64,0⟩]:=by
 intro k
 induction k with
 | zero =>
  intro i h0 hi hh;rw[M2,ν (by lia),bT (by lia),vN,dN]
 | succ k ih =>
  intro i h0 hi hh;have hlt:i<x1.length:=by lia
  have e3:(i:Int)+1=((i+1:Nat):Int):=by lia
  have hx:=hp _ (cF x1 i (0,0,0,()) hlt);rw[M2,π (by lia),dQ x1 i (0,0,0,()) hlt,vN,aK];generalize x1.getD i (0,0,0,())=l at *;refine⟨by lia,by lia,hx,?_⟩;by_cases c:decide (M1 x0 l 1>0)=true
  ·have:=ih (i+1) (h0++[(i:Int)]) (by lia) (by grind);refine(π c).mpr ⟨by lia,by grind [aJ],?_⟩
   grind
  ·refine(ν c).mpr ⟨by grind [aJ],?_⟩
   grind
def aSO(x0 x1:Γ I3)(h:aMY x0 x1):∃n,aJb n x0 x1 [⟨.sl Za,Du x0 x1⟩,⟨.int .i64,Iv x0 x1⟩]:=by
 unfold Du Iv;by_cases c1:qW x0=true
 ·by_cases c2:u0 x1=true
  ·have e:Hf x0 x1=true:=by unfold Hf;rw[c1,c2]<;>rfl
   obtain⟨p1,p2⟩:=h e;refine⟨x1.length+1+1,?_⟩;rw[aJb,ν (by rw[c1];decide),ν (by rw[c2];decide),π e,π e];exact aSN x0 x1 p1 p2 x1.length 0 [] (by omega) (aY _)
  ·have e:¬Hf x0 x1=true:=by unfold Hf;rw[Hb c2,Ct];decide
   exact⟨1,by rw[aJb,ν (by rw[c1];decide),π (by rw[Hb c2]<;>rfl),ν e,ν e]⟩
 ·have e:¬Hf x0 x1=true:=by unfold Hf;rw[Hb c1,yP];decide
  exact⟨1,by rw[aJb,π (by rw[Hb c1]<;>rfl),ν e,ν e]⟩
def bBJ:KK:=mL aSL (DO ll) aMY (Du,Iv,()) (λ⟨x0,x1,_⟩ h hwf K q =>
 let ⟨n,hn⟩:=aSO x0 x1 h
 (aSM _ K q n).1 hn)
def aBD(x0:Int):Bool:=bE x0 0 1000
def bBK:KK:=mB Tryz.func297 [.v (.int .i64)] [.bool] [lF] nP (aBD,()) λ_=>bH pr
def Qz(x0:Int):Bool := !aBD x0
def aQy:KK:=mB Tryz.func296 [.v (.int .i64)] [.bool] [bBK] nP (Qz,()) λ_=>bH pr
def Vr:gC:=D0 rG [.v (.sl Za),.fn 296 []] [.int .i64] [aQy]
def aBE(ds:Γ aS)(K:fG)(q:Nat->Value):∀n,(∀ {x0},RI0 Qz 0 n x0 ds->St Vr (x0,(),()) ds [] K q)/\(∀ {v8 x0},RI Qz 0 n v8 x0 ds->Cu Vr 2 ([eL 0 (.int .i64) x0,(1,PV.fn 296 []),eI 7 (x0.length:Int),eI 8 v8],[]) ds [] K q):=nI ⟨aH,aH⟩ λn ⟨i,i2⟩=>⟨bX i2,
  bD (cP<|bH<|bD cM<|aL<|bX i2) cM⟩
def M3(x0:Γ (Int)):Int:=idx (x0.findIdx? Qz)
def aGb:KK:=mL Vr (DO rG) nP (M3,()) (λ⟨x0,_⟩ h hwf K q =>
 (aBE _ K q _).1 (Vl hwf.1.1))
theorem Vs(x0:Γ (Int)):decide (M3 x0>=0)=x0.any Qz:=Vm
def GE(x0:Γ Int):Bool:=decide (M3 x0>=0)
def aGc:KK:=mB HX [.v (.sl Za),.fn 296 []] [.bool] [aGb,aQy] nP (GE,()) λ_=>bH pr
def pT(x0:Γ Int):Bool:=if decide ((x0.length:Int)>=1)then(if decide ((x0.length:Int)<=60)then !GE x0 else false)else false
def aJc:KK:=mB Tryz.func195 [.v (.sl Za)] [.bool] [aGc] nP (pT,()) λ_=>dS (dS (bH pr) pr)<|dK pr
def M4(x0:Int):Bool:=bE x0 1 60
def bBL:KK:=mB Tryz.func438 [.v (.int .i64)] [.bool] [lF] nP (M4,()) λ_=>bH pr
def Iw(x0:Int):Bool:=bE x0 1 1000
def bBM:KK:=mB Tryz.func439 [.v (.int .i64)] [.bool] [lF] nP (Iw,()) λ_=>bH pr
def sZ(x0:Γ Int)(x1:Bool):Int:=if !pT x0 then 1 else if !x1 then 2 else 0
def bBN:KK:=mB Tryz.func437 [.v (.sl Za),.v (.bool)] [.int .i64] [aJc] nP (sZ,()) λ_=>bH<|dS pr<|dS pr pr
def aSP:gC:=D0 lm [.v (.sl Za),.v (.int .i64),.v (.int .i64),.v (.int .i64)] [.sl Za] []
mutual
def bBO:Nat->Γ Int->Int->Int->Int->Γ aS->Prop
 | 0,_,_,_,_,_=>False
 | n+1,x0,x1,x2,x3,ds=>Dv n 0 0 ([]) x1 x2 x3 x0 ds
def Dv:Nat->Int->Int->Γ Int->Int->Int->Int->Γ Int->Γ aS->Prop
 | 0,_,_,_,_,_,_,_,_=>False
 | n+1,v10,v16,h0,x1,x2,x3,x0,ds=>if decide (v16<(x0.length:Int))then 0<=v16/\v16<(x0.length:Int)/\aX .i64 (v16+1)/\aX .i64 (v10+aD x0 (aE v16) 0)/\x1≠0/\aX .i64 (bY (v16+1) x1)/\if bY (v16+1) x1==0 then aX .i64 (v10+aD x0 (aE v16) 0-if x2<v10+aD x0 (aE v16) 0 then x2 else v10+aD x0 (aE v16) 0)/\if v16+1==x3 then aX .i64 ((v10+aD x0 (aE v16) 0-if x2<v10+aD x0 (aE v16) 0 then x2 else v10+aD x0 (aE v16) 0)-if x2<v10+aD x0 (aE v16) 0-if x2<v10+aD x0 (aE v16) 0 then x2 else v10+aD x0 (aE v16) 0 then x2 else v10+aD x0 (aE v16) 0-if x2<v10+aD x0 (aE v16) 0 then x2 else v10+aD x0 (aE v16) 0)/\(aF h0+1)*8<=140737488355328/\aX .i64 (v16+1)/\Dv n ((v10+aD x0 (aE v16) 0-if x2<v10+aD x0 (aE v16) 0 then x2 else v10+aD x0 (aE v16) 0)-if x2<v10+aD x0 (aE v16) 0-if x2<v10+aD x0 (aE v16) 0 then x2 else v10+aD x0 (aE v16) 0 then x2 else v10+aD x0 (aE v16) 0-if x2<v10+aD x0 (aE v16) 0 then x2 else v10+aD x0 (aE v16) 0) (v16+1) (h0++[(v10+aD x0 (aE v16) 0-if x2<v10+aD x0 (aE v16) 0 then x2 else v10+aD x0 (aE v16) 0)-if x2<v10+aD x0 (aE v16) 0-if x2<v10+aD x0 (aE v16) 0 then x2 else v10+aD x0 (aE v16) 0 then x2 else v10+aD x0 (aE v16) 0-if x2<v10+aD x0 (aE v16) 0 then x2 else v10+aD x0 (aE v16) 0]) x1 x2 x3 x0 ds else(aF h0+1)*8<=140737488355328/\aX .i64 (v16+1)/\Dv n (v10+aD x0 (aE v16) 0-if x2<v10+aD x0 (aE v16) 0 then x2 else v10+aD x0 (aE v16) 0) (v16+1) (h0++[v10+aD x0 (aE v16) 0-if x2<v10+aD x0 (aE v16) 0 then x2 else v10+aD x0 (aE v16) 0]) x1 x2 x3 x0 ds else if v16+1==x3 then aX .i64 (v10+aD x0 (aE v16) 0-if x2<v10+aD x0 (aE v16) 0 then x2 else v10+aD x0 (aE v16) 0)/\(aF h0+1)*8<=140737488355328/\aX .i64 (v16+1)/\Dv n (v10+aD x0 (aE v16) 0-if x2<v10+aD x0 (aE v16) 0 then x2 else v10+aD x0 (aE v16) 0) (v16+1) (h0++[v10+aD x0 (aE v16) 0-if x2<v10+aD x0 (aE v16) 0 then x2 else v10+aD x0 (aE v16) 0]) x1 x2 x3 x0 ds else(aF h0+1)*8<=140737488355328/\aX .i64 (v16+1)/\Dv n (v10+aD x0 (aE v16) 0) (v16+1) (h0++[v10+aD x0 (aE v16) 0]) x1 x2 x3 x0 ds else ds=[aI (.sl Za) h0]
end
def aSQ(ds:Γ aS)(K:fG)(q:Nat->Value):∀n,(∀ {x0 x1 x2 x3},bBO n x0 x1 x2 x3 ds->St aSP (x0,x1,x2,x3,()) ds [] K q)/\(∀ {v10 v16 h0 x1 x2 x3 x0},Dv n v10 v16 h0 x1 x2 x3 x0 ds->Cu aSP 4 ([eI 1 x1,eI 2 x2,eI 3 x3,eW 9 0,eI 10 v10,eL 14 (.int .i64) x0,eI 15 (x0.length:Int),eI 16 v16],[cL (.int .i64) h0]) ds [] K q):=nI ⟨aH,aH⟩ λn ⟨i,i4⟩=>⟨Dr [(9,.int .i64)] i4,
  bD (cP<|aL<|aL<|cP<|bD (aL<|bD (aL<|aL<|aL<|Dr [(9,.int .i64)] i4)<|aL<|aL<|Dr [(9,.int .i64)] i4)<|bD (aL<|aL<|aL<|Dr [(9,.int .i64)] i4)<|aL<|aL<|Dr [(9,.int .i64)] i4) cM⟩
def uT(x2 w:Int):Int:=w-if x2<w then x2 else w
def DY(x1 x2 x3:Int)(i:Nat)(w x:Int):Int:=if(bY ((i:Int)+1) x1==0)=true then(if((i:Int)+1==x3)=true then uT x2 (uT x2 (w+x))else uT x2 (w+x))else if((i:Int)+1==x3)=true then uT x2 (w+x)else w+x
def xX(x1 x2 x3:Int):Γ Int->Nat->Int->Γ Int
 | [],_,_=>[]
 | x::r,i,w=>DY x1 x2 x3 i w x::xX x1 x2 x3 r (i+1) (DY x1 x2 x3 i w x)
def RA(x0:Γ Int)(x1 x2 x3:Int):Γ Int:=xX x1 x2 x3 x0 0 0
def aGd(x0:Γ Int)(x1 x2 x3:Int):Prop:=(1<=x1/\x1<=1000000)/\0<=x2/\x0.length<=1000/\∀x∈x0,0<=x/\x<=1000
def Ix{x2 w:Int}(h:0<=x2)(hw:0<=w):0<=uT x2 w/\uT x2 w<=w:=by
 grind [uT]
def aSR(x0:Γ Int)(x1 x2 x3:Int)(h:aGd x0 x1 x2 x3):∀(k i:Nat) (w:Int) (h0:Γ Int),i+k=x0.length->0<=w->w<=1000*(i:Int)->h0.length<=i->Dv (k+1) w (i:Int) h0 x1 x2 x3 x0 [⟨.sl Za,h0++xX x1 x2 x3 (x0.drop i) i w⟩]:=by
 obtain⟨⟨p1,p1'⟩,p2,p3,p4⟩:=h;intro k
 induction k with
 | zero =>
  intro i w h0 hi h1 h2 hl;rw[Dv,ν (by lia),bT (by lia),xX,dN]
 | succ k ih =>
  intro i w h0 hi h1 h2 hl;have hlt:i<x0.length:=by lia
  have e3:(i:Int)+1=((i+1:Nat):Int):=by lia
  have hx:=p4 _ (cF x0 i 0 hlt);have t2:=Int.tmod_lt_of_pos ((i:Int)+1) (show 0<x1 by lia);rw[dQ x0 i 0 hlt,xX,Dv,π (by lia),aK];generalize x0.getD i 0=x at *;obtain⟨d1,d2⟩:=Ix p2 (show 0<=w+x by lia);obtain⟨d3,d4⟩:=Ix p2 d1;have step:∀w',DY x1 x2 x3 i w x=w'->0<=w'->w'<=w+x->(h0.length+1)*8<=140737488355328/\aX .i64 ((i:Int)+1)/\Dv (k+1) w' ((i:Int)+1) (h0++[w']) x1 x2 x3 x0 [⟨.sl Za,h0++DY x1 x2 x3 i w x::xX x1 x2 x3 (x0.drop (i+1)) (i+1) (DY x1 x2 x3 i w x)⟩]:=λw' e a b=>by
   have:=ih (i+1) w' (h0++[w']) (by lia) a (by lia) (by grind);rw[e,e3]
   grind [aJ]
  have hn:DY x1 x2 x3 i w x=if(bY ((i:Int)+1) x1==0)=true then(if((i:Int)+1==x3)=true then uT x2 (uT x2 (w+x))else uT x2 (w+x))else if((i:Int)+1==x3)=true then uT x2 (w+x)else w+x:=rfl
  refine⟨by lia,by lia,by lia,by grind [aJ],by lia,by grind [aJ],?_⟩;by_cases c:(bY ((i:Int)+1) x1==0)=true
  ·rw[π c]at hn;refine(π c).mpr ⟨show aX .i64 (uT x2 (w+x))by grind [aJ],?_⟩;by_cases d:((i:Int)+1==x3)=true
   ·rw[π d]at hn;exact(π d).mpr ⟨show aX .i64 (uT x2 (uT x2 (w+x)))by grind [aJ],step _ hn d3 (by lia)⟩
   ·rw[ν d]at hn;exact(ν d).mpr (step _ hn d1 d2)
  ·rw[ν c]at hn;refine(ν c).mpr ?_;by_cases d:((i:Int)+1==x3)=true
   ·rw[π d]at hn;exact(π d).mpr ⟨show aX .i64 (uT x2 (w+x))by grind [aJ],step _ hn d1 d2⟩
   lia
def bBP:KK:=mL aSP (DO lm) aGd (RA,()) (λ⟨x0,x1,x2,x3,_⟩ h hwf K q =>
 (aSQ _ K q ((x0.length+2))).1 (by rw[bBO];exact aSR x0 x1 x2 x3 h x0.length 0 0 [] (by omega) (dX _) (by omega) (aY _)))
def aGe(x0:Γ Int)(x1:Int)(x2:Int):Prop:=if M4 x1 then(if sZ x0 (Iw x2) != 0 then True else aGd x0 x1 x2 0/\True)else if sZ x0 false != 0 then True else aGd x0 x1 x2 0/\True
def Iy(x0:Γ Int)(x1:Int)(x2:Int):Γ Int:=if M4 x1 then(if sZ x0 (Iw x2) != 0 then [] else RA x0 x1 x2 0)else if sZ x0 false != 0 then [] else RA x0 x1 x2 0
def RB(x0:Γ Int)(x1:Int)(x2:Int):Int:=if M4 x1 then(if sZ x0 (Iw x2) != 0 then sZ x0 (Iw x2)else 0)else if sZ x0 false != 0 then sZ x0 false else 0
def bBQ:KK:=mB Tryz.func333 [.v (.sl Za),.v (.int .i64),.v (.int .i64)] [.sl Za,.int .i64] [bBL,bBM,bBN,bBP] aGe (Iy,RB,()) λ_=>bH<|dL (bH<|bH<|dL pr<|aL pr)<|bH<|dL pr<|aL pr
def aSS:gC:=D0 ln [.v (.str)] [.bool] []
mutual
def aST:Nat->Δ->Γ aS->Prop
 | 0,_,_=>False
 | n+1,x0,ds=>if decide ((↑(aG x0):Int)<1)then ds=[aI .bool false] else if decide ((↑(aG x0):Int)>10)then ds=[aI .bool false] else Az n 0 x0 ds
def Az:Nat->Int->Δ->Γ aS->Prop
 | 0,_,_,_=>False
 | n+1,Hw,x0,ds=>if decide (Hw<(↑(aF (cD x0)):Int))then 0<=Hw/\Hw<(↑(aF (cD x0)):Int)/\if decide (aD (cD x0) (aE Hw) 0>=97)then(if decide (aD (cD x0) (aE Hw) 0>=48)then(if !decide (aD (cD x0) (aE Hw) 0<=122)then(if Hw==0 then ds=[aI .bool false] else if !decide (aD (cD x0) (aE Hw) 0<=57)then ds=[aI .bool false] else aX .i64 (Hw+1)/\Az n (Hw+1) x0 ds)else aX .i64 (Hw+1)/\Az n (Hw+1) x0 ds)else if !decide (aD (cD x0) (aE Hw) 0<=122)then(if Hw==0 then ds=[aI .bool false] else ds=[aI .bool false])else aX .i64 (Hw+1)/\Az n (Hw+1) x0 ds)else if decide (aD (cD x0) (aE Hw) 0>=48)then(if Hw==0 then ds=[aI .bool false] else if !decide (aD (cD x0) (aE Hw) 0<=57)then ds=[aI .bool false] else aX .i64 (Hw+1)/\Az n (Hw+1) x0 ds)else if Hw==0 then ds=[aI .bool false] else ds=[aI .bool false] else ds=[aI .bool true]
end
def aSU(ds:Γ aS)(K:fG)(q:Nat->Value):∀n,(∀ {x0},aST n x0 ds->St aSS (x0,()) ds [] K q)/\(∀ {Hw x0},Az n Hw x0 ds->Cu aSS 4 ([eW 16 0,eI 17 (↑(aF (cD x0)):Int),eI 18 Hw],[cL (.int .u8) (cD x0)]) ds [] K q):=nI ⟨aH,aH⟩ λn ⟨i,i4⟩=>⟨bD (jM cM)<|bD cM<|bX i4,
  bD (cP<|bD (bD (bD (bD (jM cM)<|bD cM<|aL<|bX i4)<|dK<|aL<|bX i4)<|bD (bD (jM cM)<|jM cM)<|dK<|aL<|bX i4)<|bD (jM<|bD (jM cM)<|bD cM<|aL<|bX i4)<|jM<|bD (jM cM)<|jM cM) cM⟩
def La(i:Nat)(b:Int):Bool:=(decide (97<=b)&&decide (b<=122))||(!(i==0)&&(decide (48<=b)&&decide (b<=57)))
def s6(x0:Δ):Bool:=decide (1<=x0.size)&&decide (x0.size<=10)&&nF La 0 (cD x0)
def aDZ(n i:Nat)(x0:Δ)(hw:Wf .str x0)(hi:i<(cD x0).length)(ds:Γ aS) :
  Az (n+1) (i:Int) x0 ds↔(if La i ((cD x0).getD i 0)=true then Az n ((i:Int)+1) x0 ds else ds=[⟨.bool,false⟩]):=by
 have hu:=iJ (xs:=cD x0) (by rw[sW];exact hw) hi;rw[Az,π (by simp;omega)];simp only[aK];have hb:(0:Int)<=(i:Int)/\(i:Int)<((cD x0).length:Int):=by omega
 have hz:((i:Int)==0)=(i==0):=by
  cases i with
  | zero=>rfl
  | succ k=>simp;omega
 simp only[hz,La,hu,true_and,hb.1,hb.2,ge_iff_le];by_cases h1:(97:Int)<=(cD x0).getD i 0 <;> by_cases h2:(cD x0).getD i 0<=122 <;> by_cases h3:(48:Int)<=(cD x0).getD i 0 <;> by_cases h4:(cD x0).getD i 0<=57 <;> rcases Bool.eq_false_or_eq_true (i==0)with e0 | e0 <;> first | (exfalso;omega) | simp only[h1,h2,h3,h4,e0,decide_true,decide_false,Bool.not_true,Bool.not_false,Ei,yP,Bool.and_true,Ct,Bool.true_or,Bool.or_true,Bool.or_false,Lm,if_true,if_false,Bool.false_eq_true]
def aSV(x0:Δ)(hw:Wf .str x0):aST (x0.size+1+1) x0 [⟨.bool,s6 x0⟩]:=by
 have hl:=sW x0;rw[aST];by_cases h0:(x0.size:Int)<1
 ·rw[π (by simpa using h0)];have:¬1<=x0.size:=by omega
  simp[s6,this]
 ·rw[ν (by simpa using h0)];by_cases h1:(x0.size:Int)>10
  ·rw[π (by simpa using h1)];have:¬x0.size<=10:=by omega
   simp[s6,this]
  ·rw[ν (by simpa using h1)];have key:=zV (cD x0) 0 La [(⟨.bool,false⟩:aS)] [⟨.bool,true⟩] (λn i ds=>Az n i x0 ds) (λn=>?_) (λn i hi hok ds hr=>?_) (λn i hi hok=>?_)
   ·rw[hl]at key;have e:s6 x0=nF La 0 (cD x0):=by
     have a:1<=x0.size:=by omega
     have b:x0.size<=10:=by omega
     simp[s6,a,b]
    rw[e];cases h:nF La 0 (cD x0)with
    | true=>rw[π h]at key;exact key
    | false=>rw[ν (by rw[h];simp)]at key;exact key
   ·show Az (n+1) ((cD x0).length:Int) x0 _;rw[Az,ν (by simp)]
   ·exact(aDZ n i x0 hw hi ds).2 (by rw[π hok];exact hr)
   ·exact(aDZ n i x0 hw hi _).2 (by rw[ν (by rw[hok];simp)])
def wu:KK:=mL aSS (DO ln) nP (s6,()) (λ⟨x0,_⟩ h hwf K q =>
 (aSU _ K q _).1 (aSV x0 hwf.1))
def Iz(x0:Int):Bool:=bE x0 0 7
def aJd:KK:=mB Tryz.func282 [.v (.int .i64)] [.bool] [lF] nP (Iz,()) λ_=>bH pr
def aJe:KK:=mB Tryz.func283 [.v (.int .i64)] [.bool] [lF] nP (aBD,()) λ_=>bH pr
def xY(x0:bP):Bool:=if s6 x0.1 then(if Iz x0.2.1 then aBD x0.2.2.1 else false)else false
def aQz:KK:=mB Tryz.func186 [.v c8] [.bool] [wu,aJd,aJe] nP (xY,()) λ_=>bH<|dS (bH<|dS (bH pr) pr)<|dK pr
def bI{α:Type}(x y:Δ×α):Bool:=bL (aB x.1) (aB y.1)||aB x.1==aB y.1
def RV{α:Type}(e:α)(g:α->Bool)(b:α->α->Bool)(k:Nat):Nat->Int->Γ α->Γ aS->Prop
 | 0,_,_,_=>False
 | n+1,v,x0,ds=>if decide (v<(x0.length:Int))then 0<=v/\v<(x0.length:Int)/\if !g (aD x0 (aE v) e)then ds=[aI .bool false] else if decide (v>0)then aX .i64 (v-1)/\0<=v-1/\v-1<(x0.length:Int)/\if b (aD x0 (aE v) e) (aD x0 (aE (v-1)) e)then ds=[aI .bool false] else aX .i64 (v+1)/\RV e g b k n (v+1) x0 ds else aX .i64 (v+1)/\RV e g b k n (v+1) x0 ds else ds=[aI .bool (decide ((x0.length:Int)<=k))]
def RV0{α:Type}(e:α)(g:α->Bool)(b:α->α->Bool)(k:Nat):Nat->Γ α->Γ aS->Prop
 | 0,_,_=>False
 | n+1,x0,ds=>RV e g b k n 0 x0 ds
def aJf{α:Type}{e:α}{g:α->Bool}{b:α->α->Bool}{k:Nat}{x0:Γ α}(hw:x0.length<=maxLen):RV0 e g b k (x0.length+1+1) x0 [⟨.bool,nF (λi x=>g x&&(i==0||!b x (x0.getD (i-1) e))) 0 x0&&decide (x0.length<=k)⟩]:=by
 rw[RV0]
 have st:∀n i,i<x0.length->∀ds,(if(g (x0.getD i e)&&(i==0||!b (x0.getD i e) (x0.getD (i-1) e)))=true then RV e g b k n ((i:Int)+1) x0 ds else ds=[⟨.bool,false⟩])->RV e g b k (n+1) (i:Int) x0 ds:=by
  intro n i hi ds h;have hu:=iJ hw hi
  rw[RV,π (by simp;omega)];refine⟨by omega,by omega,?_⟩;simp only[aK]
  cases h1:g (x0.getD i e) <;> rw[h1]at h
  ·simpa using h
  ·rw[ν (by simp)];by_cases h0:(i:Int)>0
   ·have hi0:(i==0)=false:=by simp;omega
    have e:((i:Int)-1).toNat=i-1:=by omega
    rw[π (by simpa using h0)];refine⟨by rw[aJ];unfold maxLen at hw;omega,by omega,by omega,?_⟩
    rw[e];rw[hi0]at h;split <;> simp_all
   ·have hi0:(i==0)=true:=by simp;omega
    rw[ν (by simpa using h0)];rw[hi0]at h;exact⟨hu,by simpa using h⟩
 have key:=zV x0 e (λi x=>g x&&(i==0||!b x (x0.getD (i-1) e))) [(⟨.bool,false⟩:aS)] [⟨.bool,decide (x0.length<=k)⟩] (λn i ds=>RV e g b k n i x0 ds) (λn=>?_) (λn i hi hok ds hr=>?_) (λn i hi hok=>?_)
 ·cases h:nF (λi x=>g x&&(i==0||!b x (x0.getD (i-1) e))) 0 x0 <;> rw[h]at key <;> simpa using key
 ·rw[RV,ν (by simp)];congr 3;simp
 ·exact st n i hi ds (by rw[π hok];exact hr)
 ·exact st n i hi _ (by rw[ν (by rw[hok];simp)])
def aSX:gC:=D0 lp [.v (.sl c8)] [.bool] [aQz]
def aSY(ds:Γ aS)(K:fG)(q:Nat->Value):∀n,(∀ {x0},RV0 (aC,0,0,()) xY bI 10 n x0 ds->St aSX (x0,()) ds [] K q)/\(∀ {v7 x0},RV (aC,0,0,()) xY bI 10 n v7 x0 ds->Cu aSX 2 ([eL 0 c8 x0,eL 5 c8 x0,eI 6 (x0.length:Int),eI 7 v7],[]) ds [] K q):=nI ⟨aH,aH⟩ λn ⟨i,i2⟩=>⟨bX i2,
  bD (cP<|bH<|bD (jM cM)<|bD (aL<|cP<|bD cM<|aL<|bX i2)<|dK<|aL<|bX i2) cM⟩
def aJg(x0:Γ bP)(i:Nat)(x:bP):Bool :=
 xY x&&(i==0 || !(bL (aB x.1) (aB (x0.getD (i-1) (aC,(0:Int),(0:Int),())).1)||aB x.1==aB (x0.getD (i-1) (aC,(0:Int),(0:Int),())).1))
def qX(x0:Γ bP):Bool:=nF (aJg x0) 0 x0&&decide (x0.length<=10)
def aQ0:KK:=mL aSX (DO lp) nP (qX,()) (λ⟨x0,_⟩ h hwf K q =>
 (aSY _ K q _).1 (aJf hwf.1.1))
def aQ1:KK:=mB Tryz.func187 [.v c8] [.bool] [wu,aJd,aJe] nP (xY,()) λ_=>bH<|dS (bH<|dS (bH pr) pr)<|dK pr
def aSZ:gC:=D0 lq [.v (.sl c8)] [.bool] [aQ1]
def aTa(ds:Γ aS)(K:fG)(q:Nat->Value):∀n,(∀ {x0},RV0 (aC,0,0,()) xY bI 8 n x0 ds->St aSZ (x0,()) ds [] K q)/\(∀ {v7 x0},RV (aC,0,0,()) xY bI 8 n v7 x0 ds->Cu aSZ 2 ([eL 0 c8 x0,eL 5 c8 x0,eI 6 (x0.length:Int),eI 7 v7],[]) ds [] K q):=nI ⟨aH,aH⟩ λn ⟨i,i2⟩=>⟨bX i2,
  bD (cP<|bH<|bD (jM cM)<|bD (aL<|cP<|bD cM<|aL<|bX i2)<|dK<|aL<|bX i2) cM⟩
def aJh(x0:Γ bP)(i:Nat)(x:bP):Bool :=
 xY x&&(i==0 || !(bL (aB x.1) (aB (x0.getD (i-1) (aC,(0:Int),(0:Int),())).1)||aB x.1==aB (x0.getD (i-1) (aC,(0:Int),(0:Int),())).1))
def qY(x0:Γ bP):Bool:=nF (aJh x0) 0 x0&&decide (x0.length<=8)
def aQ2:KK:=mL aSZ (DO lq) nP (qY,()) (λ⟨x0,_⟩ h hwf K q =>
 (aTa _ K q _).1 (aJf hwf.1.1))
def BA(x0:Int):Bool:=bE x0 0 1440
def aQ3:KK:=mB Tryz.func280 [.v (.int .i64)] [.bool] [lF] nP (BA,()) λ_=>bH pr
def qZ(x0:bP):Bool:=if s6 x0.1 then(if BA x0.2.1 then(if BA x0.2.2.1 then decide (x0.2.1<x0.2.2.1)else false)else false)else false
def aQ4:KK:=mB Tryz.func182 [.v c8] [.bool] [wu,aQ3] nP (qZ,()) λ_=>bH<|dS (bH<|dS (bH<|dS pr pr)<|dK pr)<|dK<|dK pr
def aTb:gC:=D0 lr [.v (.sl c8)] [.bool] [aQ4]
def aTc(ds:Γ aS)(K:fG)(q:Nat->Value):∀n,(∀ {x0},RV0 (aC,0,0,()) qZ bI 12 n x0 ds->St aTb (x0,()) ds [] K q)/\(∀ {v7 x0},RV (aC,0,0,()) qZ bI 12 n v7 x0 ds->Cu aTb 2 ([eL 0 c8 x0,eL 5 c8 x0,eI 6 (x0.length:Int),eI 7 v7],[]) ds [] K q):=nI ⟨aH,aH⟩ λn ⟨i,i2⟩=>⟨bX i2,
  bD (cP<|bH<|bD (jM cM)<|bD (aL<|cP<|bD cM<|aL<|bX i2)<|dK<|aL<|bX i2) cM⟩
def aQ5(x0:Γ bP)(i:Nat)(x:bP):Bool :=
 qZ x&&(i==0 || !(bL (aB x.1) (aB (x0.getD (i-1) (aC,(0:Int),(0:Int),())).1)||aB x.1==aB (x0.getD (i-1) (aC,(0:Int),(0:Int),())).1))
def oW(x0:Γ bP):Bool:=nF (aQ5 x0) 0 x0&&decide (x0.length<=12)
def aQ6:KK:=mL aTb (DO lr) nP (oW,()) (λ⟨x0,_⟩ h hwf K q =>
 (aTc _ K q _).1 (aJf hwf.1.1))
def s8(x0:dO):Bool:=if s6 x0.1 then(if bE x0.2.1 0 100000 then(if bE x0.2.2.1 1 1000 then bE x0.2.2.2.1 1 400 else false)else false)else false
def aQ7:KK:=mB Tryz.func184 [.v eC] [.bool] [wu,lF] nP (s8,()) λ_=>bH<|dS (bH<|dS (bH<|dS (bH pr) pr)<|dK pr)<|dK<|dK pr
def aTd:gC:=D0 lu [.v (.sl eC)] [.bool] [aQ7]
def aTe(ds:Γ aS)(K:fG)(q:Nat->Value):∀n,(∀ {x0},RV0 (aC,0,0,0,()) s8 bI 8 n x0 ds->St aTd (x0,()) ds [] K q)/\(∀ {v7 x0},RV (aC,0,0,0,()) s8 bI 8 n v7 x0 ds->Cu aTd 2 ([eL 0 eC x0,eL 5 eC x0,eI 6 (x0.length:Int),eI 7 v7],[]) ds [] K q):=nI ⟨aH,aH⟩ λn ⟨i,i2⟩=>⟨bX i2,
  bD (cP<|bH<|bD (jM cM)<|bD (aL<|cP<|bD cM<|aL<|bX i2)<|dK<|aL<|bX i2) cM⟩
def aJi(x0:Γ dO)(i:Nat)(x:dO):Bool :=
 s8 x&&(i==0 || !(bL (aB x.1) (aB (x0.getD (i-1) (aC,(0:Int),(0:Int),(0:Int),())).1)||aB x.1==aB (x0.getD (i-1) (aC,(0:Int),(0:Int),(0:Int),())).1))
def lU(x0:Γ dO):Bool:=nF (aJi x0) 0 x0&&decide (x0.length<=8)
def aQ8:KK:=mL aTd (DO lu) nP (lU,()) (λ⟨x0,_⟩ h hwf K q =>
 (aTe _ K q _).1 (aJf hwf.1.1))
def aJj(x0:Int):Bool:=bE x0 0 200
def bBR:KK:=mB Tryz.func275 [.v (.int .i64)] [.bool] [lF] nP (aJj,()) λ_=>bH pr
def oX(x0:dO):Bool:=if s6 x0.1 then(if bE x0.2.1 10000 10000000 then(if bE x0.2.2.1 1000 1000000 then aJj x0.2.2.2.1 else false)else false)else false
def aQ9:KK:=mB Tryz.func173 [.v eC] [.bool] [wu,lF,bBR] nP (oX,()) λ_=>bH<|dS (bH<|dS (bH<|dS (bH pr) pr)<|dK pr)<|dK<|dK pr
def aTf:gC:=D0 lw [.v (.sl eC)] [.bool] [aQ9]
def aTg(ds:Γ aS)(K:fG)(q:Nat->Value):∀n,(∀ {x0},RV0 (aC,0,0,0,()) oX bI 12 n x0 ds->St aTf (x0,()) ds [] K q)/\(∀ {v7 x0},RV (aC,0,0,0,()) oX bI 12 n v7 x0 ds->Cu aTf 2 ([eL 0 eC x0,eL 5 eC x0,eI 6 (x0.length:Int),eI 7 v7],[]) ds [] K q):=nI ⟨aH,aH⟩ λn ⟨i,i2⟩=>⟨bX i2,
  bD (cP<|bH<|bD (jM cM)<|bD (aL<|cP<|bD cM<|aL<|bX i2)<|dK<|aL<|bX i2) cM⟩
def aJk(x0:Γ dO)(i:Nat)(x:dO):Bool :=
 oX x&&(i==0 || !(bL (aB x.1) (aB (x0.getD (i-1) (aC,(0:Int),(0:Int),(0:Int),())).1)||aB x.1==aB (x0.getD (i-1) (aC,(0:Int),(0:Int),(0:Int),())).1))
def oY(x0:Γ dO):Bool:=nF (aJk x0) 0 x0&&decide (x0.length<=12)
def aQA:KK:=mL aTf (DO lw) nP (oY,()) (λ⟨x0,_⟩ h hwf K q =>
 (aTg _ K q _).1 (aJf hwf.1.1))
def RC(x0:Γ bP)(x1:Γ bP):Int:=if !qX x0 then 1 else if !qY x1 then 1 else 0
def bBS:KK:=mB Tryz.func441 [.v (.sl c8),.v (.sl c8)] [.int .i64] [aQ0,aQ2] nP (RC,()) λ_=>bH<|dS (jM pr)<|bH<|dS pr pr
def oZ(x0:bP)(x1:bP):Bool:=if IntKind.wrap IntKind.i64 (↑(BitVec.toNat (BitVec.ofInt 64 x1.2.1 &&& ~~~BitVec.ofInt 64 x0.2.1)):Int)==0 then decide (x0.2.2.1<=x1.2.2.1)else false
def bBT:KK:=mB Tryz.func531 [.v c8,.v c8] [.bool] [] nP (oZ,()) λ_=>dS pr pr
def aTh:gC:=D0 lx [.v (.sl c8),.v c8] [.sl Za] [bBT]
mutual
def bBU:Nat->Γ bP->Δ×Int×Int×Unit->Γ aS->Prop
 | 0,_,_,_=>False
 | n+1,x0,x1,ds=>M5 n 0 ([]) x0 x1 ds
def M5:Nat->Int->Γ Int->Γ bP->Δ×Int×Int×Unit->Γ aS->Prop
 | 0,_,_,_,_,_=>False
 | n+1,v10,h1,x0,x1,ds=>if decide (v10<(x0.length:Int))then 0<=v10/\v10<(x0.length:Int)/\if oZ (aD x0 (aE v10) (aC,0,0,())) x1 then(aF h1+1)*8<=140737488355328/\aX .i64 (v10+1)/\M5 n (v10+1) (h1++[v10]) x0 x1 ds else aX .i64 (v10+1)/\M5 n (v10+1) h1 x0 x1 ds else ds=[aI (.sl Za) h1]
end
def aTi(ds:Γ aS)(K:fG)(q:Nat->Value):∀n,(∀ {x0 x1},bBU n x0 x1 ds->St aTh (x0,x1,()) ds [] K q)/\(∀ {v10 h1 x0 x1},M5 n v10 h1 x0 x1 ds->Cu aTh 3 ([eO 3 0 0 [],eW 5 1,eL 8 c8 x0,eI 9 (x0.length:Int),eI 10 v10],[some (fE c8 [x1] true none (some false)),cL (.int .i64) h1]) ds [] K q):=nI ⟨aH,aH⟩ λn ⟨i,i3⟩=>⟨Dr [(5,.int .i64)] i3,
  bD (cP<|bH<|bD (aL<|aL<|Dr [(5,.int .i64)] i3)<|aL<|Dr [(5,.int .i64)] i3) cM⟩
def pG(x1:F3):Γ F3->Nat->Γ Int
 | [],_=>[]
 | h::r,i=>if oZ h x1=true then(i:Int)::pG x1 r (i+1)else pG x1 r (i+1)
def tD(x0:Γ F3)(x1:F3):Γ Int:=pG x1 x0 0
def bBV(x0:Γ F3)(x1:F3):Prop:=x0.length<=1000000
def aTj(x0:Γ F3)(x1:F3)(hl:x0.length<=1000000):∀(k i:Nat) (h1:Γ Int),i+k=x0.length->h1.length<=i->M5 (k+1) (i:Int) h1 x0 x1 [⟨.sl Za,h1++pG x1 (x0.drop i) i⟩]:=by
 intro k
 induction k with
 | zero =>
  intro i h1 hi hh;rw[M5,ν (by lia),bT (by lia),pG,dN]
 | succ k ih =>
  intro i h1 hi hh;have hlt:i<x0.length:=by lia
  have e3:(i:Int)+1=((i+1:Nat):Int):=by lia
  rw[M5,π (by lia),dQ x0 i (aC,0,0,()) hlt,pG,aK];generalize x0.getD i (aC,0,0,())=l at *;refine⟨by lia,by lia,?_⟩;by_cases c:oZ l x1=true
  ·have:=ih (i+1) (h1++[(i:Int)]) (by lia) (by grind);refine(π c).mpr ⟨by lia,by grind [aJ],?_⟩
   grind
  ·refine(ν c).mpr ⟨by grind [aJ],?_⟩
   grind
def aQB:KK:=mL aTh (DO lx) bBV (tD,()) (λ⟨x0,x1,_⟩ h hwf K q =>
 (aTi _ K q ((x0.length+2))).1 (by rw[bBU];exact aTj x0 x1 h x0.length 0 [] (by omega) (aY _)))
def aTk:gC:=D0 ly [.v (.sl Za),.v (.int .i64)] [.int .i64] []
mutual
def aTl:Nat->Γ Int->Int->Γ aS->Prop
 | 0,_,_,_=>False
 | n+1,x0,x1,ds=>M6 n 0 x0 x1 ds
def M6:Nat->Int->Γ Int->Int->Γ aS->Prop
 | 0,_,_,_,_=>False
 | n+1,v8,x0,x1,ds=>if decide (v8<(x0.length:Int))then 0<=v8/\v8<(x0.length:Int)/\if x1==aD x0 (aE v8) 0 then ds=[aI (.int .i64) v8] else aX .i64 (v8+1)/\M6 n (v8+1) x0 x1 ds else ds=[aI (.int .i64) (-1)]
end
def aTm(ds:Γ aS)(K:fG)(q:Nat->Value):∀n,(∀ {x0 x1},aTl n x0 x1 ds->St aTk (x0,x1,()) ds [] K q)/\(∀ {v8 x0 x1},M6 n v8 x0 x1 ds->Cu aTk 2 ([eL 0 (.int .i64) x0,eI 1 x1,eI 7 (x0.length:Int),eI 8 v8],[]) ds [] K q):=nI ⟨aH,aH⟩ λn ⟨i,i2⟩=>⟨bX i2,
  bD (cP<|bD cM<|aL<|bX i2) cM⟩
def TL(x1:Int)(y:Int):Bool:=x1==y
def RD(x0:Γ Int)(x1:Int):Int:=idx (x0.findIdx? (TL x1))
def aTn(x0:Γ Int)(x1:Int)(hm:x0.length<=maxLen):aTl (x0.length+1+1) x0 x1 [⟨.int .i64,RD x0 x1⟩]:=by
 rw[aTl];have key:=FE x0 0 (TL x1) [(⟨.int .i64, -1⟩:aS)] (λk=>[⟨.int .i64,k⟩]) (λn i ds=>M6 n i x0 x1 ds) (λn=>?_) (λn i hi hok ds hr=>?_) (λn i hi hok=>?_)
 ·unfold RD;cases h:x0.findIdx? (TL x1) <;> rw[h]at key <;> exact key
 ·rw[M6,ν (by simp)]
 ·rw[M6,π (by simp;omega)];simp only[aK];refine⟨by omega,by omega,?_⟩;unfold TL at hok;rw[ν (by rw[hok];simp)];exact⟨iJ hm hi,hr⟩
 ·rw[M6,π (by simp;omega)];simp only[aK];refine⟨by omega,by omega,?_⟩;unfold TL at hok;rw[π hok] <;> trivial
def aTo(x0:Γ Int)(x1:Int):decide (RD x0 x1>=0)=x0.any (TL x1):=by
 have:=DW (TL x1) x0;unfold RD;cases h:x0.any (TL x1)with
 | true=>rw[h]at this;simpa using this
 | false=>rw[h]at this;simpa using this
def bBW:KK:=mL aTk (DO ly) nP (RD,()) (λ⟨x0,x1,_⟩ h hwf K q =>
 (aTm _ K q _).1 (aTn x0 x1 hwf.1.1))
def tE(x0:Γ Int)(x1:Int):Bool:=decide (RD x0 x1>=0)
def aQC:KK:=mB Tryz.func497 [.v (.sl Za),.v (.int .i64)] [.bool] [bBW] nP (tE,()) λ_=>bH pr
end
end Go.Proofs.YtbaoaedmbhpolaaGreatDoor
namespace Go.Am
open Go.RowKit
variable {P:Program} {Q:Exit->Act->World->Prop}
def bBX(w:World){o:Oper}{a:Act}{K:Act->World->Prop}(d s:Operand)(t t':TypeId)
  (ho:o.op = .call { callee := .builtin .copy,args := #[d,s],argTypes := #[t,t'] }) (v u:Value) (hd:a.eval d=v) (hs:a.eval s=u) {v':Value} {w':World}
  (hr:(jX #[t,t'] o.type #[v,u]).run P w = .ok v' w') (h:K (a.put o.dst v') w'):o.wp P a w K Q:=by
 unfold Oper.wp execOp;simp only[ho,resolve,invoke,builtin,Sem.run_bind,Sem.run_pure,Result.andThen_ok,List.map_toArray,List.map_cons,Bj,hd,hs,hr];exact h
def lcp(w:World){ops:Array Oper}{rest:Γ Oper}{o:Oper}{a:Act}(hgd:o.guard=none)(d s:Operand)(t t':TypeId)
  (ho:o.op = .call { callee := .builtin .copy,args := #[d,s],argTypes := #[t,t'] }) (v u:Value) (hd:a.eval d=v) (hs:a.eval s=u) {v':Value} {w':World}
  (hr:(jX #[t,t'] o.type #[v,u]).run P w = .ok v' w') (h:wpList P ops Q rest (a.put o.dst v') w'):wpList P ops Q (o::rest) a w :=
 wpList_plain hgd λ_ hK=>bBX w d s t t' ho v u hd hs hr (hK _ _ h)
def scp{ops:Array Oper}{o:Oper}{a:Act}{w:World}{K:Act->World->Prop}{E:Prop}
  (hg:o.guard=none) (d x:Operand) (dT sT:TypeId) (hop:o.op=Op.call { callee:=Callee.builtin Builtin.copy,args := #[d,x],argTypes := #[dT,sT] })
  (v u:Value) (hd:a.eval d=v) (hx:a.eval x=u) {v':Value} {w':World} (hr:(jX #[dT,sT] o.type #[v,u]).run P w = .ok v' w') (hK:K (a.put o.dst v') w') :
  if Region.wanted o (yielded ops a.tmps)=true then Oper.wp P o a w K Q else E:=by
 have hw:Region.wanted o (yielded ops a.tmps)=true:=by simp[Region.wanted,hg]
 rw[π hw];exact bBX w d x dT sT hop v u hd hx hr hK
structure Ox (P:Program) (t:Ty) (s e ov:Nat) (k:Nat):Prop where
 flat:t.flat=true
 sz:t.size=k
 pos:0<k
 one:k≠1
 und:P.underlying s=some (.slice e)
 int:P.underlying 3=some (.int .i64)
 info:∃i0 z,P.info? e=some i0/\i0.size=k/\i0.zero=some z/\z.cells=(fN t).toArray/\i0.bytes*1048577<=140737488355328
 ovl : ∃ fn, P.funcs[ov]? = some fn /\ (fn.name == "runtime.NumGoroutine") = false /\ fn.body.isNone = true /\ Extern.findNext fn = none /\ Extern.find fn = some (AX #[s, s] #[4])
theorem Ox.of{t:Ty}{s e ov k:Nat}{bt:Nat}(h:Hu P s (.slice e t bt))(hf:t.flat=true)(hs:t.size=k)(hp:0<k)(h1:k≠1)(hb:bt*1048577<=140737488355328)(h3:P.underlying 3=some (.int .i64))
  {fn : Func} (f1 : P.funcs[ov]? = some fn) (f2 : (fn.name == "runtime.NumGoroutine") = false) (f3 : fn.body.isNone = true) (f4 : Extern.findNext fn = none) (f5 : Extern.find fn = some (AX #[s, s] #[4])) : Ox P t s e ov k := by
 obtain⟨_,hu,⟨_,⟨i0,hi0,hz1,z,hz0,hzs,hzv⟩⟩,hby⟩:=h;rw[hi0]at hby
 simp only[Option.map_some,Option.some.injEq]at hby
 exact⟨hf,hs,hp,h1,hu,h3,⟨i0,z,hi0,by rw[hz1,hs],hz0,Array.toList_inj.1 (by rw[hzs]),by rw[hby];exact hb⟩,⟨fn,f1,f2,f3,f4,f5⟩⟩
def aBF(P:Program)(n:FuncId)(s e k:Nat):Prop:=∀(w:World) (m b off cap vb voff vcap:Nat) (i0:TypeInfo) (vs:Γ Value),P.underlying s=some (.slice e)->P.info? e=some i0->i0.size=k->cap<=maxLen->m+1<=cap->Src P i0.size s (.slice (some ⟨vb,voff,none⟩) 1 vcap) 1 vs w ->
  Aside (∀j,j<vs.length->(w.cell? ⟨b,off+m*i0.size+j,none⟩).isSome=true)->Aside (∀j,j<vs.length->w.frozen? ⟨b,off+m*i0.size+j,none⟩=false) ->
  Calls P n #[.slice (some ⟨b,off,none⟩) m cap,.int .i64 m,.slice (some ⟨vb,voff,none⟩) 1 vcap] w λr w'=>r = .returned (.slice (some ⟨b,off,none⟩) (m+1) cap)/\∃q,w'=(w.drewN q).setCells b (off+m*k) vs
def Vt(P:Program)(n:FuncId)(s e:Nat):Prop:=∀(w:World) (m:Nat) (ad:Option Addr) (cap vb voff vcap G:Nat) (ROW:Array Value),(ad=none->m=0)->m<=cap->cap<m+1->m<=1048576->m+1<=G->G<=maxLen ->
  (∀ty,(iP #[s,s] ty #[.slice ad m cap,.slice (some ⟨vb,voff,none⟩) 1 vcap]).run P w = .ok (.slice (some ⟨w.heap.size,0,none⟩) (m+1) G) (w.drew.alloc (.cells ROW e))) ->
  Calls P n #[.slice ad m cap,.int .i64 m,.slice (some ⟨vb,voff,none⟩) 1 vcap] w λr w'=>r = .returned (.slice (some ⟨w.heap.size,0,none⟩) (m+1) G)/\w'=w.drew.alloc (.cells ROW e)
def M7(P:Program)(n:FuncId)(s ov k:Nat):Prop:=∀(w:World) (m b off cap vb voff vcap i:Nat) (vs ds:Γ Value) (W1:World),i<m->m+1<=cap->cap<=maxLen->Aside (W1=w.drew.setCells b (off+(i+1)*k) ds) ->
  (∀lb cb,(callFunc ov #[.slice (some ⟨vb,voff,none⟩) 1 vcap,.slice (some ⟨b,off+(i+1)*k,none⟩) lb cb]).run P w = .ok (.value (.bool false)) w) ->
  (∀ty dc sc,(jX #[s,s] ty #[.slice (some ⟨b,off+(i+1)*k,none⟩) (m-i) dc,.slice (some ⟨b,off+i*k,none⟩) (m+1-i) sc]).run P w.drew = .ok (goInt (HV (m+1-i) (m-i))) W1) ->
  (∀(W:World),(∀x,W.cell? x=W1.cell? x)->(∀x,W.frozen? x=W1.frozen? x)->∀ty dc,(jX #[s,s] ty #[.slice (some ⟨b,off+i*k,none⟩) (m+1-i) dc,.slice (some ⟨vb,voff,none⟩) 1 vcap]).run P W = .ok (goInt (HV 1 (m+1-i))) (W.setCells b (off+i*k) vs)) ->
  Calls P n #[.slice (some ⟨b,off,none⟩) m cap,.int .i64 i,.slice (some ⟨vb,voff,none⟩) 1 vcap] w λr w'=>r = .returned (.slice (some ⟨b,off,none⟩) (m+1) cap)/\∃q,w'=((w.drewN q).setCells b (off+(i+1)*k) ds).setCells b (off+i*k) vs
def Vu(P:Program)(n:FuncId)(s e k:Nat):Prop:=∀(w:World) (m b off cap vb voff vcap i:Nat) (vs ds:Γ Value) (ROW:Array Value) (G:Nat),i<m->cap<m+1->m<=cap->cap<=maxLen->m+1<=G->G<=maxLen ->
  (∀ty,(iP #[s,3] ty #[.slice (some ⟨b,off,none⟩) i cap,.int .i64 ((m:Int)+1-(i:Int))]).run P w = .ok (.slice (some ⟨w.heap.size,0,none⟩) (m+1) G) (w.drew.alloc (.cells ROW e))) ->
  (∀ty dc,(jX #[s,s] ty #[.slice (some ⟨w.heap.size,i*k,none⟩) (m+1-i) dc,.slice (some ⟨vb,voff,none⟩) 1 vcap]).run P (w.alloc (.cells ROW e)).drew = .ok (goInt (HV 1 (m+1-i))) ((w.alloc (.cells ROW e)).drew.setCells w.heap.size (i*k) vs)) ->
  (∀ty dc sc,(jX #[s,s] ty #[.slice (some ⟨w.heap.size,(i+1)*k,none⟩) (m-i) dc,.slice (some ⟨b,off+i*k,none⟩) (m-i) sc]).run P ((w.alloc (.cells ROW e)).drew.setCells w.heap.size (i*k) vs).drew = .ok (goInt (HV (m-i) (m-i))) (((w.alloc (.cells ROW e)).drew.setCells w.heap.size (i*k) vs).drew.setCells w.heap.size ((i+1)*k) ds)) ->
  Calls P n #[.slice (some ⟨b,off,none⟩) m cap,.int .i64 i,.slice (some ⟨vb,voff,none⟩) 1 vcap] w λr w'=>r = .returned (.slice (some ⟨w.heap.size,0,none⟩) (m+1) G)/\w'=((w.alloc (.cells ROW e)).drew.setCells w.heap.size (i*k) vs).drew.setCells w.heap.size ((i+1)*k) ds
section
variable {P:Program} {t:Ty} {s e ov k:Nat} (I:Ox P t s e ov k) {w:World} {xs ys:Γ t.den} {b off cap:Nat} {cur:Array Value} {ty:TypeId} {fz:Nat×Nat} {vb voff vcap:Nat} {vcur:Array Value} {vty:TypeId} {vfz:Nat×Nat}
include I
theorem UF(hB:y9 w t ys vb voff vcap vcur vty vfz)(h1:ys.length=1):(rN t ys).length=1*t.size/\(∀(j:Nat) (u:Value),(rN t ys)[j]? = some u->w.cell? ⟨vb,voff+j,none⟩=some u)/\(∀u∈rN t ys,u.oneCell'=true) /\
  Src P t.size s (.slice (some ⟨vb,voff,none⟩) 1 vcap) 1 (rN t ys) w:=by
 have hl:(rN t ys).length=1*t.size:=by rw[nK I.flat hB.wf,h1]
 have hc:=hB.cell;have ho:∀u∈rN t ys,u.oneCell'=true:=Ih I.flat _;exact⟨hl,hc,ho,Src.ofSlice w I.und ⟨vb,voff,none⟩ 1 vcap _ hl (λj u hj=>by rw[fX];exact hc j u hj) ho⟩
variable {n:FuncId}
theorem aMZ(H:aBF P n s e k):bAa P n t:=by
 intro w xs ys b off cap cur ty fz vb voff vcap vcur vty vfz hA hB h1 _ hroom;obtain⟨i0,z,hi0,hz1, -⟩:=I.info;have hk:=I.sz;subst hk;obtain⟨hl,hc,ho,hs⟩:=UF I hB h1;have hle:(xs.length+1)*t.size<=cap*t.size:=cV _ hroom;rw[yN]at hle;refine H w xs.length b off cap vb voff vcap i0 _ I.und hi0 hz1 hA.capm hroom (by rw[hz1];exact hs) (λj hj=>?_) (λj hj=>?_)
 ·rw[hz1,fS];exact hA.some' _ (by omega)
 ·rw[hz1,fS];exact hA.unfrozen _ (by omega)
theorem aJl(H:Vt P n s e):aPV P n t e:=by
 intro w xs ys ad cap vb voff vcap vcur vty vfz hw hlen hnil hcs hB h1 hroom hmax;obtain⟨i0,z,hi0,hz1,hz0,hzc,hb⟩:=I.info;have hk:=I.sz;subst hk;obtain⟨hvl,hvc,s2,hsrc⟩:=UF I hB h1;have hcl:(rN t xs).length=xs.length*t.size:=nK I.flat hw;rw[sY];obtain⟨vs,hvs⟩:∃vs,vs=rN t ys:=⟨_,rfl⟩;obtain⟨cs,hcss⟩:∃cs,cs=rN t xs:=⟨_,rfl⟩;rw[<- hvs]at hvl hsrc;rw[<- hcss]at hcl hcs;rw[<- hvs, <- hcss];have hold:(eQ i0.size xs.length (.slice ad xs.length cap)).run P w.drew = .ok cs.toArray w.drew:=by
  rw[hz1];cases ad with
  | none =>
   have h0:=hnil rfl;subst h0;rw[List.length_eq_zero_iff.1 (show cs.length=0 by rw[hcl];simp)];exact run_firstCells_none w.drew t.size 0 0 cap
  | some a=>exact run_firstCells_some w.drew t.size xs.length a xs.length cap cs hcl (λj v hj=>hcs a rfl j v hj)
 have hbig:(xs.length+1)*i0.bytes<=140737488355328:=by
  have:(xs.length+1)*i0.bytes<=1048577*i0.bytes:=cV _ (by omega);rw[HY 1048577]at this;omega
 have hrun:=λty=>run_append_grow_src w s s ty e i0 z I.und hi0 hz0 ad xs.length cap cs hold _ 1 vs (by rw[hz1];exact hsrc) hroom (by omega) (growslice_fits hroom hbig);have hge:=grownCap_ge w (xs.length+1) cap e;have hgm:=grownCap_le_maxLen w (xs.length+1) cap e (by unfold maxLen;omega);refine(H w xs.length ad cap vb voff vcap _ _ (λh=>by rw[hnil h];rfl) hlen hroom hmax hge hgm hrun).mono ?_;rintro _ _ ⟨rfl,rfl⟩;refine⟨_,rfl,?_⟩;generalize grownCap w (xs.length+1) cap e=G at hge hgm;have el:(cs++vs).length=(xs.length+1)*t.size:=by rw[bS,hcl,hvl,fZ]
 refine⟨⟨el,.inr ⟨w.heap.size,G,_,rfl,aU _,heap_alloc_new w.drew _,hge,hgm,?_,?_⟩⟩,((Below.refl w.heap.size w).drew).alloc (aU _) _⟩
 ·have hz:(gS z.cells (G-(xs.length+1))).size=(G-(xs.length+1))*t.size:=by
   rw[<- iB,hzc,TC];simp[(jA default (Good default []) t).length]
  rw[sK,gA,el,hz, <- fZ];congr 1;omega
 ·rw[Array.toList_append];have:((cs++vs).toArray.toList++(gS z.cells (G-(xs.length+1))).toList).take ((cs++vs).length)=cs++vs:=List.take_left;rw[el]at this;exact this
theorem aGf(H:M7 P n s ov k):aI6 P n t:=by
 intro w xs ys b off cap cur ty fz vb voff vcap vcur vty vfz i hA hB h1 hvb hi hroom;obtain⟨i0,z,hi0,hz1,hz0,hzc,hb⟩:=I.info;have hk:=I.sz;subst hk;have hzm:(P.info? e).map (·.size)=some t.size:=by rw[hi0];exact congrArg some hz1
 obtain⟨hvl,hvc,s2, -⟩:=UF I hB h1;have hdl:(rN t (xs.drop i)).length=(xs.length-i)*t.size:=by
  rw[nK I.flat (λx hx=>hA.wf x (iO hx)),p7]
 have hdc:∀(k:Nat) (u:Value),(rN t (xs.drop i))[k]? = some u->w.cell? ⟨b,off+i*t.size+k,none⟩=some u:=λk u hk=>by
  have:=hA.cell _ _ (wh I.flat hA.wf i (by omega) k u hk)
  rwa [fS]
 have s1:∀u∈rN t (xs.drop i),u.oneCell'=true:=Ih I.flat _;generalize rN t ys=vs at *;generalize rN t (xs.drop i)=ds at *;have A0:∀k,k<cap*t.size->(w.cell? ⟨b,off+k,none⟩).isSome=true/\w.frozen? ⟨b,off+k,none⟩=false:=λk hk=>⟨hA.some' k hk,hA.unfrozen k hk⟩;have hle:(xs.length+1)*t.size<=cap*t.size:=cV _ hroom;rw[yN]at hle;have e2:(i+1)*t.size=i*t.size+t.size:=yN _ _;have e1:i*t.size+(xs.length-i)*t.size=xs.length*t.size:=by rw[<- fZ];congr 1;omega
 have e3:t.size<=(xs.length-i)*t.size:=Nat.le_mul_of_pos_left _ (by omega);have hc0:0<cap*t.size:=aAB (by omega) I.pos;have hv0:0<vcap*t.size:=aAB (by have:=hB.len;omega) I.pos;have hov:∀lb cb,(callFunc ov #[.slice (some ⟨vb,voff,none⟩) 1 vcap,.slice (some ⟨b,off+(i+1)*t.size,none⟩) lb cb]).run P w = .ok (.value (.bool false)) w:=λlb cb=>by
  obtain⟨fn,f1,f2,f3,f4,f5⟩:=I.ovl;have hfe:w.frozen? ⟨vb,vcur.size,none⟩=false:=by
   have h2:=(hB.free.2.resolve_left I.one) vcur.size (by omega);simp only[Ee, hB.blk];rw[bV];intro hh;simp only[Bool.and_eq_true,ε]at hh;exact h2 hh
  rw[run_callFunc_extern f1 f2 f3 f4 f5,
   Lib.run_overlaps_apart w s 4 e I.und t.size (λw=>by simp[Go.sizeOf,typeInfo,hi0,hz1]) ⟨vb,voff,none⟩ ⟨b,off+(i+1)*t.size,none⟩ 1 vcap lb cb hvb vty ty vcur.size cur.size (by simp only[Bg, hB.blk]) (by simp only[Bg, hA.blk]) (by have:=hA.fit;omega) (hB.unfrozen 0 hv0) hfe]
  rfl
 refine H w xs.length b off cap vb voff vcap i vs ds _ hi hroom hA.capm rfl hov (λty dc sc=>?_) (λW hWc hWf ty dc=>?_)
 ·exact GA w.drew _ _ ty e t.size b (off+(i+1)*t.size) (xs.length-i) dc ⟨b,off+i*t.size,none⟩ (xs.length+1-i) sc ds I.und hzm (by rw[hdl];congr 1;simp only[KV];split <;> omega)
   (λj v hj=>by rw[fX];exact hdc j v hj)
   (λj hj=>by rw[fS];exact(A0 _ (by omega)).1) (λj hj=>by rw[fS];exact(A0 _ (by omega)).2) s1
 ·exact GA W _ _ ty e t.size b (off+i*t.size) (xs.length+1-i) dc ⟨vb,voff,none⟩ 1 vcap vs I.und hzm (by rw[hvl];congr 1;simp only[KV];split <;> omega)
   (λj v hj=>by
    rw[fX,hWc,Ej b _ _ _ _ (λh _=>absurd h hvb)];exact hvc j v hj)
   (λj hj=>by rw[hWc];exact MT _ _ _ _ _ (by rw[fS];exact(A0 _ (by omega)).1)) (λj hj=>by rw[hWf,HZ,fS];exact(A0 _ (by omega)).2) s2
theorem aJm(H:Vu P n s e k):aPU P n t e:=by
 intro w xs ys b off cap cur ty fz vb voff vcap vcur vty vfz i hA hB h1 hvb hi hroom hmax;obtain⟨i0,z,hi0,hz1,hz0,hzc,hb⟩:=I.info;have hk:=I.sz;subst hk;have hzm:(P.info? e).map (·.size)=some t.size:=by rw[hi0];exact congrArg some hz1
 obtain⟨hvl,hvc,s2, -⟩:=UF I hB h1;have hdl:(rN t (xs.drop i)).length=(xs.length-i)*t.size:=by
  rw[nK I.flat (λx hx=>hA.wf x (iO hx)),p7]
 have htl:(rN t (xs.take i)).length=i*t.size:=by
  rw[nK I.flat (λx hx=>hA.wf x (iN hx)),fL,Nat.min_eq_left (by omega)]
 have hdc:∀(k:Nat) (u:Value),(rN t (xs.drop i))[k]? = some u->w.cell? ⟨b,off+i*t.size+k,none⟩=some u:=λk u hk=>by
  have:=hA.cell _ _ (wh I.flat hA.wf i (by omega) k u hk)
  rwa [fS]
 have htc:∀(k:Nat) (u:Value),(rN t (xs.take i))[k]? = some u->w.cell? ⟨b,off+k,none⟩=some u:=λk u hk=>hA.cell _ _ (wj I.flat hA.wf i k u hk);have hbw:=hA.lt;have hvw:=hB.lt;have s1:∀u∈rN t (xs.drop i),u.oneCell'=true:=Ih I.flat _;rw[sY,sY];generalize rN t ys=vs at *;generalize rN t (xs.drop i)=ds at *;generalize rN t (xs.take i)=ts at *;have hbig:(xs.length+1)*i0.bytes<=140737488355328:=by
  have:(xs.length+1)*i0.bytes<=1048577*i0.bytes:=cV _ (by omega);rw[HY 1048577]at this;omega
 have hkk:(xs.length:Int)+1-(i:Int)=((xs.length+1-i:Nat):Int):=by omega
 have hik:i+(xs.length+1-i)=xs.length+1:=by omega
 have hold:(eQ i0.size i (.slice (some ⟨b,off,none⟩) i cap)).run P w.drew = .ok ts.toArray w.drew:=by
  rw[hz1];exact run_firstCells_some w.drew t.size i ⟨b,off,none⟩ i cap ts htl (λj v hj=>by rw[fX];exact htc j v hj)
 have h48:(xs.length+1-i)*i0.bytes<=281474976710656:=by
  have:(xs.length+1-i)*i0.bytes<=(xs.length+1)*i0.bytes:=cV _ (by omega);omega
 have hrz:∀ty,(iP #[s,3] ty #[.slice (some ⟨b,off,none⟩) i cap,.int .i64 ((xs.length:Int)+1-(i:Int))]).run P w =
   .ok (.slice (some ⟨w.heap.size,0,none⟩) (xs.length+1) (grownCap w (xs.length+1) cap e)) (w.drew.alloc (.cells (ts.toArray++gS z.cells (xs.length+1-i)++gS z.cells (grownCap w (xs.length+1) cap e-(xs.length+1))) e)):=λty=>by
  have h:=Lib.run_append_grow_zeros w s 3 ty e i0 z .i64 .i64 I.und I.int hi0 hz0 (some ⟨b,off,none⟩) i cap ts hold (xs.length+1-i) (by omega) (by rw[hz1];exact I.pos) (by omega) (by omega) h48 (by rw[hik];exact growslice_fits hroom hbig);rw[hik]at h;rw[hkk];exact h
 have hge:=grownCap_ge w (xs.length+1) cap e;have hgm:=grownCap_le_maxLen w (xs.length+1) cap e (by unfold maxLen;omega);obtain⟨G,hG⟩:∃G,G=grownCap w (xs.length+1) cap e:=⟨_,rfl⟩;rw[<- hG]at hrz hge hgm;obtain⟨ROW,hROW⟩:∃ROW:Array Value,ROW=ts.toArray++gS z.cells (xs.length+1-i)++gS z.cells (G-(xs.length+1)):=⟨_,rfl⟩;rw[<- hROW]at hrz;have hzs:∀k,(gS z.cells k).size=k*t.size:=λk=>by
  rw[<- iB,hzc,TC];simp[(jA default (Good default []) t).length]
 have hRs:ROW.size=G*t.size:=by
  rw[hROW,sK,sK,gA,htl,hzs,hzs, <- fZ,hik, <- fZ]
  congr 1;omega
 have hRt:∀(k:Nat) (u:Value),ts[k]? = some u->ROW[k]? = some u:=λk u hk=>by
  have hlt:=(List.getElem?_eq_some_iff.1 hk).1;rw[hROW,Array.append_assoc,Array.getElem?_append_left (by simpa using hlt)];simpa using hk
 have hmul:(xs.length+1)*t.size<=G*t.size:=cV _ hge;obtain⟨W1,hW1⟩:∃W1,W1=w.drew.alloc (.cells ROW e):=⟨_,rfl⟩;have hblk:W1.heap[w.heap.size]? = some (.cells ROW e (0,0)):=by rw[hW1];exact heap_alloc_new w.drew _
 have hN:∀j,j<G*t.size->(W1.cell? ⟨w.heap.size,j,none⟩).isSome=true:=λj hj=>by
  simp only[iK, hblk];rw[Array.getElem?_eq_getElem (by omega)];rfl
 have hNf:∀j,W1.frozen? ⟨w.heap.size,j,none⟩=false:=λj=>by
  simp only[Ee, hblk];simp
 have hOld:∀k,k<w.heap.size->W1.heap[k]? = w.heap[k]? := λk hk=>by rw[hW1];exact heap_alloc_old w.drew _ hk
 have hO:∀b,b<w.heap.size->∀j v,w.cell? ⟨b,j,none⟩=some v->W1.cell? ⟨b,j,none⟩=some v:=λb hb j v h=>by simp only[iK]at h ⊢;rw[hOld b hb];exact h
 have hbN:b≠w.heap.size:=by omega
 have e2:(i+1)*t.size=i*t.size+t.size:=yN _ _;have e1:(i+1)*t.size+(xs.length-i)*t.size=(xs.length+1)*t.size:=by rw[<- fZ];congr 1;omega
 have cA:∀(W:World),(∀x,W.cell? x=W1.cell? x)->(∀x,W.frozen? x=W1.frozen? x)->∀ty dc,(jX #[s,s] ty #[.slice (some ⟨w.heap.size,i*t.size,none⟩) (xs.length+1-i) dc,.slice (some ⟨vb,voff,none⟩) 1 vcap]).run P W = .ok (goInt (HV 1 (xs.length+1-i))) (W.setCells w.heap.size (i*t.size) vs):=λW hWc hWf ty dc =>
  GA W _ _ ty e t.size w.heap.size (i*t.size) (xs.length+1-i) dc ⟨vb,voff,none⟩ 1 vcap vs I.und hzm (by rw[hvl];congr 1;simp only[KV];split <;> omega)
   (λj v hj=>by rw[fX,hWc];exact hO _ hvw _ v (hvc j v hj))
   (λj hj=>by rw[hWc];exact hN _ (by omega)) (λj hj=>by rw[hWf];exact hNf _) s2
 have cB:∀(W:World),(∀x,W.cell? x=(W1.setCells w.heap.size (i*t.size) vs).cell? x)->(∀x,W.frozen? x=(W1.setCells w.heap.size (i*t.size) vs).frozen? x)->∀ty dc sc,(jX #[s,s] ty #[.slice (some ⟨w.heap.size,(i+1)*t.size,none⟩) (xs.length-i) dc,.slice (some ⟨b,off+i*t.size,none⟩) (xs.length-i) sc]).run P W = .ok (goInt (HV (xs.length-i) (xs.length-i))) (W.setCells w.heap.size ((i+1)*t.size) ds):=λW hWc hWf ty dc sc =>
  GA W _ _ ty e t.size w.heap.size ((i+1)*t.size) (xs.length-i) dc ⟨b,off+i*t.size,none⟩ (xs.length-i) sc ds I.und hzm (by rw[hdl];congr 1;simp only[KV];split <;> omega)
   (λj v hj=>by
    rw[fX,hWc,Ej _ _ _ _ _ (λh _=>absurd h hbN)];exact hO _ hbw _ v (hdc j v hj))
   (λj hj=>by rw[hWc];exact MT _ _ _ _ _ (hN _ (by omega)))
   (λj hj=>by rw[hWf,HZ];exact hNf _) s1
 have fin:∀q1 q2:Nat,(((W1.drewN q1).setCells w.heap.size (i*t.size) vs).drewN q2 |>.setCells w.heap.size ((i+1)*t.size) ds).ownsRow w.heap.size e t.size (.slice (some ⟨w.heap.size,0,none⟩) (xs.length+1) G) (xs.length+1) (ts++(vs++ds)) /\
   Below w.heap.size w (((W1.drewN q1).setCells w.heap.size (i*t.size) vs).drewN q2 |>.setCells w.heap.size ((i+1)*t.size) ds):=λq1 q2=>by
  have el:(ts++(vs++ds)).length=(xs.length+1)*t.size:=by
   rw[bS,bS,htl,hvl,hdl, <- fZ, <- fZ];congr 1;omega
  have l1:i*t.size+vs.length<=ROW.size:=by rw[hvl,hRs];omega
  obtain⟨c1,g1,g2,g3,g4,g5,g6⟩:=nL vs (show (W1.drewN q1).heap[w.heap.size]? = some (.cells ROW e (0,0))from hblk) l1;have l2:(i+1)*t.size+ds.length<=c1.size:=by rw[hdl,g2,hRs];omega
  have g1':(((W1.drewN q1).setCells w.heap.size (i*t.size) vs).drewN q2).heap[w.heap.size]? = some (.cells c1 e (0,0)):=g1;obtain⟨c2,k1,k2,k3,k4,k5,k6⟩:=nL ds g1' l2;have kA:=vD vs (show (W1.drewN q1).heap[w.heap.size]? = some (.cells ROW e (0,0))from hblk) l1;have kB:=vD ds g1' l2;have kAll:dD [w.heap.size] w (((W1.drewN q1).setCells w.heap.size (i*t.size) vs).drewN q2 |>.setCells w.heap.size ((i+1)*t.size) ds):=by
   have k0:dD [w.heap.size] w W1:=by rw[hW1];exact((dD.refl _ w).drew).alloc _
   have k1:∀(W:World) q,dD [w.heap.size] W (W.drewN q):=λ_ _=>⟨rfl,rfl,rfl,aU _,λ_ _ _=>rfl⟩;exact((k0.trans (k1 _ _)).trans (kA.trans (k1 _ _))).trans kB
  refine⟨⟨el,.inr ⟨w.heap.size,G,c2,rfl,aU _,k1,hge,hgm,by rw[k2,g2,hRs],?_⟩⟩,⟨kAll.os,kAll.tape,kAll.output,kAll.size,λk hk=>kAll.block k hk (by simp;omega)⟩⟩;apply List.ext_getElem?;intro k;rw[List.getElem?_take];by_cases hk:k<(xs.length+1)*t.size
  ·rw[π hk,Array.getElem?_toList];have hk':k<(ts++(vs++ds)).length:=by rw[el];exact hk
   obtain⟨u,hu⟩:∃u,(ts++(vs++ds))[k]? = some u:=⟨_,aV hk'⟩;rw[hu];by_cases h1:k<i*t.size
   ·rw[c6 (by omega)]at hu;rw[k4 _ (.inl (by omega)),g4 _ (.inl (by omega))];exact hRt k u hu
   ·rw[cY (by omega),htl]at hu;by_cases h2:k<i*t.size+t.size
    ·rw[c6 (by omega)]at hu;have:=g3 _ u hu;rw[k4 _ (.inl (by omega))]
     rwa [show i*t.size+(k-i*t.size)=k by omega]at this
    ·rw[cY (by omega),hvl]at hu;have:=k3 _ u hu
     rwa [show (i+1)*t.size+(k-i*t.size-1*t.size)=k by omega]at this
  ·rw[ν hk,List.getElem?_eq_none (by rw[el];omega)]
 subst hW1;refine(H w xs.length b off cap vb voff vcap i vs ds ROW G hi hroom hA.len hA.capm hge hgm hrz (cA _ (λ_=>rfl) (λ_=>rfl)) (cB _ (λ_=>rfl) (λ_=>rfl))).mono ?_;rintro _ _ ⟨rfl,rfl⟩;exact⟨_,rfl,fin 0 1⟩
def Ox.contract(h1:M7 P n s ov k)(h2:Vu P n s e k)(h3:aBF P n s e k)(h4:Vt P n s e):jZ P n (V4 t) :=
 Tg I.flat (aGf I h1) (aJm I h2) (aMZ I h3) (aJl I h4)
end
def ZA(P:Program)(n:FuncId)(s:Nat):Prop:=∀w:World,(∀(w:World) (a:Option Addr) (n c n' c':Nat),(binOp .eql s (.slice a n c) (.slice none n' c')).run P w = .ok (.bool a.isNone) w)->Calls P n #[.slice none 0 0] w λe w'=>e = .returned (.slice none 0 0)/\w'=w
def Lb(P:Program)(f:FuncId)(s e k:Nat):Prop:=∀(w:World) (a:Addr) (n c:Nat) (news:Γ Value) (i0:TypeInfo) (z:Value),(∀(w:World) (a:Option Addr) (n c n' c':Nat),(binOp .eql s (.slice a n c) (.slice none n' c')).run P w = .ok (.bool a.isNone) w) ->
  P.underlying s=some (.slice e)->P.info? e=some i0->i0.zero=some z->i0.size=k->z.cells.size=k->0<k->news.length=n*k->Aside (∀(j:Nat) (u:Value),news[j]? = some u->w.cell? (a.add j)=some u)->(∀u∈news,u.oneCell'=true)->0+n<=maxLen->(0+n)*i0.bytes<=140737488355328 ->
  Calls P f #[.slice (some a) n c] w λr w'=>∃v',r = .returned v'/\w'.ownsRow w.heap.size e k v' n news/\Below w.heap.size w w'
theorem q6{P:Program}{f:FuncId}{t:Ty}{s e k bt:Nat}(h:Hu P s (.slice e t bt))(hf:t.flat=true)(hs:t.size=k)(hp:0<k)(hb:1048576*bt<=140737488355328)(h1:ZA P f s)(h2:Lb P f s e k):jZ P f (ay t):=by
 subst hs;obtain⟨_,hu,⟨_,⟨i0,hi0,hz1,z,hz0,hzs,_⟩⟩,hby⟩:=h;rw[hi0]at hby
 simp only[Option.map_some,Option.some.injEq]at hby
 have q:∀(w:World) (a:Option Addr) (n c n' c':Nat),(binOp .eql s (.slice a n c) (.slice none n' c')).run P w = .ok (.bool a.isNone) w:=λw a n c n' c'=>Lib.run_eql_slice_nil w _ _ a n c n' c' hu;refine V0 (e:=e) hf (λw=>h1 w q) λw a n c news hl hn hc ho=>h2 w a n c news i0 z q hu hi0 hz0 hz1 (by rw[<- iB,hzs,(jA default (Good default []) t).length]) hp hl hc ho (by unfold maxLen;omega) ?_;rw[hby,cO];exact gI (cV _ hn) hb
end Go.Am
set_option maxRecDepth 100000
namespace Go.Proofs.YtbaoaedmbhpolaaGreatDoor
open Go Go.Am Go.Proofs
set_option maxHeartbeats 4000000 in
def x6:ZA aN 120 41 /\ ZA aN 121 43 /\ ZA aN 122 44 /\ ZA aN 123 47 /\ ZA aN 124 49 /\ ZA aN 125 50 /\ ZA aN 126 51 /\ ZA aN 127 52 /\ ZA aN 498 90:=by
  refine⟨?_, ?_, ?_, ?_, ?_, ?_, ?_, ?_, ?_⟩ <;>
  (intro w q22
   have mixed:=mixed
   first | go_enter Pr, ZO | go_enter Ps, ZP | go_enter Pt, ZQ | go_enter Pu, ZR | go_enter Pv, ZS | go_enter Pw, ZT | go_enter Px, ZU | go_enter Py, ZV | go_enter Pz, ZW
   go_wp2
   go_ret
   exact⟨rfl, rfl⟩)
set_option maxHeartbeats 4000000 in
def uI:Lb aN 120 41 154 4 /\ Lb aN 121 43 157 3 /\ Lb aN 122 44 161 3 /\ Lb aN 123 47 164 3 /\ Lb aN 124 49 166 4 /\ Lb aN 125 50 169 3 /\ Lb aN 126 51 172 3 /\ Lb aN 127 52 174 3 /\ Lb aN 498 90 2 1:=by
  refine⟨?_, ?_, ?_, ?_, ?_, ?_, ?_, ?_, ?_⟩ <;>
  (intro w a n c news i0 z q22 hu hi0 hz0 hz1 hzs hp hl A h1 hn hb
   have mixed:=mixed
   first | go_enter Pr, ZO | go_enter Ps, ZP | go_enter Pt, ZQ | go_enter Pu, ZR | go_enter Pv, ZS | go_enter Pw, ZT | go_enter Px, ZU | go_enter Py, ZV | go_enter Pz, ZW
   go_wp2_with (at_builtin; refine wpList_append_own _ rfl _ _ _ rfl w.heap.size _ i0 z _ i0.bytes hu hi0 hz0 hz1 rfl hzs hp _ _ _ rfl (World.ownsRow_made w #[] 0 (aU _) (aY _) (by simp)) a n c news rfl hl (λj u hj=>Lib.cell?_alloc_some _ (A j u hj)) h1 hn hb (by simp) ?_)
   intro v' w1 hown hgrow hnil
   go_wp2
   go_ret
   exact⟨v', rfl, by simpa using hown, ((Go.RowKit.Below.refl _ w).alloc (aU _) _).grown hgrow (by simp) (by intro k hk; simp[Value.ownBlock]at hk; omega)⟩)
def aTp:Γ AT:=[AT.v (Ty.sl (Ty.int .i64))]
def RF(x0:Γ (Int)):Γ (Int):=x0
def bBY(x0:Γ (Int)):Prop:=x0.length<=1048576
def bBZ:Am.Spec:={ sig:=aTp,pre:=λ⟨x0,_⟩=>bBY x0,res:=λ⟨x0,_⟩=>[⟨Ty.sl (Ty.int .i64),RF x0⟩] }
def aTq:Th 498 bBZ:=Ay Pz<|q6 (Ah 90) rfl rfl (by decide) (by decide) x6.2.2.2.2.2.2.2.2 uI.2.2.2.2.2.2.2.2
noncomputable section
def zY(fl:Γ Int->Option (Γ Int))(x2:Γ Int):Γ Int->Option (Γ Int)
 | []=>none
 | k::r=>if tE x2 k=true then zY fl x2 r else match fl (x2++[k])with
  | some y=>some y
  | none=>zY fl x2 r
def fF(x0 x1:Γ F3):Nat->Γ Int->Option (Γ Int)
 | 0,x2=>some x2
 | m+1,x2=>zY (fF x0 x1 m) x2 (tD x0 (x1.getD x2.length (aC,0,0,())))
def GF(x0 x1:Γ F3)(x2:Γ Int):Γ Int:=(fF x0 x1 (x1.length-x2.length) x2).getD []
def Dw(x0 x1:Γ F3)(x2:Γ Int):Bool:=(fF x0 x1 (x1.length-x2.length) x2).isSome
def wv(k:Nat)(x0 x1:Γ F3)(x2:Γ Int):Prop:=x2.length<=x1.length/\x1.length+1-x2.length<=k/\x1.length<=1000/\x0.length<=1000
def bv(k:Nat):Pq:={ sig:=[AT.v (.sl c8),AT.v (.sl c8),AT.v (.sl Za)],pre:=λ⟨x0,x1,x2,_⟩=>wv k x0 x1 x2,res:=λ⟨x0,x1,x2,_⟩=>[⟨.sl Za,GF x0 x1 x2⟩,⟨.bool,Dw x0 x1 x2⟩],kds:=[.frz,.own] }
def aJn(kk:Nat):Aw:=[(496,aQB.S),(497,aQC.S),(498,bBZ),(442,bv kk)]
def aJo(kk:Nat)(ih:Con aN 442 (bv kk)):rM aN (aJn kk):=⟨aQB.h,aQC.h,aTq,ih,trivial⟩
def aTr:Γ AT:=[AT.v (.sl c8),AT.v (.sl c8),AT.v (.sl Za)]
def aTs(kk:Nat):gC:=⟨442,Tryz.f442,aTr,[.sl Za,.bool],[.frz,.own],aJn kk,false,[]⟩
def bJt(kk:Nat)(ih:Con aN 442 (bv kk)):Fok aN tab (aTs kk):=⟨lz,Ah,(aJo kk ih),mixed⟩
def aTt(v26:Int)(x0:Γ bP)(x1:Γ bP)(x2:Γ Int):gH×bM:=([eL 0 c8 x0,eL 1 c8 x1,eL 2 (.int .i64) x2,eW 24 0,eI 25 (↑(aF (tD x0 (aD x1 (aE (x2.length:Int)) (aC,0,0,())))):Int),eI 26 v26],[cL (.int .i64) (tD x0 (aD x1 (aE (x2.length:Int)) (aC,0,0,())))])
mutual
def aNa(kk:Nat):Nat->Γ bP->Γ bP->Γ Int->Γ aS->Prop
 | 0,_,_,_,_=>False
 | n+1,x0,x1,x2,ds=>(if((x2.length:Int)==(x1.length:Int))=true then(ds=[aI (.sl Za) x2,aI .bool true])else((0<=(x2.length:Int))/\((x2.length:Int)<(x1.length:Int))/\((bBV x0 (aD x1 (aE (x2.length:Int)) (aC,0,0,())))/\(M8 kk n (0) (x0) (x1) (x2) ds))))
def M8(kk:Nat):Nat->Int->Γ bP->Γ bP->Γ Int->Γ aS->Prop
 | 0,_,_,_,_,_=>False
 | n+1,v26,x0,x1,x2,ds=>(if decide (v26<(↑(aF (tD x0 (aD x1 (aE (x2.length:Int)) (aC,0,0,())))):Int))=true then((0<=v26)/\(v26<(↑(aF (tD x0 (aD x1 (aE (x2.length:Int)) (aC,0,0,())))):Int))/\(if tE x2 (aD (tD x0 (aD x1 (aE (x2.length:Int)) (aC,0,0,()))) (aE v26) 0)=true then((aX .i64 (v26+1))/\(M8 kk n (v26+1) (x0) (x1) (x2) ds))else((bBY x2)/\(((aF (RF x2)+1)*8<=140737488355328)/\(((bv kk).2 (x0,x1,RF x2++[aD (tD x0 (aD x1 (aE (x2.length:Int)) (aC,0,0,()))) (aE v26) 0],()))/\(if Dw x0 x1 (RF x2++[aD (tD x0 (aD x1 (aE (x2.length:Int)) (aC,0,0,()))) (aE v26) 0])=true then(ds=[aI (.sl Za) (GF x0 x1 (RF x2++[aD (tD x0 (aD x1 (aE (x2.length:Int)) (aC,0,0,()))) (aE v26) 0])),aI .bool true])else((aX .i64 (v26+1))/\(M8 kk n (v26+1) (x0) (x1) (x2) ds))))))))else(ds=[aI (.sl Za) [],aI .bool false]))
end
def aTu(kk:Nat)(ds:Γ aS)(K:fG)(q:Nat->Value):∀n,(∀ {x0 x1 x2},aNa kk n x0 x1 x2 ds->St (aTs kk) (x0,x1,x2,()) ds [] K q)/\(∀ {v26 x0 x1 x2},M8 kk n v26 x0 x1 x2 ds->Cu (aTs kk) 4 (aTt v26 x0 x1 x2) ds [] K q):=by
 intro n
 induction n with
 | zero=>exact⟨λh=>h.elim,λh=>h.elim⟩
 | succ n ih =>
 obtain⟨i,i4⟩:=ih;exact⟨λh=>bR h (λh=>rh h) λh=>c2 h λh=>c1 h λh=>jp (i4 h),
  λh=>bR h (λh=>c2 h λh=>tv<|bR h (λh=>c1 h λh=>jp (i4 h)) λh=>c1 h λh=>c1 h λh=>c1 h λh=>bR h (λh=>rh h) λh=>c1 h λh=>jp (i4 h)) λh=>rh h⟩
def aNb(kk:Nat)(x0 x1:Γ F3)(x2:Γ Int)(h:wv (kk+1) x0 x1 x2)(hlt:x2.length<x1.length)(M:Nat)(hM:M+1=x1.length-x2.length)(hks:(tD x0 (x1.getD x2.length (aC,0,0,()))).length<=9000000000):∀(k i:Nat),i+k=(tD x0 (x1.getD x2.length (aC,0,0,()))).length ->
  M8 kk (k+1) (i:Int) x0 x1 x2 [⟨.sl Za,(zY (fF x0 x1 M) x2 ((tD x0 (x1.getD x2.length (aC,0,0,()))).drop i)).getD []⟩,⟨.bool,(zY (fF x0 x1 M) x2 ((tD x0 (x1.getD x2.length (aC,0,0,()))).drop i)).isSome⟩]:=by
 obtain⟨h1,h2,h3,h4⟩:=h;have e0:aE (x2.length:Int)=x2.length:=aK _;intro k
 induction k with
 | zero =>
  intro i hi;rw[M8,e0,ν (by lia),bT (by lia)]<;>rfl
 | succ k ih =>
  intro i hi;have e3:(i:Int)+1=((i+1:Nat):Int):=by lia
  rw[M8,e0,e3,aK,π (by lia),dQ _ i 0 (by lia)];generalize tD x0 (x1.getD x2.length (aC,0,0,()))=ks at *;generalize ks.getD i 0=y at *;refine⟨by lia,by lia,?_⟩;rw[zY];by_cases c:tE x2 y=true
  ·grind [aJ]
  ·simp only[ν c];refine⟨show x2.length<=1048576 by lia,show (x2.length+1)*8<=140737488355328 by lia,?_,?_⟩
   ·show (x2++[y]).length<=x1.length/\x1.length+1-(x2++[y]).length<=kk/\x1.length<=1000/\x0.length<=1000
    grind
   ·have eM:x1.length-(x2++[y]).length=M:=by
     grind
    have g0:GF x0 x1 (x2++[y])=(fF x0 x1 M (x2++[y])).getD []:=by grind [GF]
    have g1:Dw x0 x1 (x2++[y])=(fF x0 x1 M (x2++[y])).isSome:=by grind [Dw]
    have gc:RF x2=x2:=rfl;rw[gc,g0,g1];cases hf:fF x0 x1 M (x2++[y])with
    | none =>
     rw[ν (by simp)]
     grind [aJ]
    | some z=>rfl
def aTv(kk:Nat)(x0 x1:Γ F3)(x2:Γ Int)(h:wv (kk+1) x0 x1 x2)(hks:∀x,(tD x0 x).length<=9000000000):∃n,aNa kk n x0 x1 x2 [⟨.sl Za,GF x0 x1 x2⟩,⟨.bool,Dw x0 x1 x2⟩]:=by
 have hh:=h;obtain⟨h1,h2,h3,h4⟩:=h;have e0:aE (x2.length:Int)=x2.length:=aK _;by_cases c:x2.length=x1.length
 ·refine⟨1,?_⟩;unfold GF Dw;rw[aNa,π (show ((x2.length:Int)==(x1.length:Int))=true by rw[beq_iff_eq];omega),show x1.length-x2.length=0 by omega]<;>rfl
 ·obtain⟨M,hM⟩:∃M,M+1=x1.length-x2.length:=⟨x1.length-x2.length-1,by omega⟩;have:=aNb kk x0 x1 x2 hh (by omega) M hM (hks _) _ 0 (by rw[cO]);refine⟨(tD x0 (x1.getD x2.length (aC,0,0,()))).length+1+1,?_⟩;unfold GF Dw;rw[aNa,ν (show ¬((x2.length:Int)==(x1.length:Int))=true by rw[beq_iff_eq];omega), <- hM,fF,e0];exact⟨by omega,by omega,show x0.length<=1000000 by omega,this⟩
theorem aEa(x1:F3):∀(l:Γ F3) (i:Nat),(pG x1 l i).length<=l.length
 | [],_=>aU _
 | a::l,i=>by
  unfold pG;have:=aEa x1 l (i+1);split
  ·simp;omega
  ·simp;omega
theorem aEb:∀k,Con aN 442 (bv k)
 | 0=>Ay lz λw G G0 ⟨x0,x1,x2,_⟩ vs bss _ _ _ hp=>by
  obtain⟨h1,h2,_⟩:wv 0 x0 x1 x2:=hp;omega
 | k+1=>mkC (bJt k (aEb k)) λ⟨x0,x1,x2,_⟩ h hwf K q=>by
  have h':wv (k+1) x0 x1 x2:=h;obtain⟨n,hn⟩:=aTv k x0 x1 x2 h' (λx=>by
   have:=aEa x x0 0;have:=h'.2.2.2;show (pG x x0 0).length<=_;omega)
  have hs:=λds=>aTu k ds K q n;exact(hs _).1 hn
def aTw:Am.Spec:=bv 2000
def aTx:Th 442 aTw:=aEb 2000
def bCa:KK:=⟨442,aTw,aTx⟩
def aTy(x0:Γ bP)(x1:Γ bP):Prop:=if RC x0 x1 != 0 then True else aTw.2 (x0,x1,[],())/\True
def JA(x0:Γ bP)(x1:Γ bP):Γ Int:=if RC x0 x1 != 0 then [] else if !Dw x0 x1 [] then [] else GF x0 x1 []
def RG(x0:Γ bP)(x1:Γ bP):Int:=if RC x0 x1 != 0 then RC x0 x1 else if !Dw x0 x1 [] then 3 else 0
def bCb:KK:=mA (D ma [.v (.sl c8),.v (.sl c8)] [.sl Za,.int .i64] [.frz,.own] [bBS,bCa] false []) (DO ma) aTy (JA,RG,()) λ_=>bH<|dL pr<|aL<|vY pr pr
def pU(x0:Int):Bool:=bE x0 0 36524
def aEc:KK:=mB Tryz.func339 [.v (.int .i64)] [.bool] [lF] nP (pU,()) λ_=>bH pr
def aTz:gC:=D0 mc [.v (.sl Za)] [.bool] [aEc]
mutual
def aT0:Nat->Γ Int->Γ aS->Prop
 | 0,_,_=>False
 | n+1,x0,ds=>GG n 0 x0 ds
def GG:Nat->Int->Γ Int->Γ aS->Prop
 | 0,_,_,_=>False
 | n+1,v7,x0,ds=>if decide (v7<(x0.length:Int))then 0<=v7/\v7<(x0.length:Int)/\if !pU (aD x0 (aE v7) 0)then ds=[aI .bool false] else if decide (v7>0)then aX .i64 (v7-1)/\0<=v7-1/\v7-1<(x0.length:Int)/\if decide (aD x0 (aE v7) 0<aD x0 (aE (v7-1)) 0)then ds=[aI .bool false] else aX .i64 (v7+1)/\GG n (v7+1) x0 ds else aX .i64 (v7+1)/\GG n (v7+1) x0 ds else ds=[aI .bool (decide ((x0.length:Int)<=40))]
end
def aT1(ds:Γ aS)(K:fG)(q:Nat->Value):∀n,(∀ {x0},aT0 n x0 ds->St aTz (x0,()) ds [] K q)/\(∀ {v7 x0},GG n v7 x0 ds->Cu aTz 2 ([eL 0 (.int .i64) x0,eL 5 (.int .i64) x0,eI 6 (x0.length:Int),eI 7 v7],[]) ds [] K q):=nI ⟨aH,aH⟩ λn ⟨i,i2⟩=>⟨bX i2,
  bD (cP<|bH<|bD (jM cM)<|bD (aL<|cP<|bD cM<|aL<|bX i2)<|dK<|aL<|bX i2) cM⟩
def CV(x0:Γ Int)(i:Nat)(x:Int):Bool:=pU x&&(i==0 || !decide (x<x0.getD (i-1) 0))
def jB(x0:Γ Int):Bool:=nF (CV x0) 0 x0&&decide ((x0.length:Int)<=40)
def aEd(n i:Nat)(x0:Γ Int)(hm:x0.length<=maxLen)(hi:i<x0.length)(ds:Γ aS)
  (h:if CV x0 i (x0.getD i 0)=true then GG n ((i:Int)+1) x0 ds else ds=[⟨.bool,false⟩]):GG (n+1) (i:Int) x0 ds:=by
 have hu:=iJ hm hi;have hmx:maxLen<=9223372036854775807:=by decide
 rw[GG,π (by simp only[ε];omega),aK];refine⟨by omega,by omega,?_⟩;unfold CV at h;by_cases h1:pU (x0.getD i 0)=true
 case neg =>
  rw[Hb h1]at h;exact(π (by rw[Hb h1];rfl)).mpr (by simpa using h)
 refine(ν (by rw[h1];decide)).mpr ?_;rw[h1]at h;by_cases h0:(i:Int)>0
 case neg =>
  have hi0:(i==0)=true:=by simp;omega
  rw[hi0]at h;exact(ν (by simpa using h0)).mpr ⟨hu,by simpa using h⟩
 have hi0:(i==0)=false:=by simp;omega
 have e:((i:Int)-1).toNat=i-1:=by omega
 rw[hi0]at h;refine(π (by simpa using h0)).mpr ⟨by rw[aJ];omega,by omega,by omega,?_⟩;rw[e];by_cases h3:x0.getD i 0<x0.getD (i-1) 0
 ·rw[decide_eq_true h3]at h;exact(π (decide_eq_true h3)).mpr (by simpa using h)
 ·rw[decide_eq_false h3]at h;exact(ν (by simpa using h3)).mpr ⟨hu,by simpa using h⟩
def aT2(x0:Γ Int)(hw:x0.length<=maxLen):aT0 (x0.length+1+1) x0 [⟨.bool,jB x0⟩]:=by
 rw[aT0];have key:=zV x0 0 (CV x0) [(⟨.bool,false⟩:aS)] [⟨.bool,decide ((x0.length:Int)<=40)⟩] (λn i ds=>GG n i x0 ds) (λn=>?_) (λn i hi hok ds hr=>?_) (λn i hi hok=>?_)
 ·unfold jB;cases h:nF (CV x0) 0 x0 with
  | true=>rw[π h]at key;simpa using key
  | false=>rw[ν (by rw[h];simp)]at key;simpa using key
 ·rw[GG,ν (by simp)]
 ·exact aEd n i x0 hw hi ds (by rw[π hok];exact hr)
 ·exact aEd n i x0 hw hi _ (by rw[ν (by rw[hok];simp)])
def bCc:KK:=mL aTz (DO mc) nP (jB,()) (λ⟨x0,_⟩ h hwf K q =>
 (aT1 _ K q _).1 (aT2 x0 hwf.1.1))
def Vv(x0:dO)(x1:Δ):Bool:=aB x0.1==aB x1
def bCd:KK:=mB Tryz.func500 [.v eC,.p .str] [.bool] [] nP (Vv,()) λ_=>pr
def Vw:gC:=D0 me [.v (.sl eC),.fn 500 [(true,.str)]] [.int .i64] [bCd]
mutual
def Vx:Nat->Γ dO->Δ->Γ aS->Prop
 | 0,_,_,_=>False
 | n+1,x0,x1,ds=>wA n 0 x0 x1 ds
def wA:Nat->Int->Γ dO->Δ->Γ aS->Prop
 | 0,_,_,_,_=>False
 | n+1,v8,x0,x1,ds=>if decide (v8<(x0.length:Int))then 0<=v8/\v8<(x0.length:Int)/\if Vv (aD x0 (aE v8) (aC,0,0,0,())) x1 then ds=[aI (.int .i64) v8] else aX .i64 (v8+1)/\wA n (v8+1) x0 x1 ds else ds=[aI (.int .i64) (-1)]
end
def aBG(ds:Γ aS)(K:fG)(q:Nat->Value):∀n,(∀ {x0 x1},Vx n x0 x1 ds->St Vw (x0,(x1,()),()) ds [] K q)/\(∀ {v8 x0 x1},wA n v8 x0 x1 ds->Cu Vw 2 ([eL 0 eC x0,(1,PV.fn 500 [rR .str x1]),eI 7 (x0.length:Int),eI 8 v8],[]) ds [] K q):=nI ⟨aH,aH⟩ λn ⟨i,i2⟩=>⟨bX i2,
  bD (cP<|bH<|bD cM<|aL<|bX i2) cM⟩
def q7(x0:Γ dO)(y0:Δ):Int:=idx (x0.findIdx? (λx=>Vv x y0))
def aBH(x0:Γ dO)(y0:Δ)(hm:x0.length<=maxLen):Vx (x0.length+1+1) x0 y0 [⟨.int .i64,q7 x0 y0⟩]:=by
 rw[Vx];have key:=FE x0 (aC,(0:Int),(0:Int),(0:Int),()) (λx=>Vv x y0) [(⟨.int .i64, -1⟩:aS)] (λk=>[⟨.int .i64,k⟩]) (λn i ds=>wA n i x0 y0 ds) (λn=>?_) (λn i hi hok ds hr=>?_) (λn i hi hok=>?_)
 ·unfold q7;cases h:x0.findIdx? (λx=>Vv x y0) <;> rw[h]at key <;> exact key
 ·rw[wA,ν (by simp)]
 ·rw[wA,π (by simp;omega)];simp only[aK];refine⟨by omega,by omega,?_⟩;rw[ν (by rw[hok];simp)];exact⟨iJ hm hi,hr⟩
 ·rw[wA,π (by simp;omega)];simp only[aK];refine⟨by omega,by omega,?_⟩;rw[π hok] <;> trivial
def aGg:KK:=mL Vw (DO me) nP (q7,()) (λ⟨x0,⟨y0,_⟩,_⟩ h hwf K q =>
 (aBG _ K q _).1 (aBH x0 y0 hwf.1.1))
def aT3(x0:Γ dO)(x1:Δ):Prop:=if decide (q7 x0 x1<0)then True else 0<=q7 x0 x1/\q7 x0 x1<(x0.length:Int)/\True
def aT4(x0:Γ dO)(x1:Δ):dO:=if decide (q7 x0 x1<0)then(aC,0,0,0,())else aD x0 (aE (q7 x0 x1)) (aC,0,0,0,())
def Vy(x0:Γ dO)(x1:Δ):Bool:=if decide (q7 x0 x1<0)then false else true
def bCe:KK:=mB Tryz.func443 [.v (.sl eC),.v (.str)] [.cons .str cZ,.bool] [aGg] aT3 (aT4,Vy,()) λ_=>bH<|dL pr<|cP pr
def aT5:gC:=D0 mf [.v (.sl eC),.v (.bool),.v (.sl .str)] [.int .i64] [aQ8,bCe]
mutual
def aT6:Nat->Γ dO->Bool->Γ Δ->Γ aS->Prop
 | 0,_,_,_,_=>False
 | n+1,x0,x1,x2,ds=>if !lU x0 then ds=[aI (.int .i64) 1] else if !x1 then ds=[aI (.int .i64) 2] else M9 n 0 x0 x2 ds
def M9:Nat->Int->Γ dO->Γ Δ->Γ aS->Prop
 | 0,_,_,_,_=>False
 | n+1,v20,x0,x2,ds=>if decide (v20<(x2.length:Int))then 0<=v20/\v20<(x2.length:Int)/\aT3 x0 (aD x2 (aE v20) aC)/\if !Vy x0 (aD x2 (aE v20) aC)then ds=[aI (.int .i64) 3] else aX .i64 (v20+1)/\M9 n (v20+1) x0 x2 ds else ds=[aI (.int .i64) 0]
end
def aT7(ds:Γ aS)(K:fG)(q:Nat->Value):∀n,(∀ {x0 x1 x2},aT6 n x0 x1 x2 ds->St aT5 (x0,x1,x2,()) ds [] K q)/\(∀ {v20 x0 x2},M9 n v20 x0 x2 ds->Cu aT5 6 ([eL 0 eC x0,eL 18 .str x2,eI 19 (x2.length:Int),eI 20 v20],[]) ds [] K q):=nI ⟨aH,aH⟩ λn ⟨i,i6⟩=>⟨bH<|bD cM<|bD cM<|bX i6,
  bD (cP<|aL<|bD cM<|aL<|bX i6) cM⟩
def lG(x0:Γ dO)(x1:Bool)(x2:Γ Δ):Int:=if !lU x0 then 1 else if !x1 then 2 else if x2.all λy=>Vy x0 y then 0 else 3
def aNc(x0:Γ dO)(x1:Bool)(x2:Γ Δ):Prop:=∀y∈x2,aT3 x0 y
def aT8(x0:Γ dO)(x1:Bool)(x2:Γ Δ)(h:aNc x0 x1 x2)(hm:x2.length<=maxLen):aT6 (x2.length+1+1) x0 x1 x2 [⟨.int .i64,lG x0 x1 x2⟩]:=by
 rw[aT6];unfold lG;by_cases h1:(!lU x0)=true
 ·rw[π h1,π h1]
 rw[ν h1,ν h1];by_cases h2:(!x1)=true
 ·rw[π h2,π h2]
 rw[ν h2,ν h2];have key:=uH x2 aC (λy=>Vy x0 y) [(⟨.int .i64,3⟩:aS)] [⟨.int .i64,0⟩] (λn i ds=>M9 n i x0 x2 ds) (λn=>?_) (λn i hi hok ds hr=>?_) (λn i hi hok=>?_)
 ·cases hh:x2.all (λy=>Vy x0 y) <;> rw[hh]at key <;> simpa using key
 ·rw[M9,ν (by simp)]
 ·rw[M9,π (by simp;omega)];simp only[aK];refine⟨by omega,by omega,h _ (cF x2 i aC hi),?_⟩;rw[ν (by rw[hok];simp)];exact⟨iJ hm hi,hr⟩
 ·rw[M9,π (by simp;omega)];simp only[aK];refine⟨by omega,by omega,h _ (cF x2 i aC hi),?_⟩;rw[π (by rw[hok];rfl)] <;> trivial
def bCf:KK:=mL aT5 (DO mf) aNc (lG,()) (λ⟨x0,x1,x2,_⟩ h hwf K q =>
 (aT7 _ K q _).1 (aT8 x0 x1 x2 h hwf.2.2.1.1))
def aJp(x0:Γ Int):Int:=(x0.length:Int)
def bCg:KK:=mB Tryz.func444 [.v (.sl Za)] [.int .i64] [] nP (aJp,()) λ_=>pr
def aT9:gC:=D0 mg [.v (.sl eC),.v (.sl Za)] [.cons .str cZ,.bool] [bCg]
mutual
def bCh:Nat->Γ dO->Γ Int->Γ aS->Prop
 | 0,_,_,_=>False
 | n+1,x0,x1,ds=>BB n false 0 ((aC,0,0,0,())) x1 x0 ds
def BB:Nat->Bool->Int->Δ×Int×Int×Int×Unit->Γ Int->Γ dO->Γ aS->Prop
 | 0,_,_,_,_,_,_=>False
 | n+1,v7,v14,h1,x1,x0,ds=>if decide (v14<(x0.length:Int))then 0<=v14/\v14<(x0.length:Int)/\if decide ((aD x0 (aE v14) (aC,0,0,0,())).2.2.1>=aJp x1)then aX .i64 ((x1.length:Int)-1)/\0<=(x1.length:Int)-1/\(x1.length:Int)-1<(x1.length:Int)/\0<(x1.length:Int)/\aX .i64 (aD x1 (aE ((x1.length:Int)-1)) 0-aD x1 0 0)/\if decide (aD x1 (aE ((x1.length:Int)-1)) 0-aD x1 0 0<(aD x0 (aE v14) (aC,0,0,0,())).2.2.2.1)then(if !v7 then aX .i64 (v14+1)/\BB n true (v14+1) (aD x0 (aE v14) (aC,0,0,0,())) x1 x0 ds else if decide ((aD x0 (aE v14) (aC,0,0,0,())).2.1<h1.2.1)then aX .i64 (v14+1)/\BB n true (v14+1) (aD x0 (aE v14) (aC,0,0,0,())) x1 x0 ds else aX .i64 (v14+1)/\BB n v7 (v14+1) h1 x1 x0 ds)else aX .i64 (v14+1)/\BB n v7 (v14+1) h1 x1 x0 ds else aX .i64 (v14+1)/\BB n v7 (v14+1) h1 x1 x0 ds else ds=[aI eC h1,aI .bool v7]
end
def aTA(ds:Γ aS)(K:fG)(q:Nat->Value):∀n,(∀ {x0 x1},bCh n x0 x1 ds->St aT9 (x0,x1,()) ds [] K q)/\(∀ {v7 v14 h1 x1 x0},BB n v7 v14 h1 x1 x0 ds->Cu aT9 3 ([eL 1 (.int .i64) x1,eO 4 0 0 [],eO 6 1 0 [],eB 7 v7,eL 12 eC x0,eI 13 (x0.length:Int),eI 14 v14],[some (fE eC [(aC,0,0,0,())] true none (some false)),some (fE eC [h1] true none (some false))]) ds [] K q):=nI ⟨aH,aH⟩ λn ⟨i,i3⟩=>⟨bX i3,
  bD (cP<|bH<|bD (aL<|cP<|pq 0<|aL<|aL<|bD (bD (jM<|aL<|bX i3)<|bD (aL<|bX i3)<|aL<|bX i3)<|dK<|aL<|bX i3)<|dK<|dK<|aL<|bX i3) cM⟩
abbrev aJq:Ty := .cons .str cZ
def GH(x1:Γ Int)(f:F4):Bool:=decide (f.2.2.1>=(x1.length:Int))&&decide (x1.getD (x1.length-1) 0-x1.getD 0 0<f.2.2.2.1)
def qG(x1:Γ Int)(s:Bool×F4)(f:F4):Bool×F4:=if GH x1 f=true then(if(!s.1)=true then(true,f)else if decide (f.2.1<s.2.2.1)=true then(true,f)else s)else s
def Ma(x0:Γ F4)(x1:Γ Int):Bool×F4:=x0.foldl (qG x1) (false,(aC,0,0,0,()))
def iU(x0:Γ F4)(x1:Γ Int):F4:=(Ma x0 x1).2
def rW(x0:Γ F4)(x1:Γ Int):Bool:=(Ma x0 x1).1
def aGh(x0:Γ F4)(x1:Γ Int):Prop:=1<=x1.length/\∀y∈x1,0<=y/\y<=1000000000
def aTB(x0:Γ F4)(x1:Γ Int)(hm:x0.length<=maxLen)(hm1:x1.length<=maxLen)(h:aGh x0 x1):∀(k i:Nat) (s:Bool×F4),i+k=x0.length->BB (k+1) s.1 (i:Int) s.2 x1 x0 [⟨aJq,((x0.drop i).foldl (qG x1) s).2⟩,⟨.bool,((x0.drop i).foldl (qG x1) s).1⟩]:=by
 have hmx:maxLen<=9223372036854775807:=by decide
 obtain⟨h1,h2⟩:=h;intro k
 induction k with
 | zero =>
  intro i s hi;rw[BB,ν (by lia),bT (by lia)]<;>rfl
 | succ k ih =>
  intro i s hi;have hlt:i<x0.length:=by lia
  have hu:=iJ hm hlt;have e3:(i:Int)+1=((i+1:Nat):Int):=by lia
  have e4:aE ((x1.length:Int)-1)=x1.length-1:=by lia
  have b1:=h2 _ (cF x1 (x1.length-1) 0 (by lia));have b2:=h2 _ (cF x1 0 0 (by lia));have ih:=λs=>ih (i+1) s (by lia);rw[e3]at hu;rw[BB,π (by lia),dQ x0 i (aC,0,0,0,()) hlt,iQ,e3,e4,aK];generalize x0.getD i (aC,0,0,0,())=f at *;refine⟨by lia,by lia,?_⟩;have no:qG x1 s f=s->aX .i64 ((i+1:Nat):Int)/\BB (k+1) s.1 ((i+1:Nat):Int) s.2 x1 x0 [⟨aJq,((x0.drop (i+1)).foldl (qG x1) (qG x1 s f)).2⟩,⟨.bool,((x0.drop (i+1)).foldl (qG x1) (qG x1 s f)).1⟩]:=λe=>by
   grind
  have yes:qG x1 s f=(true,f)->aX .i64 ((i+1:Nat):Int)/\BB (k+1) true ((i+1:Nat):Int) f x1 x0 [⟨aJq,((x0.drop (i+1)).foldl (qG x1) (qG x1 s f)).2⟩,⟨.bool,((x0.drop (i+1)).foldl (qG x1) (qG x1 s f)).1⟩]:=λe=>by
   grind
  have hx:qG x1 s f=if(decide (f.2.2.1>=(x1.length:Int))&&decide (x1.getD (x1.length-1) 0-x1.getD 0 0<f.2.2.2.1))=true then(if(!s.1)=true then(true,f)else if decide (f.2.1<s.2.2.1)=true then(true,f)else s)else s:=rfl
  by_cases c1:decide (f.2.2.1>=(x1.length:Int))=true
  ·refine(π c1).mpr ⟨by grind [aJ],by lia,by lia,by lia,by grind [aJ],?_⟩
   lia
  ·exact(ν c1).mpr (no (by lia))
def bCi:KK:=mL aT9 (DO mg) aGh (iU,rW,()) (λ⟨x0,x1,_⟩ h hwf K q =>
 (aTA _ K q ((x0.length+2))).1 (by rw[bCh];exact aTB x0 x1 hwf.1.1 hwf.2.1.1 h x0.length 0 (false,(aC,0,0,0,())) (by omega)))
def aJr:gC:=D0 mh [.v (.sl eC),.v (.sl Za)] [.int .i64,.sl .str,.int .i64] [bCc,bCf,bCi]
mutual
def aJs:Nat->Γ dO->Γ Int->Γ aS->Prop
 | 0,_,_,_=>False
 | n+1,x0,x1,ds=>aNc x0 (jB x1) []/\if lG x0 (jB x1) [] != 0 then ds=[aI (.int .i64) 0,aI (.sl .str) [],aI (.int .i64) (lG x0 (jB x1) [])] else if(x0.length:Int)==0 then(if decide ((x1.length:Int)>0)then ds=[aI (.int .i64) 0,aI (.sl .str) [],aI (.int .i64) 3] else aX .i64 ((x1.length:Int)+1)/\aX .i64 ((x1.length:Int)+1)/\0<=(x1.length:Int)+1/\(x1.length:Int)+1<=(x1.length:Int)+1/\8*((x1.length:Int)+1)<=281474976710656/\0<=(x1.length:Int)+1/\(x1.length:Int)+1<=(x1.length:Int)+1/\8*((x1.length:Int)+1)<=281474976710656/\aX .i64 ((x1.length:Int)-1)/\Mb n ((x1.length:Int)-1) (aP (aE ((x1.length:Int)+1)) 0) (aP (aE ((x1.length:Int)+1)) 0) x0 x1 ds)else aX .i64 ((x1.length:Int)+1)/\aX .i64 ((x1.length:Int)+1)/\0<=(x1.length:Int)+1/\(x1.length:Int)+1<=(x1.length:Int)+1/\8*((x1.length:Int)+1)<=281474976710656/\0<=(x1.length:Int)+1/\(x1.length:Int)+1<=(x1.length:Int)+1/\8*((x1.length:Int)+1)<=281474976710656/\aX .i64 ((x1.length:Int)-1)/\Mb n ((x1.length:Int)-1) (aP (aE ((x1.length:Int)+1)) 0) (aP (aE ((x1.length:Int)+1)) 0) x0 x1 ds
def Mb:Nat->Int->Γ Int->Γ Int->Γ dO->Γ Int->Γ aS->Prop
 | 0,_,_,_,_,_,_=>False
 | n+1,v11,h0,h1,x0,x1,ds=>if decide (v11>=0)then aX .i64 (v11+1)/\A4 n (v11+1) h0 h1 x0 x1 v11 ds else Kn n 0 ([]) x0 x1 h0 h1 ds
def A4:Nat->Int->Γ Int->Γ Int->Γ dO->Γ Int->Int->Γ aS->Prop
 | 0,_,_,_,_,_,_,_=>False
 | n+1,v12,h0,h1,x0,x1,v11,ds=>if decide (v12<=(x1.length:Int))then 0<=v11/\v11<=v12/\v12<=(x1.length:Int)/\aGh x0 (bG (aE v11) (bK (aE v12) x1))/\if rW x0 (bG (aE v11) (bK (aE v12) x1))then aX .i64 (v11+1)/\if v12==v11+1 then 0<=v12/\v12<(h0.length:Int)/\aX .i64 ((iU x0 (bG (aE v11) (bK (aE v12) x1))).2.1+aD h0 (aE v12) 0)/\0<=v11/\v11<(h0.length:Int)/\0<=v11/\v11<(h1.length:Int)/\aX .i64 (v12+1)/\A4 n (v12+1) (eU h0 (aE v11) ((iU x0 (bG (aE v11) (bK (aE v12) x1))).2.1+aD h0 (aE v12) 0)) (eU h1 (aE v11) v12) x0 x1 v11 ds else 0<=v12/\v12<(h0.length:Int)/\aX .i64 ((iU x0 (bG (aE v11) (bK (aE v12) x1))).2.1+aD h0 (aE v12) 0)/\0<=v11/\v11<(h0.length:Int)/\if decide ((iU x0 (bG (aE v11) (bK (aE v12) x1))).2.1+aD h0 (aE v12) 0<=aD h0 (aE v11) 0)then 0<=v12/\v12<(h0.length:Int)/\aX .i64 ((iU x0 (bG (aE v11) (bK (aE v12) x1))).2.1+aD h0 (aE v12) 0)/\0<=v11/\v11<(h0.length:Int)/\0<=v11/\v11<(h1.length:Int)/\aX .i64 (v12+1)/\A4 n (v12+1) (eU h0 (aE v11) ((iU x0 (bG (aE v11) (bK (aE v12) x1))).2.1+aD h0 (aE v12) 0)) (eU h1 (aE v11) v12) x0 x1 v11 ds else aX .i64 (v12+1)/\A4 n (v12+1) h0 h1 x0 x1 v11 ds else aX .i64 (v12+1)/\A4 n (v12+1) h0 h1 x0 x1 v11 ds else aX .i64 (v11-1)/\Mb n (v11-1) h0 h1 x0 x1 ds
def Kn:Nat->Int->Γ Δ->Γ dO->Γ Int->Γ Int->Γ Int->Γ aS->Prop
 | 0,_,_,_,_,_,_,_=>False
 | n+1,v16,h2,x0,x1,h0,h1,ds=>if decide (v16<(x1.length:Int))then 0<=v16/\v16<(h1.length:Int)/\0<=v16/\v16<=aD h1 (aE v16) 0/\aD h1 (aE v16) 0<=(x1.length:Int)/\aGh x0 (bG (aE v16) (bK (aE (aD h1 (aE v16) 0)) x1))/\(aF h2+1)*16<=140737488355328/\0<=v16/\v16<(h1.length:Int)/\Kn n (aD h1 (aE v16) 0) (h2++[(iU x0 (bG (aE v16) (bK (aE (aD h1 (aE v16) 0)) x1))).1]) x0 x1 h0 h1 ds else 0<(h0.length:Int)/\ds=[aI (.int .i64) (aD h0 0 0),aI (.sl .str) h2,aI (.int .i64) 0]
end
def aEe(E:gH)(L:bM):DU E L E L:=rfl
def aTC(ds:Γ aS)(K:fG)(q:Nat->Value):∀n,(∀ {x0 x1},aJs n x0 x1 ds->St aJr (x0,x1,()) ds [] K q)/\(∀ {v11 h0 h1 x0 x1},Mb n v11 h0 h1 x0 x1 ds->Cu aJr 9 ([eL 0 eC x0,eL 1 (.int .i64) x1,eI 8 (x1.length:Int),eW 9 0,eW 10 1,eI 11 v11],[cL (.int .i64) h0,cL (.int .i64) h1]) ds [] K q)/\(∀ {v12 h0 h1 x0 x1 v11},A4 n v12 h0 h1 x0 x1 v11 ds->Cu aJr 12 ([eL 0 eC x0,eL 1 (.int .i64) x1,eI 8 (x1.length:Int),eW 9 0,eW 10 1,eI 11 v11,eI 12 v12],[cL (.int .i64) h0,cL (.int .i64) h1]) ds [] K q)/\(∀ {v16 h2 x0 x1 h0 h1},Kn n v16 h2 x0 x1 h0 h1 ds->Cu aJr 19 ([eL 0 eC x0,eL 1 (.int .i64) x1,eI 8 (x1.length:Int),eW 9 0,eW 10 1,eW 15 2,eI 16 v16],[cL (.int .i64) h0,cL (.int .i64) h1,cL .str h2]) ds [] K q):=nI ⟨aH,aH,aH,aH⟩ λn ⟨i,i9,i12,i19⟩=>⟨λ{x0} {x1}=>bH<|aL<|bD cM<|bD (bD cM<|aL<|aL<|Hv λs3=>Hv λs4=>Hv λs5=>UE<|sQ s3<|sQ s4<|sQ s5<|sQ s3<|sQ s4<|sQ s5<|sQ (aEe [eL 0 eC x0,eL 1 (.int .i64) x1,eI 4 0,(5,.a (.val (.slice none 0 0))),eI 6 0,eI 7 (lG x0 (jB x1) []),eI 8 (x1.length:Int),eW 9 0,eW 10 1,eL 19 eC x0,eL 20 (.int .i64) x1,eB 21 (jB x1),eI 22 (lG x0 (jB x1) []),eI 23 (lG x0 (jB x1) []),eB 24 (lG x0 (jB x1) [] != 0),eL 26 (.int .i64) x1,eI 27 (x1.length:Int),eL 28 eC x0,eI 29 (x0.length:Int),eB 30 ((x0.length:Int)==0),eB 31 ((x0.length:Int)==0),eI 32 (x1.length:Int),eB 33 (decide ((x1.length:Int)>0)),eB 34 (decide ((x1.length:Int)>0)),eI 35 (x1.length:Int),eI 36 ((x1.length:Int)+1),eW 37 0,eI 38 (x1.length:Int),eI 39 ((x1.length:Int)+1),eW 40 1] [cL (.int .i64) (aP (aE ((x1.length:Int)+1)) 0),cL (.int .i64) (aP (aE ((x1.length:Int)+1)) 0)])<|aL<|bX i9)<|dK<|aL<|aL<|Hv λs3=>Hv λs4=>Hv λs5=>UE<|sQ s3<|sQ s4<|sQ s5<|sQ s3<|sQ s4<|sQ s5<|sQ (aEe [eL 0 eC x0,eL 1 (.int .i64) x1,eI 4 0,(5,.a (.val (.slice none 0 0))),eI 6 0,eI 7 (lG x0 (jB x1) []),eI 8 (x1.length:Int),eW 9 0,eW 10 1,eL 19 eC x0,eL 20 (.int .i64) x1,eB 21 (jB x1),eI 22 (lG x0 (jB x1) []),eI 23 (lG x0 (jB x1) []),eB 24 (lG x0 (jB x1) [] != 0),eL 26 (.int .i64) x1,eI 27 (x1.length:Int),eL 28 eC x0,eI 29 (x0.length:Int),eB 30 ((x0.length:Int)==0),eB 31 ((x0.length:Int)==0),(32,.a (.val (.tuple #[]))),(33,.a (.val (.tuple #[]))),eB 34 false,eI 35 (x1.length:Int),eI 36 ((x1.length:Int)+1),eW 37 0,eI 38 (x1.length:Int),eI 39 ((x1.length:Int)+1),eW 40 1] [cL (.int .i64) (aP (aE ((x1.length:Int)+1)) 0),cL (.int .i64) (aP (aE ((x1.length:Int)+1)) 0)])<|aL<|bX i9,
  bD (aL<|bX i12)<|Dr [(15,.str)] i19,
  λ{v12} {h0} {h1} {x0} {x1} {v11}=>bD (Hv λs0=>cP<|aL<|bD (aL<|bD (jM<|cP<|Hv λs7=>aL<|Hv λs9=>aL<|Hv λs11=>sQ s7<|sQ s0<|sQ s9<|sQ s0<|sQ s11<|sQ (aEe [eL 0 eC x0,eL 1 (.int .i64) x1,eI 8 (x1.length:Int),eW 9 0,eW 10 1,eI 11 v11,eI 12 v12,eO 13 2 0 [],eB 14 (rW x0 (bG (aE v11) (bK (aE v12) x1))),eI 49 v12,eI 50 (x1.length:Int),eB 51 (decide (v12<=(x1.length:Int))),(54,PV.tup [mZ eC (iU x0 (bG (aE v11) (bK (aE v12) x1))),OS (rW x0 (bG (aE v11) (bK (aE v12) x1)))]),eL 55 eC x0,eL 56 (.int .i64) x1,eI 57 v11,eI 58 v12,eL 59 (.int .i64) (bG (aE v11) (bK (aE v12) x1)),(60,PV.tup [mZ eC (iU x0 (bG (aE v11) (bK (aE v12) x1))),OS (rW x0 (bG (aE v11) (bK (aE v12) x1)))]),eT 61 eC (iU x0 (bG (aE v11) (bK (aE v12) x1))),eB 62 (rW x0 (bG (aE v11) (bK (aE v12) x1))),eB 63 (rW x0 (bG (aE v11) (bK (aE v12) x1))),eB 64 (rW x0 (bG (aE v11) (bK (aE v12) x1))),eI 65 v12,eI 66 v11,eI 67 (v11+1),eB 68 (v12==v11+1),eB 69 (v12==v11+1),(70,.a (.val (.tuple #[]))),(71,.a (.val (.tuple #[]))),(72,.a (.val (.tuple #[]))),(73,.a (.val (.tuple #[]))),(74,.a (.val (.tuple #[]))),(75,.a (.val (.tuple #[]))),(76,.a (.val (.tuple #[]))),(77,.a (.val (.tuple #[]))),(78,.a (.val (.tuple #[]))),(79,.a (.val (.tuple #[]))),(80,.a (.val (.tuple #[]))),(81,.a (.val (.tuple #[]))),eB 82 true,eB 83 true,eW 84 0,eI 85 v11,eW 86 1,eI 87 v11,eO 88 2 0 [1],eI 89 (iU x0 (bG (aE v11) (bK (aE v12) x1))).2.1,eW 90 0,eI 91 v12,eO 92 0 (aE v12) [],eI 93 (aD h0 (aE v12) 0),eI 94 ((iU x0 (bG (aE v11) (bK (aE v12) x1))).2.1+aD h0 (aE v12) 0),eI 95 v12,eO 96 0 (aE v11) [],eO 97 1 (aE v11) []] [cL (.int .i64) (eU h0 (aE v11) ((iU x0 (bG (aE v11) (bK (aE v12) x1))).2.1+aD h0 (aE v12) 0)),cL (.int .i64) (eU h1 (aE v11) v12),some (fE eC [iU x0 (bG (aE v11) (bK (aE v12) x1))] true none (some false))])<|aL<|bX i12)<|cP<|Hv λs7=>aL<|Hv λs9=>bD (cP<|pc4<|Hv λs16=>sQ s7<|sQ s0<|sQ s9<|sQ s0<|sQ s16<|sQ (aEe [eL 0 eC x0,eL 1 (.int .i64) x1,eI 8 (x1.length:Int),eW 9 0,eW 10 1,eI 11 v11,eI 12 v12,eO 13 2 0 [],eB 14 (rW x0 (bG (aE v11) (bK (aE v12) x1))),eI 49 v12,eI 50 (x1.length:Int),eB 51 (decide (v12<=(x1.length:Int))),(54,PV.tup [mZ eC (iU x0 (bG (aE v11) (bK (aE v12) x1))),OS (rW x0 (bG (aE v11) (bK (aE v12) x1)))]),eL 55 eC x0,eL 56 (.int .i64) x1,eI 57 v11,eI 58 v12,eL 59 (.int .i64) (bG (aE v11) (bK (aE v12) x1)),(60,PV.tup [mZ eC (iU x0 (bG (aE v11) (bK (aE v12) x1))),OS (rW x0 (bG (aE v11) (bK (aE v12) x1)))]),eT 61 eC (iU x0 (bG (aE v11) (bK (aE v12) x1))),eB 62 (rW x0 (bG (aE v11) (bK (aE v12) x1))),eB 63 (rW x0 (bG (aE v11) (bK (aE v12) x1))),eB 64 (rW x0 (bG (aE v11) (bK (aE v12) x1))),eI 65 v12,eI 66 v11,eI 67 (v11+1),eB 68 (v12==v11+1),eB 69 (v12==v11+1),eO 70 2 0 [1],eI 71 (iU x0 (bG (aE v11) (bK (aE v12) x1))).2.1,eW 72 0,eI 73 v12,eO 74 0 (aE v12) [],eI 75 (aD h0 (aE v12) 0),eI 76 ((iU x0 (bG (aE v11) (bK (aE v12) x1))).2.1+aD h0 (aE v12) 0),eW 77 0,eI 78 v11,eO 79 0 (aE v11) [],eI 80 (aD h0 (aE v11) 0),eB 81 (decide ((iU x0 (bG (aE v11) (bK (aE v12) x1))).2.1+aD h0 (aE v12) 0<=aD h0 (aE v11) 0)),eB 82 (decide ((iU x0 (bG (aE v11) (bK (aE v12) x1))).2.1+aD h0 (aE v12) 0<=aD h0 (aE v11) 0)),eB 83 (decide ((iU x0 (bG (aE v11) (bK (aE v12) x1))).2.1+aD h0 (aE v12) 0<=aD h0 (aE v11) 0)),eW 84 0,eI 85 v11,eW 86 1,eI 87 v11,eO 88 2 0 [1],eI 89 (iU x0 (bG (aE v11) (bK (aE v12) x1))).2.1,eW 90 0,eI 91 v12,eO 92 0 (aE v12) [],eI 93 (aD h0 (aE v12) 0),eI 94 ((iU x0 (bG (aE v11) (bK (aE v12) x1))).2.1+aD h0 (aE v12) 0),eI 95 v12,eO 96 0 (aE v11) [],eO 97 1 (aE v11) []] [cL (.int .i64) (eU h0 (aE v11) ((iU x0 (bG (aE v11) (bK (aE v12) x1))).2.1+aD h0 (aE v12) 0)),cL (.int .i64) (eU h1 (aE v11) v12),some (fE eC [iU x0 (bG (aE v11) (bK (aE v12) x1))] true none (some false))])<|aL<|bX i12)<|aL<|bX i12)<|dK<|aL<|bX i12)<|aL<|bX i9,
  bD (cP<|UE<|aL<|aL<|cP<|Dr [(15,.str)] i19)<|pq 0<|aL cM⟩
abbrev w8(x1:Γ Int)(a b:Nat):Γ Int:=(x1.take b).drop a
abbrev tF(x0:Γ F4)(x1:Γ Int)(a b:Nat):Bool:=rW x0 (w8 x1 a b)
abbrev FG(x0:Γ F4)(x1:Γ Int)(a b:Nat):Int:=(iU x0 (w8 x1 a b)).2.1
def bw(x0:Γ F4)(x1:Γ Int)(a b:Nat)(s:Γ Int×Γ Int):Γ Int×Γ Int :=
 if tF x0 x1 a b=true then(if b=a+1\/FG x0 x1 a b+s.1.getD b 0<=s.1.getD a 0 then(s.1.set a (FG x0 x1 a b+s.1.getD b 0),s.2.set a (b:Int))else s)else s
def CW(x0:Γ F4)(x1:Γ Int)(a:Nat):Nat->Nat->Γ Int×Γ Int->Γ Int×Γ Int
 | 0,_,s=>s
 | k+1,b,s=>CW x0 x1 a k (b+1) (bw x0 x1 a b s)
def tG(x0:Γ F4)(x1:Γ Int):Nat->Γ Int×Γ Int->Γ Int×Γ Int
 | 0,s=>s
 | k+1,s=>tG x0 x1 k (CW x0 x1 k (x1.length-k) (k+1) s)
def wB(x0:Γ F4)(x1:Γ Int):Γ Int×Γ Int:=tG x0 x1 x1.length (aP (x1.length+1) 0,aP (x1.length+1) 0)
def wC(x0:Γ F4)(x1:Γ Int)(e:Γ Int):Nat->Nat->Γ Δ
 | 0,_=>[]
 | k+1,a=>if a<x1.length then(iU x0 (w8 x1 a (e.getD a 0).toNat)).1::wC x0 x1 e k (e.getD a 0).toNat else []
def B8(x0:Γ F4)(x1:Γ Int):Int:=if(lG x0 (jB x1) [] != 0)=true then lG x0 (jB x1) [] else if x0.length=0/\0<x1.length then 3 else 0
def Vz(x0:Γ F4)(x1:Γ Int):Int:=if B8 x0 x1=0 then(wB x0 x1).1.getD 0 0 else 0
def BC(x0:Γ F4)(x1:Γ Int):Γ Δ:=if B8 x0 x1=0 then wC x0 x1 (wB x0 x1).2 (x1.length+1) 0 else []
def JB(x0:Γ F4)(x1:Γ Int):Int:=B8 x0 x1
def FH(x0:Γ F4)(x1:Γ Int):Prop:=x1.length<=1000/\(∀f∈x0,(0<=f.2.1/\f.2.1<=1000000)/\1<=f.2.2.1/\1<=f.2.2.2.1)/\∀y∈x1,0<=y/\y<=1000000000
def aNd(x0:Γ F4)(x1:Γ Int):Prop:=aNc x0 (jB x1) []/\(lG x0 (jB x1) []=0->FH x0 x1)
theorem JC(x0:Γ F4)(s:Γ Int):∀(l:Γ F4) (b:Bool×F4),(∀f∈l,f∈x0)->(l.foldl (qG s) b).2=b.2\/(l.foldl (qG s) b).2∈x0
 | [],b,_ => .inl rfl
 | f::l,b,h=>by
  have hr:=JC x0 s l (qG s b f) λg hg=>h g (aM _ hg);have hs:(qG s b f).2=b.2\/(qG s b f).2=f:=by
   unfold qG
   lia
  grind
variable {x0:Γ F4} {x1:Γ Int}
theorem Oy(h:FH x0 x1)(a b:Nat):0<=FG x0 x1 a b/\FG x0 x1 a b<=1000000:=by
 rcases JC x0 (w8 x1 a b) x0 (false,(aC,0,0,0,())) (λf hf=>hf)with e | e
 ·have:FG x0 x1 a b=0:=by
   show ((x0.foldl (qG (w8 x1 a b)) (false,(aC,0,0,0,()))).2).2.1=0
   lia
  lia
 ·exact(h.2.1 _ e).1
theorem ww(s:Γ Int):∀(l:Γ F4) (b:Bool×F4),(∀f∈l,GH s f=true)->(b.1=true\/l≠[])->(l.foldl (qG s) b).1=true
 | [],b,_,h=>h.resolve_right (by lia)
 | f::l,b,hg,h=>by
  refine ww s l _ (λg hh=>hg g (aM _ hh)) (.inl ?_);unfold qG
  grind
theorem Oz(h:FH x0 x1)(hne:x0≠[]){a:Nat}(ha:a<x1.length):tF x0 x1 a (a+1)=true:=by
 have e:w8 x1 a (a+1)=[x1.getD a 0]:=by
  unfold w8;rw[List.take_add_one,aV ha,oG x1 a 0 ha,List.drop_append_of_le_length (by rw[fL];omega),bT (by rw[fL];omega)]<;>rfl
 refine ww _ x0 _ (λf hf=>?_) (.inr hne);obtain⟨_,h1,h2⟩:=h.2.1 f hf;unfold GH
 grind
theorem gu(h:FH x0 x1){a b:Nat}(hab:a<b)(hb:b<=x1.length):aGh x0 (w8 x1 a b):=by
 refine⟨?_,λy hy=>h.2.2 y (iN (iO hy))⟩
 grind
structure vG (x1:Γ Int) (k:Nat) (s:Γ Int×Γ Int):Prop where
 l1:s.1.length=x1.length+1
 l2:s.2.length=x1.length+1
 cost:∀j,k<=j->j<=x1.length->0<=s.1.getD j 0/\s.1.getD j 0<=1000000*((x1.length-j:Nat):Int)
 next:∀j,k<=j->j<x1.length->(j:Int)<s.2.getD j 0/\s.2.getD j 0<=(x1.length:Int)
theorem tH(l:Γ Int)(a j:Nat)(v:Int)(h:a<l.length):(l.set a v).getD j 0=if a=j then v else l.getD j 0:=by
 grind
theorem CX(h:FH x0 x1){a b:Nat}{s:Γ Int×Γ Int}(hi:vG x1 (a+1) s)(hab:a<b)(hb:b<=x1.length):vG x1 a (s.1.set a (FG x0 x1 a b+s.1.getD b 0),s.2.set a (b:Int)):=by
 obtain⟨c1,c2⟩:=Oy h a b;obtain⟨d1,d2⟩:=hi.cost b (by lia) hb;refine⟨by rw[vS];exact hi.l1,by rw[vS];exact hi.l2,λj h1 h2=>?_,λj h1 h2=>?_⟩
 ·rw[tH _ _ _ _ (by rw[hi.l1];lia)];split
  ·lia
  ·exact hi.cost j (by lia) h2
 ·rw[tH _ _ _ _ (by rw[hi.l2];lia)];split
  ·lia
  ·exact hi.next j (by lia) h2
def aJt(h:FH x0 x1)(hne:x0≠[])(a:Nat)(ha:a<x1.length)(ds:Γ aS)(n:Nat):∀(k b:Nat) (s:Γ Int×Γ Int),b+k=x1.length+1->a<b->vG x1 (a+1) s->(b≠a+1->vG x1 a s) ->
  (vG x1 a (CW x0 x1 a k b s)->Mb n ((a:Int)-1) (CW x0 x1 a k b s).1 (CW x0 x1 a k b s).2 x0 x1 ds)->A4 (n+k+1) (b:Int) s.1 s.2 x0 x1 (a:Int) ds:=by
 have hl:=h.1;intro k
 induction k with
 | zero =>
  intro b s hb hab hi hi2 hr;rw[Nat.add_zero,A4,ν (by lia)];exact⟨by grind [aJ],hr (hi2 (by lia))⟩
 | succ k ih =>
  intro b s hb hab hi hi2 hr;have e3:(b:Int)+1=((b+1:Nat):Int):=by lia
  obtain⟨c1,c2⟩:=Oy h a b;obtain⟨d1,d2⟩:=hi.cost b (by lia) (by lia);have hl1:=hi.l1;have hl2:=hi.l2;rw[CW]at hr;have hs:bw x0 x1 a b s=if tF x0 x1 a b=true then(if b=a+1\/FG x0 x1 a b+s.1.getD b 0<=s.1.getD a 0 then(s.1.set a (FG x0 x1 a b+s.1.getD b 0),s.2.set a (b:Int))else s)else s:=rfl
  show A4 (n+k+1+1) _ _ _ _ _ _ _;rw[A4,π (by lia),e3,aK,aK];have hu:aX .i64 ((b+1:Nat):Int):=by grind [aJ]
  have hv:aX .i64 (FG x0 x1 a b+s.1.getD b 0):=by grind [aJ]
  refine⟨by lia,by lia,by lia,gu h hab (by lia),?_⟩;by_cases c:tF x0 x1 a b=true
  ·rw[π c]at hs;refine(π c).mpr ⟨by grind [aJ],?_⟩;by_cases e:b=a+1
   ·rw[π (.inl e)]at hs;refine(π (show ((b:Int)==(a:Int)+1)=true by lia)).mpr ?_;have:=ih (b+1) (bw x0 x1 a b s) (by lia) (by lia) (by rw[hs];exact⟨(CX h hi hab (by lia)).l1,(CX h hi hab (by lia)).l2,λj h1 h2=>(CX h hi hab (by lia)).cost j (by lia) h2,λj h1 h2=>(CX h hi hab (by lia)).next j (by lia) h2⟩) (λ_=>by grind [CX]) hr
    lia
   ·refine(ν (show ¬((b:Int)==(a:Int)+1)=true by lia)).mpr ?_;refine⟨by lia,by lia,hv,by lia,by lia,?_⟩;by_cases d:FG x0 x1 a b+s.1.getD b 0<=s.1.getD a 0
    ·rw[π (.inr d)]at hs;have:=ih (b+1) (bw x0 x1 a b s) (by lia) (by lia) (by rw[hs];exact⟨(CX h hi hab (by lia)).l1,(CX h hi hab (by lia)).l2,λj h1 h2=>(CX h hi hab (by lia)).cost j (by lia) h2,λj h1 h2=>(CX h hi hab (by lia)).next j (by lia) h2⟩) (λ_=>by grind [CX]) hr
     lia
    grind
  ·have e:b≠a+1:=λe=>c (by grind [Oz])
   grind
def gv(h:FH x0 x1)(hne:x0≠[])(a:Nat)(ha:a<x1.length):∀(k b:Nat) (s:Γ Int×Γ Int),b+k=x1.length+1->a<b->vG x1 (a+1) s->(b≠a+1->vG x1 a s)->vG x1 a (CW x0 x1 a k b s):=by
 intro k
 induction k with
 | zero=>intro b s hb hab hi hi2;exact hi2 (by lia)
 | succ k ih =>
  intro b s hb hab hi hi2;rw[CW];have hput:=CX h hi hab (show b<=x1.length by lia);have hput':vG x1 (a+1) (s.1.set a (FG x0 x1 a b+s.1.getD b 0),s.2.set a (b:Int)):=⟨hput.l1,hput.l2,λj h1 h2=>hput.cost j (by lia) h2,λj h1 h2=>hput.next j (by lia) h2⟩;unfold bw;by_cases c:tF x0 x1 a b=true
  ·grind
  ·have e:b≠a+1:=λe=>c (by grind [Oz])
   grind
def aNe(h:FH x0 x1){s:Γ Int×Γ Int}(hi:vG x1 0 s):∀(k a:Nat) (h2:Γ Δ),x1.length-a<k->a<=x1.length->h2.length<=a->Kn k (a:Int) h2 x0 x1 s.1 s.2 [⟨.int .i64,s.1.getD 0 0⟩,⟨.sl .str,h2++wC x0 x1 s.2 k a⟩,⟨.int .i64,0⟩]:=by
 have hl:=h.1;have hl1:=hi.l1;intro k
 induction k with
 | zero=>lia
 | succ k ih =>
  intro a h2 hk ha hh;rw[wC,Kn];by_cases c:a<x1.length
  ·obtain⟨n1,n2⟩:=hi.next a (aY _) c;obtain⟨e,he⟩:∃e:Nat,s.2.getD a 0=(e:Int):=⟨(s.2.getD a 0).toNat,by lia⟩;rw[he,aK];have:=ih e (h2++[(iU x0 (w8 x1 a e)).1]) (by lia) (by lia) (by grind)
   grind [gu]
  grind
def aNf(h:FH x0 x1)(hne:x0≠[]\/x1.length=0)(ds:Γ aS):∀(k:Nat) (s:Γ Int×Γ Int),k<=x1.length->vG x1 k s->(vG x1 0 (tG x0 x1 k s)->∃n,Kn n 0 [] x0 x1 (tG x0 x1 k s).1 (tG x0 x1 k s).2 ds)->∃n,Mb n ((k:Int)-1) s.1 s.2 x0 x1 ds:=by
 have hl:=h.1;intro k
 induction k with
 | zero =>
  intro s hk hi hr;obtain⟨n,hn⟩:=hr hi;refine⟨n+1,?_⟩;exact hn
 | succ k ih =>
  intro s hk hi hr;have hx:x0≠[]:=hne.resolve_right (by lia);have e1:((k+1:Nat):Int)-1=(k:Int):=by lia
  have e2:(k:Int)+1=((k+1:Nat):Int):=by lia
  by_cases hq:vG x1 k (CW x0 x1 k (x1.length-k) (k+1) s)
  ·obtain⟨n,hn⟩:=ih _ (by lia) hq hr;have:=aJt h hx k (by lia) ds n (x1.length-k) (k+1) s (by lia) (by lia) hi (λhh=>absurd rfl hh) (λ_=>hn);refine⟨_+1,by
    rw[e1];exact⟨by grind [aJ],this⟩⟩
  ·exfalso;exact hq (gv h hx k (by lia) (x1.length-k) (k+1) s (by lia) (by lia) hi (λhh=>absurd rfl hh))
def aTD(x0:Γ F4)(x1:Γ Int)(h:aNd x0 x1):∃n,aJs n x0 x1 [⟨.int .i64,Vz x0 x1⟩,⟨.sl .str,BC x0 x1⟩,⟨.int .i64,JB x0 x1⟩]:=by
 obtain⟨p,ho⟩:=h;unfold Vz BC JB;have hc:B8 x0 x1=if(lG x0 (jB x1) [] != 0)=true then lG x0 (jB x1) [] else if x0.length=0/\0<x1.length then 3 else 0:=rfl
 by_cases c:(lG x0 (jB x1) [] != 0)=true
 ·rw[π c]at hc;have hn:¬B8 x0 x1=0:=by rw[hc];simpa using c
  refine⟨1,?_⟩;rw[aJs,π c,ν hn,ν hn,hc];exact⟨p,rfl⟩
 ·rw[ν c]at hc;have hok:=ho (by simpa using c);have hl:=hok.1;by_cases d:x0.length=0/\0<x1.length
  ·rw[π d]at hc;refine⟨1,?_⟩;rw[aJs,ν c,π (show ((x0.length:Int)==0)=true by rw[beq_iff_eq];omega),π (show decide ((x1.length:Int)>0)=true by simp only[ε];omega),hc,ν (by decide),ν (by decide)];exact⟨p,rfl⟩
  ·rw[ν d]at hc;have hne:x0≠[]\/x1.length=0:=by
    cases x0 with
    | nil=>exact .inr (by simp at d;rw[d]<;>rfl)
    | cons f l=>exact .inl (by simp)
   have h0:vG x1 x1.length (aP (x1.length+1) 0,aP (x1.length+1) 0):=by
    refine⟨by simp,by simp,λj h1 h2=>?_,λj h1 h2=>by omega⟩;have:(aP (x1.length+1) (0:Int)).getD j 0=0:=by
     rw[bW,List.getElem?_replicate];split <;> rfl
    rw[this];omega
   obtain⟨n,hn⟩:=aNf hok hne [⟨.int .i64,(wB x0 x1).1.getD 0 0⟩,⟨.sl .str,wC x0 x1 (wB x0 x1).2 (x1.length+1) 0⟩,⟨.int .i64,0⟩] x1.length _ (aU _) h0 (λhi=>⟨x1.length+1,by
    have:=aNe hok hi (x1.length+1) 0 [] (by omega) (aY _) (aU _);exact this⟩)
   have e:aE ((x1.length:Int)+1)=x1.length+1:=by omega
   have stuff:aX .i64 ((x1.length:Int)+1)/\aX .i64 ((x1.length:Int)+1)/\(0<=(x1.length:Int)+1)/\((x1.length:Int)+1<=(x1.length:Int)+1)/\(8*((x1.length:Int)+1)<=281474976710656)/\(0<=(x1.length:Int)+1)/\((x1.length:Int)+1<=(x1.length:Int)+1)/\(8*((x1.length:Int)+1)<=281474976710656)/\aX .i64 ((x1.length:Int)-1)/\Mb n ((x1.length:Int)-1) (aP (aE ((x1.length:Int)+1)) 0) (aP (aE ((x1.length:Int)+1)) 0) x0 x1 [⟨.int .i64,(wB x0 x1).1.getD 0 0⟩,⟨.sl .str,wC x0 x1 (wB x0 x1).2 (x1.length+1) 0⟩,⟨.int .i64,0⟩]:=by
    rw[e];exact⟨by rw[aJ];omega,by rw[aJ];omega,by omega,by omega,by omega,by omega,by omega,by omega,by rw[aJ];omega,hn⟩
   refine⟨n+1,?_⟩;rw[aJs,ν c,hc,π rfl,π rfl];refine⟨p,?_⟩;by_cases e0:((x0.length:Int)==0)=true
   ·refine(π e0).mpr ((ν ?_).mpr stuff);rw[beq_iff_eq]at e0;simp only[ε];omega
   ·exact(ν e0).mpr stuff
def bCj:KK:=mL aJr (DO mh) aNd (Vz,BC,JB,()) (λ⟨x0,x1,_⟩ h hwf K q =>
 let ⟨n,hn⟩:=aTD x0 x1 h
 (aTC _ K q n).1 hn)
def tI(x0:b6):Bool:=if pU x0.1 then(if bE x0.2.1 0 24000 then aBD x0.2.2.1 else false)else false
def aJu:KK:=mB Tryz.func281 [.v cZ] [.bool] [aEc,lF,aJe] nP (tI,()) λ_=>bH<|dS (bH<|dS (bH pr) pr)<|dK pr
def aTE:gC:=D0 mi [.v (.sl cZ)] [.bool] [aJu]
mutual
def aTF:Nat->Γ b6->Γ aS->Prop
 | 0,_,_=>False
 | n+1,x0,ds=>GI n 0 x0 ds
def GI:Nat->Int->Γ b6->Γ aS->Prop
 | 0,_,_,_=>False
 | n+1,v7,x0,ds=>if decide (v7<(x0.length:Int))then 0<=v7/\v7<(x0.length:Int)/\if !tI (aD x0 (aE v7) (0,0,0,()))then ds=[aI .bool false] else if decide (v7>0)then aX .i64 (v7-1)/\0<=v7-1/\v7-1<(x0.length:Int)/\if decide ((aD x0 (aE v7) (0,0,0,())).1<=(aD x0 (aE (v7-1)) (0,0,0,())).1)then ds=[aI .bool false] else aX .i64 (v7-1)/\0<=v7-1/\v7-1<(x0.length:Int)/\if decide ((aD x0 (aE v7) (0,0,0,())).2.1<(aD x0 (aE (v7-1)) (0,0,0,())).2.1)then ds=[aI .bool false] else aX .i64 (v7-1)/\0<=v7-1/\v7-1<(x0.length:Int)/\if decide ((aD x0 (aE v7) (0,0,0,())).2.2.1<(aD x0 (aE (v7-1)) (0,0,0,())).2.2.1)then ds=[aI .bool false] else aX .i64 (v7+1)/\GI n (v7+1) x0 ds else aX .i64 (v7+1)/\GI n (v7+1) x0 ds else ds=[aI .bool true]
end
def aTG(ds:Γ aS)(K:fG)(q:Nat->Value):∀n,(∀ {x0},aTF n x0 ds->St aTE (x0,()) ds [] K q)/\(∀ {v7 x0},GI n v7 x0 ds->Cu aTE 2 ([eL 0 cZ x0,eL 5 cZ x0,eI 6 (x0.length:Int),eI 7 v7],[]) ds [] K q):=nI ⟨aH,aH⟩ λn ⟨i,i2⟩=>⟨bX i2,
  bD (cP<|bH<|bD cM<|bD (aL<|cP<|bD (jM<|jM cM)<|aL<|cP<|bD (jM cM)<|aL<|cP<|bD cM<|aL<|bX i2)<|dK<|aL<|bX i2) cM⟩
def WA(x0:Γ b6)(i:Nat)(x:b6):Bool:=tI x&&(i==0||aIY (x0.getD (i-1) ((0:Int),(0:Int),(0:Int),())) x)
def Dx(x0:Γ b6):Bool:=nF (WA x0) 0 x0
theorem aEf(n i:Nat)(x0:Γ b6)(hm:x0.length<=maxLen)(hi:i<x0.length)(ds:Γ aS)
  (h:if WA x0 i (x0.getD i ((0:Int),(0:Int),(0:Int),()))=true then GI n ((i:Int)+1) x0 ds else ds=[⟨.bool,false⟩]):GI (n+1) (i:Int) x0 ds:=by
 have hu:=iJ hm hi;have hmx:maxLen<=9223372036854775807:=by decide
 rw[GI,π (by simp;omega)];refine⟨by omega,by omega,?_⟩;simp only[aK];unfold WA aIY at h;by_cases hv:tI (x0.getD i ((0:Int),(0:Int),(0:Int),()))=true
 case neg=>rw[Hb hv]at h;rw[π (by rw[Hb hv]<;>rfl)];simpa using h
 rw[ν (by rw[hv];simp)];rw[hv]at h;by_cases h0:(i:Int)>0
 case neg =>
  rw[ν (by simpa using h0)];have hi0:(i==0)=true:=by simp;omega
  rw[hi0]at h;exact⟨hu,by simpa using h⟩
 rw[π (by simpa using h0)];have hi0:(i==0)=false:=by simp;omega
 have e:((i:Int)-1).toNat=i-1:=by omega
 have hd:aX .i64 ((i:Int)-1):=by rw[aJ];omega
 rw[hi0]at h;simp only[e];refine⟨hd,by omega,by omega,?_⟩;by_cases c0:(x0.getD i ((0:Int),(0:Int),(0:Int),())).1<=(x0.getD (i-1) ((0:Int),(0:Int),(0:Int),())).1
 case pos =>
  rw[π (decide_eq_true c0)];have:decide ((x0.getD (i-1) ((0:Int),(0:Int),(0:Int),())).1<(x0.getD i ((0:Int),(0:Int),(0:Int),())).1)=false:=decide_eq_false (by omega);rw[this]at h;simpa using h
 rw[ν (by simpa using c0)];refine⟨hd,by omega,by omega,?_⟩;by_cases c1:(x0.getD i ((0:Int),(0:Int),(0:Int),())).2.1<(x0.getD (i-1) ((0:Int),(0:Int),(0:Int),())).2.1
 case pos =>
  rw[π (decide_eq_true c1)];have:decide ((x0.getD (i-1) ((0:Int),(0:Int),(0:Int),())).2.1<=(x0.getD i ((0:Int),(0:Int),(0:Int),())).2.1)=false:=decide_eq_false (by omega);rw[this]at h;simpa using h
 rw[ν (by simpa using c1)];refine⟨hd,by omega,by omega,?_⟩;by_cases c2:(x0.getD i ((0:Int),(0:Int),(0:Int),())).2.2.1<(x0.getD (i-1) ((0:Int),(0:Int),(0:Int),())).2.2.1
 case pos =>
  rw[π (decide_eq_true c2)];have:decide ((x0.getD (i-1) ((0:Int),(0:Int),(0:Int),())).2.2.1<=(x0.getD i ((0:Int),(0:Int),(0:Int),())).2.2.1)=false:=decide_eq_false (by omega);rw[this]at h;simpa using h
 rw[ν (by simpa using c2)];have d0:decide ((x0.getD (i-1) ((0:Int),(0:Int),(0:Int),())).1<(x0.getD i ((0:Int),(0:Int),(0:Int),())).1)=true:=decide_eq_true (by omega);have d1:decide ((x0.getD (i-1) ((0:Int),(0:Int),(0:Int),())).2.1<=(x0.getD i ((0:Int),(0:Int),(0:Int),())).2.1)=true:=decide_eq_true (by omega);have d2:decide ((x0.getD (i-1) ((0:Int),(0:Int),(0:Int),())).2.2.1<=(x0.getD i ((0:Int),(0:Int),(0:Int),())).2.2.1)=true:=decide_eq_true (by omega);rw[d0,d1,d2]at h;exact⟨hu,by simpa using h⟩
theorem aTH(x0:Γ b6)(hw:x0.length<=maxLen):aTF (x0.length+1+1) x0 [⟨.bool,Dx x0⟩]:=by
 rw[aTF];have key:=zV x0 ((0:Int),(0:Int),(0:Int),()) (WA x0) [(⟨.bool,false⟩:aS)] [⟨.bool,true⟩] (λn i ds=>GI n i x0 ds) (λn=>?_) (λn i hi hok ds hr=>?_) (λn i hi hok=>?_)
 ·unfold Dx;cases h:nF (WA x0) 0 x0 with
  | true=>rw[π h]at key;simpa using key
  | false=>rw[ν (by rw[h];simp)]at key;simpa using key
 ·rw[GI,ν (by simp)]
 ·exact aEf n i x0 hw hi ds (by rw[π hok];exact hr)
 ·exact aEf n i x0 hw hi _ (by rw[ν (by rw[hok];simp)])
def aQD:KK:=mL aTE (DO mi) nP (Dx,()) (λ⟨x0,_⟩ h hwf K q =>
 (aTG _ K q _).1 (aTH x0 hwf.1.1))
def fW(x0:Γ b6):Bool:=if Dx x0 then decide ((x0.length:Int)<=24)else false
def bx:KK:=mB Tryz.func109 [.v (.sl cZ)] [.bool] [aQD] nP (fW,()) λ_=>bH<|dS pr pr
def Tk(x0:Int):Prop:=if decide (x0<0)then aX .i64 (0-x0)/\True else True
def mO(x0:Int):Int:=if decide (x0<0)then 0-x0 else x0
def aQE:KK:=mB Tryz.func490 [.v (.int .i64)] [.int .i64] [] Tk (mO,()) λ_=>lT (aL pr) pr
def RJ(x0:Int)(x1:Int):Prop:=((x1≠0)/\(aX .i64 (aQ x0 x1))/\((x1≠0)/\(aX .i64 (bY x0 x1))/\((Tk (bY x0 x1))/\((Tk x1)/\((aX .i64 (mO x1-mO (bY x0 x1)))/\(if decide (mO (bY x0 x1)>=mO x1-mO (bY x0 x1))=true then(if(!decide (x0<0)==decide (x1<0))=true then((aX .i64 (aQ x0 x1-1))/\True)else((aX .i64 (aQ x0 x1+1))/\True))else True))))))
def o0(x0:Int)(x1:Int):Int:=if decide (mO (bY x0 x1)>=mO x1-mO (bY x0 x1))then(if !decide (x0<0)==decide (x1<0)then aQ x0 x1-1 else aQ x0 x1+1)else aQ x0 x1
def aJv:KK:=mB Tryz.func501 [.v (.int .i64),.v (.int .i64)] [.int .i64] [aQE] RJ (o0,()) λ_=>cP<|cP<|aL<|aL<|aL<|lT (lT (aL pr)<|aL pr) pr
end
end Go.Proofs.YtbaoaedmbhpolaaGreatDoor
set_option maxRecDepth 100000
namespace Go.Proofs.YtbaoaedmbhpolaaGreatDoor
open Go Go.Am Go.Proofs Go.RowKit
abbrev BW:Ty := .cons Za Ti
abbrev jW:b6:=((0:Int),(0:Int),(0:Int),())
def aBJ(W:World)(x0:Γ b6)(v:Value)(hgo:Ym W [])(ha:yZ W (Bi W []) (jY (.sl BW) x0) v) :
  Calls aN 109 #[v] W λe w'=>e = .returned (.bool (fW x0))/\Below W.heap.size W w':=by
 have h:=bx.h.2.down rfl W (x0,()) [v] [[]] hgo trivial ⟨v,[],[],[],rfl,rfl,⟨rfl,ha⟩,rfl,rfl⟩ (by simp);refine h.mono ?_;rintro e w' ⟨rs,ubs,rbs,rfl,hk,⟨u,s,b1,bs1,cs,rfl,rfl,ho,hv,rfl,rfl⟩,_⟩;obtain⟨ho,_⟩:=ho;have hv:cs=[u]:=hv;rw[ho]at hv;cases hv;exact⟨rfl,hk.below⟩
def aNg(W:World)(a b:Int)(hgo:Ym W [])(hp:RJ a b)(ha:aX .i64 a)(hb:aX .i64 b) :
  Calls aN 501 #[.int .i64 a,.int .i64 b] W λe w'=>e = .returned (.int .i64 (o0 a b))/\Below W.heap.size W w':=by
 have h:=aJv.h.2.down rfl W (a,b,()) [.int .i64 a,.int .i64 b] [[],[]] hgo hp ⟨_,_,_,_,rfl,rfl,⟨rfl,rfl,ha⟩,_,_,_,_,rfl,rfl,⟨rfl,rfl,hb⟩,rfl,rfl⟩ (by simp);refine h.mono ?_;rintro e w' ⟨rs,ubs,rbs,rfl,hk,⟨u,s,b1,bs1,cs,rfl,rfl,ho,hv,rfl,rfl⟩,_⟩;obtain⟨ho,_⟩:=ho;have hv:cs=[u]:=hv;rw[ho]at hv;cases hv;exact⟨rfl,hk.below⟩
def aTI{w W:World}(h:Ym w [])(hb:Below w.heap.size w W):Ym W [] where
 inv:=h.inv.keep λb _ hs=>hb.5 b hs
 size:=gI h.size hb.4
 out:=h.out
def aEg{w:World}{x0:Γ b6}{b off:Nat}(hc:∀j u,(rN BW x0)[j]? = some u->w.cell? ⟨b,off+j,none⟩=some u)(k:Nat)(hk:k<x0.length) :
  w.cell? ⟨b,off+(3*k+0),none⟩=some (.int .i64 (x0.getD k jW).1)/\w.cell? ⟨b,off+(3*k+1),none⟩=some (.int .i64 (x0.getD k jW).2.1)/\w.cell? ⟨b,off+(3*k+2),none⟩=some (.int .i64 (x0.getD k jW).2.2.1):=by
 have key:∀(xs:Γ b6) (k:Nat),k<xs.length->(rN BW xs)[3*k+0]? = some (.int .i64 (xs.getD k jW).1)/\(rN BW xs)[3*k+1]? = some (.int .i64 (xs.getD k jW).2.1)/\(rN BW xs)[3*k+2]? = some (.int .i64 (xs.getD k jW).2.2.1):=by
  intro xs
  induction xs with
  | nil=>simp
  | cons x r ih =>
   intro k hk;have e:rN BW (x::r) = .int .i64 x.1 :: .int .i64 x.2.1 :: .int .i64 x.2.2.1::rN BW r:=rfl;rw[e];cases k with
   | zero=>simp
   | succ k =>
    grind
 grind
set_option maxHeartbeats 4000000 in
def aBK(w:World)(x0:Γ b6)(v:Value)(hgo:Ym w [])(hok:fW x0=false)(ha:yZ w (Bi w []) (jY (.sl BW) x0) v) :
  Calls aN 445 #[v] w λe w'=>e = .returned (.tuple #[.int .i64 0,.int .i64 1])/\Below w.heap.size w w':=by
 have HA:Aside (yZ w (Bi w []) (jY (.sl BW) x0) v):=ha;clear ha;have mixed:=mixed
 go_enter H0,Ln
 go_wp2_with (go_at_call 109;refine(aBJ _ x0 _ hgo HA.out).mono ?_)
 rintro e w1 ⟨rfl,b1⟩;rw[hok]
 go_wp2
 go_ret2
 exact⟨rfl,b1⟩
set_option maxHeartbeats 4000000 in
def WB(w:World)(x0:Γ b6)(ad:Option Addr)(cap:Nat)(hgo:Ym w [])(hl:x0.length<2)(hok:fW x0=true)(ha:yZ w (Bi w []) (jY (.sl BW) x0) (.slice ad x0.length cap)) :
  Calls aN 445 #[.slice ad x0.length cap] w λe w'=>e = .returned (.tuple #[.int .i64 0,.int .i64 3])/\Below w.heap.size w w':=by
 have HA:Aside (yZ w (Bi w []) (jY (.sl BW) x0) (.slice ad x0.length cap)):=ha;clear ha;have mixed:=mixed;have h2:((x0.length:Nat):Int)<2:=by omega
 go_enter H0,Ln
 go_wp2_with (go_at_call 109;refine(aBJ _ x0 _ hgo HA.out).mono ?_)
 rintro e w1 ⟨rfl,b1⟩;rw[hok]
 go_wp2
 go_ret2
 exact⟨rfl,b1⟩
set_option maxHeartbeats 4000000 in
def aNh(w:World)(x0:Γ b6)(b off cap:Nat)(hgo:Ym w [])(hl:2<=x0.length)(hm:x0.length<=24)(hcl:x0.length<=cap)(hcap:cap<=maxLen)(hb:b<w.heap.size)(hok:fW x0=true)(ha:yZ w (Bi w []) (jY (.sl BW) x0) (.slice (some ⟨b,off,none⟩) x0.length cap))
  (hc:∀j u,(rN BW x0)[j]? = some u->w.cell? ⟨b,off+j,none⟩=some u) (hP:RJ (1000*((x0.getD (x0.length-1) jW).2.1-(x0.getD 0 jW).2.1)) ((x0.getD (x0.length-1) jW).1-(x0.getD 0 jW).1))
  (hr:0<=(x0.getD (x0.length-1) jW).1/\(x0.getD (x0.length-1) jW).1<=100000/\0<=(x0.getD 0 jW).1/\(x0.getD 0 jW).1<=100000/\0<=(x0.getD (x0.length-1) jW).2.1/\(x0.getD (x0.length-1) jW).2.1<=100000/\0<=(x0.getD 0 jW).2.1/\(x0.getD 0 jW).2.1<=100000) :
  Calls aN 445 #[.slice (some ⟨b,off,none⟩) x0.length cap] w λe w'=>e = .returned (.tuple #[.int .i64 (o0 (1000*((x0.getD (x0.length-1) jW).2.1-(x0.getD 0 jW).2.1)) ((x0.getD (x0.length-1) jW).1-(x0.getD 0 jW).1)),.int .i64 0])/\Below w.heap.size w w':=by
 have HA:Aside (yZ w (Bi w []) (jY (.sl BW) x0) (.slice (some ⟨b,off,none⟩) x0.length cap)):=ha;obtain⟨c1,c2,c3⟩:=aEg hc 0 (by omega);obtain⟨d1,d2,d3⟩:=aEg hc (x0.length-1) (by omega);have HP:Aside (RJ (1000*((x0.getD (x0.length-1) jW).2.1-(x0.getD 0 jW).2.1)) ((x0.getD (x0.length-1) jW).1-(x0.getD 0 jW).1)):=hP;clear ha hc hP;generalize x0.getD (x0.length-1) jW=y at *;generalize x0.getD 0 jW=z at *;obtain⟨y1,y2,y3,_⟩:=y;obtain⟨z1,z2,z3,_⟩:=z;simp only at c1 c2 c3 d1 d2 d3 hr HP ⊢;obtain⟨r1,r2,r3,r4,r5,r6,r7,r8⟩:=hr;have mixed:=mixed;have h2:¬((x0.length:Nat):Int)<2:=by omega
 go_enter H0,Ln
 go_wp2_with (go_at_call 109;refine(aBJ _ x0 _ hgo HA.out).mono ?_;rintro e w1 ⟨rfl,b1⟩;rw[hok])
 have eb:w1.heap[b]? = w.heap[b]? := b1.block b hb;replace c1:=(iM eb).trans c1;replace c2:=(iM eb).trans c2;replace c3:=(iM eb).trans c3;replace d1:=(iM eb).trans d1;replace d2:=(iM eb).trans d2;replace d3:=(iM eb).trans d3;clear eb;have hb1:b<w1.heap.size:=Nat.lt_of_lt_of_le hb b1.size;rw[show off+(3*0+0)=off by omega]at c1;rw[show off+(3*0+1)=off+1 by omega]at c2;rw[show off+(3*0+2)=off+2 by omega]at c3;rw[show off+(3*(x0.length-1)+0)=off+(x0.length-1)*3 by omega]at d1;rw[show off+(3*(x0.length-1)+1)=off+(x0.length-1)*3+1 by omega]at d2;rw[show off+(3*(x0.length-1)+2)=off+(x0.length-1)*3+2 by omega]at d3
 go_wp2
 go_region
 all_goals go_wp2_with (go_at_call 501;refine(aNg _ (1000*(y2-z2)) (y1-z1) (aTI hgo (((b1.alloc b1.size _).alloc (by have:=b1.size;show w.heap.size<=(w1.heap.push _).size;rw[BT];omega) _).drew)) HP.out (by rw[aJ];omega) (by rw[aJ];omega)).mono ?_;rintro e w2 ⟨rfl,b2⟩)
 all_goals go_wp2
 all_goals go_ret2
 all_goals exact⟨rfl,(((b1.alloc b1.size _).alloc (by have:=b1.size;show w.heap.size<=(w1.heap.push _).size;rw[BT];omega) _).drew).trans (b2.mono (by have:=b1.size;show w.heap.size<=((w1.heap.push _).push _).size;rw[BT,BT];omega))⟩
def aTJ:Γ AT:=[AT.v (.sl BW)]
def bz(x0:Γ b6):Int:=1000*((x0.getD (x0.length-1) jW).2.1-(x0.getD 0 jW).2.1)
def ca(x0:Γ b6):Int:=(x0.getD (x0.length-1) jW).1-(x0.getD 0 jW).1
def lH(x0:Γ b6):Int:=if fW x0 then(if x0.length<2 then 0 else o0 (bz x0) (ca x0))else 0
def wD(x0:Γ b6):Int:=if fW x0 then(if x0.length<2 then 3 else 0)else 1
def aJw(x0:Γ b6):Prop:=fW x0=true->2<=x0.length->x0.length<=24/\RJ (bz x0) (ca x0)/\aX .i64 (o0 (bz x0) (ca x0)) /\
 (0<=(x0.getD (x0.length-1) jW).1/\(x0.getD (x0.length-1) jW).1<=100000/\0<=(x0.getD 0 jW).1/\(x0.getD 0 jW).1<=100000/\0<=(x0.getD (x0.length-1) jW).2.1/\(x0.getD (x0.length-1) jW).2.1<=100000/\0<=(x0.getD 0 jW).2.1/\(x0.getD 0 jW).2.1<=100000)
def bCk:Am.Spec:={ sig:=aTJ,pre:=λ⟨x0,_⟩=>aJw x0,res:=λ⟨x0,_⟩=>[⟨.int .i64,lH x0⟩,⟨.int .i64,wD x0⟩] }
def aTK:Th 445 bCk:=Ay H0<|oU rfl λw ⟨x0,_⟩ vs bss hg hp hw ha=>by
 obtain⟨v0,s0,_,_,rfl,_,⟨_,ha⟩,rfl,_⟩:=ha;have hgo:Ym w []:=⟨hg,hg.size,λb hb=>by cases hb⟩;obtain⟨hwf,hml,hcase⟩:=Qx (t:=BW) rfl ha;have hp:aJw x0:=hp;have z:aX .i64 0:=by rw[aJ];omega
 refine⟨λd hd=>?_,?_⟩
 ·simp only[List.mem_cons,List.mem_nil_iff,or_false]at hd;rcases hd with rfl | rfl
  ·refine⟨rfl,?_⟩;show aX .i64 (lH x0);unfold lH;split
   ·rename_i hv;split
    ·exact z
    ·exact(hp hv (by omega)).2.2.1
   ·exact z
  ·refine⟨rfl,?_⟩;show aX .i64 (wD x0);unfold wD;split
   ·split
    ·rw[aJ];omega
    ·exact z
   ·rw[aJ];omega
 ·show Calls aN 445 #[v0] w λe w'=>e = .returned (.tuple #[.int .i64 (lH x0),.int .i64 (wD x0)])/\dD [] w w';unfold lH wD;by_cases hv:fW x0=true
  ·rw[π hv,π hv];by_cases h2:x0.length<2
   ·rw[π h2,π h2];rcases hcase with ⟨ad,rfl,rfl⟩ | ⟨b',off,cap,rfl,h3,h4,hG,hcells⟩
    ·refine(WB w [] ad 0 hgo h2 hv ha).mono ?_;rintro e w' ⟨rfl,hb⟩;exact⟨rfl,iR hb⟩
    ·refine(WB w x0 _ cap hgo h2 hv ha).mono ?_;rintro e w' ⟨rfl,hb⟩;exact⟨rfl,iR hb⟩
   ·rw[ν h2,ν h2];obtain⟨p1,p2,p3,p4⟩:=hp hv (by omega);rcases hcase with ⟨ad,rfl,rfl⟩ | ⟨b',off,cap,rfl,h3,h4,hG,hcells⟩
    ·exact absurd (by decide:([]:Γ b6).length<2) h2
    ·refine(aNh w x0 b' off cap hgo (by omega) p1 h3 h4 hG.1 hv ha hcells p2 p4).mono ?_;rintro e w' ⟨rfl,hb⟩;exact⟨rfl,iR hb⟩
  ·rw[ν hv,ν hv];refine(aBK w x0 v0 hgo (bV.2 hv) ha).mono ?_;rintro e w' ⟨rfl,hb⟩;exact⟨rfl,iR hb⟩
def bCl:KK:=⟨445,bCk,aTK⟩
noncomputable section
def aTL:gC:=D0 mj [.v (.sl cZ),.v (.int .i64)] [.int .i64,.int .i64] [bx,lF,bCl,aEc]
mutual
def aGi:Nat->Γ b6->Int->Γ aS->Prop
 | 0,_,_,_=>False
 | n+1,x0,x1,ds=>if !fW x0 then ds=[aI (.int .i64) 0,aI (.int .i64) 1] else if !bE x1 0 24000 then ds=[aI (.int .i64) 0,aI (.int .i64) 2] else aJw x0/\if wD x0 != 0 then ds=[aI (.int .i64) 0,aI (.int .i64) (wD x0)] else aX .i64 ((x0.length:Int)-1)/\0<=(x0.length:Int)-1/\(x0.length:Int)-1<(x0.length:Int)/\DZ n (aD x0 (aE ((x0.length:Int)-1)) (0,0,0,())).1 x1 x0 ds
def DZ:Nat->Int->Int->Γ b6->Γ aS->Prop
 | 0,_,_,_,_=>False
 | n+1,v9,x1,x0,ds=>if pU v9 then aX .i64 (v9-(aD x0 (aE ((x0.length:Int)-1)) (0,0,0,())).1)/\aX .i64 (lH x0*(v9-(aD x0 (aE ((x0.length:Int)-1)) (0,0,0,())).1))/\aX .i64 (aQ (lH x0*(v9-(aD x0 (aE ((x0.length:Int)-1)) (0,0,0,())).1)) 1000)/\aX .i64 ((aD x0 (aE ((x0.length:Int)-1)) (0,0,0,())).2.1+aQ (lH x0*(v9-(aD x0 (aE ((x0.length:Int)-1)) (0,0,0,())).1)) 1000)/\if decide ((aD x0 (aE ((x0.length:Int)-1)) (0,0,0,())).2.1+aQ (lH x0*(v9-(aD x0 (aE ((x0.length:Int)-1)) (0,0,0,())).1)) 1000>=x1)then ds=[aI (.int .i64) v9,aI (.int .i64) 0] else aX .i64 (v9+1)/\DZ n (v9+1) x1 x0 ds else ds=[aI (.int .i64) 0,aI (.int .i64) 3]
end
def aTM(ds:Γ aS)(K:fG)(q:Nat->Value):∀n,(∀ {x0 x1},aGi n x0 x1 ds->St aTL (x0,x1,()) ds [] K q)/\(∀ {v9 x1 x0},DZ n v9 x1 x0 ds->Cu aTL 10 ([eI 1 x1,eI 6 (lH x0),eO 8 0 0 [],eI 9 v9],[some (fE cZ [aD x0 (aE ((x0.length:Int)-1)) (0,0,0,())] true none (some false))]) ds [] K q):=nI ⟨aH,aH⟩ λn ⟨i,i10⟩=>⟨bH<|bD cM<|bH<|bD cM<|aL<|bD cM<|aL<|cP<|bX i10,
  bH<|bD (aL<|aL<|pw 1000<|aL<|aL<|bD cM<|aL<|bX i10) cM⟩
def mH(x0:Γ b6):b6:=x0.getD (aE ((x0.length:Int)-1)) jW
def j6(x0:Γ b6)(d:Int):Int:=(mH x0).2.1+aQ (lH x0*(d-(mH x0).1)) 1000
def kM(x0:Γ b6)(x1:Int):Nat->Int->Int
 | 0,_ => -1
 | k+1,d=>if j6 x0 d>=x1 then d else kM x0 x1 k (d+1)
def gw(x0:Γ b6)(x1:Int):Int:=kM x0 x1 (36525-(mH x0).1).toNat (mH x0).1
def BD(x0:Γ b6)(x1:Int):Int:=if fW x0 then(if bE x1 0 24000 then(if wD x0=0 then(if gw x0 x1<0 then 0 else gw x0 x1)else 0)else 0)else 0
def Dy(x0:Γ b6)(x1:Int):Int:=if fW x0 then(if bE x1 0 24000 then(if wD x0=0 then(if gw x0 x1<0 then 3 else 0)else wD x0)else 2)else 1
def WC(x0:Γ b6):Prop:=1<=x0.length/\x0.length<=24/\(0<=(mH x0).1/\(mH x0).1<=36524)/\(0<=(mH x0).2.1/\(mH x0).2.1<=24000)/\(0<=lH x0/\lH x0<=30000000)
def aNi(x0:Γ b6)(x1:Int):Prop:=aJw x0/\(fW x0=true->wD x0=0->WC x0)
def aJx{a b:Int}(ha:0<=a/\a<=30000000)(hb:0<=b/\b<=36524):0<=a*b/\a*b<=1095720000000/\0<=aQ (a*b) 1000/\aQ (a*b) 1000<=1095720000:=by
 have h1:0<=a*b:=Int.mul_nonneg ha.1 hb.1;have h2:a*b<=30000000*36524:=Int.mul_le_mul ha.2 hb.2 hb.1 (by lia)
 lia
def aTN{x0:Γ b6}{x1:Int}(hb:WC x0):∀(k:Nat) (d:Int),(mH x0).1<=d->d+k=36525 ->
  DZ (k+1) d x1 x0 [⟨.int .i64,if kM x0 x1 k d<0 then 0 else kM x0 x1 k d⟩,⟨.int .i64,if kM x0 x1 k d<0 then 3 else 0⟩]:=by
 obtain⟨hl,hm,⟨a1,a2⟩,⟨b1,b2⟩,hg⟩:=hb;intro k
 induction k with
 | zero =>
  intro d hd hk;have e:¬pU d=true:=by
   unfold pU bE
   lia
  rw[DZ,ν e];rfl
 | succ k ih =>
  intro d hd hk;have e:pU d=true:=by
   unfold pU bE
   lia
  obtain⟨m1,m2,m3,m4⟩:=aJx hg (b:=d-(mH x0).1) (by lia);have hr:DZ (k+1+1) d x1 x0 [⟨.int .i64,if kM x0 x1 (k+1) d<0 then 0 else kM x0 x1 (k+1) d⟩,⟨.int .i64,if kM x0 x1 (k+1) d<0 then 3 else 0⟩]=((aX .i64 (d-(mH x0).1))/\((aX .i64 (lH x0*(d-(mH x0).1)))/\((aX .i64 (aQ (lH x0*(d-(mH x0).1)) 1000))/\((aX .i64 (j6 x0 d))/\(if decide (j6 x0 d>=x1)=true then([⟨.int .i64,if kM x0 x1 (k+1) d<0 then 0 else kM x0 x1 (k+1) d⟩,⟨.int .i64,if kM x0 x1 (k+1) d<0 then 3 else 0⟩]=([⟨.int .i64,d⟩,⟨.int .i64,0⟩]:Γ aS))else((aX .i64 (d+1))/\(DZ (k+1) (d+1) x1 x0 [⟨.int .i64,if kM x0 x1 (k+1) d<0 then 0 else kM x0 x1 (k+1) d⟩,⟨.int .i64,if kM x0 x1 (k+1) d<0 then 3 else 0⟩]))))))):=by
   rw[DZ,π e];rfl
  rw[hr];have hv:aX .i64 (j6 x0 d):=by
   unfold j6;rw[aJ]
   lia
  refine⟨by grind [aJ],by grind [aJ],by grind [aJ],hv,?_⟩;have ef:kM x0 x1 (k+1) d=if j6 x0 d>=x1 then d else kM x0 x1 k (d+1):=rfl
  by_cases h:j6 x0 d>=x1
  ·lia
  ·grind [aJ]
def aTO(x0:Γ b6)(x1:Int)(hp:aNi x0 x1):∃n,aGi n x0 x1 [⟨.int .i64,BD x0 x1⟩,⟨.int .i64,Dy x0 x1⟩]:=by
 obtain⟨p13,hB⟩:=hp;unfold BD Dy;cases hv:fW x0 with
 | false =>
  refine⟨0+1,?_⟩;rw[aGi,hv,π (by rfl),ν (by decide),ν (by decide)]
 | true =>
  have hB:=hB hv;cases hw:bE x1 0 24000 with
  | false =>
   refine⟨0+1,?_⟩;rw[aGi,hv,ν (by decide),hw,π (by rfl)];rfl
  | true =>
   by_cases h4:wD x0=0
   ·obtain⟨hl,hm,⟨a1,a2⟩,hrest⟩:=hB h4;have hk:=aTN (x1:=x1) (hB h4) (36525-(mH x0).1).toNat (mH x0).1 (dX _) (by omega);refine⟨(36525-(mH x0).1).toNat+1+1,?_⟩;rw[aGi,hv,ν (by decide),hw,ν (by decide),ν (by rw[h4];decide),π rfl,π rfl,π h4,π rfl,π rfl,π h4];exact⟨p13,by rw[aJ];omega,by omega,by omega,hk⟩
   ·refine⟨0+1,?_⟩;rw[aGi,hv,ν (by decide),hw,ν (by decide),π (by simpa using h4),π rfl,π rfl,ν h4,π rfl,π rfl,ν h4];exact⟨p13,rfl⟩
def bCn:KK:=mL aTL (DO mj) aNi (BD,Dy,()) (λ⟨x0,x1,_⟩ h hwf K q =>
 let ⟨n,hn⟩:=aTO x0 x1 h
 (aTM _ K q n).1 hn)
def aNj(x0:Γ b6)(x1:Int)(x2:Int):Prop:=if !fW x0 then True else if !bE x1 0 24000 then True else if !bE x2 1 1000 then True else if(x0.length:Int)==0 then True else aX .i64 ((x0.length:Int)-1)/\0<=(x0.length:Int)-1/\(x0.length:Int)-1<(x0.length:Int)/\aX .i64 ((aD x0 (aE ((x0.length:Int)-1)) (0,0,0,())).1+x2)/\aNi x0 x1/\True
def JD(x0:Γ b6)(x1:Int)(x2:Int):Int:=(if(!fW x0)=true then 0 else(if(!bE x1 0 24000)=true then 0 else(if(!bE x2 1 1000)=true then 0 else(if((x0.length:Int)==0)=true then 0 else(if(Dy x0 x1==0)=true then if BD x0 x1<if(aD x0 (aE ((x0.length:Int)-1)) (0,0,0,())).1+x2<36524 then(aD x0 (aE ((x0.length:Int)-1)) (0,0,0,())).1+x2 else 36524 then BD x0 x1 else if(aD x0 (aE ((x0.length:Int)-1)) (0,0,0,())).1+x2<36524 then(aD x0 (aE ((x0.length:Int)-1)) (0,0,0,())).1+x2 else 36524 else if(aD x0 (aE ((x0.length:Int)-1)) (0,0,0,())).1+x2<36524 then(aD x0 (aE ((x0.length:Int)-1)) (0,0,0,())).1+x2 else 36524)))))
def RL(x0:Γ b6)(x1:Int)(x2:Int):Int:=if !fW x0 then 1 else if !bE x1 0 24000 then 2 else if !bE x2 1 1000 then 2 else if(x0.length:Int)==0 then 3 else if Dy x0 x1==0 then 0 else 0
def bCo:KK:=mB Tryz.func225 [.v (.sl cZ),.v (.int .i64),.v (.int .i64)] [.int .i64,.int .i64] [bx,lF,bCn] aNj (JD,RL,()) λ_=>bH<|dL pr<|bH<|dL (jM pr)<|bH<|dL pr<|dL pr<|aL<|cP<|aL<|aL<|vY pr pr
def gx(x0:Int):Bool:=bE x0 0 100000
def aQF:KK:=mB Tryz.func492 [.v (.int .i64)] [.bool] [lF] nP (gx,()) λ_=>bH pr
def GJ(x0:Int):Bool := !gx x0
def aQG:KK:=mB Tryz.func491 [.v (.int .i64)] [.bool] [aQF] nP (GJ,()) λ_=>bH pr
def WD:gC:=D0 rG [.v (.sl Za),.fn 491 []] [.int .i64] [aQG]
def aBL(ds:Γ aS)(K:fG)(q:Nat->Value):∀n,(∀ {x0},RI0 GJ 0 n x0 ds->St WD (x0,(),()) ds [] K q)/\(∀ {v8 x0},RI GJ 0 n v8 x0 ds->Cu WD 2 ([eL 0 (.int .i64) x0,(1,PV.fn 491 []),eI 7 (x0.length:Int),eI 8 v8],[]) ds [] K q):=nI ⟨aH,aH⟩ λn ⟨i,i2⟩=>⟨bX i2,
  bD (cP<|bH<|bD cM<|aL<|bX i2) cM⟩
def Mc(x0:Γ (Int)):Int:=idx (x0.findIdx? GJ)
def aGj:KK:=mL WD (DO rG) nP (Mc,()) (λ⟨x0,_⟩ h hwf K q =>
 (aBL _ K q _).1 (Vl hwf.1.1))
theorem WE(x0:Γ (Int)):decide (Mc x0>=0)=x0.any GJ:=Vm
def GL(x0:Γ Int):Bool:=decide (Mc x0>=0)
def aGk:KK:=mB HX [.v (.sl Za),.fn 491 []] [.bool] [aGj,aQG] nP (GL,()) λ_=>bH pr
def JE(x0:Int)(x1:Int)(x2:Γ Int):Bool:=if !GL x2 then(if gx x0 then bE x1 1 900 else false)else false
def bCp:KK:=mB Tryz.func430 [.v (.int .i64),.v (.int .i64),.v (.sl Za)] [.bool] [aQF,lF,aGk] nP (JE,()) λ_=>bH<|dS (bH<|dS (bH pr) pr)<|dK pr
def aJy(x0:Int):Bool:=bE x0 0 10000000
def bCq:KK:=mB Tryz.func183 [.v (.int .i64)] [.bool] [lF] nP (aJy,()) λ_=>bH pr
def q8(x0:Int×Int×Int×Int×Unit):Bool:=if bE x0.1 1 20000 then(if bE x0.2.1 1 1000 then(if aJy x0.2.2.1 then bE x0.2.2.2.1 0 1000 else false)else false)else false
def aJz:KK:=mB Tryz.func107 [.v gp] [.bool] [lF,bCq] nP (q8,()) λ_=>bH<|dS (bH<|dS (bH<|dS (bH pr) pr)<|dK pr)<|dK<|dK pr
def Md(x0:Int):Bool:=bE x0 0 1000000
def bCr:KK:=mB Tryz.func431 [.v (.int .i64)] [.bool] [lF] nP (Md,()) λ_=>bH pr
def zZ(x0:Int×Int×Int×Int×Unit)(x1:Bool):Int:=if !q8 x0 then 1 else if !x1 then 2 else 0
def bCs:KK:=mB Tryz.func429 [.v gp,.v (.bool)] [.int .i64] [aJz] nP (zZ,()) λ_=>bH<|dS pr<|dS pr pr
def bCt(x0:Int)(x1:Int)(x2:Int)(x3:Int):Prop:=((aX .i64 (x0-x1))/\((aX .i64 (x0-x1-x2))/\((aX .i64 ((x0-x1-x2)*x3))/\((aX .i64 ((x0-x1-x2)*x3*981))/\((RJ ((x0-x1-x2)*x3*981) 100000)/\True)))))
def aBM(x0:Int)(x1:Int)(x2:Int)(x3:Int):Int:=o0 ((x0-x1-x2)*x3*981) 100000
def bCu:KK:=mB Tryz.func494 [.v (.int .i64),.v (.int .i64),.v (.int .i64),.v (.int .i64)] [.int .i64] [aJv] bCt (aBM,()) λ_=>aL<|aL<|aL<|aL<|aL pr
def aNk(x0:Int)(x1:Int)(x2:Int)(x3:Int)(x4:Int)(x5:Int):Prop:=((aX .i64 (x1+x0))/\((bCt (x1+x0) x2 x3 x4)/\True))
def Dz(x0:Int)(x1:Int)(x2:Int)(x3:Int)(x4:Int)(x5:Int):Bool:=decide (aBM (x1+x0) x2 x3 x4>=x5)
def bCv:KK:=mB Tryz.func493 [.v (.int .i64),.p (.int .i64),.p (.int .i64),.p (.int .i64),.p (.int .i64),.p (.int .i64)] [.bool] [bCu] aNk (Dz,()) λ_=>aL<|aL pr
end
def Me(C:Int->Bool):Nat->Int->Int->Int
 | 0,lo,_=>lo
 | n+1,lo,e=>if lo<e then(if C (aQ (lo+e) 2)=true then Me C n lo (aQ (lo+e) 2)else Me C n (aQ (lo+e) 2+1) e)else lo
def aEh{lo e:Int}(h0:0<=lo)(h:lo<e):lo<=aQ (lo+e) 2/\aQ (lo+e) 2<e:=by
 lia
theorem gy(C:Int->Bool)(l0 e0:Int):∀(n:Nat) (lo e:Int),0<=lo->lo<=e->e-lo<=(n:Int)->(e=e0\/C e=true)->(lo=l0\/C (lo-1)=false)->l0<=lo->e<=e0 ->
  l0<=Me C n lo e/\Me C n lo e<=e0/\(Me C n lo e=e0\/C (Me C n lo e)=true)/\(Me C n lo e=l0\/C (Me C n lo e-1)=false)
 | 0,lo,e,h0,h1,h2,h3,h4,h5,h6=>by
  obtain rfl:e=lo:=by lia
  exact⟨h5,h6,h3,h4⟩
 | n+1,lo,e,h0,h1,h2,h3,h4,h5,h6=>by
  unfold Me;by_cases h:lo<e
  ·obtain⟨m1,m2⟩:=aEh h0 h;rw[π h];by_cases hc:C (aQ (lo+e) 2)=true
   ·rw[π hc];exact gy C l0 e0 n lo _ h0 m1 (by lia) (.inr hc) h4 h5 (by lia)
   ·rw[ν hc];refine gy C l0 e0 n _ e (by lia) (by lia) (by lia) h3 (.inr ?_) (by lia) h6
    lia
  grind
noncomputable section
def WF:gC:=D0 H1 [.v (.int .i64),.v (.int .i64),.fn 493 [(true,(.int .i64)),(true,(.int .i64)),(true,(.int .i64)),(true,(.int .i64)),(true,(.int .i64))]] [.int .i64] [bCv]
mutual
def WG:Nat->Int->Int->Int->Int->Int->Int->Int->Γ aS->Prop
 | 0,_,_,_,_,_,_,_,_=>False
 | n+1,x0,x1,x2,x2c,x2cc,x2ccc,x2cccc,ds=>aX .i64 (x1+1)/\tJ n (x1+1) x0 x2 x2c x2cc x2ccc x2cccc ds
def tJ:Nat->Int->Int->Int->Int->Int->Int->Int->Γ aS->Prop
 | 0,_,_,_,_,_,_,_,_=>False
 | n+1,v7,x0,x2,x2c,x2cc,x2ccc,x2cccc,ds=>if decide (x0<v7)then aX .i64 (x0+v7)/\aX .i64 (aQ (x0+v7) 2)/\aNk (aQ (x0+v7) 2) x2 x2c x2cc x2ccc x2cccc/\if Dz (aQ (x0+v7) 2) x2 x2c x2cc x2ccc x2cccc then tJ n (aQ (x0+v7) 2) x0 x2 x2c x2cc x2ccc x2cccc ds else aX .i64 (aQ (x0+v7) 2+1)/\tJ n v7 (aQ (x0+v7) 2+1) x2 x2c x2cc x2ccc x2cccc ds else ds=[aI (.int .i64) x0]
end
def aBN(ds:Γ aS)(K:fG)(q:Nat->Value):∀n,(∀ {x0 x1 x2 x2c x2cc x2ccc x2cccc},WG n x0 x1 x2 x2c x2cc x2ccc x2cccc ds->St WF (x0,x1,(x2,x2c,x2cc,x2ccc,x2cccc,()),()) ds [] K q)/\(∀ {v7 x0 x2 x2c x2cc x2ccc x2cccc},tJ n v7 x0 x2 x2c x2cc x2ccc x2cccc ds->Cu WF 2 ([eI 0 x0,(2,PV.fn 493 [rR (.int .i64) x2,rR (.int .i64) x2c,rR (.int .i64) x2cc,rR (.int .i64) x2ccc,rR (.int .i64) x2cccc]),eI 7 v7],[]) ds [] K q):=nI ⟨aH,aH⟩ λn ⟨i,i2⟩=>⟨aL<|bX i2,
  bD (aL<|pw 2<|aL<|aL<|bD (bX i2)<|aL<|bX i2) cM⟩
def GM(x0 x1:Int)(y0:Int)(y1:Int)(y2:Int)(y3:Int)(y4:Int):Int:=Me (λx=>Dz x y0 y1 y2 y3 y4) (x1+1-x0).toNat x0 (x1+1)
def WH(x0 x1:Int)(y0:Int)(y1:Int)(y2:Int)(y3:Int)(y4:Int):Prop:=(0<=x0/\x0<=x1+1/\x1<=1000000000)/\∀v,0<=v->v<=x1->aNk v y0 y1 y2 y3 y4
def aBO(y0:Int)(y1:Int)(y2:Int)(y3:Int)(y4:Int)(e9:Int)(he:e9<=1000000000)(hp:∀v,0<=v->v<=e9->aNk v y0 y1 y2 y3 y4):∀(k:Nat) (lo e:Int),0<=lo->lo<=e->e<=e9+1->e-lo<=(k:Int)->tJ (k+1) e lo y0 y1 y2 y3 y4 [⟨.int .i64,Me (λx=>Dz x y0 y1 y2 y3 y4) k lo e⟩]:=by
 intro k
 induction k with
 | zero =>
  intro lo e h0 h1 h2 h3;rw[tJ,ν (by lia)];rfl
 | succ k ih =>
  intro lo e h0 h1 h2 h3;unfold Me;by_cases hlt:lo<e
  ·rw[tJ]
   grind [aJ]
  ·rw[tJ,ν (by lia),ν hlt]
def aBP(x0 x1:Int)(y0:Int)(y1:Int)(y2:Int)(y3:Int)(y4:Int)(h:WH x0 x1 y0 y1 y2 y3 y4):WG ((x1+1-x0).toNat+1+1) x0 x1 y0 y1 y2 y3 y4 [⟨.int .i64,GM x0 x1 y0 y1 y2 y3 y4⟩]:=by
 obtain⟨⟨h1,h2,h3⟩,hp⟩:=h;rw[WG];exact⟨by rw[aJ];omega,aBO y0 y1 y2 y3 y4 x1 h3 hp _ _ _ h1 h2 (by omega) (by omega)⟩
def aGl:KK:=mL WF (DO H1) WH (GM,()) (λ⟨x0,x1,⟨y0,y1,y2,y3,y4,_⟩,_⟩ h hwf K q =>
 (aBN _ K q _).1 (aBP x0 x1 y0 y1 y2 y3 y4 h))
def aNl(x0:Int×Int×Int×Int×Unit)(x1:Int)(x2:Int)(x3:Int)(x4:Int)(x5:Int):Prop:=((WH 0 x0.1 x1 x2 x3 x4 x5)/\True)
def BE(x0:Int×Int×Int×Int×Unit)(x1:Int)(x2:Int)(x3:Int)(x4:Int)(x5:Int):Int:=GM 0 x0.1 x1 x2 x3 x4 x5
def RN(x0:Int×Int×Int×Int×Unit)(x1:Int)(x2:Int)(x3:Int)(x4:Int)(x5:Int):Bool:=decide (GM 0 x0.1 x1 x2 x3 x4 x5<=x0.1)
def bCw:KK:=mB Tryz.func432 [.v gp,.v (.int .i64),.v (.int .i64),.v (.int .i64),.v (.int .i64),.v (.int .i64)] [.int .i64,.bool] [aGl] aNl (BE,RN,()) λ_=>aL pr
end
end Go.Proofs.YtbaoaedmbhpolaaGreatDoor
set_option maxRecDepth 100000
namespace Go.Proofs.YtbaoaedmbhpolaaGreatDoor
open Go Go.Am Go.Proofs
noncomputable section
def aNm(x0:Int×Int×Int×Int×Unit)(x1:Int)(x2:Int)(x3:Int)(x4:Int)(x5:Int):Prop:=if JE x3 x4 [x1,x2] then(if zZ x0 (Md x5) != 0 then True else aNl x0 x1 x2 x3 x4 x5/\True)else if zZ x0 false != 0 then True else aNl x0 x1 x2 x3 x4 x5/\True
def RO(x0:Int×Int×Int×Int×Unit)(x1:Int)(x2:Int)(x3:Int)(x4:Int)(x5:Int):Int:=if JE x3 x4 [x1,x2] then(if zZ x0 (Md x5) != 0 then 0 else if !RN x0 x1 x2 x3 x4 x5 then 0 else BE x0 x1 x2 x3 x4 x5)else if zZ x0 false != 0 then 0 else if !RN x0 x1 x2 x3 x4 x5 then 0 else BE x0 x1 x2 x3 x4 x5
def WI(x0:Int×Int×Int×Int×Unit)(x1:Int)(x2:Int)(x3:Int)(x4:Int)(x5:Int):Int:=if JE x3 x4 [x1,x2] then(if zZ x0 (Md x5) != 0 then zZ x0 (Md x5)else if !RN x0 x1 x2 x3 x4 x5 then 3 else 0)else if zZ x0 false != 0 then zZ x0 false else if !RN x0 x1 x2 x3 x4 x5 then 3 else 0
def bCx:KK:=mB Tryz.func330 [.v gp,.v (.int .i64),.v (.int .i64),.v (.int .i64),.v (.int .i64),.v (.int .i64)] [.int .i64,.int .i64] [bCp,bCr,bCs,bCw] aNm (RO,WI,()) λ_=>bH<|dL (bH<|bH<|dL pr<|aL<|vY pr pr)<|bH<|dL pr<|aL<|vY pr pr
def aJ0(x0:Int):Bool:=bE x0 (-1000000000) 1000000000
def bCy:KK:=mB Tryz.func489 [.v (.int .i64)] [.bool] [lF] nP (aJ0,()) λ_=>bH pr
def JF(x0:Int):Bool := !aJ0 x0
def aQH:KK:=mB Tryz.func488 [.v (.int .i64)] [.bool] [bCy] nP (JF,()) λ_=>bH pr
def WJ:gC:=D0 rG [.v (.sl Za),.fn 488 []] [.int .i64] [aQH]
def aBQ(ds:Γ aS)(K:fG)(q:Nat->Value):∀n,(∀ {x0},RI0 JF 0 n x0 ds->St WJ (x0,(),()) ds [] K q)/\(∀ {v8 x0},RI JF 0 n v8 x0 ds->Cu WJ 2 ([eL 0 (.int .i64) x0,(1,PV.fn 488 []),eI 7 (x0.length:Int),eI 8 v8],[]) ds [] K q):=nI ⟨aH,aH⟩ λn ⟨i,i2⟩=>⟨bX i2,
  bD (cP<|bH<|bD cM<|aL<|bX i2) cM⟩
def Mf(x0:Γ (Int)):Int:=idx (x0.findIdx? JF)
def aGm:KK:=mL WJ (DO rG) nP (Mf,()) (λ⟨x0,_⟩ h hwf K q =>
 (aBQ _ K q _).1 (Vl hwf.1.1))
theorem WK(x0:Γ (Int)):decide (Mf x0>=0)=x0.any JF:=Vm
def GO(x0:Γ Int):Bool:=decide (Mf x0>=0)
def aGn:KK:=mB HX [.v (.sl Za),.fn 488 []] [.bool] [aGm,aQH] nP (GO,()) λ_=>bH pr
def JG(x0:Γ Int)(x1:Int):Bool:=if decide ((x0.length:Int)>=x1)then(if decide ((x0.length:Int)<=32)then !GO x0 else false)else false
def bCz:KK:=mB Tryz.func425 [.v (.sl Za),.v (.int .i64)] [.bool] [aGn] nP (JG,()) λ_=>dS (dS (bH pr) pr)<|dK pr
def aTP:gC:=D0 ml [.v (.sl Za)] [.int .i64] []
mutual
def aTQ:Nat->Γ Int->Γ aS->Prop
 | 0,_,_=>False
 | n+1,x0,ds=>decide ((x0.length:Int)<1)=false/\0<(x0.length:Int)/\RQ n (aD x0 0 0) 1 x0 ds
def RQ:Nat->Int->Int->Γ Int->Γ aS->Prop
 | 0,_,_,_,_=>False
 | n+1,v3,v4,x0,ds=>if decide (v4<(x0.length:Int))then 0<=v4/\v4<(x0.length:Int)/\aX .i64 (v4+1)/\RQ n (if v3<aD x0 (aE v4) 0 then aD x0 (aE v4) 0 else v3) (v4+1) x0 ds else ds=[aI (.int .i64) v3]
end
def aTR(ds:Γ aS)(K:fG)(q:Nat->Value):∀n,(∀ {x0},aTQ n x0 ds->St aTP (x0,()) ds [] K q)/\(∀ {v3 v4 x0},RQ n v3 v4 x0 ds->Cu aTP 5 ([eL 0 (.int .i64) x0,eI 3 v3,eI 4 v4],[]) ds [] K q):=nI ⟨aH,aH⟩ λn ⟨i,i5⟩=>⟨pcF<|pq 0<|aL<|bX i5,
  bD (cP<|aL<|bX i5) cM⟩
def ce(s y:Int):Int:=if s<y then y else s
def wE(x0:Γ Int):Int:=(x0.drop 1).foldl ce (x0.getD 0 0)
def bC0(x0:Γ Int):Prop:=1<=x0.length
def aTS(x0:Γ Int)(hm:x0.length<=maxLen):∀(k i:Nat) (s:Int),i+k=x0.length->RQ (k+1) s (i:Int) x0 [⟨.int .i64,(x0.drop i).foldl ce s⟩]:=by
 intro k
 induction k with
 | zero =>
  intro i s hi;rw[RQ,ν (by lia),bT (by lia)];rfl
 | succ k ih =>
  intro i s hi;have hlt:i<x0.length:=by lia
  have hu:=iJ hm hlt;have e3:(i:Int)+1=((i+1:Nat):Int):=by lia
  rw[RQ,π (by lia),dQ x0 i 0 hlt];exact⟨by lia,by lia,hu,ih (i+1) _ (by lia)⟩
def aTT(x0:Γ Int)(hm:x0.length<=maxLen)(h:1<=x0.length):aTQ (x0.length-1+1+1) x0 [⟨.int .i64,wE x0⟩]:=by
 rw[aTQ];exact⟨by simp only[decide_eq_false_iff_not];omega,by omega,aTS x0 hm (x0.length-1) 1 (x0.getD 0 0) (by omega)⟩
def bC1:KK:=mL aTP (DO ml) bC0 (wE,()) (λ⟨x0,_⟩ h hwf K q =>
 (aTR _ K q _).1 (aTT x0 hwf.1.1 h))
def aNn:gC:=D0 mm [.v (.sl Za),.v (.int .i64)] [.sl Za] [aQE]
mutual
def aTU:Nat->Γ Int->Int->Γ aS->Prop
 | 0,_,_,_=>False
 | n+1,x0,x1,ds=>Mg n 0 ([]) x0 x1 ds
def Mg:Nat->Int->Γ Int->Γ Int->Int->Γ aS->Prop
 | 0,_,_,_,_,_=>False
 | n+1,v13,h0,x0,x1,ds=>if decide (v13<(x0.length:Int))then 0<=v13/\v13<(x0.length:Int)/\Mh n 0 0 x0 x1 v13 h0 ds else ds=[aI (.sl Za) h0]
def Mh:Nat->Int->Int->Γ Int->Int->Int->Γ Int->Γ aS->Prop
 | 0,_,_,_,_,_,_,_=>False
 | n+1,v8,v19,x0,x1,v13,h0,ds=>if decide (v19<(x0.length:Int))then 0<=v19/\v19<(x0.length:Int)/\aX .i64 (aD x0 (aE v13) 0-aD x0 (aE v19) 0)/\Tk (aD x0 (aE v13) 0-aD x0 (aE v19) 0)/\if decide (mO (aD x0 (aE v13) 0-aD x0 (aE v19) 0)<=x1)then aX .i64 (v8+1)/\aX .i64 (v19+1)/\Mh n (v8+1) (v19+1) x0 x1 v13 h0 ds else aX .i64 (v19+1)/\Mh n v8 (v19+1) x0 x1 v13 h0 ds else(aF h0+1)*8<=140737488355328/\aX .i64 (v13+1)/\Mg n (v13+1) (h0++[v8]) x0 x1 ds
end
def aTV(ds:Γ aS)(K:fG)(q:Nat->Value):∀n,(∀ {x0 x1},aTU n x0 x1 ds->St aNn (x0,x1,()) ds [] K q)/\(∀ {v13 h0 x0 x1},Mg n v13 h0 x0 x1 ds->Cu aNn 3 ([eL 0 (.int .i64) x0,eI 1 x1,eW 5 0,eL 11 (.int .i64) x0,eI 12 (x0.length:Int),eI 13 v13],[cL (.int .i64) h0]) ds [] K q)/\(∀ {v8 v19 x0 x1 v13 h0},Mh n v8 v19 x0 x1 v13 h0 ds->Cu aNn 7 ([eL 0 (.int .i64) x0,eI 1 x1,eW 5 0,eI 7 (aD x0 (aE v13) 0),eI 8 v8,eL 11 (.int .i64) x0,eI 12 (x0.length:Int),eI 13 v13,eL 17 (.int .i64) x0,eI 18 (x0.length:Int),eI 19 v19],[cL (.int .i64) h0]) ds [] K q):=nI ⟨aH,aH,aH⟩ λn ⟨i,i3,i7⟩=>⟨Dr [(5,.int .i64)] i3,
  bD (cP<|bX i7) cM,
  bD (cP<|aL<|aL<|bD (aL<|aL<|bX i7)<|aL<|bX i7)<|aL<|aL<|Dr [(5,.int .i64)] i3⟩
def BF(a x1:Int)(l:Γ Int):Nat:=(l.filter λb=>decide (mO (a-b)<=x1)).length
def j7(x0:Γ Int)(x1:Int):Γ Int:=x0.map λa=>(BF a x1 x0:Int)
def aJ1(x0:Γ Int)(x1:Int):Prop:=x0.length<=1000000/\∀x∈x0, -1000000000<=x/\x<=1000000000
def aTW{x:Int}(h1 : -9000000000<=x)(h2:x<=9000000000):Tk x:=by
 unfold Tk;split
 ·exact⟨by grind [aJ],trivial⟩
 lia
def aJ2(x0:Γ Int)(x1:Int)(h:aJ1 x0 x1)(v13:Nat)(hv:v13<x0.length)(h0:Γ Int)(ds:Γ aS)(n:Nat):∀(k j:Nat) (c:Nat),j+k=x0.length->c<=j->(Mg n ((v13:Int)+1) (h0++[((c+BF (x0.getD v13 0) x1 (x0.drop j):Nat):Int)]) x0 x1 ds)->h0.length<=1000000->Mh (n+k+1) (c:Int) (j:Int) x0 x1 (v13:Int) h0 ds:=by
 obtain⟨hl,hb⟩:=h;have ha:=hb _ (cF x0 v13 0 hv);intro k
 induction k with
 | zero =>
  intro j c hj hc hr hh;rw[bT (by lia)]at hr;rw[Mh,ν (by lia)];exact⟨by lia,by grind [aJ],hr⟩
 | succ k ih =>
  intro j c hj hc hr hh;have hlt:j<x0.length:=by lia
  have hx:=hb _ (cF x0 j 0 hlt);have e3:(j:Int)+1=((j+1:Nat):Int):=by lia
  have e4:(c:Int)+1=((c+1:Nat):Int):=by lia
  rw[dQ x0 j 0 hlt]at hr;rw[Mh,π (by lia),aK,aK];refine⟨by lia,by lia,by grind [aJ],aTW (by lia) (by lia),?_⟩;unfold BF at hr ih;rw[List.filter_cons]at hr;by_cases d:decide (mO (x0.getD v13 0-x0.getD j 0)<=x1)=true
  ·rw[π d,List.length_cons]at hr;exact(π d).mpr ⟨by grind [aJ],by grind [aJ],ih (j+1) (c+1) (by lia) (by lia) (by lia) hh⟩
  ·rw[ν d]at hr;exact(ν d).mpr ⟨by grind [aJ],ih (j+1) c (by lia) (by lia) hr hh⟩
def aJ3(x0:Γ Int)(x1:Int)(h:aJ1 x0 x1):∀(k i:Nat) (h0:Γ Int),i+k=x0.length->h0.length=i->∃n,Mg n (i:Int) h0 x0 x1 [⟨.sl Za,h0++(x0.drop i).map λa=>(BF a x1 x0:Int)⟩]:=by
 intro k
 induction k with
 | zero =>
  intro i h0 hi hh;refine⟨1,?_⟩;rw[Mg,ν (by lia),bT (by lia),Bj,dN]
 | succ k ih =>
  intro i h0 hi hh;have hlt:i<x0.length:=by lia
  have hl:=h.1;obtain⟨n,hn⟩:=ih (i+1) (h0++[((0+BF (x0.getD i 0) x1 (x0.drop 0):Nat):Int)]) (by lia) (by grind);refine⟨n+x0.length+1+1,?_⟩;rw[Mg,dQ x0 i 0 hlt];have:=aJ2 x0 x1 h i hlt h0 [⟨.sl Za,h0++(x0.getD i 0::x0.drop (i+1)).map λa=>(BF a x1 x0:Int)⟩] n x0.length 0 0 (by lia) (aU _) (by
   grind) (by lia)
  lia
def aTX(x0:Γ Int)(x1:Int)(h:aJ1 x0 x1):∃n,aTU n x0 x1 [⟨.sl Za,j7 x0 x1⟩]:=by
 obtain⟨n,hn⟩:=aJ3 x0 x1 h x0.length 0 [] (by omega) rfl;exact⟨n+1,by rw[aTU];exact hn⟩
def bC2:KK:=mL aNn (DO mm) aJ1 (j7,()) (λ⟨x0,x1,_⟩ h hwf K q =>
 let ⟨n,hn⟩:=aTX x0 x1 h
 (aTV _ K q n).1 hn)
def aTY:gC:=D0 mp [.v (.sl Za),.v (.int .i64)] [.int .i64] []
mutual
def aTZ:Nat->Γ Int->Int->Γ aS->Prop
 | 0,_,_,_=>False
 | n+1,x0,x1,ds=>Mi n 0 x0 x1 ds
def Mi:Nat->Int->Γ Int->Int->Γ aS->Prop
 | 0,_,_,_,_=>False
 | n+1,v8,x0,x1,ds=>if decide (v8<(x0.length:Int))then 0<=v8/\v8<(x0.length:Int)/\if x1==aD x0 (aE v8) 0 then ds=[aI (.int .i64) v8] else aX .i64 (v8+1)/\Mi n (v8+1) x0 x1 ds else ds=[aI (.int .i64) (-1)]
end
def aUa(ds:Γ aS)(K:fG)(q:Nat->Value):∀n,(∀ {x0 x1},aTZ n x0 x1 ds->St aTY (x0,x1,()) ds [] K q)/\(∀ {v8 x0 x1},Mi n v8 x0 x1 ds->Cu aTY 2 ([eL 0 (.int .i64) x0,eI 1 x1,eI 7 (x0.length:Int),eI 8 v8],[]) ds [] K q):=nI ⟨aH,aH⟩ λn ⟨i,i2⟩=>⟨bX i2,
  bD (cP<|bD cM<|aL<|bX i2) cM⟩
def aUb(x0:Γ Int)(x1:Int)(hm:x0.length<=maxLen):aTZ (x0.length+1+1) x0 x1 [⟨.int .i64,RD x0 x1⟩]:=by
 rw[aTZ];have key:=FE x0 0 (TL x1) [(⟨.int .i64, -1⟩:aS)] (λk=>[⟨.int .i64,k⟩]) (λn i ds=>Mi n i x0 x1 ds) (λn=>?_) (λn i hi hok ds hr=>?_) (λn i hi hok=>?_)
 ·unfold RD;cases h:x0.findIdx? (TL x1) <;> rw[h]at key <;> exact key
 ·rw[Mi,ν (by simp)]
 ·rw[Mi,π (by simp;omega)];simp only[aK];refine⟨by omega,by omega,?_⟩;unfold TL at hok;rw[ν (by rw[hok];simp)];exact⟨iJ hm hi,hr⟩
 ·rw[Mi,π (by simp;omega)];simp only[aK];refine⟨by omega,by omega,?_⟩;unfold TL at hok;rw[π hok] <;> trivial
def bC3:KK:=mL aTY (DO mp) nP (RD,()) (λ⟨x0,x1,_⟩ h hwf K q =>
 (aUa _ K q _).1 (aUb x0 x1 hwf.1.1))
def aUc(x0:Γ Int)(x1:Int):Prop:=if !JG x0 3 then True else if !bE x1 0 1000000 then True else aJ1 x0 x1/\bC0 (j7 x0 x1)/\aX .i64 (2*wE (j7 x0 x1))/\if decide (2*wE (j7 x0 x1)<=(x0.length:Int))then True else 0<=RD (j7 x0 x1) (wE (j7 x0 x1))/\RD (j7 x0 x1) (wE (j7 x0 x1))<(x0.length:Int)/\True
def GQ(x0:Γ Int)(x1:Int):Int:=if !JG x0 3 then 0 else if !bE x1 0 1000000 then 0 else if decide (2*wE (j7 x0 x1)<=(x0.length:Int))then 0 else aD x0 (aE (RD (j7 x0 x1) (wE (j7 x0 x1)))) 0
def JH(x0:Γ Int)(x1:Int):Int:=if !JG x0 3 then 2 else if !bE x1 0 1000000 then 2 else if decide (2*wE (j7 x0 x1)<=(x0.length:Int))then 3 else 0
def bC4:KK:=mB Tryz.func329 [.v (.sl Za),.v (.int .i64)] [.int .i64,.int .i64] [bCz,lF,bC2,bC1,bC3] aUc (GQ,JH,()) λ_=>bH<|dL (jM pr)<|bH<|dL pr<|aL<|aL<|aL<|dL pr<|bH<|cP pr
def JI(x0:b6):Bool:=if x0.1==1 then true else x0.1==3
def aQI:KK:=mB Tryz.func181 [.v cZ] [.bool] [] nP (JI,()) λ_=>dS pr pr
def iF(x0:b6):Bool:=if !bE x0.1 0 3 then false else if !JI x0 then(if x0.2.1==0 then x0.2.2.1==0 else false)else if bE x0.2.1 0 2 then bE x0.2.2.1 0 3 else false
def aJ4:KK:=mB Tryz.func105 [.v cZ] [.bool] [lF,aQI] nP (iF,()) λ_=>bH<|dS pr<|bH<|dS (dS pr pr)<|bH<|dS (bH pr) pr
def bC5:KK:=mB Tryz.func323 [.v (.int .i64)] [.bool] [lF] nP (aBA,()) λ_=>bH pr
def aUd(x0:b6):Prop:=if !JI x0 then True else aX .i64 (x0.2.1+1)/\True
def WL(x0:b6):b6:=if !JI x0 then x0 else if decide (x0.2.1+1<3)then(x0.1,x0.2.1+1,x0.2.2)else if x0.1==3 then(0,0,0,())else if x0.2.2.1==0 then(2,0,0,())else(3,0,x0.2.2.1,())
def bC6:KK:=mB Tryz.func416 [.v cZ] [.cons Za Ti] [aQI] aUd (WL,()) λ_=>bH<|lT pr<|aL<|dS pr<|dS pr<|dS pr pr
def aUe(x0:b6)(x1:Int):Prop:=if x1==4 then aUd x0/\True else if x1==1 then True else if x1==2 then(if x0.1==2 then True else if x1==3 then(if x0.1==3 then(if decide (x0.2.2.1<3)then aX .i64 (x0.2.2.1+1)/\True else True)else True)else True)else if x1==3 then(if x0.1==3 then(if decide (x0.2.2.1<3)then aX .i64 (x0.2.2.1+1)/\True else True)else True)else True
def RS(x0:b6)(x1:Int):b6:=if x1==4 then WL x0 else if x1==1 then(if x0.1==0 then(1,0,0,())else if x0.1==3 then(1,0,0,())else if x1==2 then(if x0.1==2 then(3,0,0,())else if x1==3 then x0 else x0)else if x1==3 then x0 else x0)else if x1==2 then(if x0.1==2 then(3,0,0,())else if x1==3 then(if x0.1==3 then(if decide (x0.2.2.1<3)then(1,0,x0.2.2.1+1,())else x0)else x0)else x0)else if x1==3 then(if x0.1==3 then(if decide (x0.2.2.1<3)then(1,0,x0.2.2.1+1,())else x0)else x0)else x0
def WM(x0:b6)(x1:Int):Bool:=if x1==4 then true else if x1==1 then(if x0.1==0 then true else if x0.1==3 then true else if x1==2 then(if x0.1==2 then true else if x1==3 then false else false)else if x1==3 then false else false)else if x1==2 then(if x0.1==2 then true else if x1==3 then(if x0.1==3 then(if decide (x0.2.2.1<3)then true else false)else false)else false)else if x1==3 then(if x0.1==3 then(if decide (x0.2.2.1<3)then true else false)else false)else false
def bC7:KK:=mB Tryz.func324 [.v cZ,.v (.int .i64)] [.cons Za Ti,.bool] [bC6] aUe (RS,WM,()) λ_=>dL (aL pr)<|dL (vY (jM pr)<|bH4 (λb3=>pr) λb3=>vY (vY pr<|vY (pkF b3<|dK pr)<|dK<|dK pr)<|dK<|vY (pkF b3<|dK pr)<|dK<|dK pr)<|dK<|dL (dL pr<|dL (dL (dL (aL pr) pr)<|dK pr)<|dK<|dK pr)<|dK<|dL (dL (dL (aL pr) pr)<|dK pr)<|dK<|dK pr
def aUf(x0:b6)(x1:Int):Prop:=if !iF x0 then True else if !aBA x1 then True else aUe x0 x1/\True
def x7(x0:b6)(x1:Int):b6:=if !iF x0 then(0,0,0,())else if !aBA x1 then(0,0,0,())else if !WM x0 x1 then(0,0,0,())else RS x0 x1
def tK(x0:b6)(x1:Int):Int:=if !iF x0 then 1 else if !aBA x1 then 2 else if !WM x0 x1 then 6 else 0
def bC8:KK:=mB Tryz.func219 [.v cZ,.v (.int .i64)] [.cons Za Ti,.int .i64] [aJ4,bC5,bC7] aUf (x7,tK,()) λ_=>bH<|dL pr<|bH<|dL pr<|aL<|vY pr pr
end
end Go.Proofs.YtbaoaedmbhpolaaGreatDoor
set_option maxRecDepth 100000
namespace Go.Proofs
open Go.Shelf
def Tryz.lays169_ren:Go.Shelf.Ren:=⟨fun | 169=>399 | n=>n,fun | 70=>410 | 9=>9 | 0=>0 | 72=>412 | 37=>210 | 127=>462 | 3=>3 | 5=>5 | n=>n,fun | n=>n⟩
def Tryz.lays169:Go.Proofs.Lays.n169 aN Tryz.lays169_ren:={
 mixed:=by kernel_rfl
 f169:=QA.trans (congrArg some (by kernel_rfl))
 t0:=nH
 a0:=xH
 z0:=uP
 v0:=oE
 t3:=eR
 a3:=oM
 z3:=nA
 v3:=jK
 t9:=gO
 a9:=oN
 z9:=nB
 v9:=jL
 t37:=rH
 a37:=A6
 z37:=yR
 v37:=sN
 t70:=Cv
 a70:=Lo
 z70:=KZ
 v70:=De
 t72:=Cw
 a72:=Lp
 z72:=K0
 v72:=Df
 t127:=wW
 a127:=Ek
 z127:=Cx
 v127:=yS }
def Tryz.Builder_Extra_169:Builder.Extra aN Tryz.lays169_ren:={
 sizeBuilder:=by kernel_rfl
 liesBuilder:=by kernel_rfl
 t5:=jR
 a5:=qK
 z5:=oO
 v5:=kK
 infoByte:=by kernel_rfl
 cellsByte:=by kernel_rfl
 sizeByte:=by kernel_rfl
 neB5:=by decide }
def Tryz.lays156_ren:Go.Shelf.Ren:=⟨fun | 156=>295 | 165=>397 | 166=>398 | 169=>399 | 240=>474 | 241=>475 | 276=>523 | 277=>524 | n=>n,fun | 31=>55 | 9=>9 | 3=>3 | 4=>4 | 0=>0 | 20=>20 | 72=>412 | 76=>414 | 70=>410 | 37=>210 | 75=>268 | 127=>462 | 164=>494 | 5=>5 | 80=>416 | n=>n,fun | n=>n⟩
def Tryz.lays156:Go.Proofs.Lays.n156 aN Tryz.lays156_ren:={
 mixed:=by kernel_rfl
 f156:=Tryz.func295.trans (congrArg some (by kernel_rfl))
 f165:=mr.trans (congrArg some (by kernel_rfl))
 f166:=mu.trans (congrArg some (by kernel_rfl))
 f169:=QA.trans (congrArg some (by kernel_rfl))
 f240:=mv.trans (congrArg some (by kernel_rfl))
 f241:=mx.trans (congrArg some (by kernel_rfl))
 f276:=my.trans (congrArg some (by kernel_rfl))
 f277:=mz.trans (congrArg some (by kernel_rfl))
 t0:=nH
 a0:=xH
 z0:=uP
 v0:=oE
 t3:=eR
 a3:=oM
 z3:=nA
 v3:=jK
 t4:=iY
 a4:=qL
 z4:=oP
 v4:=kL
 t9:=gO
 a9:=oN
 z9:=nB
 v9:=jL
 t20:=yT
 a20:=H2
 z20:=El
 v20:=AY
 t31:=QB
 a31:=na
 z31:=ZX
 v31:=Sb
 t37:=rH
 a37:=A6
 z37:=yR
 v37:=sN
 t70:=Cv
 a70:=Lo
 z70:=KZ
 v70:=De
 t72:=Cw
 a72:=Lp
 z72:=K0
 v72:=Df
 t75:=rI
 a75:=Lq
 z75:=K1
 v75:=Dg
 t76:=OC
 a76:=ZY
 z76:=Y6
 v76:=QC
 t127:=wW
 a127:=Ek
 z127:=Cx
 v127:=yS
 t164:=OD
 a164:=ZZ
 z164:=Y7
 v164:=QD }
def Tryz.Builder_Extra_156:Builder.Extra aN Tryz.lays156_ren:={
 sizeBuilder:=by kernel_rfl
 liesBuilder:=by kernel_rfl
 t5:=jR
 a5:=qK
 z5:=oO
 v5:=kK
 infoByte:=by kernel_rfl
 cellsByte:=by kernel_rfl
 sizeByte:=by kernel_rfl
 neB5:=by decide }
open Go.RowKit in theorem Tryz.strings_Join_none (a : Option Addr) (c : Nat) (sep : ByteArray) (w : World) :
    Calls aN 295 #[.slice a 0 c, .string sep] w λe w'=>e = .returned (.string ⟨#[]⟩) /\ w' = w:=Any.strings_Join_none Tryz.lays156 Tryz.Builder_Extra_156 a c sep w
open Go.RowKit in theorem Tryz.strings_Join (bk o c : Nat) (xs : List ByteArray) (sep : ByteArray) (w : World) (hcells : ∀ (j : Nat) x, xs[j]? = some x -> w.cell? ⟨bk, o + j, none⟩ = some (.string x)) (hbk : bk < w.heap.size) (hN : xs.length <= 140737488355328) (hcap : xs.length <= c) (hlen : (Lib.join (xs.map (·.data.toList)) sep.data.toList).length <= 140737488355328) :
    Calls aN 295 #[.slice (some ⟨bk, o, none⟩) xs.length c, .string sep] w λe w'=>e = .returned (.string ⟨(Lib.join (xs.map (·.data.toList)) sep.data.toList).toArray⟩) /\ Below w.heap.size w w':=Any.strings_Join Tryz.lays156 Tryz.Builder_Extra_156 bk o c xs sep w hcells hbk hN hcap hlen
def Tryz.lays162_ren:Go.Shelf.Ren:=⟨fun | 162=>451 | 232=>510 | 227=>511 | 234=>512 | 236=>513 | 228=>537 | 271=>538 | 151=>539 | 120=>544 | 197=>383 | 152=>545 | 260=>462 | 137=>547 | 119=>548 | 224=>387 | 225=>386 | 217=>385 | 266=>463 | n=>n,fun | 9=>9 | 4=>4 | 3=>3 | 5=>5 | 117=>478 | 116=>477 | 0=>0 | 124=>481 | 21=>21 | 105=>396 | 46=>400 | 119=>482 | 139=>485 | 138=>484 | n=>n,fun | 3=>3 | 4=>4 | n=>n⟩
def Tryz.lays162:Go.Proofs.Lays.n162 aN Tryz.lays162_ren:={
 mixed:=by kernel_rfl
 f119:=Tryz.func548.trans (congrArg some (by kernel_rfl))
 f120:=Tryz.func544.trans (congrArg some (by kernel_rfl))
 f137:=Tryz.func547.trans (congrArg some (by kernel_rfl))
 f151:=Tryz.func539.trans (congrArg some (by kernel_rfl))
 f152:=Tryz.func545.trans (congrArg some (by kernel_rfl))
 f162:=Tryz.func451.trans (congrArg some (by kernel_rfl))
 f197:=nh.trans (congrArg some (by kernel_rfl))
 f217:=QE.trans (congrArg some (by kernel_rfl))
 f224:=QF.trans (congrArg some (by kernel_rfl))
 f225:=QG.trans (congrArg some (by kernel_rfl))
 f227:=Tryz.func511.trans (congrArg some (by kernel_rfl))
 f228:=Tryz.func537.trans (congrArg some (by kernel_rfl))
 f232:=Tryz.func510.trans (congrArg some (by kernel_rfl))
 f234:=Tryz.func512.trans (congrArg some (by kernel_rfl))
 f236:=Tryz.func513.trans (congrArg some (by kernel_rfl))
 f260:=ni.trans (congrArg some (by kernel_rfl))
 f266:=QH.trans (congrArg some (by kernel_rfl))
 f271:=Tryz.func538.trans (congrArg some (by kernel_rfl))
 t0:=nH
 a0:=xH
 z0:=uP
 v0:=oE
 t3:=eR
 a3:=oM
 z3:=nA
 v3:=jK
 t4:=iY
 a4:=qL
 z4:=oP
 v4:=kL
 t5:=jR
 a5:=qK
 z5:=oO
 v5:=kK
 t9:=gO
 a9:=oN
 z9:=nB
 v9:=jL
 t21:=Dh
 a21:=QI
 z21:=Lr
 v21:=F8
 t46:=nW
 a46:=vK
 z46:=uD
 v46:=oQ
 t105:=OE
 a105:=Z0
 z105:=Y8
 v105:=QJ
 t116:=Tryz.underlying477
 a116:=Tryz.isAgg477
 z116:=Tryz.sizeOf477
 t117:=Tryz.underlying478
 a117:=Tryz.isAgg478
 z117:=Tryz.sizeOf478
 v117:=Tryz.zeroValue478
 t119:=OF
 a119:=Z1
 z119:=Y9
 t124:=Tryz.underlying481
 a124:=Tryz.isAgg481
 z124:=Tryz.sizeOf481
 v124:=Tryz.zeroValue481
 t138:=OG
 a138:=Z2
 z138:=Ya
 v138:=QK
 t139:=OH
 a139:=Z3
 z139:=Yb
 v139:=QL
 g3:=by kernel_rfl
 g4:=by kernel_rfl }
open Go.RowKit in theorem Tryz.strings_TrimRight_one (s : ByteArray) (c : UInt8) (hc : c.toNat < 128) (w : World) (hs : s.size <= 9223372036854775807) :
    Calls aN 451 #[.string s, .string ⟨#[c]⟩] w λe w'=>e = .returned (.string ⟨(Lib.trimRightB s.data.toList c).toArray⟩) /\ w' = w:=Any.strings_TrimRight_one Tryz.lays162 s c hc w hs
open Go.RowKit in theorem Tryz.Builder_String_any_k (B b : Nat) (l : List UInt8) (w : World) (h : Lib.IsBuilderF 412 5 B b (Lib.byteCells l) w) (hBw : B <= w.heap.size) :
    Calls aN 399 #[.pointer (some ⟨b, 0, none⟩)] w λe w'=>e = .returned (.string ⟨l.toArray⟩) /\ (Lib.IsBuilderF 412 5 B b (Lib.byteCells l) w' /\ Below B w w' /\ Lib.OthersKept 5 (some b) w w'):=Any.Builder_String_any_k Tryz.lays169 Tryz.Builder_Extra_169 B b l w h hBw
def Tryz.laysM173_ren:Go.Shelf.Ren:=⟨fun | 173=>291 | 246=>395 | 283=>470 | 284=>471 | 285=>472 | 286=>473 | 129=>519 | 317=>518 | 318=>520 | 319=>521 | 320=>522 | 337=>542 | 338=>543 | n=>n,fun | 2=>2 | 3=>3 | 9=>9 | 4=>4 | 171=>457 | 0=>0 | 53=>403 | 37=>210 | 5=>5 | 173=>460 | 212=>490 | 51=>450 | 20=>20 | 213=>491 | 46=>400 | 232=>513 | 233=>514 | n=>n,fun | 17=>5 | 18=>6 | 19=>7 | n=>n⟩
def Tryz.laysM173:Go.Proofs.LaysM.n173 aN Tryz.laysM173_ren:={
 mixed:=by kernel_rfl
 f129:=nj.trans (congrArg some (by kernel_rfl))
 f173:=Tryz.func291.trans (congrArg some (by kernel_rfl))
 f246:=nl.trans (congrArg some (by kernel_rfl))
 f283:=np.trans (congrArg some (by kernel_rfl))
 f284:=nq.trans (congrArg some (by kernel_rfl))
 f285:=nr.trans (congrArg some (by kernel_rfl))
 f286:=ns.trans (congrArg some (by kernel_rfl))
 f317:=nt.trans (congrArg some (by kernel_rfl))
 f318:=nu.trans (congrArg some (by kernel_rfl))
 f319:=nw.trans (congrArg some (by kernel_rfl))
 f320:=ny.trans (congrArg some (by kernel_rfl))
 f337:=nz.trans (congrArg some (by kernel_rfl))
 f338:=oa.trans (congrArg some (by kernel_rfl))
 t0:=nH
 a0:=xH
 z0:=uP
 v0:=oE
 t2:=Sc
 a2:=aAC
 z2:=oc
 v2:=Tt
 t3:=eR
 a3:=oM
 z3:=nA
 v3:=jK
 t4:=iY
 a4:=qL
 z4:=oP
 v4:=kL
 t5:=jR
 a5:=qK
 z5:=oO
 v5:=kK
 t9:=gO
 a9:=oN
 z9:=nB
 v9:=jL
 t20:=yT
 a20:=H2
 z20:=El
 v20:=AY
 t37:=rH
 a37:=A6
 z37:=yR
 v37:=sN
 t46:=nW
 a46:=vK
 z46:=uD
 v46:=oQ
 t51:=rJ
 a51:=A7
 z51:=yU
 v51:=sO
 t53:=wX
 a53:=Ls
 z53:=K2
 v53:=Di
 t171:=OI
 a171:=Z4
 z171:=Yc
 v171:=QM
 t173:=OJ
 a173:=Z5
 z173:=Yd
 v173:=QN
 t212:=Cy
 a212:=Z6
 z212:=Ye
 v212:=QO
 t213:=OL
 a213:=Z7
 z213:=Yf
 t232:=OM
 a232:=Z8
 z232:=Yg
 v232:=QP
 t233:=ON
 a233:=Z9
 z233:=Yh
 v233:=QQ
 g17:=by kernel_rfl
 g18:=by kernel_rfl
 g19:=by kernel_rfl
 i0:=by kernel_rfl
 i2:=by kernel_rfl
 i3:=by kernel_rfl
 i4:=by kernel_rfl
 i5:=by kernel_rfl
 i9:=by kernel_rfl
 i20:=by kernel_rfl
 i37:=by kernel_rfl
 i46:=by kernel_rfl
 i51:=by kernel_rfl
 i53:=by kernel_rfl
 i171:=by kernel_rfl
 i173:=by kernel_rfl
 i212:=by kernel_rfl
 i232:=by kernel_rfl
 i233:=by kernel_rfl
 m17:=by kernel_rfl
 m18:=by kernel_rfl
 m19:=by kernel_rfl }
open Go.RowKit Go.Sort Go.Lib in theorem Tryz.strconv_FormatInt_10 (n : Int) (h0 : -9223372036854775808 <= n) (h1 : n <= 9223372036854775807) (w : World) (htab : Lib.TabIs Tryz.prog w "internal/strconv.uint64pow10" .u64 Lib.pow10Tab) :
    Calls aN 291 #[.int .i64 n, .int .i64 10] w λe w'=>e = .returned (.string ⟨(Lib.itoa n).toArray⟩) /\ ∃k os, w' = grow (w.drewN k) os:=Any.strconv_FormatInt_10 Tryz.laysM173 n h0 h1 w htab
def Tryz.laysC174_ren:Go.Shelf.Ren:=⟨fun | 174=>192 | 247=>289 | 245=>290 | 287=>390 | 279=>391 | 280=>392 | 281=>393 | 282=>394 | 321=>465 | 322=>466 | 316=>467 | 171=>469 | 205=>468 | 243=>517 | 246=>395 | 283=>470 | 284=>471 | 285=>472 | 286=>473 | 129=>519 | 317=>518 | 318=>520 | 319=>521 | 320=>522 | 337=>542 | 338=>543 | n=>n,fun | 9=>9 | 3=>3 | 2=>2 | 75=>268 | 85=>269 | 4=>4 | 167=>402 | 5=>5 | 53=>403 | 175=>404 | 46=>400 | 168=>406 | 37=>210 | 0=>0 | 210=>455 | 21=>21 | 127=>462 | 145=>488 | 143=>486 | 171=>457 | 173=>460 | 212=>490 | 51=>450 | 20=>20 | 213=>491 | 232=>513 | 233=>514 | 80=>416 | n=>n,fun | 15=>1 | 16=>2 | 17=>5 | 18=>6 | 19=>7 | n=>n⟩
def Tryz.laysC174:Go.Proofs.LaysC.n174 aN Tryz.laysC174_ren:={
 mixed:=by kernel_rfl
 f129:=nj.trans (congrArg some (by kernel_rfl))
 f171:=Tryz.func469.trans (congrArg some (by kernel_rfl))
 f174:=Tryz.func192.trans (congrArg some (by kernel_rfl))
 f205:=Tryz.func468.trans (congrArg some (by kernel_rfl))
 f243:=Tryz.func517.trans (congrArg some (by kernel_rfl))
 f245:=Tryz.func290.trans (congrArg some (by kernel_rfl))
 f246:=nl.trans (congrArg some (by kernel_rfl))
 f247:=Tryz.func289.trans (congrArg some (by kernel_rfl))
 f279:=Tryz.func391.trans (congrArg some (by kernel_rfl))
 f280:=Tryz.func392.trans (congrArg some (by kernel_rfl))
 f281:=Tryz.func393.trans (congrArg some (by kernel_rfl))
 f282:=Tryz.func394.trans (congrArg some (by kernel_rfl))
 f283:=np.trans (congrArg some (by kernel_rfl))
 f284:=nq.trans (congrArg some (by kernel_rfl))
 f285:=nr.trans (congrArg some (by kernel_rfl))
 f286:=ns.trans (congrArg some (by kernel_rfl))
 f287:=Tryz.func390.trans (congrArg some (by kernel_rfl))
 f316:=Tryz.func467.trans (congrArg some (by kernel_rfl))
 f317:=nt.trans (congrArg some (by kernel_rfl))
 f318:=nu.trans (congrArg some (by kernel_rfl))
 f319:=nw.trans (congrArg some (by kernel_rfl))
 f320:=ny.trans (congrArg some (by kernel_rfl))
 f321:=Tryz.func465.trans (congrArg some (by kernel_rfl))
 f322:=Tryz.func466.trans (congrArg some (by kernel_rfl))
 f337:=nz.trans (congrArg some (by kernel_rfl))
 f338:=oa.trans (congrArg some (by kernel_rfl))
 t0:=nH
 a0:=xH
 z0:=uP
 v0:=oE
 t2:=Sc
 a2:=aAC
 z2:=oc
 v2:=Tt
 t3:=eR
 a3:=oM
 z3:=nA
 v3:=jK
 t4:=iY
 a4:=qL
 z4:=oP
 v4:=kL
 t5:=jR
 a5:=qK
 z5:=oO
 v5:=kK
 t9:=gO
 a9:=oN
 z9:=nB
 v9:=jL
 t20:=yT
 a20:=H2
 z20:=El
 v20:=AY
 t21:=Dh
 a21:=QI
 z21:=Lr
 v21:=F8
 t37:=rH
 a37:=A6
 z37:=yR
 v37:=sN
 t46:=nW
 a46:=vK
 z46:=uD
 v46:=oQ
 t51:=rJ
 a51:=A7
 z51:=yU
 v51:=sO
 t53:=wX
 a53:=Ls
 z53:=K2
 v53:=Di
 t75:=rI
 a75:=Lq
 z75:=K1
 v75:=Dg
 t85:=Tryz.underlying269
 a85:=Tryz.isAgg269
 z85:=Tryz.sizeOf269
 v85:=Tryz.zeroValue269
 t127:=wW
 a127:=Ek
 z127:=Cx
 v127:=yS
 t143:=Tryz.underlying486
 a143:=Tryz.isAgg486
 z143:=Tryz.sizeOf486
 v143:=Tryz.zeroValue486
 t145:=Tryz.underlying488
 a145:=Tryz.isAgg488
 z145:=Tryz.sizeOf488
 v145:=Tryz.zeroValue488
 t167:=Tryz.underlying402
 a167:=Tryz.isAgg402
 z167:=Tryz.sizeOf402
 v167:=Tryz.zeroValue402
 t168:=Tryz.underlying406
 a168:=Tryz.isAgg406
 z168:=Tryz.sizeOf406
 v168:=Tryz.zeroValue406
 t171:=OI
 a171:=Z4
 z171:=Yc
 v171:=QM
 t173:=OJ
 a173:=Z5
 z173:=Yd
 v173:=QN
 t175:=Tryz.underlying404
 a175:=Tryz.isAgg404
 z175:=Tryz.sizeOf404
 v175:=Tryz.zeroValue404
 t210:=Tryz.underlying455
 a210:=Tryz.isAgg455
 z210:=Tryz.sizeOf455
 v210:=Tryz.zeroValue455
 t212:=Cy
 a212:=Z6
 z212:=Ye
 v212:=QO
 t213:=OL
 a213:=Z7
 z213:=Yf
 t232:=OM
 a232:=Z8
 z232:=Yg
 v232:=QP
 t233:=ON
 a233:=Z9
 z233:=Yh
 v233:=QQ
 g15:=by kernel_rfl
 g16:=by kernel_rfl
 g17:=by kernel_rfl
 g18:=by kernel_rfl
 g19:=by kernel_rfl
 t80:=Tryz.underlying416
 a80:=Tryz.isAgg416
 z80:=Tryz.sizeOf416
 v80:=Tryz.zeroValue416
 i0:=by kernel_rfl
 i2:=by kernel_rfl
 i3:=by kernel_rfl
 i4:=by kernel_rfl
 i5:=by kernel_rfl
 i9:=by kernel_rfl
 i20:=by kernel_rfl
 i21:=by kernel_rfl
 i37:=by kernel_rfl
 i46:=by kernel_rfl
 i51:=by kernel_rfl
 i53:=by kernel_rfl
 i75:=by kernel_rfl
 i80:=by kernel_rfl
 i85:=by kernel_rfl
 i127:=by kernel_rfl
 i143:=by kernel_rfl
 i145:=by kernel_rfl
 i167:=by kernel_rfl
 i168:=by kernel_rfl
 i171:=by kernel_rfl
 i173:=by kernel_rfl
 i175:=by kernel_rfl
 i210:=by kernel_rfl
 i212:=by kernel_rfl
 i232:=by kernel_rfl
 i233:=by kernel_rfl
 m15:=by kernel_rfl
 m16:=by kernel_rfl
 m17:=by kernel_rfl
 m18:=by kernel_rfl
 m19:=by kernel_rfl
 c0:=by kernel_rfl
 c2:=by kernel_rfl
 c3:=by kernel_rfl
 c4:=by kernel_rfl
 c5:=by kernel_rfl
 c9:=by kernel_rfl
 c20:=by kernel_rfl
 c21:=by kernel_rfl
 c37:=by kernel_rfl
 c46:=by kernel_rfl
 c51:=by kernel_rfl
 c53:=by kernel_rfl
 c75:=by kernel_rfl
 c80:=by kernel_rfl
 c85:=by kernel_rfl
 c127:=by kernel_rfl
 c143:=by kernel_rfl
 c145:=by kernel_rfl
 c167:=by kernel_rfl
 c168:=by kernel_rfl
 c171:=by kernel_rfl
 c173:=by kernel_rfl
 c175:=by kernel_rfl
 c210:=by kernel_rfl
 c212:=by kernel_rfl
 c213:=by kernel_rfl
 c232:=by kernel_rfl
 c233:=by kernel_rfl }
open Go.RowKit in theorem Tryz.strconv_ParseInt_10_at64_ok (s : ByteArray) (hmax : s.size <= 9223372036854775806) (v : Int) (h : Lib.parseIntB 64 s.data.toList = .ok v) (w : World) :
    Calls aN 192 #[.string s, .int .i64 10, .int .i64 64] w λe w'=>e = .returned (.tuple #[.int .i64 v, .nilIface]) /\ (w' = w \/ ∃t, w' = Lib.bytesWorld w 5 t):=Any.strconv_ParseInt_10_at64_ok Tryz.laysC174 s hmax v h w
open Go.RowKit in theorem Tryz.strconv_ParseInt_10_at64_syntax (s : ByteArray) (hlim : s.size <= 281474976710656) (h : Lib.parseIntB 64 s.data.toList = .syntax) (ev : Value) (w : World) (hv : w.cell? ⟨1, 0, none⟩ = some ev) (hev : ev = .nilIface \/ ∃ te pe, ev = .iface te pe) :
    Calls aN 192 #[.string s, .int .i64 10, .int .i64 64] w λe w' => ∃N, e = .returned (.tuple #[.int .i64 (0), .iface 406 (.pointer (some ⟨N, 0, none⟩))]) /\ w.heap.size<=N /\ w'.heap[N]? = some (.cells #[.string ⟨#[80, 97, 114, 115, 101, 73, 110, 116]⟩, .string s, ev] 455 (0, 0)) /\ Below w.heap.size w w':=Any.strconv_ParseInt_10_at64_syntax Tryz.laysC174 s hlim h ev w hv hev
open Go.RowKit in theorem Tryz.strconv_ParseInt_10_at64_range (s : ByteArray) (hlim : s.size <= 281474976710656) (h : Lib.parseIntB 64 s.data.toList = .range) (ev : Value) (w : World) (hv : w.cell? ⟨2, 0, none⟩ = some ev) (hev : ev = .nilIface \/ ∃ te pe, ev = .iface te pe) :
    Calls aN 192 #[.string s, .int .i64 10, .int .i64 64] w λe w' => ∃N, e = .returned (.tuple #[.int .i64 (Lib.intSat 64 s.data.toList), .iface 406 (.pointer (some ⟨N, 0, none⟩))]) /\ w.heap.size<=N /\ w'.heap[N]? = some (.cells #[.string ⟨#[80, 97, 114, 115, 101, 73, 110, 116]⟩, .string s, ev] 455 (0, 0)) /\ Below w.heap.size w w':=Any.strconv_ParseInt_10_at64_range Tryz.laysC174 s hlim h ev w hv hev
def Tryz.lays145_ren:Go.Shelf.Ren:=⟨fun | 145=>116 | 220=>190 | 219=>287 | 217=>385 | 225=>386 | 224=>387 | 267=>388 | 266=>463 | 314=>464 | n=>n,fun | 9=>9 | 4=>4 | 59=>184 | 3=>3 | 5=>5 | 46=>400 | 146=>451 | 51=>450 | n=>n,fun | 1=>0 | n=>n⟩
def Tryz.lays145:Go.Proofs.Lays.n145 aN Tryz.lays145_ren:={
 mixed:=by kernel_rfl
 f145:=Tryz.func116.trans (congrArg some (by kernel_rfl))
 f217:=QE.trans (congrArg some (by kernel_rfl))
 f219:=oe.trans (congrArg some (by kernel_rfl))
 f220:=Tryz.func190.trans (congrArg some (by kernel_rfl))
 f224:=QF.trans (congrArg some (by kernel_rfl))
 f225:=QG.trans (congrArg some (by kernel_rfl))
 f266:=QH.trans (congrArg some (by kernel_rfl))
 f267:=og.trans (congrArg some (by kernel_rfl))
 f314:=om.trans (congrArg some (by kernel_rfl))
 t3:=eR
 a3:=oM
 z3:=nA
 v3:=jK
 t4:=iY
 a4:=qL
 z4:=oP
 v4:=kL
 t5:=jR
 a5:=qK
 z5:=oO
 v5:=kK
 t9:=gO
 a9:=oN
 z9:=nB
 v9:=jL
 t46:=nW
 a46:=vK
 z46:=uD
 v46:=oQ
 t51:=rJ
 a51:=A7
 z51:=yU
 v51:=sO
 t59:=Tryz.underlying184
 a59:=Tryz.isAgg184
 z59:=Tryz.sizeOf184
 v59:=Tryz.zeroValue184
 t146:=DB
 a146:=Lu
 z146:=K3
 v146:=Dj
 g1:=by kernel_rfl }
open Go.RowKit Go.Lib in theorem Tryz.strings_Cut (s sep : ByteArray) (m : Int) (w : World) (hs : s.size < 4294967281) (hm : w.cell? ⟨0, 0, none⟩ = some (.int .i64 m)) :
    Calls aN 116 #[.string s, .string sep] w λe w'=>e = .returned (.tuple #[.string ⟨(lC s.data.toList sep.data.toList).1.toArray⟩, .string ⟨(lC s.data.toList sep.data.toList).2.1.toArray⟩, .bool (lC s.data.toList sep.data.toList).2.2]) /\ ∃n, w' = w.drewN n:=Any.strings_Cut Tryz.lays145 s sep m w hs hm
def Tryz.lays99_ren:Go.Shelf.Ren:=⟨fun | 99=>503 | 206=>389 | n=>n,fun | 9=>9 | 4=>4 | 3=>3 | n=>n,fun | n=>n⟩
def Tryz.lays99:Go.Proofs.Lays.n99 aN Tryz.lays99_ren:={
 mixed:=by kernel_rfl
 f99:=oo.trans (congrArg some (by kernel_rfl))
 f206:=QR.trans (congrArg some (by kernel_rfl))
 t3:=eR
 a3:=oM
 z3:=nA
 v3:=jK
 t4:=iY
 a4:=qL
 z4:=oP
 v4:=kL
 t9:=gO
 a9:=oN
 z9:=nB
 v9:=jL }
open Go.RowKit Go.Lib in theorem Tryz.strings_HasPrefix (s p : ByteArray) (w : World) :
    Calls aN 503 #[.string s, .string p] w λe w'=>e = .returned (.bool (Lib.hasPrefix s.data.toList p.data.toList)) /\ w' = w:=Any.strings_HasPrefix Tryz.lays99 s p w
def Tryz.lays101_ren:Go.Shelf.Ren:=⟨fun | 101=>191 | 208=>288 | 206=>389 | n=>n,fun | 9=>9 | 4=>4 | 3=>3 | n=>n,fun | n=>n⟩
def Tryz.lays101:Go.Proofs.Lays.n101 aN Tryz.lays101_ren:={
 mixed:=by kernel_rfl
 f101:=Tryz.func191.trans (congrArg some (by kernel_rfl))
 f206:=QR.trans (congrArg some (by kernel_rfl))
 f208:=Tryz.func288.trans (congrArg some (by kernel_rfl))
 t3:=eR
 a3:=oM
 z3:=nA
 v3:=jK
 t4:=iY
 a4:=qL
 z4:=oP
 v4:=kL
 t9:=gO
 a9:=oN
 z9:=nB
 v9:=jL }
open Go.RowKit Go.Lib in theorem Tryz.strings_TrimPrefix (s p : ByteArray) (w : World) :
    Calls aN 191 #[.string s, .string p] w λe w'=>e = .returned (.string ⟨(Lib.trimPrefix s.data.toList p.data.toList).toArray⟩) /\ w' = w:=Any.strings_TrimPrefix Tryz.lays101 s p w
def Tryz.lays146_ren:Go.Shelf.Ren:=⟨fun | 146=>112 | 221=>188 | 268=>284 | 138=>285 | 143=>286 | 195=>382 | 197=>383 | 218=>384 | 219=>287 | 260=>462 | 217=>385 | 225=>386 | 224=>387 | 267=>388 | 266=>463 | 314=>464 | n=>n,fun | 9=>9 | 31=>55 | 3=>3 | 4=>4 | 0=>0 | 105=>396 | 21=>21 | 5=>5 | 46=>400 | 119=>482 | 139=>485 | 138=>484 | 146=>451 | 51=>450 | n=>n,fun | 1=>0 | 3=>3 | 4=>4 | n=>n⟩
def Tryz.lays146:Go.Proofs.Lays.n146 aN Tryz.lays146_ren:={
 mixed:=by kernel_rfl
 f138:=Tryz.func285.trans (congrArg some (by kernel_rfl))
 f143:=Tryz.func286.trans (congrArg some (by kernel_rfl))
 f146:=Tryz.func112.trans (congrArg some (by kernel_rfl))
 f195:=Tryz.func382.trans (congrArg some (by kernel_rfl))
 f197:=nh.trans (congrArg some (by kernel_rfl))
 f217:=QE.trans (congrArg some (by kernel_rfl))
 f218:=Tryz.func384.trans (congrArg some (by kernel_rfl))
 f219:=oe.trans (congrArg some (by kernel_rfl))
 f221:=Tryz.func188.trans (congrArg some (by kernel_rfl))
 f224:=QF.trans (congrArg some (by kernel_rfl))
 f225:=QG.trans (congrArg some (by kernel_rfl))
 f260:=ni.trans (congrArg some (by kernel_rfl))
 f266:=QH.trans (congrArg some (by kernel_rfl))
 f267:=og.trans (congrArg some (by kernel_rfl))
 f268:=Tryz.func284.trans (congrArg some (by kernel_rfl))
 f314:=om.trans (congrArg some (by kernel_rfl))
 t0:=nH
 a0:=xH
 z0:=uP
 v0:=oE
 t3:=eR
 a3:=oM
 z3:=nA
 v3:=jK
 t4:=iY
 a4:=qL
 z4:=oP
 v4:=kL
 t5:=jR
 a5:=qK
 z5:=oO
 v5:=kK
 t9:=gO
 a9:=oN
 z9:=nB
 v9:=jL
 t21:=Dh
 a21:=QI
 z21:=Lr
 v21:=F8
 t31:=QB
 a31:=na
 z31:=ZX
 v31:=Sb
 t46:=nW
 a46:=vK
 z46:=uD
 v46:=oQ
 t51:=rJ
 a51:=A7
 z51:=yU
 v51:=sO
 t105:=OE
 a105:=Z0
 z105:=Y8
 v105:=QJ
 t119:=OF
 a119:=Z1
 z119:=Y9
 t138:=OG
 a138:=Z2
 z138:=Ya
 v138:=QK
 t139:=OH
 a139:=Z3
 z139:=Yb
 v139:=QL
 t146:=DB
 a146:=Lu
 z146:=K3
 v146:=Dj
 g1:=by kernel_rfl
 g3:=by kernel_rfl
 g4:=by kernel_rfl }
open Go.RowKit Go.Lib in theorem Tryz.strings_Split (s sep : ByteArray) (m : Int) (w : World) (hs : s.size < 4294967281) (hm : w.cell? ⟨0, 0, none⟩ = some (.int .i64 m)) (h1 : 1 <= sep.size) :
    Calls aN 112 #[.string s, .string sep] w λe w' =>
      e = .returned (.slice (some ⟨w.heap.size, 0, none⟩) (gX s sep+1) (gX s sep+1)) /\ w' = w.alloc (.cells ((Lib.splitB sep 0 (gX s sep) s).map Value.string).toArray 9):=Any.strings_Split Tryz.lays146 (by kernel_rfl) s sep m w hs hm h1
def Tryz.lays105_ren:Go.Shelf.Ren:=⟨fun | 105=>447 | 212=>502 | 99=>503 | 165=>397 | 166=>398 | 170=>504 | 169=>399 | 263=>533 | 264=>534 | 206=>389 | 240=>474 | 241=>475 | 276=>523 | 277=>524 | n=>n,fun | 9=>9 | 3=>3 | 4=>4 | 20=>20 | 0=>0 | 46=>400 | 109=>469 | 5=>5 | 72=>412 | 76=>414 | 51=>450 | 146=>451 | 53=>403 | 148=>506 | 70=>410 | 37=>210 | 75=>268 | 127=>462 | 164=>494 | 80=>416 | n=>n,fun | n=>n⟩
def Tryz.lays105:Go.Proofs.Lays.n105 aN Tryz.lays105_ren:={
 mixed:=by kernel_rfl
 f99:=oo.trans (congrArg some (by kernel_rfl))
 f105:=Tryz.func447.trans (congrArg some (by kernel_rfl))
 f165:=mr.trans (congrArg some (by kernel_rfl))
 f166:=mu.trans (congrArg some (by kernel_rfl))
 f169:=QA.trans (congrArg some (by kernel_rfl))
 f170:=Tryz.func504.trans (congrArg some (by kernel_rfl))
 f206:=QR.trans (congrArg some (by kernel_rfl))
 f212:=Tryz.func502.trans (congrArg some (by kernel_rfl))
 f240:=mv.trans (congrArg some (by kernel_rfl))
 f241:=mx.trans (congrArg some (by kernel_rfl))
 f263:=Tryz.func533.trans (congrArg some (by kernel_rfl))
 f264:=Tryz.func534.trans (congrArg some (by kernel_rfl))
 f276:=my.trans (congrArg some (by kernel_rfl))
 f277:=mz.trans (congrArg some (by kernel_rfl))
 t0:=nH
 a0:=xH
 z0:=uP
 v0:=oE
 t3:=eR
 a3:=oM
 z3:=nA
 v3:=jK
 t4:=iY
 a4:=qL
 z4:=oP
 v4:=kL
 t5:=jR
 a5:=qK
 z5:=oO
 v5:=kK
 t9:=gO
 a9:=oN
 z9:=nB
 v9:=jL
 t20:=yT
 a20:=H2
 z20:=El
 v20:=AY
 t37:=rH
 a37:=A6
 z37:=yR
 v37:=sN
 t46:=nW
 a46:=vK
 z46:=uD
 v46:=oQ
 t51:=rJ
 a51:=A7
 z51:=yU
 v51:=sO
 t53:=wX
 a53:=Ls
 z53:=K2
 v53:=Di
 t70:=Cv
 a70:=Lo
 z70:=KZ
 v70:=De
 t72:=Cw
 a72:=Lp
 z72:=K0
 v72:=Df
 t75:=rI
 a75:=Lq
 z75:=K1
 v75:=Dg
 t76:=OC
 a76:=ZY
 z76:=Y6
 v76:=QC
 t109:=Tryz.underlying469
 a109:=Tryz.isAgg469
 z109:=Tryz.sizeOf469
 v109:=Tryz.zeroValue469
 t127:=wW
 a127:=Ek
 z127:=Cx
 v127:=yS
 t146:=DB
 a146:=Lu
 z146:=K3
 v146:=Dj
 t148:=Tryz.underlying506
 a148:=Tryz.isAgg506
 z148:=Tryz.sizeOf506
 v148:=Tryz.zeroValue506
 t164:=OD
 a164:=ZZ
 z164:=Y7
 v164:=QD }
def Tryz.Builder_Extra_105:Builder.Extra aN Tryz.lays105_ren:={
 sizeBuilder:=by kernel_rfl
 liesBuilder:=by kernel_rfl
 t5:=jR
 a5:=qK
 z5:=oO
 v5:=kK
 infoByte:=by kernel_rfl
 cellsByte:=by kernel_rfl
 sizeByte:=by kernel_rfl
 neB5:=by decide }
open Go.RowKit Go.Lib in theorem Tryz.strings_Repeat (s : ByteArray) (c : Nat) (w : World) (hc : c <= 9223372036854775807) (hlen : s.size * c <= 140737488355328) :
    Calls aN 447 #[.string s, .int .i64 c] w λe w'=>e = .returned (.string ⟨(Lib.repeatL s.data.toList c).toArray⟩) /\ Below w.heap.size w w':=Any.strings_Repeat Tryz.lays105 Tryz.Builder_Extra_105 s c w hc hlen
end Go.Proofs
