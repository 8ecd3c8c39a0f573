/- The functions that this law reaches, and their laws. -/
import Derived.Test.YtgfpjekjhnkbfaaGreatDoorZ3A
import Derived.Laws.IdiomCopy
import Derived.KernelRfl
import Derived.Test.YtgfpjekjhnkbfaaGreatDoorRows
import Derived.Shelf.Vars
import Derived.Shelf.Strings.BuilderK
import Derived.Shelf.Strings.Builder1
import Derived.Lib.SliceRun
import Derived.Deep.LoopGhost
import Derived.Lib.Walk
import Derived.Shelf.RegionOpenPlain
import Derived.Shelf.Strings.Builder2
import Derived.Shelf.Strings.OnBuilder
import Derived.Shelf.Strings.Trim
import Derived.Shelf.Small.Utf8
import Derived.Shelf.Small.Strs
import Derived.Shelf.Strings.BuilderF
import Derived.Shelf.Utf8.RuneCount
import Derived.Shelf.Strings.Builder2Cap
import Derived.Shelf.Strconv.Itoa0
import Derived.Shelf.Strconv.Itoa1
import Derived.Shelf.LaysM
import Derived.Shelf.Strconv.Itoa2
import Derived.Shelf.Strconv.Itoa3
import Derived.Shelf.Strconv.Itoa4
import Derived.Shelf.Strconv.ParseIntEmpty
import Derived.Shelf.Strconv.Clone
import Derived.Shelf.Strconv.SyntaxError
import Derived.Shelf.LaysC
import Derived.Shelf.Strconv.ToError
import Derived.Shelf.Strconv.Lower
import Derived.Shelf.Strconv.ParseUint10
import Derived.Shelf.Strconv.ParseUint10Empty
import Derived.Shelf.Strconv.ParseUint10Any
import Derived.Shelf.Strconv.ParseInt10
import Derived.Shelf.Strconv.RangeError
import Derived.Shelf.Strconv.ToErrorRange
import Derived.Shelf.Strconv.ParseUintEmpty
import Derived.Shelf.Strconv.ParseUint10b64
import Derived.Shelf.Strconv.ParseUint10b32
import Derived.Shelf.Strconv.ParseUint10b16
import Derived.Shelf.Strconv.ParseUint10b8
import Derived.Shelf.Strconv.ParseUint10At
import Derived.Shelf.Strconv.ParseInt10At64
import Derived.Shelf.Strconv.ParseInt10At32
import Derived.Shelf.Strconv.ParseInt10At16
import Derived.Shelf.Strconv.ParseInt10At8
import Derived.Shelf.Strconv.ParseInt10All
import Derived.Shelf.Strconv.ParseIntPublic10
import Derived.Shelf.Strings.Search1
import Derived.Shelf.Strings.Search2
import Derived.Shelf.Strings.Search3
import Derived.Shelf.Strings.Cut
import Derived.Shelf.Strings.Count
import Derived.Shelf.Strings.Shaped
import Derived.Shelf.Strings.Prefix
import Derived.Shelf.Strings.Split
import Derived.Shelf.Strings.SplitShaped
import Derived.Shelf.Unicode.Decode
import Derived.Shelf.Strings.Runes
import Derived.Shelf.Strings.RuneCount
import Derived.Shelf.Strings.AsciiSet
import Derived.Shelf.Strings.Explode
import Derived.Shelf.Bits.Mul64
import Derived.Shelf.Strings.Repeat
import Derived.Shelf.Unicode.DecodeSlow
import Derived.Shelf.Unicode.DecodeAny
import Derived.Shelf.Unicode.DecodeLast
import Derived.Shelf.Strings.BuilderCap
import Derived.Shelf.Slices.Turned
import Derived.Ground.SlgnProg
import Derived.Shelf.SlicesG.Turned
import Derived.Shelf.SlicesG.Clone
import Derived.Shelf.SlicesE.Clone
import Derived.Ground.SlgfProg
import Derived.Shelf.SlicesE.IndexFunc
set_option linter.unusedVariables false
set_option linter.unusedSimpArgs false
set_option linter.defProp false
open Array renaming getD_eq_getD_getElem?->iI,getElem?_eq_getElem->tZ,getElem?_eq_none->iW,getElem?_eq_some_iff->kL,getElem?_modify->oC,getElem?_toList->eF,replicate->jK,setIfInBounds_comm->uX,size_append->rS
open Bool renaming and_eq_true->aV,eq_false_iff->cG,false_eq_true->fU,or_eq_true->Hb
open ByteArray renaming data->bO,empty->aC,size_extract->nA,toList->aB
open Classical renaming byContradiction->jA
open Go.Act renaming put_comm->Gr,put_defers->YK
open Go.Addr renaming add_lit->gB
open Go.Am.AT renaming own->qV,v->nM
open Go.Am.iD renaming append->dY
open Go.Am.gK renaming get->pD
open Go.Am.cQ renaming of_below->iO,refl->dD
open Go.Am.TI renaming slice->pQ,struct->tM
open Go.Am.Ty renaming agg->iB,cons->lX,flat->PI,size->kS,unit->Kp
open Go.Builtin renaming copy_->j7,firstCells->eA,lenOf->rG,zeroCells->gT
open Go.DataW renaming Trod->aJY,TrodAll->E4,trod->Gu
open Go.Ending renaming returned->Hg
open Go.Instr renaming loadAt->tL,sureAddr->n5
open Go.Lib renaming TabIs->FI,countB->hY,cut->lF,index->FQ,itoa->Cd,join->tA,join_cons->o7,pow10Tab->BS,repeatL->wN,splitB->Cf,splitK->N3
open Go.Op renaming bytesLess->bK
open Go.Oper renaming apart_spec->Tb,asks->aNR,quietAt->oK,quietUpon->s6,upon->Ko,upon_value->Hi,wp->rT,wp_of_quiet->Rp
open Go.Proofs.Tryz renaming func12->TJ,func13->TH,func23->KA,func235->aC7,func237->aCN,func323->aC8,func324->PR,func325->PT,func326->PS,func327->aCO,func328->Pc,func334->aCB,func336->aC0,func392->PU,func393->aCP,func399->aCC,func400->aCD,func401->aCE,func402->aCF,func403->aC1,func431->aCQ,func444->aCG,func445->aC9,func446->aCH,func447->aCI,func448->aCJ,func449->aC2,func467->aCK,func468->aCL,func80->TG,isAgg0->wO,isAgg154->Yy,isAgg2->aGX,isAgg20->Gy,isAgg21->PW,isAgg25->aC3,isAgg279->Yz,isAgg3->oN,isAgg325->uY,isAgg328->Lg,isAgg371->ZA,isAgg373->ZB,isAgg374->ZC,isAgg375->AE,isAgg376->Li,isAgg383->ZD,isAgg386->ZE,isAgg4->qB,isAgg411->ZF,isAgg412->ZG,isAgg432->ZH,isAgg433->ZI,isAgg5->qA,isAgg51->PM,isAgg52->BV,isAgg54->PN,isAgg58->PO,isAgg59->aC4,isAgg75->Gx,isAgg9->oO,ntmps23->aCy,prog->aL,sizeOf0->tN,sizeOf154->YQ,sizeOf2->aCM,sizeOf20->E7,sizeOf21->Le,sizeOf25->Yw,sizeOf279->YR,sizeOf3->nB,sizeOf325->tC,sizeOf328->KB,sizeOf371->YS,sizeOf373->YT,sizeOf374->YU,sizeOf375->x8,sizeOf376->KC,sizeOf383->YV,sizeOf386->YW,sizeOf4->oR,sizeOf411->YX,sizeOf412->YY,sizeOf432->YZ,sizeOf433->Y0,sizeOf5->oQ,sizeOf51->Lb,sizeOf52->AD,sizeOf54->Lc,sizeOf58->Ld,sizeOf59->Yx,sizeOf75->E6,sizeOf9->nC,underlying0->nN,underlying154->qW,underlying2->Rv,underlying20->x6,underlying21->Da,underlying25->oS,underlying279->N5,underlying3->eZ,underlying325->n9,underlying328->vY,underlying371->N6,underlying373->N7,underlying374->N8,underlying375->qX,underlying376->Cj,underlying383->N9,underlying386->Na,underlying4->iZ,underlying411->Cg,underlying412->Nb,underlying432->Nc,underlying433->Nd,underlying5->jV,underlying51->lZ,underlying52->oP,underlying54->D7,underlying58->rV,underlying59->PP,underlying75->xZ,underlying9->fZ,zeroValue0->oG,zeroValue154->PQ,zeroValue2->Tc,zeroValue20->zZ,zeroValue21->FW,zeroValue25->Rt,zeroValue279->PX,zeroValue3->jM,zeroValue325->oT,zeroValue328->Db,zeroValue373->PY,zeroValue374->PZ,zeroValue375->rW,zeroValue376->Dc,zeroValue383->P0,zeroValue386->P2,zeroValue4->kP,zeroValue411->P7,zeroValue432->Pa,zeroValue433->Pb,zeroValue5->kO,zeroValue51->FT,zeroValue52->tO,zeroValue54->FU,zeroValue58->FV,zeroValue59->Ru,zeroValue75->zY,zeroValue9->jN
open Go.Region renaming binds->fV,free->AX,free_spec->Rq,noSelect->Au,noSelect_spec->AY,ready->gL,wanted->fI
open Go.Result renaming andThen->Cb,andThen_ok->bL
open Go.Sem renaming run_bind->c8,run_pure->dW
open Go.Value renaming cells->wK,int->FH,okWide->oL,string->hJ
open Go.World renaming cell?->gW,freeze->PK,setCell->uW,setCells->YP,shape?->BU
open List renaming append_assoc->bZ,append_nil->cK,cons_append->zX,drop_drop->pP,drop_eq_nil_iff->AZ,drop_length->FR,flatten_cons->gF,flatten_nil->FN,foldl_cons->fR,getD_eq_getElem?_getD->bC,getElem?_append_left->b7,getElem?_append_right->cO,getElem?_eq_some_iff->dQ,getElem?_map->jH,getElem?_of_mem->iM,isPrefixOf->Hf,length_cons->cL,length_drop->gQ,length_take->bW,mapM_cons->YO,map_cons->dG,mem_append->cY,mem_cons->aW,mem_cons_of_mem->aM,mem_cons_self->aR,mem_flatten->kX,mem_map->dK,mem_of_mem_drop->iN,mem_of_mem_take->gY,mem_singleton->dU,nil_append->dL,nodup_cons->jJ,nodup_nil->lM,replicate->aQ,take_append_drop->fH,take_length->jT
open Nat renaming add_mul->gE,add_sub_cancel_left->lV,beq->cC,ble->pE,blt->aCv,eq_of_beq_eq_true->bF,eq_of_testBit_eq->Jx,land->Jw,le_of_ble_eq_true->oB,le_refl->aT,lt_or_ge->kJ,min->Gw,min_eq_left->Hh,one_mul->D3,one_ne_zero->Ta,shiftLeft->E3,shiftRight->s8,succ_mul->xX,testBit_or->YL,testBit_shiftRight->Gt,zero_add->bX
open Ne renaming symm->kT
open Prod renaming fst->dB,snd->sZ
open UInt8 renaming toNat_inj->jL
namespace Go.Am
def qF:(t:Ty)->t.den->Γ Value
 | .int k,n=>[.int k n]
 | .bool,b=>[.bool b]
 | .fn,f=>[fnV f]
 | .str,s=>[.string s]
 | .sl _,_=>[]
 | .unit,_=>[]
 | .cons a b,x=>qF a x.1++qF b x.2
theorem Fe{w:World}:∀ {t:Ty} {x:t.den} {cs:Γ Value} {bs:Γ Nat},t.flat=true->iA w t x cs bs->cs=qF t x
 | .int _,_,_,_,_,h=>h.1
 | .bool,_,_,_,_,h=>h.1
 | .fn,_,_,_,_,h=>h.1
 | .str,_,_,_,_,h=>h.1
 | .unit,_,_,_,_,h=>h.1
 | .cons _ _,_,_,_,hf,⟨c1,c2,b1,b2,h,_,h1,h2⟩=>by
  simp[PI]at hf;rw[h,Fe hf.1 h1,Fe hf.2 h2];rfl
def aKn:Γ aS->Option (Γ (dE×Value))
 | []=>some []
 | d::r=>match d.t.flat,aKn r with
  | true,some s=>some ((j8 d.t d.x,hZ d.t (qF d.t d.x))::s)
  | _,_=>none
def Za(ext:A7)(L:bM)(f:FuncId)(ps:Γ PV):Option (Γ Prop×PV) :=
 match ext with
 | []=>none
 | (g,S)::r=>match cC f g with
  | true=>match wW L S.sig ps with
   | some (x,os,us)=>match os.flatten,aAQ S.kds,aKn (S.res x)with
    | [],true,some vs=>some ([S.pre x],aE6 (vs.map dB))
    | _,_,_=>Za r L f ps
   | none=>Za r L f ps
  | false=>Za r L f ps
def OB(E:gK)(f:Operand)(args:Γ Operand):Option (FuncId×Γ PV) :=
 match opnd E f with
 | .fn g caps=>some (g,args.map (opnd E)++caps.map PV.a)
 | .a (.val v)=>match aLJ v with
  | some (some g)=>some (g,args.map (opnd E))
  | _=>none
 | _=>none
def opQ(tab:Γ TI)(ext:A7)(wr:Bool)(E:gK)(L:bM):Op->Option (Γ Prop×PV)
 | .call { callee := .value f,args,argTypes }=>match OB E f args.toList with
  | some (g,ps)=>Za ext L g ps
  | none=>none
 | .convert s d x=>match aX2 tab L s d (opnd E x)with
  | some r=>some ([],.a (.val (.string r)))
  | none=>aLO tab wr E L (.convert s d x)
 | op=>aLO tab wr E L op
def opM(tab:Γ TI)(ext:A7)(wr:Bool)(E:gK)(L:bM):Op->Option (Γ Prop×PV×gK×bM)
 | .box T x=>match aS8 tab wr T (opnd E x)with
  | some A=>some ([],.a (Uc L.length A),E,L++[some A])
  | none=>none
 | .alloc T=>match aAV tab T with
  | some A=>some ([],.a (Uc L.length A),E,L++[some A])
  | none=>none
 | .buildSlice T n parts=>match KZ tab T n (parts.toList.map λp=>(p.1,opnd E p.2))with
  | some A=>some ([],.a (.osl L.length none),E,L++[some A])
  | none=>none
 | .makeSlice T l c=>match aKl tab T (opnd E l) (opnd E c)with
  | some (cs,A)=>some (cs,.a (.osl L.length none),E,L++[some A])
  | none=>none
 | .store T x y=>match aHZ tab L T (opnd E x) (opnd E y)with
  | some L'=>some ([],.a .junk,E,L')
  | none=>none
 | .call { callee := .value f,args,argTypes }=>match OB E f args.toList with
  | some (g,ps)=>Z3 ext E L g ps
  | none=>none
 | .call { callee := .builtin .append,args,argTypes }=>match args.toList,argTypes.toList with
  | [s,x],[T,T2]=>aX4 tab E L T T2 (opnd E s) (opnd E x)
  | _,_=>none
 | .convert s d x=>match aSA tab s d (opnd E x)with
  | some A=>some ([],.a (.osl L.length none),E,L++[some A])
  | none=>match opQ tab ext wr E L (.convert s d x)with
   | some (cs,pv)=>some (cs,pv,E,L)
   | none=>none
 | op=>match opQ tab ext wr E L op with
  | some (cs,pv)=>some (cs,pv,E,L)
  | none=>none
section
variable {P:Program} {n:Nat} {K:gU} {G:Nat->Prop} {w0 w:World} {a:Act} {E:gK} {L:bM} {V:Nat->Value} {own:Nat->Γ Nat}
theorem aAW{g:FuncId}(h:Bj P g)(args:Array Value)(w:World):(callFunc g args).run P w = .ok (.enter g args) w:=by
 obtain⟨fn,h1,h2,h3⟩:=h;unfold callFunc;simp only[c8,run_program,bL,h1,h2,h3,fU,if_false,dW]
theorem Ue{g:FuncId}(h:Bj P g){ρ:Operand->Value}{o:Oper}{f:Operand}{args:Array Operand}{ts:Array TypeId}(ho:o.op = .call { callee := .value f,args,argTypes:=ts }){vs:Γ Value}(hf:ρ f = .func (.func g) #[] vs.toArray)(w:World) :
  (execOp ρ o).run P w = .ok (.enter g ((args.toList.map ρ)++vs).toArray) w:=by
 simp[execOp,ho,resolve,hf,Deferred.ofValue,invoke];rw[aAW h];simp
theorem Ff(hR:bQ n K w0 G w a E L V own){f:Operand}{args:Γ Operand}{g:FuncId}{ps:Γ PV}(h:OB E f args=some (g,ps)) :
  ∃vs,a.eval f = .func (.func g) #[] vs.toArray/\DB w0 G L V ps (args.map a.eval++vs):=by
 unfold OB at h;split at h
 ·rename_i g' caps hf;cases h;have hx:=hR.opnd f;rw[hf]at hx;obtain⟨vs,hv,hr⟩:=hx;exact⟨vs,hv,Nt (hR.opnds args) (SJ hr)⟩
 ·rename_i v hf;split at h
  ·rename_i g' hu;cases h;have hx:=hR.valEq hf;refine⟨[],by rw[hx.1,aAL hu];rfl,?_⟩;rw[cK];exact hR.opnds args
  lia
 lia
theorem Uf{Gc F:Nat->Prop}:∀ {ks:Γ RK} {ds:Γ aS} {vs:Γ (dE×Value)} {rs:Γ Value} {rbs:Γ (Γ Nat)} {w:World},aAQ ks=true->aKn ds=some vs->Y8 w Gc F ks ds rs rbs->rs=vs.map sZ/\tV w0 G L V (vs.map dB) rs
 | ks,[],vs,rs,rbs,w,hk,h,hr=>by
  have hr':rs=[]:=by cases ks <;> exact hr.1
  cases h;exact⟨hr',hr'⟩
 | ks,d::r,vs,rs,rbs,w,hk,h,hr=>by
  have hr':∃v s b bs,rs=v::s/\rbs=b::bs/\UH w Gc F (RK.hd ks) d v b/\Y8 w Gc F ks.tail r s bs:=by cases ks <;> exact hr
  obtain⟨v,s,b,bs,h1,h2,h34,h5⟩:=hr';have hk1:RK.hd ks = .own:=by
   cases ks with
   | nil=>rfl
   | cons k ks=>cases k <;> first | rfl | cases hk
  have hk2:aAQ ks.tail=true:=by
   cases ks with
   | nil=>rfl
   | cons k ks=>cases k <;> first | exact hk | cases hk
  rw[hk1]at h34;obtain⟨cs,h3,h4⟩:=h34;simp[aKn]at h;split at h
  ·rename_i s' hf hs;cases h;obtain⟨e1,e2⟩:=Uf hk2 hs h5;subst h1;have hc:=Fe hf h3;have hv:v=hZ d.t (qF d.t d.x):=by
    rw[<- hc];obtain⟨t,x⟩:=d;cases t <;> simp at h4 <;> subst h4 <;> rfl
   obtain⟨ha,_⟩:=U4 (w0:=w0) (L:=L) (V:=V) hf h3 h4 G;exact⟨by grind,⟨v,s,rfl,ha,e2⟩⟩
  lia
theorem Ep{own:Nat->Γ Nat}{os:Γ (Γ Nat)}(h:os.flatten=[]):(Az own os).flatten=[]:=by
 grind [uN]
theorem Fg:∀ {ext:A7} (hX:q8 P ext) (hR:bQ n K w0 G w a E L V own) {f:FuncId} {ps:Γ PV} {vs:Γ Value} {cs:Γ Prop} {pv:PV}
  (hps:DB w0 G L V ps vs) (h:Za ext L f ps=some (cs,pv)) (hc:iD cs),
  Bj P f/\∃v,mS w0 G L V pv v/\∀w',cQ [] w w'->Calls P f vs.toArray w' λe w''=>e = .returned v/\cQ [] w' w''
 | [],_,_,_,_,_,_,_,_,h,_=>by cases h
 | (g,S)::r,hX,hR,f,ps,vs,cs,pv,hps,h,hc=>by
  obtain⟨⟨hcall,hcon⟩,hX'⟩:=hX;simp[Za]at h;split at h
  ·rename_i hfg;obtain rfl:=bF hfg;split at h
   ·rename_i x os us hd;split at h
    ·rename_i vals hos hok hsc;cases h;obtain⟨l1,_⟩:=wX hR hps hd;have hall:∀w',cQ [] w w'->Calls P f vs.toArray w' λe w''=>e = .returned (IA (vals.map sZ))/\cQ [] w' w''/\tV w0 G L V (vals.map dB) (vals.map sZ):=by
      intro w' k;have hargs:=DC (q:=uB L S.sig ps) hR k (G':=SK G own us) (λb hb => .inl hb) hps hd (λh=>h) (λr hr b hb => .inr ⟨r,hr,hb⟩);refine(hcon w' (SK G own us) (SmG K G (uB L S.sig ps)) x _ _ (hR.gok k (by grind [Ep])) (λb hb=>?_) (λb hb => .inl ?_) hc.1 hargs (by grind [Ep])).mono ?_
      ·rw[Ep hos];refine⟨Nat.lt_of_lt_of_le ?_ k.size,by simp⟩;rcases hb with hb | ⟨r,hr,hb⟩
       ·exact hR.glt b hb
       ·obtain⟨A,hA⟩:=l1 r hr;exact hR.own_lt hA b hb
      ·unfold SmG at hb;split at hb
       ·exact hR.gsub b hb
       lia
      ·rintro e w'' ⟨rs,ubs,rbs,F,rfl,hk,hrr,_⟩;obtain⟨rfl,ho⟩:=Uf (w0:=w0) (G:=G) (L:=L) (V:=V) hok hsc hrr;rw[Ep hos]at hk
       lia
     obtain⟨_,_,_,⟨_,_,hokk⟩,_⟩:=hall w (dD _ _) [];exact⟨hcall,IA (vals.map sZ),QC hokk,λw' k=>(hall w' k).mono λe w'' hh=>⟨hh.1,hh.2.1⟩⟩
    ·exact Fg hX' hR hps h hc
   ·exact Fg hX' hR hps h hc
  ·exact Fg hX' hR hps h hc
theorem Ye(xs:Γ Int):(nR xs).size=xs.length:=by
 have key:∀(xs:Γ Int) (s:Δ),(xs.foldl (λr n=>r.push (UInt8.ofNat n.toNat)) s).size=s.size+xs.length:=by
  intro xs
  induction xs with
  | nil=>simp
  | cons x r ih=>simp[ih];omega
 simpa [nR] using key xs aC
def aOx{tab:Γ TI}(hT:kZ P tab)(hR:bQ n K w0 G w a E L V own){s d:TypeId}{x:Operand}{r:Δ}(h:aX2 tab L s d (opnd E x)=some r) :
  Nk (.string r)/\∀w',cQ [] w w'->(convert s d (a.eval x)).run P w' = .ok (.string r) w':=by
 unfold aX2 at h;split at h
 ·rename_i A hA;split at h
  ·rename_i e b xs hs hd hdec;cases h;have hS:=hT s;rw[hs]at hS;have hD:=hT d;rw[hd]at hD;have hrep:=λw' k=>UX hR (w':=w') k (G':=λ_=>True) (λ_ _=>trivial) (hR.atom hA) hdec (λ_ _ _ _=>trivial);have hlen:=(hrep w (dD _ _)).1;refine⟨?_,λw' k=>?_⟩
   ·show (nR xs).size<=maxLen
    grind [Ye]
   ·have hr:=hrep w' k;rcases hr.2 with ⟨ad,e1,e2⟩ | ⟨b',off,cap,e1,e2,e3,e4,e5⟩
    ·have:xs=[]:=e2;subst this;rw[e1,run_convert_bytes_string w' s d e ad 0 0 hS.2.1 hS.2.2.1.int_und hD.str_und];cases ad with
     | none=>rfl
     | some ad =>
      rfl
    ·rw[e1,run_convert_bytes_string w' s d e _ _ _ hS.2.1 hS.2.2.1.int_und hD.str_und];refine run_bytesToString w' _ _ _ xs ?_;have:=run_loadCells_list (P:=P) w' ⟨b',off,none⟩ (xs.map (FH .u8)) (λj v hj=>by
      rw[jH]at hj;cases hx:xs[j]? with
      | none=>grind
      | some y =>
       obtain⟨cs,g1,g2,g3⟩:=e5 j y hx;obtain⟨g3,_⟩:=g3;subst g3;have:=g2 0 _ rfl
       grind [gB])
     grind
  lia
 lia
def aEF{tab:Γ TI}{ext:A7}(hT:kZ P tab)(hX:q8 P ext)(hR:bQ n K w0 G w a E L V own){wr:Bool}{o:Oper}{cs:Γ Prop}{pv:PV}
  (h:opQ tab ext wr E L o.op=some (cs,pv)) (hc:iD cs) :
  ∃v,mS w0 G L V pv v/\∀w',cQ [] w w'->o.quietAt P a (cQ [] w') w' v:=by
 have plain:∀ {op:Op} (ho:o.op=op),aLO tab wr E L op=some (cs,pv)->∃v,mS w0 G L V pv v/\∀w',cQ [] w w'->o.quietAt P a (cQ [] w') w' v:=by
  intro op ho h;rw[<- ho]at h;obtain⟨v,hv,hr⟩:=ZV hT hR h hc;refine⟨v,hv,λw' k=>?_⟩;unfold oK;rw[hr w' (λ_=>k)];exact⟨rfl,rfl⟩
 unfold opQ at h;split at h
 ·rename_i f args ts ho;split at h
  ·rename_i g ps hg;obtain⟨vs,hv,hps⟩:=Ff hR hg;obtain⟨hcall,v,hrep,hcalls⟩:=Fg hX hR hps h hc;refine⟨v,hrep,λw' k=>?_⟩;unfold oK;rw[Ue hcall ho hv];exact⟨rfl,hcalls w' k⟩
  lia
 ·rename_i s d x ho;split at h
  ·rename_i r hr;cases h;obtain⟨h1,h2⟩:=aOx hT hR hr;refine⟨_,⟨rfl,h1⟩,λw' k=>?_⟩;unfold oK;simp only[execOp,ho];rw[gZ _ _ _ _ (h2 w' k)];exact⟨rfl,rfl⟩
  grind
 grind
def aEG{tab:Γ TI}(hT:kZ P tab)(hR:bQ n K w0 G w a E L V own){s d:TypeId}{x:Operand}{A:iJ}(h:aSA tab s d (opnd E x)=some A) :
  ∃v w' V' own',(convert s d (a.eval x)).run P w = .ok v w'/\aE8 n K w0 G w w' a E L (L++[some A]) V V' own own'/\mS w0 G (L++[some A]) V' (.a (.osl L.length none)) v:=by
 unfold aSA at h;split at h
 ·rename_i b hx;split at h
  ·rename_i e by' hs hd
   cases h;obtain⟨e1,e2⟩:=hR.valEq hx;have hS:=hT s;rw[hs]at hS;have hD:=hT d;rw[hd]at hD;have hcapg:=grownCap_ge w b.size 0 e;have hcapm:=grownCap_le_maxLen w b.size 0 e e2;have hrow:∀(l:Γ UInt8) (w1:World) (bor:Bool),yZ (pH w0 G w1 (.int .u8) bor) (Ty.int IntKind.u8).size (l.map λb=>(b.toNat:Int)) (l.map λb=>[.int .u8 (b.toNat:Int)]) (l.map λ_=>[]):=by
    intro l w1 bor
    induction l with
    | nil=>exact⟨rfl,rfl⟩
    | cons b l ih =>
     refine⟨_,_,_,_,rfl,rfl,rfl,?_,ih⟩;refine aED (w:=w1) (G:=λ_=>True) (t := .int .u8) (x:=(b.toNat:Int)) (cs:=[.int .u8 (b.toNat:Int)]) ⟨rfl,?_⟩ rfl bor _ _;have hb:=b.toNat_lt
     grind [bA,IntKind.min,IntKind.max,IntKind.bits,IntKind.signed]
   let cells:Array Value:=(b.data.map λx => .int .u8 x.toNat)++jK (grownCap w b.size 0 e-b.size) (.int .u8 0)
   have hcs:cells.size=grownCap w b.size 0 e:=by
    simp only[cells,rS,Array.size_map,Array.size_replicate];simp_all
   let w2:World:=(w.drew.alloc (.cells cells e)).freeze ⟨w.heap.size,cells.size,none⟩ 1
   have hk:cQ [] w w2:=by
    refine⟨rfl,rfl,rfl,by simp[w2,PK],λk hk _=>?_⟩;have h1:(w.drew.alloc (.cells cells e)).heap[k]? = w.heap[k]? := Go.RowKit.Below.heap_alloc w.drew _ k hk;simp only[w2,PK,Ta,if_false,oC]
    lia
   have hb2:w2.heap[w.heap.size]? = some (.cells cells e (cells.size,cells.size+1)):=by
    have h1:=Eo w.drew (.cells cells e);have hsz:w.drew.heap.size=w.heap.size:=rfl;rw[hsz]at h1;simp only[w2,PK,Ta,if_false,oC,π,h1];rfl
   have hent:=tD (hrow b.data.toList w2 false) (b:=w.heap.size) (off:=0) (cap:=grownCap w b.size 0 e) (cur:=cells) (ty:=e) (fz:=(cells.size,cells.size+1)) (by grind) (by grind) hcapm (by rw[hcs,bX,show (Ty.int IntKind.u8).size=1 from rfl,Nat.mul_one];lia) hb2 ⟨aSC _,.inl rfl⟩ (λj c hj=>by
    have hfl:∀l:Γ UInt8,(l.map λb=>[FH .u8 (b.toNat:Int)]).flatten=l.map λb=>FH .u8 (b.toNat:Int):=by
     intro l
     induction l with
     | nil=>rfl
     | cons x l ih=>grind
    grind)
   have hnil:((b.data.toList.map λ_=>([]:Γ Nat))).flatten=[]:=by simp
   rw[hnil]at hent;have hent':iS w0 G w2 ⟨.int .u8,b9 b,false,none,none⟩ (.slice (some ⟨w.heap.size,0,none⟩) (b9 b).length (grownCap w b.size 0 e)) [w.heap.size]:=hent;refine⟨_,_,_,_,?_,hR.freshN hk hent' (by simp) (by simp),uM (w0:=w0) (G:=G) (u:=w0) (G':=G) hent'⟩;have hlen:(b9 b).length=b.size:=by simp[b9]
   rw[e1,hlen];have hsz:w.drew.heap.size=w.heap.size:=rfl;have hsh:(w.drew.alloc (.cells cells e)).shape? w.heap.size=some (e,cells.size):=by
    grind [Eo,BU]
   have hgc:(Question.appendCap b.size 0 e).cut (w.tape w.drawn (.appendCap b.size 0 e))=grownCap w b.size 0 e:=rfl;unfold convert;simp only[c8,run_underlying hS.str_und,run_underlying hD.2.1,bL,run_underlying hD.2.2.1.int_und];unfold Conv.stringToBytes;simp;show ((markStringish ⟨w.drew.heap.size,0,none⟩).run P (w.drew.alloc (.cells cells e))).andThen _=_
   grind [markStringish,c8,run_shape,bL,run_freeze]
  lia
 lia
end
def aAX(r:Nat)(A:iJ):gJ->gJ
 | .osl s rg=>match cC s r with
  | true => .sl A.t (Ay rg A.xs)
  | false => .osl s rg
 | l=>l
def SO(r:Nat)(A:iJ)(ls:Γ gJ):Γ gJ:=ls.map (aAX r A)
def BL(r:Nat)(A:iJ):dE->dE
 | .osl s rg=>match cC s r with
  | true => .sl A.t (Ay rg A.xs)
  | false => .osl s rg
 | .optr s i p=>match cC s r with
  | true=>match Np p ⟨A.t,A.xs.getD i A.t.dflt⟩ with
   | some d => .ptr d.t d.x
   | none => .junk
  | false => .optr s i p
 | .rcd t ls=>match t.agg,u9 t (SO r A ls)with
  | true,some x => .st t x
  | _,_ => .rcd t (SO r A ls)
 | .bptr s o t=>match cC s r with
  | true => .junk
  | false => .bptr s o t
 | X=>X
def bDD(r:Nat)(A:iJ):PV->PV
 | .a X => .a (BL r A X)
 | .tup xs => .tup (xs.map (BL r A))
 | .fn f xs => .fn f (xs.map (BL r A))
def aSD(r:Nat)(A:iJ)(E:gK):gK:=E.map λq=>(q.1,bDD r A q.2)
def IR(r:Nat)(A:iJ)(B:iJ):iJ:=match B.ls with
 | some ls=>⟨B.t,B.xs,B.bor,some (SO r A ls),B.sm⟩
 | none=>B
def aAY(r:Nat)(A:iJ)(L:bM):bM:=L.map λo=>match o with | some B=>some (IR r A B) | none=>none
def aLX(r:Nat)(EL:gK×bM):gK×bM :=
 match b5 EL.2 r with
 | some A=>match A.ls with
  | none=>(aSD r A EL.1,aAY r A (jY EL.2 r none))
  | some _=>EL
 | none=>EL
def Lv:Γ Nat->gK×bM->gK×bM
 | [],EL=>EL
 | r::s,EL=>Lv s (aLX r EL)
def aV6(E:gK)(x:Operand):Γ Nat :=
 match opnd E x with
 | .a (.osl r _)=>[r]
 | .a (.rcd _ ls)=>jF ls
 | _=>[]
def aAZ(E:gK):Γ Operand->Γ Nat
 | []=>[]
 | x::r=>aV6 E x++aAZ E r
def aOy(E:gK):Op->Γ Nat
 | .build T parts=>aAZ E (parts.toList.map sZ)
 | .buildSlice T n parts=>aAZ E (parts.toList.map sZ)
 | .store T x y=>aV6 E y
 | .call { callee := .value f,args,argTypes }=>aAZ E args.toList
 | _=>[]
def aBa:dE->dE
 | .rcd t ls=>match t.agg,u9 t ls with
  | true,some x => .st t x
  | _,_ => .rcd t ls
 | X=>X
def stP:PV->PV
 | .a X => .a (aBa X)
 | p=>p
def stE(E:gK):gK:=E.map λq=>(q.1,stP q.2)
def bKQ(EL:gK×bM):gK×bM:=(stE EL.1,EL.2)
def SP(op:Op)(EL:gK×bM):gK×bM:=bKQ (Lv (aOy EL.1 op) EL)
section
variable {P:Program} {n:Nat} {K:gU} {G:Nat->Prop} {w0 w:World} {a:Act} {E:gK} {L:bM} {V:Nat->Value} {own:Nat->Γ Nat}
theorem aEH(r:Nat)(A:iJ):∀(E:gK) (i:Nat),(aSD r A E).get i=bDD r A (E.get i)
 | [],i=>rfl
 | (j,p)::s,i=>by
  simp[aSD,pD];cases h:cC j i with
  | true=>rfl
  | false=>exact aEH r A s i
theorem QD(r:Nat)(A:iJ):∀(L:bM) (s:Nat),b5 (aAY r A L) s=(b5 L s).map (IR r A)
 | [],_=>rfl
 | some B::L,0=>rfl
 | none::L,0=>rfl
 | _::L,s+1=>by exact QD r A L s
theorem aOz(r:Nat)(A B:iJ):(IR r A B).t=B.t:=by grind [IR]
theorem aSE(r:Nat)(A B:iJ):(IR r A B).sm=B.sm:=by grind [IR]
theorem aO0(r:Nat)(A B:iJ):(IR r A B).bor=B.bor:=by grind [IR]
theorem aO1(r:Nat)(A B:iJ):(IR r A B).xs.length=B.xs.length:=by grind [IR]
theorem aEI{w0 w:World}{G:Nat->Prop}{r:Nat}{A B:iJ}{v:Value}{bs:Γ Nat}:iS w0 G w (IR r A B) v bs↔iS w0 G w B v bs:=by
 unfold IR;split
 all_goals rfl
theorem aKo{r:Nat}{A B:iJ}:(∀ls,B.ls=some ls->(IR r A B).ls=some (SO r A ls))/\∀ls',(IR r A B).ls=some ls'->∃ls,B.ls=some ls/\ls'=SO r A ls:=by
 unfold IR
 grind
theorem bQ.freeze(hR:bQ n K w0 G w a E L V own){r:Nat}{A:iJ}(hA:b5 L r=some A)(hls:A.ls=none) :
  ∃w0' G',bQ n K w0' G' w a (aSD r A E) (aAY r A (jY L r none)) V own:=by
 let G':Nat->Prop:=λb=>G b\/b∈own r
 have hG:∀b,G b->G' b:=λb hb => .inl hb;have hread:oE w G' (eK w G' A.t) A.t.size A.xs (V r):=hR.lend (dD _ _) hG hA (λb hb => .inr hb);have hback:∀s B,b5 (aAY r A (jY L r none)) s=some B->s≠r/\∃C,b5 L s=some C/\B=IR r A C:=by
  intro s B hs;rw[QD]at hs;by_cases hsr:s=r
  ·grind [kC]
  ·rw[dS (kT hsr)]at hs;cases hC:b5 L s with
   | none=>grind
   | some C=>grind
 have hag:∀s,s≠r->oD L V (aAY r A (jY L r none)) V s:=λs hs=>by
  refine⟨rfl,λB hB=>⟨IR r A B,?_,aOz r A B,aO1 r A B,λls h=>⟨_,aKo.1 ls h⟩⟩⟩;rw[QD,dS (kT hs),hB];rfl
 have hsub:∀ {rg:Option (Nat×Nat)} {v:Value},Pm L V r rg v->oE w G' (eK w G' A.t) A.t.size (Ay rg A.xs) v:=by
  rintro rg v ⟨B,hB,_,hs⟩;rw[hA]at hB;cases hB;cases rg with
  | none=>exact hread.whole hs
  | some q=>exact hread.sub (nn:=0) hs
 have leaf:∀ {l:gJ} {v:Value},UG w0 G L V l v->UG w G' (aAY r A (jY L r none)) V (aAX r A l) v:=by
  intro l v h;cases l with
  | val u=>exact h
  | sl t xs=>exact oE.keep (λ_ _=>eK.keep hG hR.gref) hG hR.gref h
  | osl s rg =>
   simp only[aAX];cases hb:cC s r with
   | true =>
    obtain rfl:=bF hb;exact hsub h
   | false=>exact F4 h (hag s λe=>by simp_all)
  | junk=>exact h
 have leafs:∀ {ls:Γ gJ} {cs:Γ Value},iL w0 G L V ls cs->iL w G' (aAY r A (jY L r none)) V (SO r A ls) cs:=by
  intro ls
  induction ls with
  | nil=>intro cs h;exact h
  | cons l s ih=>rintro cs ⟨v,t,h1,h2,h3⟩;exact⟨v,t,h1,leaf h2,ih h3⟩
 have atom:∀ {X:dE} {v:Value},nQ w0 G L V X v->nQ w G' (aAY r A (jY L r none)) V (BL r A X) v:=by
  intro X v h;cases X with
  | val u=>exact h
  | sl t xs=>exact pI (A := .sl t xs) hG hR.gref h
  | ptr t x=>exact pI (A := .ptr t x) hG hR.gref h
  | st t x=>exact pI (A := .st t x) hG hR.gref h
  | junk=>exact h
  | osl s rg =>
   simp only[BL];cases hb:cC s r with
   | true =>
    obtain rfl:=bF hb;exact hsub h
   | false=>exact F4 h (hag s λe=>by simp_all)
  | optr s i p =>
   simp only[BL];cases hb:cC s r with
   | true =>
    obtain rfl:=bF hb;cases hd:Np p ⟨A.t,A.xs.getD i A.t.dflt⟩ with
    | none=>trivial
    | some d=>exact UY hR (dD _ _) (G':=G') hG (A := .optr s i p) (t:=d.t) (x:=d.x) h (by grind [aOt,aKh]) (λu hu b hb'=>by grind [IF,uL,dU])
   | false =>
    refine Bm (A := .optr s i p) (w0:=w) (G:=G') h λu hu=>?_;simp only[uL,dU]at hu;rw[hu];exact hag s λe=>by simp_all
  | rcd t ls =>
   obtain⟨cs,h1,h2,h3⟩:=h;have h4:=leafs h3;simp only[BL];split
   ·rename_i x ha hx;exact⟨cs,h1,jQ h4 hx⟩
   ·exact⟨cs,h1,by grind [SO],h4⟩
  | bptr s o t =>
   simp only[BL];cases hb:cC s r with
   | true=>trivial
   | false =>
    refine Bm (A := .bptr s o t) (w0:=w) (G:=G') h λu hu=>?_;simp only[uL,dU]at hu;rw[hu];exact hag s λe=>by simp_all
 have atoms:∀ {xs:Γ dE} {vs:Γ Value},tV w0 G L V xs vs->tV w G' (aAY r A (jY L r none)) V (xs.map (BL r A)) vs:=by
  intro xs
  induction xs with
  | nil=>intro vs h;exact h
  | cons X s ih=>rintro vs ⟨v,t,h1,h2,h3⟩;exact⟨v,t,h1,atom h2,ih h3⟩
 refine⟨w,G',hR.glob,hR.kept,hR.size,hR.defers,?_,λ_ _=>rfl,λb hb => .inl (hR.gsub b hb),hR.gold,(λb hb=>hb.elim (hR.gup b) λh => .inr (hR.good r A hA b h).1),?_,?_,?_,?_,?_,?_,λi=>?_⟩
 ·rintro b (hb | hb)
  ·exact hR.glt b hb
  ·exact hR.own_lt hA b hb
 ·intro s B hs;obtain⟨_,C,h2,rfl⟩:=hback s B hs;exact aEI.2 ((hR.heap s C h2).keepG hG hR.gref (λ_ _=>rfl))
 ·intro s B hs b hb;obtain⟨h1,C,h2,rfl⟩:=hback s B hs;obtain⟨g1,g2⟩:=hR.good s C h2 b hb;exact⟨g1,λh=>h.elim g2 (hR.apart s r C A h2 hA h1 b hb)⟩
 ·intro s B hs;obtain⟨_,C,h2,rfl⟩:=hback s B hs;exact hR.nodup s C h2
 ·intro s u B D hs hu hsu;obtain⟨_,C,h2,rfl⟩:=hback s B hs;obtain⟨_,F,h4,rfl⟩:=hback u D hu;exact hR.apart s u C F h2 h4 hsu
 ·intro s B ls hs hl;obtain⟨_,C,h2,rfl⟩:=hback s B hs;obtain⟨l0,h0,rfl⟩:=aKo.2 ls hl;obtain⟨b,off,cs,k1,k3,k4,k5,k6⟩:=hR.boxs s C l0 h2 h0;rw[aOz];exact⟨b,off,cs,k1,k3,by grind [SO],k5,leafs k6⟩
 ·intro s B q hs hq;obtain⟨_,C,h2,rfl⟩:=hback s B hs;rw[aSE]at hq;obtain⟨g1,g2⟩:=hR.small s C q h2 hq;exact⟨g1,λe=>⟨by grind [aO0],aEI.2 ((g2 e).2.keepG (λ_ h=>h) (λb hb=>hR.gref b (hR.gsub b hb)) (λ_ _=>rfl))⟩⟩
 ·rw[aEH];have hi:=hR.env i;generalize E.get i=p at hi;cases p with
  | a X=>exact atom hi
  | tup xs=>obtain⟨vs,hv,hr⟩:=hi;exact⟨vs,hv,atoms hr⟩
  | fn f xs=>obtain⟨vs,hv,hr⟩:=hi;exact⟨vs,hv,atoms hr⟩
theorem IS:∀ {rs:Γ Nat} {E:gK} {L:bM} {w0:World} {G:Nat->Prop},bQ n K w0 G w a E L V own->∃w0' G',bQ n K w0' G' w a (Lv rs (E,L)).1 (Lv rs (E,L)).2 V own
 | [],E,L,w0,G,hR=>⟨w0,G,hR⟩
 | r::s,E,L,w0,G,hR=>by
  show ∃w0' G',bQ n K w0' G' w a (Lv s (aLX r (E,L))).1 (Lv s (aLX r (E,L))).2 V own;have h1:∃w0' G',bQ n K w0' G' w a (aLX r (E,L)).1 (aLX r (E,L)).2 V own:=by
   unfold aLX;split
   ·rename_i A hA;split
    ·rename_i hls;exact hR.freeze hA hls
    grind
   grind
  obtain⟨w1,G1,h1⟩:=h1;exact IS h1
theorem Ug{A:dE}{v:Value}(h:nQ w0 G L V A v):nQ w0 G L V (aBa A) v:=by
 cases A with
 | rcd t ls =>
  simp[aBa];split
  ·rename_i x ha hx;obtain⟨cs,h1,h2,h3⟩:=h;exact⟨cs,h1,jQ h3 hx⟩
  lia
 | _=>exact h
theorem aKp:∀(E:gK) (i:Nat),(stE E).get i=stP (E.get i)
 | [],i=>rfl
 | (j,p)::s,i=>by
  simp[stE,pD];cases h:cC j i with
  | true=>rfl
  | false=>exact aKp s i
theorem bQ.stE(hR:bQ n K w0 G w a E L V own):bQ n K w0 G w a (Am.stE E) L V own :=
 ⟨hR.glob,hR.kept,hR.size,hR.defers,hR.glt,hR.gref,hR.gsub,hR.gold,hR.gup,hR.heap,hR.good,hR.nodup,hR.apart,hR.boxs,hR.small,λi=>by
  rw[aKp];have hi:=hR.env i;generalize E.get i=p at hi;cases p with
  | a X=>exact Ug hi
  | tup xs=>exact hi
  | fn f xs=>exact hi⟩
theorem Uh(hR:bQ n K w0 G w a E L V own)(op:Op):∃w0' G',bQ n K w0' G' w a (SP op (E,L)).1 (SP op (E,L)).2 V own:=by
 obtain⟨w1,G1,h⟩:=IS (rs:=aOy E op) hR;exact⟨w1,G1,h.stE⟩
end
section
variable {P:Program} {n:Nat} {K:gU} {G:Nat->Prop} {w0 w:World} {a:Act} {E:gK} {L:bM} {V:Nat->Value} {own:Nat->Γ Nat}
variable {o:Oper} {Q:Exit->Act->World->Prop}
theorem kN{next:Act->World->Prop}{v:Value}{w w':World}(h:(execOp a.eval o).run P w = .ok (.value v) w')(hn:next (a.put o.dst v) w'):o.wp P a w next Q:=by
 unfold rT;rw[h];exact hn
def Yf(hR:bQ n K w0 G w a E L V own){next:Act->World->Prop}{v:Value}(h:o.quietAt P a (cQ [] w) w v)
  (hn:∀w',bQ n K w0 G w' a E L V own->next (a.put o.dst v) w'):o.wp P a w next Q:=by
 unfold oK at h;unfold rT;generalize (execOp a.eval o).run P w=r at *;cases r with
 | ok nx w' =>
  cases nx <;> simp[s6]at h <;> simp[Ko]
  case value u=>grind
  case skip=>grind
  case enter f args =>
   obtain⟨rfl,hc⟩:=h;refine hc.mono ?_;rintro e w'' ⟨rfl,hk⟩;exact hn _ (hR.ext hk)
 | halt x w'=>grind [s6]
theorem aEJ{tab:Γ TI}{ext:A7}(hT:kZ P tab)(hX:q8 P ext)(hR:bQ n K w0 G w a E L V own){wr:Bool}{cs:Γ Prop}{pv:PV}{E':gK}{L':bM}
  (h:opM tab ext wr E L o.op=some (cs,pv,E',L')) (hc:iD cs) {next:Act->World->Prop} {Q:Exit->Act->World->Prop}
  (hn:∀v w0' G' w' V' own',bQ n K w0' G' w' a E' L' V' own'->mS w0' G' L' V' pv v->next (a.put o.dst v) w'):o.wp P a w next Q:=by
 have quiet:∀ {op:Op} (ho:o.op=op) {r:Option (Γ Prop×PV×gK×bM)},(match opQ tab ext wr E L op with | some (cs,pv)=>some (cs,pv,E,L) | none=>none)=some (cs,pv,E',L')->o.wp P a w next Q:=by
  intro op ho r h;split at h
  ·rename_i cs1 pv1 hq;cases h;rw[<- ho]at hq;obtain⟨v,hv,hqa⟩:=aEF hT hX hR hq hc;exact Yf hR (hqa w (dD _ _)) λw' hR'=>hn v w0 G w' V own hR' hv
  lia
 unfold opM at h;split at h
 ·rename_i T x ho;split at h
  ·rename_i A hA;cases h;obtain⟨v,w',V',own',h1,h2,h3⟩:=aEA hT hR hA;exact kN (w':=w') (by grind [execOp,gZ]) (hn _ _ _ _ _ _ h2.1 h3)
  lia
 ·rename_i T ho;split at h
  ·rename_i A hA;cases h;obtain⟨v,w',V',own',h1,h2,h3⟩:=Ud hT hR hA;exact kN (w':=w') (by grind [execOp,gZ]) (hn _ _ _ _ _ _ h2.1 h3)
  lia
 ·rename_i T k parts ho;split at h
  ·rename_i A hA;cases h;obtain⟨v,w',V',own',h1,h2,h3⟩:=LH hT hR hA;exact kN (w':=w') (by grind [execOp,gZ]) (hn _ _ _ _ _ _ h2.1 h3)
  lia
 ·rename_i T l c ho;split at h
  ·rename_i cs1 A hA;cases h;obtain⟨v,w',V',own',h1,h2,h3⟩:=Z8 hT hR hA hc;exact kN (w':=w') (by grind [execOp,gZ]) (hn _ _ _ _ _ _ h2.1 h3)
  lia
 ·rename_i T x y ho;split at h
  ·rename_i L1 hL;cases h;obtain⟨w',h1,h2,_⟩:=aIa hT hR hL;unfold rT;have:(execOp a.eval o).run P w = .ok .skip w':=by simp[execOp,ho,h1]
   rw[this];exact hn _ _ _ _ _ _ h2 trivial
  lia
 ·rename_i f args ts ho;split at h
  ·rename_i g ps hg;obtain⟨vs,hv,hps⟩:=Ff hR hg;obtain⟨hcall,hcalls⟩:=F8 hX hR hps h hc;unfold rT;rw[Ue hcall ho hv];refine hcalls.mono ?_
   grind
  lia
 ·rename_i args ts ho;split at h
  ·rename_i s x T T2 hargs hts;obtain⟨v,w',V',own',h1,h2,h3⟩:=aEE (ty:=o.type) hT hR h hc;refine kN (w':=w') ?_ (hn _ _ _ _ _ _ h2 h3);have ea:args = #[s,x]:=by grind
   have et:ts = #[T,T2]:=by grind
   subst ea et;simp only[execOp,ho,resolve,c8,dW,bL,invoke]
   grind [builtin,gZ]
  lia
 ·rename_i s d x ho;split at h
  ·rename_i A hA;cases h;obtain⟨v,w',V',own',h1,h2,h3⟩:=aEG hT hR hA;exact kN (w':=w') (by grind [execOp,gZ]) (hn _ _ _ _ _ _ h2.1 h3)
  ·exact quiet (r:=none) ho h
 ·exact quiet (r:=none) rfl h
def aLY{tab:Γ TI}{ext:A7}(hT:kZ P tab)(hX:q8 P ext)(hR:bQ n K w0 G w a E L V own){wr:Bool}{cs:Γ Prop}{pv:PV}{E':gK}{L':bM}
  (h:(match opM tab ext wr E L o.op with | some r=>some r | none=>opM tab ext wr (SP o.op (E,L)).1 (SP o.op (E,L)).2 o.op)=some (cs,pv,E',L')) (hc:iD cs) {next:Act->World->Prop} {Q:Exit->Act->World->Prop}
  (hn:∀v w0' G' w' V' own',bQ n K w0' G' w' a E' L' V' own'->mS w0' G' L' V' pv v->next (a.put o.dst v) w'):o.wp P a w next Q:=by
 split at h
 ·grind [aEJ]
 ·obtain⟨w1,G1,h1⟩:=Uh hR o.op
  grind [aEJ]
end
structure St where
 path:Γ Bool
 dec:Γ (Nat×Bool)
 E:gK
 L:bM
 cs:Γ Prop
 pins:Γ Nat
def TU:Γ Oper->Nat->Option Oper
 | [],_=>none
 | o::_,0=>some o
 | _::r,n+1=>TU r n
def IT:Γ (Nat×Bool)->Nat->Option Bool
 | [],_=>none
 | (t,d)::r,n=>match cC t n with | true=>some d | false=>IT r n
def Ui(t:Nat):Γ (Nat×Bool)->Γ (Nat×Bool)
 | []=>[]
 | (s,d)::r=>match cC s t with | true=>Ui t r | false=>(s,d)::Ui t r
def bKR:Bool->Bool->Bool
 | true,b=>b
 | false,b => !b
def BM(S:St)(t:Nat):Option (Bool×St) :=
 match IT S.dec t with
 | some d=>some (d,S)
 | none=>match S.E.get t,S.path with
  | .a (.val (.bool b)),d::p=>some (d,⟨p,(t,d)::S.dec,S.E,S.L,S.cs++[b=d],S.pins⟩)
  | _,_=>none
def IU(all:Γ Oper)(S:St):Option (Nat×Bool)->Option (Bool×St)
 | none=>some (true,S)
 | some (j,want)=>match TU all j with
  | some o=>match o.dst with
   | some t=>match S.E.get t with
    | .a (.val (.tuple _))=>some (false,S)
    | _=>match BM S t with
     | some (d,S')=>some (bKR d want,S')
     | none=>none
   | none=>none
  | none=>none
def TV(n:Nat)(S:St)(E:gK)(L:bM)(cs:Γ Prop):Option Nat->PV->Option St
 | none,_=>some ⟨S.path,S.dec,E,L,S.cs++cs,S.pins⟩
 | some d,pv=>match aCv d n && !yW d S.pins with
  | true=>some ⟨S.path,Ui d S.dec,E.set d pv,L,S.cs++cs,S.pins⟩
  | false=>none
def yI(tab:Γ TI)(ext:A7)(wr:Bool)(n:Nat)(quiet:Bool)(all:Γ Oper)(S:St)(o:Oper):Option St :=
 match IU all S o.guard with
 | none=>none
 | some (false,S)=>TV n S S.E S.L [] o.dst (.a (.val undef))
 | some (true,S)=>match o.op with
  | .pick (.tmp c) x y=>match BM S c with
   | some (d,S)=>TV n S S.E S.L [] o.dst (cond d (opnd S.E x) (opnd S.E y))
   | none=>none
  | op=>match quiet with
   | true=>match opQ tab ext wr S.E S.L op with
    | some (cs,pv)=>TV n S S.E S.L cs o.dst pv
    | none=>none
   | false=>match (match opM tab ext wr S.E S.L op with | some r=>some r | none=>opM tab ext wr (SP op (S.E,S.L)).1 (SP op (S.E,S.L)).2 op)with
    | some (cs,pv,E,L)=>TV n S E L cs o.dst pv
    | none=>none
def QE(tab:Γ TI)(ext:A7)(wr:Bool)(n:Nat)(quiet:Bool)(all:Γ Oper):Γ Oper->St->Option St
 | [],S=>some S
 | o::r,S=>match yI tab ext wr n quiet all S o with
  | some S'=>QE tab ext wr n quiet all r S'
  | none=>none
section
variable {P:Program} {n:Nat} {K:gU} {G:Nat->Prop} {w0 w:World} {a:Act} {E:gK} {L:bM} {V:Nat->Value} {own:Nat->Γ Nat}
theorem Fh:∀(l:Γ Oper) (j:Nat),TU l j=l[j]?
 | [],j=>rfl
 | o::r,0=>rfl
 | o::r,j+1=>by simp[TU,Fh]
def j5(q:Nat->Value)(a:Act)(S:St):Prop:=(∀t d,IT S.dec t=some d->a.tmps.getD t undef = .bool d)/\∀t∈S.pins,a.tmps.getD t undef=q t
theorem Lw:∀(dec:Γ (Nat×Bool)) (s t:Nat),IT (Ui s dec) t=if s=t then none else IT dec t
 | [],s,t=>by simp[Ui,IT]
 | (u,d)::r,s,t=>by
  simp[Ui];cases h:cC u s with
  | true =>
   obtain rfl:=bF h;rw[Lw r u t];by_cases ht:u=t
   ·lia
   ·simp[IT,yS ht]
  | false =>
   simp[IT,Lw r s t]
   lia
theorem j5.put{q:Nat->Value}{S S':St}(h:j5 q a S)(d:Nat)(v:Value)(hp:d ∉ S.pins)(e1:S'.dec=Ui d S.dec)(e2:S'.pins=S.pins):j5 q (a.put (some d) v) S':=by
 have other:∀t,d≠t->(a.put (some d) v).tmps.getD t undef=a.tmps.getD t undef:=λt hne=>by
  simp[Act.put];simp_all
 constructor
 ·intro t b hb;rw[e1,Lw]at hb;split at hb
  ·lia
  ·rename_i hne;rw[other t hne];exact h.1 t b hb
 ·intro t ht;rw[e2]at ht;rw[other t (λe=>hp (by lia))];exact h.2 t ht
theorem tE{q:Nat->Value}{S S':St}{t:Nat}{d:Bool}(hR:bQ n K w0 G w a S.E S.L V own)(hd:j5 q a S)(h:BM S t=some (d,S'))(hc:iD S'.cs) :
  a.tmps.getD t undef = .bool d/\S'.E=S.E/\S'.L=S.L/\j5 q a S'/\iD S.cs:=by
 unfold BM at h;split at h
 ·rename_i d' hl;cases h;exact⟨hd.1 _ _ hl,rfl,rfl,hd,hc⟩
 ·split at h
  ·rename_i b d' p hg hp;cases h;obtain⟨h1,h2⟩:=dY.1 hc;have hv:=hR.valEq (x := .tmp t) (v := .bool b) (by grind [opnd]);have hb:b=d:=h2.1;subst hb;refine⟨hv.1,rfl,rfl,⟨?_,hd.2⟩,h1⟩;intro s c hs;simp[IT]at hs;split at hs
   ·rename_i hst;obtain rfl:=bF hst;cases hs;exact hv.1
   ·exact hd.1 s c hs
  lia
end
def Zb(ext:A7)(L:bM)(f:FuncId)(ps:Γ PV):Option (Γ Prop×PV×bM) :=
 match ext with
 | []=>none
 | (g,S)::r=>match cC f g with
  | true=>match wW L S.sig ps with
   | some (x,os,us)=>match os.flatten,aAQ S.kds||us.isEmpty,F6 L (uB L S.sig ps) S.sig ps os (S.upd x)with
    | [],true,some (cs,[],[])=>match Nx L.length S.kds (S.res x)with
     | (ats,es)=>some (S.pre x::cs,aE6 ats,L++es)
    | _,_,_=>Zb r L f ps
   | none=>Zb r L f ps
  | false=>Zb r L f ps
def opK(tab:Γ TI)(ext:A7)(E:gK)(L:bM):Op->Option (Γ Prop×PV×bM)
 | .box T x=>match aS8 tab false T (opnd E x)with
  | some A=>some ([],.a (Uc L.length A),L++[some A])
  | none=>none
 | .alloc T=>match aAV tab T with
  | some A=>some ([],.a (Uc L.length A),L++[some A])
  | none=>none
 | .buildSlice T n parts=>match KZ tab T n (parts.toList.map λp=>(p.1,opnd E p.2))with
  | some A=>some ([],.a (.osl L.length none),L++[some A])
  | none=>none
 | .makeSlice T l c=>match aKl tab T (opnd E l) (opnd E c)with
  | some (cs,A)=>some (cs,.a (.osl L.length none),L++[some A])
  | none=>none
 | .call { callee := .value f,args,argTypes }=>match OB E f args.toList with
  | some (g,ps)=>Zb ext L g ps
  | none=>none
 | .convert s d x=>match aSA tab s d (opnd E x)with
  | some A=>some ([],.a (.osl L.length none),L++[some A])
  | none=>none
 | _=>none
section
variable {P:Program} {n:Nat} {K:gU} {G:Nat->Prop} {w0 w:World} {a:Act} {E:gK} {L:bM} {V:Nat->Value} {own:Nat->Γ Nat}
theorem Fi:∀ {ext:A7} (hX:q8 P ext) (hR:bQ n K w0 G w a E L V own) {f:FuncId} {ps:Γ PV} {vs:Γ Value} {cs:Γ Prop} {pv:PV} {L':bM}
  (hps:DB w0 G L V ps vs) (h:Zb ext L f ps=some (cs,pv,L')) (hc:iD cs),
  Bj P f/\Calls P f vs.toArray w λe w'=>∃v w0' G' V' own',e = .returned v/\cQ [] w w'/\bQ n K w0' G' w' a E L' V' own'/\mS w0' G' L' V' pv v
 | [],_,_,_,_,_,_,_,_,_,h,_=>by cases h
 | (g,S)::r,hX,hR,f,ps,vs,cs,pv,L',hps,h,hc=>by
  obtain⟨⟨hcall,hcon⟩,hX'⟩:=hX;simp[Zb]at h;split at h
  ·rename_i hfg;obtain rfl:=bF hfg;split at h
   ·rename_i x os us hd;split at h
    ·rename_i cd hos hko hpl;cases h;obtain⟨hpre,hc⟩:=hc;simp at hko;obtain⟨l1,_⟩:=wX hR hps hd;have hon:=Ep (own:=own) hos;have hargs:=DC (q:=uB L S.sig ps) hR (dD [] w) (G':=SK G own us) (λb hb => .inl hb) hps hd (λh=>h) (λr hr b hb => .inr ⟨r,hr,hb⟩);refine⟨hcall,(hcon w (SK G own us) (SmG K G (uB L S.sig ps)) x _ _ (hR.gok (dD _ _) (by grind)) (λb hb=>?_) (λb hb => .inl ?_) hpre hargs (by grind)).mono ?_⟩
     ·rw[hon];refine⟨?_,by simp⟩;rcases hb with hb | ⟨r,hr,hb⟩
      ·exact hR.glt b hb
      ·obtain⟨A,hA⟩:=l1 r hr;exact hR.own_lt hA b hb
     ·unfold SmG at hb;split at hb
      ·exact hR.gsub b hb
      lia
     ·intro e w' hpost;obtain⟨v,w0',G',V',own',h1,hk,h2,h3⟩:=Z6 hR hps hd (by grind) hko hpl hc hpost;rw[hon]at hk;exact⟨v,w0',G',V',own',h1,hk,h2,h3⟩
    ·exact Fi hX' hR hps h hc
   ·exact Fi hX' hR hps h hc
  ·exact Fi hX' hR hps h hc
def aO2{tab:Γ TI}{ext:A7}(hT:kZ P tab)(hX:q8 P ext)(hR:bQ n K w0 G w a E L V own){o:Oper}{cs:Γ Prop}{pv:PV}{L':bM}
  (h:opK tab ext E L o.op=some (cs,pv,L')) (hc:iD cs) {next:Act->World->Prop} {Q:Exit->Act->World->Prop}
  (hn:∀v w0' G' w' V' own',cQ [] w w'->bQ n K w0' G' w' a E L' V' own'->mS w0' G' L' V' pv v->next (a.put o.dst v) w'):o.wp P a w next Q:=by
 unfold opK at h;split at h
 ·split at h
  ·rename_i A hA;cases h;obtain⟨v,w',V',own',h1,h2,h3⟩:=aEA hT hR hA;exact kN (w':=w') (by grind [execOp,gZ]) (hn _ _ _ _ _ _ h2.2.kept h2.1 h3)
  lia
 ·split at h
  ·rename_i A hA;cases h;obtain⟨v,w',V',own',h1,h2,h3⟩:=Ud hT hR hA;exact kN (w':=w') (by grind [execOp,gZ]) (hn _ _ _ _ _ _ h2.2.kept h2.1 h3)
  lia
 ·split at h
  ·rename_i A hA;cases h;obtain⟨v,w',V',own',h1,h2,h3⟩:=LH hT hR hA;exact kN (w':=w') (by grind [execOp,gZ]) (hn _ _ _ _ _ _ h2.2.kept h2.1 h3)
  lia
 ·split at h
  ·rename_i cs1 A hA;cases h;obtain⟨v,w',V',own',h1,h2,h3⟩:=Z8 hT hR hA hc;exact kN (w':=w') (by grind [execOp,gZ]) (hn _ _ _ _ _ _ h2.2.kept h2.1 h3)
  lia
 ·rename_i f args ts ho;split at h
  ·rename_i g ps hg;obtain⟨vs,hv,hps⟩:=Ff hR hg;obtain⟨hcall,hcalls⟩:=Fi hX hR hps h hc;unfold rT;rw[Ue hcall ho hv];refine hcalls.mono ?_
   grind
  lia
 ·split at h
  ·rename_i A hA;cases h;obtain⟨v,w',V',own',h1,h2,h3⟩:=aEG hT hR hA;exact kN (w':=w') (by grind [execOp,gZ]) (hn _ _ _ _ _ _ h2.2.kept h2.1 h3)
  lia
 lia
end
def Zc:Γ Nat->Γ Nat
 | []=>[]
 | x::r=>match yW x r with
  | true=>Zc r
  | false=>x::Zc r
theorem QF:∀ {l:Γ Nat} {k:Nat},k∈Zc l->k∈l
 | x::r,k,h=>by
  simp[Zc]at h;split at h
  ·exact aM _ (QF h)
  ·rcases aW.1 h with rfl | h
   ·exact aR ..
   ·exact aM _ (QF h)
def aV7(ops:Array Oper)(js:Γ Nat):Γ Nat:=js.flatMap λj=>match ops[j]? with
 | some o=>(o.after.toList.filter λe=>fV .any e).map λe=>e.on
 | none=>[]
def aSF(ops:Array Oper):Nat->Γ Nat->Γ Nat
 | 0,_=>[]
 | m+1,js=>match Zc (aV7 ops js)with
  | []=>[]
  | x::r=>(x::r)++aSF ops m (x::r)
def isT:Op->Bool
 | .extract _ _=>true
 | _=>false
def aSG(ops:Array Oper)(k:Nat):Bool:=match ops[k]? with
 | some o=>isT o.op
 | none=>false
def TW(ops:Array Oper)(listed:Array Bool)(i:Nat):Bool :=
 (List.range ops.size).all λk => !listed.getD k true||(aSG ops k||yW k (aSF ops ops.size [i]))
def Ks(ops:Array Oper)(listed:Array Bool):Prop :=
 ∀k o,listed.getD k false=true->ops[k]? = some o->∀e∈o.after,fV .any e=true->listed.getD e.on false=true
section
variable {P:Program} {ops:Array Oper} {Q:Exit->Act->World->Prop}
theorem Ks.start(ops:Array Oper)(m:Nat):Ks ops (jK m false):=λk o h=>by
 rw[iI]at h
 grind
variable {listed:Array Bool}
theorem Ks.set(h:Ks ops listed){i:Nat}(hi:i∈gL .any ops listed):Ks ops (listed.setIfInBounds i true):=by
 intro k o hk ho e he hb;by_cases hki:i=k
 ·grind [mem_ready,getD_set_true]
 ·rw[getD_set_ne false hki]at hk;exact getD_set_true (h k o hk ho e he hb)
theorem aEK{listed:Array Bool}(hD:Ks ops listed):∀ {m:Nat} {js:Γ Nat},(∀j∈js,∀o,ops[j]? = some o->∀e∈o.after,fV .any e=true->listed.getD e.on false=true) ->
  ∀k∈aSF ops m js,listed.getD k false=true
 | 0,_,_,k,hk=>by cases hk
 | m+1,js,h,k,hk=>by
  have hd:∀k∈Zc (aV7 ops js),listed.getD k false=true:=by
   intro k hk;obtain⟨j,hj,hk⟩:=List.mem_flatMap.1 (QF hk)
   grind
  simp only[aSF]at hk;split at hk
  ·cases hk
  ·rename_i x r hxr;rw[hxr]at hd;rcases cY.1 hk with hk | hk
   ·exact hd k hk
   ·exact aEK hD (λj hj o ho e he hb=>hD j o (hd j hj) ho e he hb) k hk
def qG(P:Program)(ops:Array Oper)(Q:Exit->Act->World->Prop)(F:Γ Nat):Nat->Array Bool->Act->World->Prop
 | 0,listed,a,w=>∀w1,cQ [] w w1->gL .any ops listed=[]/\Q .normal a w1
 | fuel+1,listed,a,w=>∀w1,cQ [] w w1->(gL .any ops listed=[]->Q .normal a w1) /\
  ∀i∈gL .any ops listed,wpOp P ops Q i (λa' w'=>(TW ops listed i=true\/cQ F w1 w')/\qG P ops Q F fuel (listed.setIfInBounds i true) a' w') a w1
variable {F:Γ Nat}
def qG.up:∀ {fuel:Nat} {listed:Array Bool} {a:Act} {w w1:World},qG P ops Q F fuel listed a w->cQ [] w w1->qG P ops Q F fuel listed a w1
 | 0,_,_,_,_,h,k=>λw2 k2=>h w2 (k.trans k2)
 | _+1,_,_,_,_,h,k=>λw2 k2=>h w2 (k.trans k2)
theorem Uj{F:Γ Nat}:∀(fuel:Nat) (listed:Array Bool) (a:Act) (w:World),qG P ops Q F fuel listed a w->wpAny P .any ops Q fuel listed a w
 | 0,_,_,w,h=>h w (dD _ _)
 | fuel+1,_,_,w,h=>⟨(h w (dD _ _)).1,λi hi=>wpOp_mono (λa' w' h'=>Uj fuel _ a' w' h'.2) ((h w (dD _ _)).2 i hi)⟩
def oA(P:Program)(ops:Array Oper)(F:Γ Nat)(o:Oper)(v:Value)(a:Act)(w:World):Prop :=
 (fI o (yielded ops a.tmps)=true/\∀w',cQ F w w'->o.quietAt P a (cQ [] w') w' v) \/
 (fI o (yielded ops a.tmps)=false/\v=undef)
variable {o:Oper} {v:Value}
def oA.up{a:Act}{w w1:World}(h:oA P ops F o v a w)(k:cQ F w w1):oA P ops F o v a w1 :=
 h.imp (λ⟨h1,h2⟩=>⟨h1,λw' k'=>h2 w' (k.trans k')⟩) id
theorem oA.of_same{a a':Act}{w:World}(hy:oA P ops F o v a w)(he:execOp a'.eval o=execOp a.eval o)
  (hw:fI o (yielded ops a'.tmps)=fI o (yielded ops a.tmps)):oA P ops F o v a' w:=by
 grind [oA,oK]
theorem oA.wpOp{F:Γ Nat}{i:Nat}{o:Oper}{v:Value}{a:Act}{w:World}(hi:ops[i]? = some o)(hy:oA P ops F o v a w)
  {K:Act->World->Prop} (h:∀w',cQ [] w w'->K (a.put o.dst v) w'):wpOp P ops Q i K a w:=by
 unfold Go.wpOp;simp[hi];rcases hy with ⟨hw,hv⟩ | ⟨hw,rfl⟩
 ·simp[hw];refine .inl (Rp (C:=cQ [] w) (K:=λa'=>a'=a.put o.dst v) (dD _ _) (λa' w' k e=>by grind) ⟨v,λw' k=>?_,rfl⟩);have:=hv w' k.of_nil;unfold oK at this ⊢;generalize (execOp a.eval o).run P w'=r at *;cases r with
  | ok nx w2 =>
   cases nx <;> simp[s6]at this ⊢
   case value u=>lia
   case skip=>lia
   case enter f args=>exact⟨this.1,this.2.mono λe w3 hh=>⟨hh.1,k.trans hh.2⟩⟩
  | halt x w2=>grind [s6]
 ·grind [dD]
theorem aLZ{j:Nat}{oi oj:Oper}(hj:ops[j]? = some oj)(hap:oi.apart ops oj=true)
  (hsi:∀cs b,oi.op ≠ .select cs b) (hsj:∀cs b,oj.op ≠ .select cs b)
  (hQ:∀c a w,¬Q (.panic c) a w) {K:Act->World->Prop} {a:Act} {w wb:World}
  (hy:oA P ops F oi v a wb) (h:wpOp P ops Q j K (a.put oi.dst v) w) :
  wpOp P ops Q j (λa' w'=>oA P ops F oi v a' wb/\K (a'.put oi.dst v) w') a w:=by
 obtain⟨h1,h2,h3⟩:=Tb hap;have keep:∀(a:Act),oA P ops F oi v a wb->∀u,oA P ops F oi v (a.put oj.dst u) wb:=λa hy u =>
  hy.of_same (execOp_put oi hsi a oj.dst u h3) (wanted_put oi a oj.dst u h3)
 have keepD:∀d,oA P ops F oi v { a with defers:=d::a.defers } wb:=λd=>hy.of_same rfl rfl;unfold wpOp at *;simp only[hj]at *;rw[wanted_put oj a oi.dst v h1]at h;split
 ·rename_i hw;simp[hw]at h;rcases h with h | ⟨hasks,hlets⟩
  case inr=>exact .inr ⟨by unfold aNR at *;rw[execOp_put oj hsj a oi.dst v h1]at hasks;lia,hlets⟩
  unfold rT at *;rw[execOp_put oj hsj a oi.dst v h1]at h;generalize (execOp a.eval oj).run P w=r at *;cases r with
  | ok n w' =>
   cases n <;> simp[Ko]at h ⊢
   all_goals grind [Gr,YK]
  | halt x w' =>
   cases x <;> simp[Ko]at h ⊢
   grind
 grind [Gr]
theorem aIc(hD:Ks ops listed){i j:Nat}(hn:aSG ops i=false)(hi:i∈gL .any ops listed)(hj:j∈gL .any ops listed):TW ops (listed.setIfInBounds i true) j=false:=by
 obtain⟨h0,oi,hoi,_⟩:=mem_ready.1 hi;obtain⟨_,oj,hoj,hallj⟩:=mem_ready.1 hj;have hilt:i<ops.size:=(kL.1 hoi).1;rw[cG];intro hb;simp[TW]at hb
 grind [aEK,Bl]
def qH(P:Program)(ops:Array Oper)(o:Oper)(v:Value)(a:Act):Prop :=
 (fI o (yielded ops a.tmps)=true/\∀w,(execOp a.eval o).run P w = .ok (.value v) w)\/(fI o (yielded ops a.tmps)=false/\v=undef)
theorem qH.of_same{a a':Act}(hy:qH P ops o v a)(he:execOp a'.eval o=execOp a.eval o)
  (hw:fI o (yielded ops a'.tmps)=fI o (yielded ops a.tmps)):qH P ops o v a':=by
 grind [qH]
theorem qH.wpOp{i:Nat}{o:Oper}{v:Value}{a:Act}{w:World}(hi:ops[i]? = some o)(hy:qH P ops o v a){K:Act->World->Prop}(h:K (a.put o.dst v) w):wpOp P ops Q i K a w:=by
 unfold Go.wpOp;simp[hi];rcases hy with ⟨hw,hv⟩ | ⟨hw,rfl⟩
 ·simp[hw];refine .inl ?_;unfold rT;rw[hv w];exact h
 lia
theorem Zd{j:Nat}{oi oj:Oper}(hj:ops[j]? = some oj)(hap:oi.apart ops oj=true)
  (hsi:∀cs b,oi.op ≠ .select cs b) (hsj:∀cs b,oj.op ≠ .select cs b)
  (hQ:∀c a w,¬Q (.panic c) a w) {K:Act->World->Prop} {a:Act} {w:World}
  (hy:qH P ops oi v a) (h:wpOp P ops Q j K (a.put oi.dst v) w) :
  wpOp P ops Q j (λa' w'=>qH P ops oi v a'/\K (a'.put oi.dst v) w') a w:=by
 obtain⟨h1,h2,h3⟩:=Tb hap;have keep:∀(a:Act),qH P ops oi v a->∀u,qH P ops oi v (a.put oj.dst u):=λa hy u =>
  hy.of_same (execOp_put oi hsi a oj.dst u h3) (wanted_put oi a oj.dst u h3)
 have keepD:∀d,qH P ops oi v { a with defers:=d::a.defers }:=λd=>hy.of_same rfl rfl;unfold wpOp at *;simp only[hj]at *;rw[wanted_put oj a oi.dst v h1]at h;split
 ·rename_i hw;simp[hw]at h;rcases h with h | ⟨hasks,hlets⟩
  case inr=>exact .inr ⟨by unfold aNR at *;rw[execOp_put oj hsj a oi.dst v h1]at hasks;lia,hlets⟩
  unfold rT at *;rw[execOp_put oj hsj a oi.dst v h1]at h;generalize (execOp a.eval oj).run P w=r at *;cases r with
  | ok n w' =>
   cases n <;> simp[Ko]at h ⊢
   all_goals grind [Gr,YK]
  | halt x w' =>
   cases x <;> simp[Ko]at h ⊢
   grind
 grind [Gr]
theorem aMa{i j:Nat}(h:TW ops (listed.setIfInBounds i true) j=true):TW ops listed j=true:=by
 simp[TW]at h ⊢;intro k hk;have:=h k hk;by_cases hik:i=k
 all_goals simp_all
theorem oA.noMem{a:Act}{w:World}(ho:isT o.op=true)(h:oA P ops F o v a w):qH P ops o v a:=by
 refine h.imp (λ⟨h1,h2⟩=>⟨h1,λw2=>?_⟩) id;have:=h2 w (dD _ _);unfold oK at this;cases hop:o.op with
 | extract x k =>
  unfold execOp at this ⊢;simp[hop]at this ⊢;generalize a.eval x=y at this ⊢;cases y with
  | tuple vs =>
   unfold Instr.extract at this ⊢;simp at this ⊢;cases hv:vs[k]? with
   | none=>rw[hv]at this;exact False.elim this
   | some u =>
    rw[hv]at this;have h3:w=w/\u=v:=this;simp_all
  | _=>exact False.elim this
 | _=>rw[hop]at ho;cases ho
def Yg{i:Nat}{oi:Oper}(hi:ops[i]? = some oi)(hsel:∀(j:Nat) (o:Oper) cs b,ops[j]? = some o->o.op ≠ .select cs b)
  (hQ:∀c a w,¬Q (.panic c) a w) :
  ∀(fuel:Nat) (listed:Array Bool) (a:Act) (w:World),Ks ops listed ->
   (∀j oj,ops[j]? = some oj->j≠i->listed.getD j true=false->(∀e∈oj.after,fV .any e=true->e.on≠i)->oi.apart ops oj=true) ->
   i∈gL .any ops listed->qH P ops oi v a ->
   qG P ops Q F fuel (listed.setIfInBounds i true) (a.put oi.dst v) w->qG P ops Q F (fuel+1) listed a w:=by
 intro fuel
 induction fuel with
 | zero =>
  intro listed a w hD _ hr hy H w1 k;refine⟨λh=>(by grind),λj hj=>?_⟩;by_cases hji:j=i
  ·subst hji;exact hy.wpOp hi ⟨.inr (dD _ _),H.up k⟩
  ·have:=ready_mono hj hji;rw[(H w1 k).1]at this
   grind
 | succ fuel ih =>
  intro listed a w hD hfree hr hy H w1 k;refine⟨λh=>(by grind),λj hj=>?_⟩;by_cases hji:j=i
  ·subst hji;exact hy.wpOp hi ⟨.inr (dD _ _),H.up k⟩
  ·have h1:=(H w1 k).2 j (ready_mono hj hji);obtain⟨hjun,oj,hoj,hall⟩:=mem_ready.1 hj;have hnot:∀e∈oj.after,fV .any e=true->e.on≠i:=λe he hb heq=>by
    grind [mem_ready]
   have h2:=Zd hoj (hfree j oj hoj hji hjun hnot) (λcs b=>hsel i oi cs b hi) (λcs b=>hsel j oj cs b hoj) hQ hy h1;have hfree':∀k ok,ops[k]? = some ok->k≠i->(listed.setIfInBounds j true).getD k true=false ->
     (∀e∈ok.after,fV .any e=true->e.on≠i)->oi.apart ops ok=true:=λk ok hk hki hun hno=>by
    refine hfree k ok hk hki ?_ hno;by_cases hjk:j=k
    all_goals simp_all
   refine wpOp_mono (λa' w' h3=>?_) h2;obtain⟨hy',hkk,H'⟩:=h3;refine⟨hkk.imp aMa id,ih (listed.setIfInBounds j true) a' w' (hD.set hj) hfree' (ready_mono hr (kT hji)) hy' ?_⟩
   grind [uX]
def OC{i:Nat}{oi:Oper}(hi:ops[i]? = some oi)(hsel:∀(j:Nat) (o:Oper) cs b,ops[j]? = some o->o.op ≠ .select cs b)
  (hQ:∀c a w,¬Q (.panic c) a w) :
  ∀(fuel:Nat) (listed:Array Bool) (a:Act) (w:World),Ks ops listed ->
   (∀j oj,ops[j]? = some oj->j≠i->listed.getD j true=false->(∀e∈oj.after,fV .any e=true->e.on≠i)->oi.apart ops oj=true) ->
   i∈gL .any ops listed->oA P ops F oi v a w ->
   qG P ops Q F fuel (listed.setIfInBounds i true) (a.put oi.dst v) w->qG P ops Q F (fuel+1) listed a w:=by
 by_cases hti:isT oi.op=true
 case pos =>
  intro fuel listed a w hD hfree hr hy H;exact Yg hi hsel hQ fuel listed a w hD hfree hr (hy.noMem hti) H
 have hti:aSG ops i=false:=by unfold aSG;lia
 intro fuel
 induction fuel with
 | zero =>
  intro listed a w hD _ hr hy H w1 k;refine⟨λh=>(by grind),λj hj=>?_⟩;by_cases hji:j=i
  ·subst hji;exact(hy.up k.of_nil).wpOp hi λw' k'=>⟨.inr k'.of_nil,H.up (k.trans k')⟩
  ·have:=ready_mono hj hji;rw[(H w1 k).1]at this
   grind
 | succ fuel ih =>
  intro listed a w hD hfree hr hy H w1 k;refine⟨λh=>(by grind),λj hj=>?_⟩;by_cases hji:j=i
  ·subst hji;exact(hy.up k.of_nil).wpOp hi λw' k'=>⟨.inr k'.of_nil,H.up (k.trans k')⟩
  ·have h1:=(H w1 k).2 j (ready_mono hj hji);obtain⟨hjun,oj,hoj,hall⟩:=mem_ready.1 hj;have hnot:∀e∈oj.after,fV .any e=true->e.on≠i:=λe he hb heq=>by
    grind [mem_ready]
   have hbar:=aIc hD hti hr hj;have h2:=aLZ hoj (hfree j oj hoj hji hjun hnot) (λcs b=>hsel i oi cs b hi) (λcs b=>hsel j oj cs b hoj) hQ (hy.up k.of_nil) h1;have hfree':∀k ok,ops[k]? = some ok->k≠i->(listed.setIfInBounds j true).getD k true=false ->
     (∀e∈ok.after,fV .any e=true->e.on≠i)->oi.apart ops ok=true:=λk ok hk hki hun hno=>by
    refine hfree k ok hk hki ?_ hno;by_cases hjk:j=k
    all_goals simp_all
   refine wpOp_mono (λa' w' h3=>?_) h2;obtain⟨hy',hkk,H'⟩:=h3;have hkk:cQ F w1 w':=hkk.resolve_left (by lia);refine⟨.inr hkk,ih (listed.setIfInBounds j true) a' w' (hD.set hj) hfree' (ready_mono hr (kT hji)) (hy'.up hkk) ?_⟩
   grind [uX]
theorem qG.mono{F F':Γ Nat}(hF:∀k∈F,k∈F'):∀ {fuel:Nat} {listed:Array Bool} {a:Act} {w:World},qG P ops Q F fuel listed a w->qG P ops Q F' fuel listed a w
 | 0,_,_,_,h=>h
 | fuel+1,_,_,_,h=>λw1 k=>⟨(h w1 k).1,λi hi=>wpOp_mono (λa' w' h'=>⟨h'.1.imp id λk'=>k'.mono hF,h'.2.mono hF⟩) ((h w1 k).2 i hi)⟩
end
section
variable {P:Program} {n:Nat} {K:gU} {G:Nat->Prop} {w0 w w':World} {a:Act} {E:gK} {L:bM} {V:Nat->Value} {own:Nat->Γ Nat}
def noMem:Op->Bool
 | .move _=>true
 | .assign _=>true
 | .nilCheck _=>true
 | _=>false
end
section
variable {P:Program} {ops:Array Oper} {Q:Exit->Act->World->Prop}
def aBb{i:Nat}{oi:Oper}{v:Value}(hi:ops[i]? = some oi)(hsel:∀(j:Nat) (o:Oper) cs b,ops[j]? = some o->o.op ≠ .select cs b)
  (hQ:∀c a w,¬Q (.panic c) a w) :
  ∀(fuel:Nat) (listed:Array Bool) (a:Act) (w:World),Ks ops listed ->
   (∀j oj,ops[j]? = some oj->j≠i->listed.getD j true=false->(∀e∈oj.after,fV .any e=true->e.on≠i)->oi.apart ops oj=true) ->
   i∈gL .any ops listed->qH P ops oi v a ->
   wpAny P .any ops Q fuel (listed.setIfInBounds i true) (a.put oi.dst v) w->wpAny P .any ops Q (fuel+1) listed a w:=by
 intro fuel
 induction fuel with
 | zero =>
  intro listed a w hD _ hr hy H;refine⟨λh=>(by grind),λj hj=>?_⟩;by_cases hji:j=i
  ·subst hji;exact hy.wpOp hi H
  ·have:=ready_mono hj hji;rw[H.1]at this
   grind
 | succ fuel ih =>
  intro listed a w hD hfree hr hy H;refine⟨λh=>(by grind),λj hj=>?_⟩;by_cases hji:j=i
  ·subst hji;exact hy.wpOp hi H
  ·have h1:=H.2 j (ready_mono hj hji);obtain⟨hjun,oj,hoj,hall⟩:=mem_ready.1 hj;have hnot:∀e∈oj.after,fV .any e=true->e.on≠i:=λe he hb heq=>by
    grind [mem_ready]
   have h2:=Zd hoj (hfree j oj hoj hji hjun hnot) (λcs b=>hsel i oi cs b hi) (λcs b=>hsel j oj cs b hoj) hQ hy h1;have hfree':∀k ok,ops[k]? = some ok->k≠i->(listed.setIfInBounds j true).getD k true=false ->
     (∀e∈ok.after,fV .any e=true->e.on≠i)->oi.apart ops ok=true:=λk ok hk hki hun hno=>by
    refine hfree k ok hk hki ?_ hno;by_cases hjk:j=k
    all_goals simp_all
   refine wpOp_mono (λa' w' h3=>?_) h2;obtain⟨hy',H'⟩:=h3;refine ih (listed.setIfInBounds j true) a' w' (hD.set hj) hfree' (ready_mono hr (kT hji)) hy' ?_
   grind [uX]
end
def Uk(tab:Γ TI)(wr:Bool)(n:Nat)(all:Γ Oper)(S:St)(o:Oper):Option St :=
 match IU all S o.guard with
 | none=>none
 | some (false,S)=>TV n S S.E S.L [] o.dst (.a (.val undef))
 | some (true,S)=>match o.op with
  | .pick (.tmp c) x y=>match BM S c with
   | some (d,S)=>TV n S S.E S.L [] o.dst (cond d (opnd S.E x) (opnd S.E y))
   | none=>none
  | op=>match aAO op with
   | true=>none
   | false=>match aLO tab wr S.E S.L op with
    | some (cs,pv)=>TV n S S.E S.L cs o.dst pv
    | none=>none
def keepE(E:gK):Γ Nat->gK
 | []=>[]
 | i::r=>(i,E.get i)::keepE E r
theorem Ze(E:gK):∀(ks:Γ Nat) (i:Nat),(keepE E ks).get i=if yW i ks=true then E.get i else .a .junk
 | [],i=>rfl
 | j::r,i=>by
  simp only[keepE,pD,yW];cases h:cC j i with
  | true =>
   simp_all
  | false =>
   have:cC i j=false:=yS (λe=>by subst e;simp at h);simp[this,Ze E r i]
section
variable {P:Program} {n:Nat} {q:Nat->Value} {K:gU} {G:Nat->Prop} {w0 w:World} {a:Act} {V:Nat->Value} {own:Nat->Γ Nat} {f:FuncId} {R:Ending->World->Prop} {E:gK} {L:bM}
theorem bQ.keepE(hR:bQ n K w0 G w a E L V own)(ks:Γ Nat):bQ n K w0 G w a (Am.keepE E ks) L V own :=
 ⟨hR.glob,hR.kept,hR.size,hR.defers,hR.glt,hR.gref,hR.gsub,hR.gold,hR.gup,hR.heap,hR.good,hR.nodup,hR.apart,hR.boxs,hR.small,λi=>by
  rw[Ze];split
  ·exact hR.env i
  ·trivial⟩
def Ul(r:Nat):Γ Nat->Nat
 | []=>0
 | x::l=>cond (cC x r) 0 (Ul r l+1)
def IV:Γ Nat->Nat->Nat
 | [],_=>0
 | x::_,0=>x
 | _::l,n+1=>IV l n
def aMb(rs:Γ Nat):gJ->gJ
 | .osl r rg => .osl (Ul r rs) rg
 | l=>l
def aO3(rs:Γ Nat):dE->dE
 | .osl r rg => .osl (Ul r rs) rg
 | .optr r i p => .optr (Ul r rs) i p
 | .rcd t ls => .rcd t (ls.map (aMb rs))
 | .bptr r o t => .bptr (Ul r rs) o t
 | A=>A
def Br(rs:Γ Nat)(A:iJ):iJ:=match A.ls with
 | some ls=>⟨A.t,A.xs,A.bor,some (ls.map (aMb rs)),A.sm⟩
 | none=>A
def bDE(rs:Γ Nat):PV->PV
 | .a A => .a (aO3 rs A)
 | .tup xs => .tup (xs.map (aO3 rs))
 | .fn f xs => .fn f (xs.map (aO3 rs))
def aO4(rs:Γ Nat)(E:gK):gK:=E.map λq=>(q.1,bDE rs q.2)
def OD(rs:Γ Nat)(L:bM):bM:=rs.map λr=>match b5 L r with | some A=>some (Br rs A) | none=>none
def Zf(rs:Γ Nat):Γ Nat->Bool
 | []=>true
 | r::s=>yW r rs&&Zf rs s
def Zg(rs:Γ Nat):gK->Bool
 | []=>true
 | (_,p)::r=>Zf rs (II p)&&Zg rs r
def QG(rs:Γ Nat)(L:bM):Γ Nat->Bool
 | []=>true
 | r::s=>(match b5 L r with
  | some A=>match A.ls with
   | some ls=>Zf rs (jF ls)
   | none=>true
  | none=>true)&&QG rs L s
theorem IW(rs0:Γ Nat):∀(rs:Γ Nat) (L:bM) (s:Nat) {A:iJ},b5 (rs.map λr=>match b5 L r with | some A=>some (Br rs0 A) | none=>none) s=some A->s<rs.length/\∃B,b5 L (IV rs s)=some B/\A=Br rs0 B
 | [],L,s,A,h=>by cases s <;> cases h
 | r::rs,L,0,A,h=>by
  simp[b5]at h;cases hB:b5 L r with
  | none=>lia
  | some B=>rw[hB]at h;cases h;exact⟨by simp,B,hB,rfl⟩
 | r::rs,L,s+1,A,h=>by
  obtain⟨h1,h2⟩:=IW rs0 rs L s h;exact⟨by grind,h2⟩
def vA(rs:Γ Nat)(L:bM)(s:Nat){A:iJ}(h:b5 (OD rs L) s=some A):s<rs.length/\∃B,b5 L (IV rs s)=some B/\A=Br rs B:=IW rs rs L s h
theorem OE(rs0:Γ Nat):∀(rs:Γ Nat) (L:bM) (r:Nat),yW r rs=true->b5 (rs.map λr=>match b5 L r with | some A=>some (Br rs0 A) | none=>none) (Ul r rs)=(b5 L r).map (Br rs0)/\IV rs (Ul r rs)=r
 | [],L,r,h=>by cases h
 | x::rs,L,r,h=>by
  simp only[yW]at h;simp[Ul];cases hb:cC x r with
  | true =>
   obtain rfl:=bF hb;refine⟨?_,rfl⟩;simp[b5]
   grind
  | false =>
   have:yW r rs=true:=by
    grind [bF]
   exact OE rs0 rs L r this
def Um(rs:Γ Nat)(L:bM)(r:Nat)(h:yW r rs=true):b5 (OD rs L) (Ul r rs)=(b5 L r).map (Br rs)/\IV rs (Ul r rs)=r:=OE rs rs L r h
theorem aBc(rs:Γ Nat)(A:iJ):(Br rs A).t=A.t:=by grind [Br]
theorem aSH(rs:Γ Nat)(A:iJ):(Br rs A).sm=A.sm:=by grind [Br]
theorem aO5(rs:Γ Nat)(A:iJ):(Br rs A).bor=A.bor:=by grind [Br]
theorem aEL(rs:Γ Nat)(A:iJ):(Br rs A).xs.length=A.xs.length:=by grind [Br]
theorem aEM{w0 w:World}{G:Nat->Prop}{rs:Γ Nat}{A:iJ}{v:Value}{bs:Γ Nat}:iS w0 G w (Br rs A) v bs↔iS w0 G w A v bs:=by
 unfold Br;split
 all_goals rfl
theorem aKq{rs:Γ Nat}{A:iJ}:(∀ls,A.ls=some ls->(Br rs A).ls=some (ls.map (aMb rs)))/\∀ls',(Br rs A).ls=some ls'->∃ls,A.ls=some ls/\ls'=ls.map (aMb rs):=by
 unfold Br
 grind
theorem SQ{rs:Γ Nat}{L:bM}:∀ {l:Γ Nat},QG rs L l=true->∀r∈l,∀A ls,b5 L r=some A->A.ls=some ls->Zf rs (jF ls)=true
 | [],_,r,hr,_,_,_,_=>by grind
 | x::l,h,r,hr,A,ls,hA,hls=>by
  simp[QG]at h;rcases aW.1 hr with rfl | hr
  ·have:=h.1;rw[hA]at this;simp[hls]at this;exact this
  ·exact SQ h.2 r hr A ls hA hls
theorem Un:∀(rs:Γ Nat) (s:Nat),s<rs.length->IV rs s∈rs
 | [],s,h=>by grind
 | x::rs,0,_=>by simp[IV]
 | x::rs,s+1,h=>aM _ (Un rs s (by grind))
theorem aEN:∀(rs:Γ Nat),Bk rs=true->∀s u,s<rs.length->u<rs.length->IV rs s=IV rs u->s=u
 | [],_,s,u,h,_,_=>by grind
 | x::rs,hn,s,u,h1,h2,he=>by
  simp[Bk]at hn;have hx:∀s,s<rs.length->IV rs s≠x:=λs hs e=>by
   grind [Un,Bl]
  cases s with
  | zero =>
   cases u with
   | zero=>rfl
   | succ u=>exact absurd he.symm (hx u (by grind))
  | succ s =>
   cases u with
   | zero=>exact absurd he (hx s (by grind))
   | succ u=>rw[aEN rs hn.2 s u (by grind) (by grind) he]
theorem Lx{rs:Γ Nat}:∀ {l:Γ Nat},Zf rs l=true->∀r∈l,yW r rs=true
 | [],_,r,h=>by grind
 | a::s,h,r,hr=>by
  simp[Zf]at h;rcases aW.1 hr with rfl | hr
  ·exact h.1
  ·exact Lx h.2 r hr
theorem Uo{rs:Γ Nat}:∀ {E:gK},Zg rs E=true->∀i,∀r∈II (E.get i),yW r rs=true
 | [],_,i,r,h=>by grind [pD,II,uL]
 | (j,p)::E,h,i,r,hr=>by
  simp[Zg]at h;simp[pD]at hr;cases hj:cC j i with
  | true=>rw[hj]at hr;exact Lx h.1 r hr
  | false=>rw[hj]at hr;exact Uo h.2 i r hr
theorem aEO(rs:Γ Nat):∀(E:gK) (i:Nat),(aO4 rs E).get i=bDE rs (E.get i)
 | [],i=>rfl
 | (j,p)::s,i=>by
  simp[aO4,pD];cases h:cC j i with
  | true=>rfl
  | false=>exact aEO rs s i
theorem aEP{rs:Γ Nat}{r:Nat}{rg:Option (Nat×Nat)}{v:Value}(h:Pm L V r rg v)(hm:yW r rs=true):Pm (OD rs L) (λs=>V (IV rs s)) (Ul r rs) rg v:=by
 obtain⟨B,hB,h1,h2⟩:=h;obtain⟨e1,e2⟩:=Um rs L r hm;refine⟨Br rs B,by grind,λhr=>by lia,?_⟩
 grind [aEL,aBc]
theorem QH{w0:World}{G:Nat->Prop}{rs:Γ Nat}:∀ {ls:Γ gJ} {cs:Γ Value},iL w0 G L V ls cs->(∀r∈jF ls,yW r rs=true)->iL w0 G (OD rs L) (λs=>V (IV rs s)) (ls.map (aMb rs)) cs
 | [],_,h,_=>h
 | l::ls,_,⟨v,s,h,h1,h2⟩,hm=>by
  refine⟨v,s,h,?_,QH h2 λr hr=>hm r (by grind [jF])⟩;cases l with
  | osl r rg=>exact aEP h1 (hm r (by simp[jF,Lr]))
  | _=>exact h1
theorem aEQ{w0:World}{G:Nat->Prop}{rs:Γ Nat}{A:dE}{v:Value}(h:nQ w0 G L V A v)(hm:∀r∈uL A,yW r rs=true):nQ w0 G (OD rs L) (λs=>V (IV rs s)) (aO3 rs A) v:=by
 cases A with
 | osl r rg=>exact aEP h (hm r (by simp[uL]))
 | optr r i p =>
  obtain⟨B,hB,h2⟩:=h;obtain⟨e1,e2⟩:=Um rs L r (hm r (by simp[uL]));refine⟨Br rs B,by grind,?_⟩
  grind [aEL,aBc]
 | rcd t ls =>
  obtain⟨cs,h1,h2,h3⟩:=h;exact⟨cs,h1,by grind,QH h3 hm⟩
 | bptr r o t =>
  obtain⟨B,ls,b,off,hB,h1,h2,h3,h4⟩:=h;obtain⟨e1,e2⟩:=Um rs L r (hm r (by simp[uL]));refine⟨Br rs B,ls.map (aMb rs),b,off,by grind,aKq.1 ls h1,?_,h3,by grind [aBc]⟩
  lia
 | _=>exact h
theorem QI{w0:World}{G:Nat->Prop}{rs:Γ Nat}:∀ {ats:Γ dE} {vs:Γ Value},tV w0 G L V ats vs->(∀r∈ats.flatMap uL,yW r rs=true)->tV w0 G (OD rs L) (λs=>V (IV rs s)) (ats.map (aO3 rs)) vs
 | [],_,h,_=>h
 | A::s,vs,⟨v,r,h,h1,h2⟩,ha=>⟨v,r,h,aEQ h1 (λr hr=>ha r (by grind)),QI h2 (λr hr=>ha r (by grind))⟩
theorem bQ.renum(hR:bQ n K w0 G w a E L V own){rs:Γ Nat}(hn:Bk rs=true)(h:Zg rs E=true)(hh:QG rs L rs=true):bQ n K w0 G w a (aO4 rs E) (OD rs L) (λs=>V (IV rs s)) (λs=>own (IV rs s)) where
 glob:=hR.glob
 kept:=hR.kept
 size:=hR.size
 defers:=hR.defers
 glt:=hR.glt
 gref:=hR.gref
 gsub:=hR.gsub
 gold:=hR.gold
 gup:=hR.gup
 heap:=λr A hr=>by
  obtain⟨_,B,hB,rfl⟩:=vA rs L r hr;exact aEM.2 (hR.heap _ B hB)
 good:=λr A hr=>by
  obtain⟨_,B,hB,rfl⟩:=vA rs L r hr;exact hR.good _ B hB
 nodup:=λr A hr=>by
  obtain⟨_,B,hB,rfl⟩:=vA rs L r hr;exact hR.nodup _ B hB
 apart:=λr s A B hr hs hrs=>by
  obtain⟨l1,A',g1,rfl⟩:=vA rs L r hr;obtain⟨l2,B',g2,rfl⟩:=vA rs L s hs;exact hR.apart _ _ A' B' g1 g2 λe=>hrs (aEN rs hn r s l1 l2 e)
 boxs:=λr A ls hr hls=>by
  obtain⟨l1,B,hB,rfl⟩:=vA rs L r hr;obtain⟨l0,h0,rfl⟩:=aKq.2 ls hls;obtain⟨b,off,cs,k1,k3,k4,k5,k6⟩:=hR.boxs _ B l0 hB h0;rw[aBc];exact⟨b,off,cs,k1,k3,by grind,k5,QH k6 λu hu=>Lx (SQ hh _ (Un rs r l1) B l0 hB h0) u hu⟩
 small:=λr A q hr hq=>by
  obtain⟨_,B,hB,rfl⟩:=vA rs L r hr;rw[aSH]at hq;obtain⟨g1,g2⟩:=hR.small _ B q hB hq
  grind [aO5,aEM]
 env:=λi=>by
  rw[aEO];have hi:=hR.env i;have hm:=Uo h i;generalize E.get i=p at hi hm;cases p with
  | a A=>exact aEQ hi hm
  | tup xs=>obtain⟨vs,hv,hr⟩:=hi;exact⟨vs,hv,QI hr hm⟩
  | fn f xs=>obtain⟨vs,hv,hr⟩:=hi;exact⟨vs,hv,QI hr hm⟩
end
section
variable {P:Program} {n:Nat} {q:Nat->Value} {K:gU} {G:Nat->Prop} {w0 w:World} {a:Act} {V:Nat->Value} {own:Nat->Γ Nat}
theorem getD_some{tm:Array Value}{t:Nat}{v:Value}(h:tm.getD t undef=v)(hv:v≠undef):tm[t]? = some v:=by
 rw[iI]at h
 grind
variable {ops:Array Oper} {j:Nat} {o:Oper} {d:Bool}
theorem aId{t:Nat}(ho:ops[j]? = some o)(hd:o.dst=some t)(ht:a.tmps.getD t undef = .bool d):yielded ops a.tmps j=some d:=by
 unfold yielded;have:=getD_some ht (by intro h;cases h)
 grind
theorem aIe{t:Nat}{x:Array Value}(ho:ops[j]? = some o)(hd:o.dst=some t)(ht:a.tmps.getD t undef = .tuple x):yielded ops a.tmps j=none:=by
 unfold yielded;rw[iI]at ht
 grind
theorem nG{S S':St}{b:Bool}(hR:bQ n K w0 G w a S.E S.L V own)(hd:j5 q a S)(h:IU ops.toList S o.guard=some (b,S'))(hc:iD S'.cs) :
  fI o (yielded ops a.tmps)=b/\S'.E=S.E/\S'.L=S.L/\j5 q a S'/\iD S.cs:=by
 unfold IU at h;split at h
 ·cases h;exact⟨by grind [fI],rfl,rfl,hd,hc⟩
 ·rename_i j want hg;split at h
  ·rename_i p hp;rw[Fh]at hp;have hp':ops[j]? = some p:=by grind
   split at h
   ·rename_i t ht;split at h
    ·rename_i x hx;cases h;have hv:=hR.valEq (x := .tmp t) (v := .tuple x) (by grind [opnd]);refine⟨?_,rfl,rfl,hd,hc⟩;simp[fI,hg,aIe hp' ht hv.1]
    ·split at h
     ·rename_i d S1 hdec;cases h;obtain⟨h1,h2,h3,h4,h5⟩:=tE hR hd hdec hc;refine⟨?_,h2,h3,h4,h5⟩;simp[fI,hg,aId hp' ht h1];cases d <;> cases want <;> rfl
     lia
   lia
  lia
theorem rE{S S':St}{E:gK}{L:bM}{cs:Γ Prop}{d:Option Nat}{pv:PV}{v:Value}{w':World}{V':Nat->Value}{own':Nat->Γ Nat}
  (h:TV n S E L cs d pv=some S') (hR:bQ n K w0 G w' a E L V' own') (hd:j5 q a S) (hv:mS w0 G L V' pv v) :
  bQ n K w0 G w' (a.put d v) S'.E S'.L V' own'/\j5 q (a.put d v) S'/\S'.cs=S.cs++cs:=by
 cases d with
 | none =>
  cases h;exact⟨hR,hd,rfl⟩
 | some d =>
  simp[TV]at h;split at h
  ·rename_i hlt;cases h;simp only[aV]at hlt;exact⟨hR.put (oB hlt.1) hv,hd.put d v (λhm=>by grind [Bl]) rfl rfl,rfl⟩
  lia
theorem jW{S S':St}{E:gK}{L:bM}{cs:Γ Prop}{d:Option Nat}{pv:PV}(h:TV n S E L cs d pv=some S'):S'.cs=S.cs++cs:=by
 cases d with
 | none=>cases h;rfl
 | some d =>
  grind [TV]
theorem qI{S S':St}{t:Nat}(h:BM S t=some (d,S'))(hc:iD S'.cs):iD S.cs:=by
 grind [BM,dY]
theorem Bf{all:Γ Oper}{S S':St}{g:Option (Nat×Bool)}{b:Bool}(h:IU all S g=some (b,S'))(hc:iD S'.cs):iD S.cs:=by
 unfold IU at h;split at h
 all_goals grind [qI]
theorem wZ{tab:Γ TI}{ext:A7}{wr q:Bool}{all:Γ Oper}{S S':St}(h:yI tab ext wr n q all S o=some S')(hc:iD S'.cs):iD S.cs:=by
 unfold yI at h;split at h
 ·lia
 ·have:=jW h
  grind [Bf]
 ·rename_i S1 hg;refine Bf hg ?_;split at h
  ·split at h
   ·have:=jW h
    grind [qI]
   lia
  ·split at h
   ·split at h
    ·have:=jW h
     grind [dY]
    lia
   ·split at h
    ·have:=jW h
     grind [dY]
    lia
theorem QJ{tab:Γ TI}{ext:A7}{wr q:Bool}{all:Γ Oper}:∀ {l:Γ Oper} {S S':St} (h:QE tab ext wr n q all l S=some S') (hc:iD S'.cs),iD S.cs
 | [],S,S',h,hc=>by cases h;lia
 | o::r,S,S',h,hc=>by
  simp[QE]at h;split at h
  ·rename_i S1 h1;exact wZ h1 (QJ h hc)
  ·cases h
theorem Up{ρ:Operand->Value}{c x y:Operand}(ho:o.op = .pick c x y)(hc:ρ c = .bool d)(w:World):(execOp ρ o).run P w = .ok (.value (if d then ρ x else ρ y)) w:=by
 simp[execOp,ho,hc];rfl
theorem aER{L:bM}{p q:PV}{u v:Value}(hp:mS w0 G L V p u)(hq:mS w0 G L V q v):mS w0 G L V (cond d p q) (if d then u else v):=by
 lia
variable {wr:Bool}
theorem Uq{tab:Γ TI}{ext:A7}(hT:kZ P tab)(hX:q8 P ext){S S':St}(hR:bQ n K w0 G w a S.E S.L V own)(hd:j5 q a S)
  (h:yI tab ext wr n false ops.toList S o=some S') (hc:iD S'.cs) {Kt:Act->World->Prop} {Q:Exit->Act->World->Prop}
  (hK:∀a' w0' G' w' V' own',bQ n K w0' G' w' a' S'.E S'.L V' own'->j5 q a' S'->Kt a' w') :
  if fI o (yielded ops a.tmps)then o.wp P a w Kt Q else Kt (a.put o.dst undef) w:=by
 unfold yI at h;split at h
 ·lia
 ·rename_i S1 hg;have hcs:=jW h;rw[hcs]at hc;obtain⟨h1,h2,h3,h4,h5⟩:=nG hR hd hg (dY.1 hc).1;have hR1:bQ n K w0 G w a S1.E S1.L V own:=by lia
  obtain⟨g1,g2,_⟩:=rE (v:=undef) h hR1 h4 ⟨rfl,trivial⟩
  grind
 ·rename_i S1 hg;have hc1:iD S1.cs:=by
   split at h
   ·split at h
    ·have hcs:=jW h
     grind [qI]
    lia
   ·dsimp only at h
    split at h
    ·have hcs:=jW h
     grind [dY]
    lia
  obtain⟨h1,h2,h3,h4,h5⟩:=nG hR hd hg hc1;rw[h1];have hR1:bQ n K w0 G w a S1.E S1.L V own:=by lia
  split at h
  ·rename_i c x y ho;split at h
   ·rename_i d S2 hdec;have hcs:=jW h;rw[hcs]at hc;obtain⟨k1,k2,k3,k4,k5⟩:=tE hR1 h4 hdec (dY.1 hc).1;have hR2:bQ n K w0 G w a S2.E S2.L V own:=by lia
    obtain⟨g1,g2,_⟩:=rE h hR2 k4 (aER (d:=d) (hR2.opnd x) (hR2.opnd y));exact kN (w':=w) (Up ho k1 w) (hK _ _ _ _ _ _ g1 g2)
   lia
  ·dsimp only at h
   split at h
   ·rename_i cs pv E L hop;have hcs:=jW h;rw[hcs]at hc;refine aLY hT hX hR1 hop (dY.1 hc).2 λv w0' G' w' V' own' hR' hv=>?_;obtain⟨g1,g2,_⟩:=rE h hR' h4 hv
    grind
   lia
theorem Zh{tab:Γ TI}{ext:A7}(hT:kZ P tab)(hX:q8 P ext){wr:Bool}{ops:Array Oper}{Q:Exit->Act->World->Prop}:∀ {w0:World} {G:Nat->Prop} {l:Γ Oper} {S S':St} {a:Act} {w:World} {V:Nat->Value} {own:Nat->Γ Nat} (hR:bQ n K w0 G w a S.E S.L V own) (hd:j5 q a S)
  (h:QE tab ext wr n false ops.toList l S=some S') (hc:iD S'.cs) (hK:∀a' w0' G' w' V' own',bQ n K w0' G' w' a' S'.E S'.L V' own'->j5 q a' S'->Q .normal a' w'),wpList P ops Q l a w
 | w0,G,[],S,S',a,w,V,own,hR,hd,h,hc,hK=>by
  cases h;exact hK _ _ _ _ _ _ hR hd
 | w0,G,o::r,S,S',a,w,V,own,hR,hd,h,hc,hK=>by
  simp[QE]at h;split at h
  ·rename_i S1 h1;refine wpList_step λK hKK=>?_;exact Uq hT hX hR hd h1 (QJ h hc) λa' w0' G' w' V' own' hR' hd'=>hKK _ _ (Zh hT hX hR' hd' h hc hK)
  ·cases h
theorem IX{tab:Γ TI}{ext:A7}(hT:kZ P tab)(hX:q8 P ext){S S':St}(hR:bQ n K w0 G w a S.E S.L V own)(hd:j5 q a S)
  (h:yI tab ext wr n true ops.toList S o=some S') (hc:iD S'.cs) :
  ∃v,oA P ops [] o v a w/\bQ n K w0 G w (a.put o.dst v) S'.E S'.L V own/\j5 q (a.put o.dst v) S':=by
 unfold yI at h;split at h
 ·lia
 ·rename_i S1 hg;have hcs:=jW h;rw[hcs]at hc;obtain⟨h1,h2,h3,h4,h5⟩:=nG hR hd hg (dY.1 hc).1;have hR1:bQ n K w0 G w a S1.E S1.L V own:=by lia
  obtain⟨g1,g2,_⟩:=rE (v:=undef) h hR1 h4 ⟨rfl,trivial⟩;exact⟨undef,.inr ⟨h1,rfl⟩,g1,g2⟩
 ·rename_i S1 hg;have hc1:iD S1.cs:=by
   split at h
   ·split at h
    ·have hcs:=jW h
     grind [qI]
    lia
   ·dsimp only at h
    split at h
    ·have hcs:=jW h
     grind [dY]
    lia
  obtain⟨h1,h2,h3,h4,h5⟩:=nG hR hd hg hc1;have hR1:bQ n K w0 G w a S1.E S1.L V own:=by lia
  split at h
  ·rename_i c x y ho;split at h
   ·rename_i d S2 hdec;have hcs:=jW h;rw[hcs]at hc;obtain⟨k1,k2,k3,k4,k5⟩:=tE hR1 h4 hdec (dY.1 hc).1;have hR2:bQ n K w0 G w a S2.E S2.L V own:=by lia
    obtain⟨g1,g2,_⟩:=rE h hR2 k4 (aER (d:=d) (hR2.opnd x) (hR2.opnd y));refine⟨_,.inl ⟨h1,λw' k=>?_⟩,g1,g2⟩;unfold oK;rw[Up ho k1 w'];exact⟨rfl,rfl⟩
   lia
  ·dsimp only at h
   split at h
   ·rename_i cs pv hop;have hcs:=jW h;rw[hcs]at hc;obtain⟨v,hv,hq⟩:=aEF hT hX hR1 hop (dY.1 hc).2;obtain⟨g1,g2,_⟩:=rE h hR1 h4 hv;exact⟨v,.inl ⟨h1,hq⟩,g1,g2⟩
   lia
def aES(all:Γ Oper)(S:St)(o:Oper):Option St :=
 match IU all S o.guard with
 | none=>none
 | some (false,S)=>some S
 | some (true,S)=>match o.op with
  | .pick (.tmp c) _ _=>match BM S c with
   | some (_,S)=>some S
   | none=>none
  | _=>some S
def Ur(all:Γ Oper):Γ Nat->St->Option St
 | [],S=>some S
 | i::r,S=>match TU all i with
  | some o=>match aES all S o with
   | some S=>Ur all r S
   | none=>none
  | none=>none
def QK(tab:Γ TI)(ext:A7)(wr:Bool)(n:Nat)(ops:Array Oper)(listed:Array Bool)(S:St):Γ Nat->Option (Nat×St)
 | []=>none
 | i::r=>match TU ops.toList i,AX .any ops listed i with
  | some o,true=>match yI tab ext wr n true ops.toList S o with
   | some S'=>some (i,S')
   | none=>QK tab ext wr n ops listed S r
  | _,_=>QK tab ext wr n ops listed S r
def Zi(tab:Γ TI)(ext:A7)(n:Nat)(all:Γ Oper)(S:St)(o:Oper):Option St :=
 match IU all S o.guard with
 | some (true,S)=>match opK tab ext S.E S.L o.op with
  | some (cs,pv,L)=>TV n S S.E L cs o.dst pv
  | none=>none
 | _=>none
def aX5(S:St)(op:Op):St:=⟨S.path,S.dec,(SP op (S.E,S.L)).1,(SP op (S.E,S.L)).2,S.cs,S.pins⟩
def SR(tab:Γ TI)(ext:A7)(wr:Bool)(n:Nat)(ops:Array Oper)(listed:Array Bool)(i:Nat)(S:St)(o:Oper):Option St :=
 match Zi tab ext n ops.toList S o with
 | some S'=>some S'
 | none=>match TW ops listed i with
  | true=>yI tab ext wr n false ops.toList S o
  | false=>match yI tab ext wr n true ops.toList (aX5 S o.op) o with
   | some S'=>some S'
   | none=>Zi tab ext n ops.toList (aX5 S o.op) o
def DE(E:gK)(L:bM)(E':gK)(L':bM):Prop:=(E,L)=(E',L')
def Di(E:gK):Nat->gK->gK
 | 0,acc=>acc
 | k+1,acc=>Di E k (match E.get k with
  | .a .junk=>acc
  | p=>(k,p)::acc)
def aV8(n:Nat)(A B:St):St:=⟨A.path,[],Di A.E n [],A.L,A.cs++(B.cs++[DE (Di A.E n []) A.L (Di B.E n []) B.L]),A.pins⟩
theorem QL(E:gK)(i:Nat):∀(k:Nat) (acc:gK),k<=i->(Di E k acc).get i=acc.get i
 | 0,acc,_=>rfl
 | k+1,acc,h=>by
  unfold Di;rw[QL E i k _ (by lia)];split
  ·rfl
  ·show cond (cC k i) (E.get k) (pD acc i)=pD acc i
   grind [bF]
theorem aET(E:gK)(i:Nat):∀(k:Nat) (acc:gK),i<k->(Di E k acc).get i=E.get i\/(E.get i = .a .junk/\(Di E k acc).get i=acc.get i)
 | 0,acc,h=>absurd h (Nat.not_lt_zero _)
 | k+1,acc,h=>by
  unfold Di;by_cases hk:i<k
  ·rcases aET E i k (match E.get k with
    | .a .junk=>acc
    | p=>(k,p)::acc) hk with h1 | ⟨h1,h2⟩
   ·lia
   ·refine .inr ⟨h1,h2.trans ?_⟩;split
    ·rfl
    ·show cond (cC k i) (E.get k) (pD acc i)=pD acc i
     grind [bF]
  ·have hik:i=k:=by lia
   subst hik;rw[QL E i i _ (aT _)];split
   ·lia
   simp[pD]
theorem bQ.tab{n:Nat}{K:gU}{G:Nat->Prop}{w0 w:World}{a:Act}{E:gK}{L:bM}{V:Nat->Value}{own:Nat->Γ Nat}(h:bQ n K w0 G w a E L V own):bQ n K w0 G w a (Di E n []) L V own:=by
 have he:∀i,mS w0 G L V ((Di E n []).get i) (a.tmps.getD i undef):=λi=>by
  by_cases hi:i<n
  ·rcases aET E i n [] hi with e | ⟨e1,e2⟩
   ·rw[e];exact h.env i
   ·have:=h.env i;rw[e1]at this;rw[e2];exact this
  ·rw[QL E i n [] (by lia)];exact trivial
 exact { h with env:=he }
def aKr:PV->Option Nat
 | .a (.osl r _)=>some r
 | .a (.optr r _ _)=>some r
 | .a (.bptr r _ _)=>some r
 | _=>none
def aIf(A B:gK):Nat->Bool
 | 0=>false
 | k+1=>match aKr (A.get k),aKr (B.get k)with
  | some r,some s=>match cC r s with
   | true=>aIf A B k
   | false=>true
  | _,_=>aIf A B k
def swL(m:Nat):Nat->Γ Nat->Γ Nat
 | 0,acc=>acc
 | k+1,acc=>swL m k ((match cC k m with
  | true=>m+1
  | false=>match cC k (m+1)with
   | true=>m
   | false=>k)::acc)
def idL:Nat->Γ Nat->Γ Nat
 | 0,acc=>acc
 | k+1,acc=>idL k (k::acc)
def aSI(A B:gK):Nat->Γ Nat->Γ Nat
 | 0,acc=>acc
 | k+1,acc=>match aKr (A.get k),aKr (B.get k)with
  | some r,some s=>aSI A B k (acc.set r s)
  | _,_=>aSI A B k acc
def rsL(n m:Nat)(A B:gK)(len:Nat):Γ Nat:=match Bk (aSI A B n (idL len []))with
 | true=>aSI A B n (idL len [])
 | false=>swL m len []
def aKs(n m:Nat)(A B:St):Option St:=match aIf A.E B.E n with
 | false=>some B
 | true=>match Bk (rsL n m A.E B.E B.L.length)&&(Zg (rsL n m A.E B.E B.L.length) B.E&&QG (rsL n m A.E B.E B.L.length) B.L (rsL n m A.E B.E B.L.length))with
  | true=>some ⟨B.path,B.dec,aO4 (rsL n m A.E B.E B.L.length) B.E,OD (rsL n m A.E B.E B.L.length) B.L,B.cs,B.pins⟩
  | false=>none
theorem Us{n m:Nat}{A B B':St}(h:aKs n m A B=some B'):B'.cs=B.cs/\B'.pins=B.pins/\∀ {k:Nat} {K:gU} {G:Nat->Prop} {w0 w:World} {a:Act} {V:Nat->Value} {own:Nat->Γ Nat},bQ k K w0 G w a B.E B.L V own->∃V' own',bQ k K w0 G w a B'.E B'.L V' own':=by
 unfold aKs at h;split at h
 ·grind
 ·split at h
  ·rename_i hc;simp at hc;cases h;exact⟨rfl,rfl,λhr=>⟨_,_,hr.renum hc.1 hc.2.1 hc.2.2⟩⟩
  lia
def aO6:Γ Nat->Γ Nat->Bool
 | [],[]=>true
 | a::r,b::s=>match cC a b with
  | true=>aO6 r s
  | false=>false
 | _,_=>false
theorem QM:∀ {l m:Γ Nat},aO6 l m=true->l=m
 | [],[],_=>rfl
 | [],_::_,h=>by cases h
 | _::_,[],h=>by cases h
 | a::r,b::s,h=>by
  unfold aO6 at h;split at h
  ·rename_i e;rw[bF e,QM h]
  ·cases h
def Bs(tab:Γ TI)(ext:A7)(wr:Bool)(n:Nat)(ops:Array Oper):Nat->Array Bool->St->Option St
 | 0,listed,S=>match gL .any ops listed with
  | []=>some S
  | _=>none
 | m+1,listed,S=>match gL .any ops listed with
  | []=>some S
  | i::r=>match Ur ops.toList (i::r) S with
   | none=>none
   | some S=>match QK tab ext wr n ops listed S (i::r)with
    | some (j,S')=>Bs tab ext wr n ops m (listed.setIfInBounds j true) S'
    | none=>match r,TU ops.toList i with
     | [],some o=>match SR tab ext wr n ops listed i S o with
      | some S'=>Bs tab ext wr n ops m (listed.setIfInBounds i true) S'
      | none=>none
     | [j],some o=>match TU ops.toList j with
      | some p=>match SR tab ext wr n ops listed i S o,SR tab ext wr n ops listed j ⟨S.path,S.dec,S.E,S.L,[],S.pins⟩ p with
       | some S1,some S2=>match Bs tab ext wr n ops m (listed.setIfInBounds i true) S1,Bs tab ext wr n ops m (listed.setIfInBounds j true) S2 with
        | some A,some B=>match aKs n S.L.length A B with
         | some B'=>match aO6 A.pins B'.pins with
          | true=>some (aV8 n A B')
          | false=>none
         | none=>none
        | _,_=>none
       | _,_=>none
      | none=>none
     | _,_=>none
theorem aO7{all:Γ Oper}{S S':St}(h:aES all S o=some S')(hc:iD S'.cs):iD S.cs:=by
 grind [aES,Bf,qI]
theorem aIg{S S':St}(hR:bQ n K w0 G w a S.E S.L V own)(hd:j5 q a S)(h:aES ops.toList S o=some S')(hc:iD S'.cs) :
  S'.E=S.E/\S'.L=S.L/\j5 q a S':=by
 unfold aES at h;split at h
 ·lia
 ·rename_i S1 hg;cases h;obtain⟨_,h2,h3,h4,_⟩:=nG hR hd hg hc
  lia
 ·rename_i S1 hg;split at h
  ·split at h
   ·rename_i hdec;cases h;obtain⟨_,h2,h3,h4,_⟩:=nG hR hd hg (qI hdec hc);have hR1:bQ n K w0 G w a S1.E S1.L V own:=by lia
    obtain⟨_,k2,k3,k4,_⟩:=tE hR1 h4 hdec hc
    lia
   lia
  ·cases h;obtain⟨_,h2,h3,h4,_⟩:=nG hR hd hg hc
   lia
theorem OF{all:Γ Oper}:∀ {is:Γ Nat} {S S':St},Ur all is S=some S'->iD S'.cs->iD S.cs
 | [],_,_,h,hc=>by cases h;lia
 | i::r,S,S',h,hc=>by
  simp[Ur]at h;split at h
  ·split at h
   ·rename_i h1;exact aO7 h1 (OF h hc)
   ·cases h
  ·cases h
theorem y5{ops:Array Oper}:∀ {is:Γ Nat} {S S':St},bQ n K w0 G w a S.E S.L V own->j5 q a S->Ur ops.toList is S=some S'->iD S'.cs->S'.E=S.E/\S'.L=S.L/\j5 q a S'
 | [],_,_,_,hd,h,hc=>by cases h;lia
 | i::r,S,S',hR,hd,h,hc=>by
  simp[Ur]at h;split at h
  ·split at h
   ·rename_i S1 h1;obtain⟨e1,e2,e3⟩:=aIg hR hd h1 (OF h hc);obtain⟨f1,f2,f3⟩:=y5 (S:=S1) (by rw[e1,e2];exact hR) e3 h hc;exact⟨f1.trans e1,f2.trans e2,f3⟩
   ·cases h
  ·cases h
theorem IY{tab:Γ TI}{ext:A7}{wr:Bool}{ops:Array Oper}{listed:Array Bool}{S:St}{j:Nat}{S':St}:∀ {rs:Γ Nat},QK tab ext wr n ops listed S rs=some (j,S') ->
  j∈rs/\∃o,ops[j]? = some o/\AX .any ops listed j=true/\yI tab ext wr n true ops.toList S o=some S'
 | [],h=>by cases h
 | i::r,h=>by
  simp[QK]at h;have rest:QK tab ext wr n ops listed S r=some (j,S')->j∈i::r/\∃o,ops[j]? = some o/\AX .any ops listed j=true/\yI tab ext wr n true ops.toList S o=some S':=λh=>by
   obtain⟨h1,h2⟩:=IY h;exact⟨aM _ h1,h2⟩
  grind [Fh]
theorem aEU{tab:Γ TI}{ext:A7}{all:Γ Oper}{S S':St}(h:Zi tab ext n all S o=some S')(hc:iD S'.cs):iD S.cs:=by
 unfold Zi at h;split at h
 ·split at h
  ·have:=jW h
   grind [Bf,dY]
  lia
 lia
variable {listed:Array Bool}
theorem IZ{tab:Γ TI}{ext:A7}{i:Nat}{S S':St}(h:SR tab ext wr n ops listed i S o=some S')(hc:iD S'.cs):iD S.cs:=by
 unfold SR at h;split at h
 ·grind [aEU]
 ·split at h
  ·grind [wZ]
  ·split at h
   ·rename_i h1;cases h;have:=wZ h1 hc;exact this
   ·have:=aEU h hc;exact this
theorem aEV{tab:Γ TI}{ext:A7}(hT:kZ P tab)(hX:q8 P ext){S S':St}(hR:bQ n K w0 G w a S.E S.L V own)(hd:j5 q a S)
  (h:Zi tab ext n ops.toList S o=some S') (hc:iD S'.cs) {Kt:Act->World->Prop} {Q:Exit->Act->World->Prop}
  (hK:∀a' w0' G' w' V' own',cQ [] w w'->bQ n K w0' G' w' a' S'.E S'.L V' own'->j5 q a' S'->Kt a' w') :
  if fI o (yielded ops a.tmps)then o.wp P a w Kt Q else Kt (a.put o.dst undef) w:=by
 unfold Zi at h;split at h
 ·rename_i S1 hg;split at h
  ·rename_i cs pv L hop;have hcs:=jW h;rw[hcs]at hc;obtain⟨h1,h2,h3,h4,h5⟩:=nG hR hd hg (dY.1 hc).1;rw[h1];have hR1:bQ n K w0 G w a S1.E S1.L V own:=by lia
   refine aO2 hT hX hR1 hop (dY.1 hc).2 λv w0' G' w' V' own' k hR' hv=>?_;obtain⟨g1,g2,_⟩:=rE h hR' h4 hv
   grind
  lia
 lia
theorem OG{tab:Γ TI}{ext:A7}(hT:kZ P tab)(hX:q8 P ext){i:Nat}{S S':St}(hR:bQ n K w0 G w a S.E S.L V own)(hd:j5 q a S)
  (h:SR tab ext wr n ops listed i S o=some S') (hc:iD S'.cs) {Kt:Act->World->Prop} {Q:Exit->Act->World->Prop}
  (hK:∀a' w0' G' w' V' own',(TW ops listed i=true\/cQ [] w w')->bQ n K w0' G' w' a' S'.E S'.L V' own'->j5 q a' S'->Kt a' w') :
  if fI o (yielded ops a.tmps)then o.wp P a w Kt Q else Kt (a.put o.dst undef) w:=by
 unfold SR at h;split at h
 ·rename_i h1;cases h;exact aEV hT hX hR hd h1 hc λa' w0' G' w' V' own' k=>hK a' w0' G' w' V' own' (.inr k)
 ·split at h
  ·rename_i hb;exact Uq hT hX hR hd h hc λa' w0' G' w' V' own'=>hK a' w0' G' w' V' own' (.inl hb)
  ·obtain⟨w1,G1,hR1⟩:=Uh hR o.op;have hd1:j5 q a (aX5 S o.op):=hd;split at h
   ·rename_i h1;cases h;obtain⟨v,hy,g1,g2⟩:=IX hT hX hR1 hd1 h1 hc;rcases hy with ⟨hw,hv⟩ | ⟨hw,rfl⟩
    ·rw[hw];refine Rp (C:=cQ [] w) (K:=λa'=>a'=a.put o.dst v) (dD _ _) (λa' w' k e=>by subst e;exact hK _ _ _ _ _ _ (.inr k) (g1.ext k) g2) ⟨v,λw' k=>?_,rfl⟩;have:=hv w' k;unfold oK at this ⊢;generalize (execOp a.eval o).run P w'=r at *;cases r with
     | ok nx w2 =>
      cases nx <;> simp[s6]at this ⊢
      case value u=>lia
      case skip=>lia
      case enter f args=>exact⟨this.1,this.2.mono λe w3 hh=>⟨hh.1,k.trans hh.2⟩⟩
     | halt x w2=>grind [s6]
    grind [dD]
   ·exact aEV hT hX hR1 hd1 h hc λa' w0' G' w' V' own' k=>hK a' w0' G' w' V' own' (.inr k)
theorem wA{tab:Γ TI}{ext:A7}{wr:Bool}{ops:Array Oper}{S':St}:∀ {m:Nat} {listed:Array Bool} {S:St},Bs tab ext wr n ops m listed S=some S'->iD S'.cs->iD S.cs
 | 0,listed,S,h,hc=>by
  grind [Bs]
 | m+1,listed,S,h,hc=>by
  simp[Bs]at h;split at h
  ·lia
  ·split at h
   ·lia
   ·rename_i S1 hdec;refine OF hdec ?_;split at h
    ·rename_i j S2 hq;obtain⟨_,o,_,_,hst⟩:=IY hq;exact wZ hst (wA h hc)
    ·split at h
     ·split at h
      ·rename_i S2 hB;exact IZ hB (wA h hc)
      ·cases h
     ·split at h
      ·split at h
       ·rename_i S2 kx3.S hA hB;split at h
        ·rename_i A B hA2 hB2;split at h
         ·split at h
          ·cases h;exact IZ hA (wA hA2 (dY.1 hc).1)
          lia
         lia
        lia
       lia
      lia
     lia
theorem AG{tab:Γ TI}{ext:A7}(hT:kZ P tab)(hX:q8 P ext){wr:Bool}{ops:Array Oper}{Q:Exit->Act->World->Prop}(hs:Au ops=true)(hQ:∀c a w,¬Q (.panic c) a w){S':St}
  (hc:iD S'.cs) (hK:∀a' w0' G' w' V' own',bQ n K w0' G' w' a' S'.E S'.L V' own'->j5 q a' S'->Q .normal a' w'):∀ {w0:World} {G:Nat->Prop} {m:Nat} {listed:Array Bool} {S:St} {a:Act} {w:World} {V:Nat->Value} {own:Nat->Γ Nat},
  bQ n K w0 G w a S.E S.L V own->j5 q a S->Ks ops listed->Bs tab ext wr n ops m listed S=some S'->qG P ops Q [] m listed a w
 | w0,G,0,listed,S,a,w,V,own,hR,hd,hD,h=>by
  simp only[Bs]at h;split at h
  ·rename_i hr;cases h;exact λw1 k=>⟨hr,hK _ _ _ _ _ _ (hR.ext k) hd⟩
  lia
 | w0,G,m+1,listed,S,a,w,V,own,hR,hd,hD,h=>by
  simp only[Bs]at h;split at h
  ·rename_i hr;cases h;exact λw1 k=>⟨λ_=>hK _ _ _ _ _ _ (hR.ext k) hd,by grind⟩
  ·rename_i i r hr;split at h
   ·lia
   ·rename_i S1 hdec;split at h
    ·rename_i j S2 hq;obtain⟨hjr,o,ho,hf,hst⟩:=IY hq;rw[<- hr]at hjr;have hc2:iD S2.cs:=wA h hc;have hc1:iD S1.cs:=wZ hst hc2;obtain⟨e1,e2,e3⟩:=y5 hR hd hdec hc1;have hR1:bQ n K w0 G w a S1.E S1.L V own:=by lia
     obtain⟨v,hy,g1,g2⟩:=IX hT hX hR1 e3 hst hc2;refine OC ho (AY hs) hQ m listed a w hD (Rq ho hf) hjr hy ?_;exact AG hT hX hs hQ hc hK g1 g2 (hD.set hjr) h
    ·split at h
     ·rename_i o hno _;rw[Fh]at hno;have ho:ops[i]? = some o:=by grind
      split at h
      ·rename_i S2 hB;have hc2:iD S2.cs:=wA h hc;have hc1:iD S1.cs:=IZ hB hc2;obtain⟨e1,e2,e3⟩:=y5 hR hd hdec hc1;have hir:i∈gL .any ops listed:=by grind
       refine λw1 k=>⟨λh0=>by lia,λj hj=>?_⟩;have hji:j=i:=by grind
       subst hji;have hR1:bQ n K w0 G w1 a S1.E S1.L V own:=by rw[e1,e2];exact hR.ext k
       unfold wpOp;simp only[ho];have:=OG (Kt:=λa' w'=>(TW ops listed j=true\/cQ [] w1 w')/\qG P ops Q [] m (listed.setIfInBounds j true) a' w') (Q:=Q) hT hX hR1 e3 hB hc2 (λa' w0' G' w' V' own' hb hR' hd'=>⟨hb,AG hT hX hs hQ hc hK hR' hd' (hD.set hir) h⟩)
       lia
      lia
     ·rename_i j o hno _;split at h
      ·rename_i p hnp;rw[Fh]at hno hnp;have ho:ops[i]? = some o:=by grind
       have hp:ops[j]? = some p:=by grind
       split at h
       ·rename_i S2 kx3.S hA hB;split at h
        ·rename_i A B hA2 hB2;split at h
         case h_2=>lia
         rename_i B' hnB;obtain⟨nb1,nb2,nb3⟩:=Us hnB;split at h
         case h_2=>lia
         rename_i hpn;have hpn:=QM hpn;cases h;have hcA:iD A.cs:=(dY.1 hc).1;have hcB:iD B.cs:=by rw[<- nb1];exact(dY.1 (dY.1 hc).2).1
         have heq:(Di A.E n [],A.L)=(Di B'.E n [],B'.L):=(dY.1 (dY.1 hc).2).2.1;have hc2:iD S2.cs:=wA hA2 hcA;have hc3:iD kx3.S.cs:=wA hB2 hcB;have hc1:iD S1.cs:=IZ hA hc2;obtain⟨e1,e2,e3⟩:=y5 hR hd hdec hc1;have hKA:∀a' w0' G' w' V' own',bQ n K w0' G' w' a' A.E A.L V' own'->j5 q a' A->Q .normal a' w':=λa' w0' G' w' V' own' hr' hd' =>
          hK a' w0' G' w' V' own' hr'.tab ⟨λt d hl=>(by cases hl),hd'.2⟩
         have hKB:∀a' w0' G' w' V' own',bQ n K w0' G' w' a' B.E B.L V' own'->j5 q a' B->Q .normal a' w':=λa' w0' G' w' V' own' hr' hd'=>by
          obtain⟨V2,own2,hr2⟩:=nb3 hr';refine hK a' w0' G' w' V2 own2 ?_ ⟨λt d hl=>(by cases hl),?_⟩
          ·have k1:Di A.E n []=Di B'.E n []:=congrArg dB heq;have k2:A.L=B'.L:=congrArg sZ heq;show bQ n K w0' G' w' a' (Di A.E n []) A.L V2 own2;rw[k1,k2];exact hr2.tab
          ·show ∀t∈A.pins,a'.tmps.getD t undef=q t;rw[hpn,nb2];exact hd'.2
         have hir:i∈gL .any ops listed:=by grind
         have hjr:j∈gL .any ops listed:=by grind
         refine λw1 k=>⟨λh0=>by lia,λc hk=>?_⟩;have hkk:c=i\/c=j:=by grind
         have hR1:bQ n K w0 G w1 a S1.E S1.L V own:=by rw[e1,e2];exact hR.ext k
         rcases hkk with rfl | rfl
         ·unfold wpOp;simp only[ho];have:=OG (Kt:=λa' w'=>(TW ops listed c=true\/cQ [] w1 w')/\qG P ops Q [] m (listed.setIfInBounds c true) a' w') (Q:=Q) hT hX hR1 e3 hA hc2 (λa' w0' G' w' V' own' hb hR' hd'=>⟨hb,AG hT hX hs hQ hcA hKA hR' hd' (hD.set hir) hA2⟩)
          lia
         ·unfold wpOp;simp only[hp];have:=OG (Kt:=λa' w'=>(TW ops listed c=true\/cQ [] w1 w')/\qG P ops Q [] m (listed.setIfInBounds c true) a' w') (Q:=Q) (S:=⟨S1.path,S1.dec,S1.E,S1.L,[],S1.pins⟩) hT hX hR1 e3 hB hc3 (λa' w0' G' w' V' own' hb hR' hd'=>⟨hb,AG hT hX hs hQ hcB hKB hR' hd' (hD.set hjr) hB2⟩)
          lia
        lia
       lia
      lia
     lia
def xA:Γ Nat->Nat
 | []=>0
 | d::r=>Nat.lor (E3 1 d) (xA r)
theorem SS(x d:Nat):(1 <<< x).testBit d=decide (x=d):=by
 rw[Nat.one_shiftLeft,Nat.testBit_two_pow]
theorem wB:∀(l:Γ Nat) (d:Nat),(xA l).testBit d=decide (d∈l)
 | [],d=>by simp[xA]
 | x::r,d=>by
  have e:xA (x::r)=(1 <<< x) ||| xA r:=rfl
  rw[e,YL,wB r d,SS];by_cases hx:x=d
  ·subst hx;simp
  ·have:¬d=x:=λh=>hx h.symm;simp[hx,this]
structure OpI where
 looks:Nat
 dst:Nat
 pre:Nat
 loud:Bool
def aO8:Op->Bool
 | .call { callee := .builtin .len,.. }=>false
 | .call _=>true
 | .box _ _=>true
 | .alloc _=>true
 | .buildSlice _ _ _=>true
 | .makeSlice _ _ _=>true
 | .store _ _ _=>true
 | .convert _ _ _=>true
 | _=>false
def aO9(o:Oper):Γ Nat:=match o.dst with | some d=>[d] | none=>[]
def aEW(o:Oper):Γ Nat:=(o.after.toList.filter λe=>fV .any e).map λe=>e.on
def opI(ops:Array Oper)(o:Oper):OpI:=⟨xA (o.looksAt ops),xA (aO9 o),xA (aEW o),aO8 o.op⟩
def Ly(y:OpI)(j:Nat):Nat->Γ OpI->Bool
 | _,[]=>true
 | k,x::r=>match cC k j with
  | true=>true
  | false=>match cC (Jw y.pre (E3 1 k)) 0 with
   | false=>Ly y j (k+1) r
   | true=>cC (Jw (Nat.lor y.looks y.dst) x.dst) 0&&(cC (Jw x.looks y.dst) 0&&Ly y j (k+1) r)
def aKt(j:Nat):Γ OpI->Bool
 | []=>true
 | x::r => !cC (s8 x.pre j) 0&&aKt j r
def aIh(all:Γ OpI):Nat->Γ OpI->Bool
 | _,[]=>true
 | j,y::r=>cC (s8 y.pre j) 0&&(Ly y j 0 all&&((match y.loud with | true=>aKt j r | false=>true)&&aIh all (j+1) r))
def bDF(ops:Array Oper):Bool:=match ops.toList.map (opI ops)with
 | all=>aIh all 0 all
def aBd(tab:Γ TI)(ext:A7)(wr:Bool)(n:Nat)(ops:Array Oper):Nat->Array Bool->Γ Oper->St->Option St
 | _,_,[],S=>some S
 | j,listed,o::r,S=>match aO8 o.op with
  | false=>match yI tab ext wr n true ops.toList S o with
   | some S'=>aBd tab ext wr n ops (j+1) (listed.setIfInBounds j true) r S'
   | none=>none
  | true=>match yI tab ext wr n true ops.toList S o with
   | some S'=>aBd tab ext wr n ops (j+1) (listed.setIfInBounds j true) r S'
   | none=>match SR tab ext wr n ops listed j S o with
    | some S'=>aBd tab ext wr n ops (j+1) (listed.setIfInBounds j true) r S'
    | none=>none
theorem K1{tab:Γ TI}{ext:A7}{wr:Bool}{ops:Array Oper}{S':St}:∀ {l:Γ Oper} {j:Nat} {listed:Array Bool} {S:St},aBd tab ext wr n ops j listed l S=some S'->iD S'.cs->iD S.cs
 | [],j,listed,S,h,hc=>by cases h;lia
 | o::r,j,listed,S,h,hc=>by
  simp[aBd]at h;split at h
  ·split at h
   ·rename_i h1;exact wZ h1 (K1 h hc)
   ·cases h
  ·split at h
   ·rename_i h1;exact wZ h1 (K1 h hc)
   ·split at h
    ·rename_i h1;exact IZ h1 (K1 h hc)
    ·cases h
theorem SU{ops:Array Oper}{y:Oper}{j:Nat}:∀ {l:Γ Oper} {k:Nat},Ly (opI ops y) j k (l.map (opI ops))=true->∀(i:Nat) (x:Oper),l[i]? = some x->k+i<j ->
  (∃e∈y.after,fV .any e=true/\e.on=k+i)\/x.apart ops y=true
 | [],k,_,i,x,hx,_=>by grind
 | z::r,k,h,i,x,hx,hi=>by
  simp only[dG,Ly]at h;have hkj:cC k j=false:=yS (by lia);rw[hkj]at h;simp only at h;have rest:Ly (opI ops y) j (k+1) (r.map (opI ops))=true->∀i',i=i'+1->(∃e∈y.after,fV .any e=true/\e.on=k+i)\/x.apart ops y=true:=by
   rintro h i' rfl;have:=SU h i' x (by simpa using hx) (by omega);rw[show k+(i'+1)=k+1+i' by omega];exact this
  split at h
  ·rename_i hb;cases i with
   | zero =>
    left;have hb2:(xA (aEW y)).testBit k=true:=by
     cases ht:(xA (aEW y)).testBit k with
     | true=>rfl
     | false =>
      exfalso;have h0:cC (Jw (xA (aEW y)) (E3 1 k)) 0=true:=by
       have:(xA (aEW y)) &&& (1 <<< k)=0:=by
        apply Jx;intro m;rw[Nat.testBit_and,SS];by_cases hm:k=m
        ·subst hm;simp[ht]
        ·simp[hm]
       simp_all
      grind [cC,Jw,opI,E3]
    rw[wB]at hb2;have:=of_decide_eq_true hb2;obtain⟨e,he,rfl⟩:=dK.1 this
    grind
   | succ i'=>grind
  ·simp only[aV]at h;obtain⟨h1,h2,h3⟩:=h;cases i with
   | zero =>
    right;simp at hx;subst hx;have land0:∀ {a b d:Nat},cC (Jw a b) 0=true->b.testBit d=true->a.testBit d=false:=by
     intro a b d h hb;have h:=bF h;have h':a &&& b=0:=h;have h3:(a &&& b).testBit d=false:=by grind
     grind
    have hdst:∀(o:Oper) d,o.dst=some d->(opI ops o).dst.testBit d=true:=by
     intro o d hd;show (xA (aO9 o)).testBit d=true
     grind [wB,aO9]
    unfold Oper.apart;rw[aV];constructor
    ·split
     ·rename_i d hd;have h4:=land0 h1 (hdst _ d hd);have h4':((xA (y.looksAt ops)) ||| (xA (aO9 y))).testBit d=false:=h4;rw[YL,wB,wB,Bool.or_eq_false_iff]at h4';rw[aV]
      grind [aO9]
     lia
    ·split
     ·rename_i d hd;have h4:=land0 h2 (hdst _ d hd);have h4':(xA (z.looksAt ops)).testBit d=false:=h4
      grind [wB,of_decide_eq_false]
     lia
   | succ i'=>grind
def QN(ops:Array Oper)(listed:Array Bool)(j:Nat):Prop:=listed.size=ops.size/\∀k,k<ops.size->listed.getD k true=decide (k<j)
theorem QN.false(h:QN ops listed j){k:Nat}:listed.getD k false=decide (k<j/\k<ops.size):=by
 by_cases hk:k<ops.size
 ·have:=h.2 k hk;rw[iI]at this ⊢;rw[tZ (by rw[h.1];lia)]at this ⊢
  grind
 ·rw[iI, iW (by rw[h.1];lia)]
  grind
theorem QN.set(h:QN ops listed j):QN ops (listed.setIfInBounds j true) (j+1):=by
 refine⟨by simpa using h.1,λk hk=>?_⟩;by_cases hkj:j=k
 ·simp_all
 ·rw[getD_set_ne true hkj,h.2 k hk]
  lia
theorem aX6(h:cC (s8 (opI ops o).pre j) 0=true):∀e∈o.after,fV .any e=true->e.on<j:=by
 intro e he hb;rcases kJ e.on j with h1 | h1
 ·lia
 ·have h:=bF h;have h':(xA (aEW o)) >>> j=0:=h;have h2:((xA (aEW o)) >>> j).testBit (e.on-j)=true:=by
   rw[Gt,wB,show j+(e.on-j)=e.on by lia];refine decide_eq_true (dK.2 ⟨e,List.mem_filter.2 ⟨by grind,hb⟩,rfl⟩)
  grind
theorem aX7(h:cC (s8 (opI ops o).pre j) 0=false):∃e∈o.after,fV .any e=true/\j<=e.on:=by
 apply jA;intro hn;have h':(xA (aEW o)) >>> j=0:=by
  apply Jx;intro m;rw[Gt,wB,Nat.zero_testBit];refine decide_eq_false λhm=>hn ?_;obtain⟨e,he,h1⟩:=dK.1 hm
  grind
 have h2:s8 (opI ops o).pre j=0:=h';simp_all
theorem aIi:∀(l:Γ Oper),aKt j (l.map (opI ops))=true->∀x∈l,∃e∈x.after,fV .any e=true/\j<=e.on:=by
 intro l
 induction l with
 | nil=>simp
 | cons x r ih =>
  intro h y hy;rw[dG,aKt]at h
  all_goals grind [aX7]
theorem Zj{all:Γ OpI}:∀ {l:Γ OpI} {j:Nat},aIh all j l=true->∀i y,l[i]? = some y->cC (s8 y.pre (j+i)) 0=true/\Ly y (j+i) 0 all=true
 | x::r,j,h,i,y,hy=>by
  simp only[aIh,aV]at h;obtain⟨h1,h2,_,h4⟩:=h;cases i with
  | zero=>grind
  | succ i =>
   have:=Zj h4 i y (by grind)
   lia
theorem QO{tab:Γ TI}{ext:A7}(hT:kZ P tab)(hX:q8 P ext){wr:Bool}{ops:Array Oper}{Q:Exit->Act->World->Prop}(hs:Au ops=true)(hQ:∀c a w,¬Q (.panic c) a w){S':St}
  (hc:iD S'.cs) (hK:∀a' w0' G' w' V' own',bQ n K w0' G' w' a' S'.E S'.L V' own'->j5 q a' S'->Q .normal a' w')
  (hall:aIh (ops.toList.map (opI ops)) 0 (ops.toList.map (opI ops))=true):∀ {l:Γ Oper} {w0:World} {G:Nat->Prop} {j:Nat} {listed:Array Bool} {S:St} {a:Act} {w:World} {V:Nat->Value} {own:Nat->Γ Nat},
  bQ n K w0 G w a S.E S.L V own->j5 q a S->Ks ops listed->QN ops listed j->ops.toList.drop j=l->aIh (ops.toList.map (opI ops)) j (l.map (opI ops))=true->aBd tab ext wr n ops j listed l S=some S'->qG P ops Q [] l.length listed a w
 | [],w0,G,j,listed,S,a,w,V,own,hR,hd,hD,hF,hl,_,h=>by
  cases h;have hge:ops.size<=j:=by
   simp_all
  refine λw1 k=>⟨?_,hK _ _ _ _ _ _ (hR.ext k) hd⟩;apply List.eq_nil_iff_forall_not_mem.2;intro i hi;obtain⟨h1,o,ho,_⟩:=mem_ready.1 hi;have hlt:=(kL.1 ho).1;rw[hF.2 i hlt]at h1
  lia
 | o::r,w0,G,j,listed,S,a,w,V,own,hR,hd,hD,hF,hl,hB,h=>by
  have hlen:=congrArg List.length hl;simp at hlen;have hj:j<ops.size:=by lia
  have ho:ops[j]? = some o:=by
   have:=congrArg (λl=>l[0]?) hl
   grind
  have hr:ops.toList.drop (j+1)=r:=by
   have:=congrArg List.tail hl;simpa using this
  simp only[dG,aIh,aV]at hB;obtain⟨b1,b2,b3,b4⟩:=hB;have hready:j∈gL .any ops listed:=by
   refine mem_ready.2 ⟨by rw[hF.2 j hj];lia,o,ho,λe he hb=>?_⟩;have:=aX6 b1 e he hb;rw[hF.false]
   lia
  have hfree:∀i oi,ops[i]? = some oi->i≠j->listed.getD i true=false->(∀e∈oi.after,fV .any e=true->e.on≠j)->o.apart ops oi=true:=by
   intro i oi hi hij hun hno;have hlt:=(kL.1 hi).1;rw[hF.2 i hlt]at hun;have hy:(ops.toList.map (opI ops))[i]? = some (opI ops oi):=by grind
   obtain⟨_,hp⟩:=Zj hall i _ hy;rw[bX]at hp;rcases SU hp j o (by grind) (by lia)with ⟨e,he,hb,he2⟩ | hap
   all_goals grind
  have quiet:∀ {S2:St},yI tab ext wr n true ops.toList S o=some S2->aBd tab ext wr n ops (j+1) (listed.setIfInBounds j true) r S2=some S'->qG P ops Q [] (o::r).length listed a w:=by
   intro S2 hst h;obtain⟨v,hy,g1,g2⟩:=IX hT hX hR hd hst (K1 h hc);exact OC ho (AY hs) hQ r.length listed a w hD hfree hready hy (QO hT hX hs hQ hc hK hall g1 g2 (hD.set hready) hF.set hr b4 h)
  simp only[aBd]at h;split at h
  ·grind
  ·rename_i hloud;split at h
   ·grind
   ·split at h
    ·rename_i S2 hB;have hlo:(opI ops o).loud=true:=hloud;rw[hlo]at b3;simp only at b3;have hc2:iD S2.cs:=K1 h hc;refine λw1 k=>⟨λh0=>by grind,λi hi=>?_⟩;have hji:i=j:=by
      obtain⟨h1,oi,hoi,hai⟩:=mem_ready.1 hi;have hlt:=(kL.1 hoi).1;rw[hF.2 i hlt]at h1;apply jA;intro hne;have hmem:oi∈r:=by
       rw[<- hr];refine List.mem_of_getElem? (i:=i-(j+1)) ?_
       grind
      obtain⟨e,he,hb,hle⟩:=aIi _ b3 oi hmem;have:=hai e he hb;rw[hF.false]at this
      lia
     subst hji;have hR1:bQ n K w0 G w1 a S.E S.L V own:=hR.ext k;unfold wpOp;simp only[ho];have:=OG (Kt:=λa' w'=>(TW ops listed i=true\/cQ [] w1 w')/\qG P ops Q [] r.length (listed.setIfInBounds i true) a' w') (Q:=Q) hT hX hR1 hd hB hc2 (λa' w0' G' w' V' own' hb hR' hd'=>⟨hb,QO hT hX hs hQ hc hK hall hR' hd' (hD.set hready) hF.set hr b4 h⟩)
     lia
    lia
def QP(tab:Γ TI)(wr:Bool)(n:Nat)(ops:Array Oper)(listed:Array Bool)(S:St):Γ Nat->Option (Nat×St)
 | []=>none
 | i::r=>match TU ops.toList i,AX .any ops listed i with
  | some o,true=>match Uk tab wr n ops.toList S o with
   | some S'=>some (i,S')
   | none=>QP tab wr n ops listed S r
  | _,_=>QP tab wr n ops listed S r
def Zk(n L:Nat)(f:Nat->Option St):Γ Nat->St->Option St
 | [],A=>some A
 | j::r,A=>match f j with
  | some B=>match aKs n L A B with
   | some B'=>match aO6 A.pins B'.pins with
    | true=>Zk n L f r (aV8 n A B')
    | false=>none
   | none=>none
  | none=>none
def Bt(tab:Γ TI)(ext:A7)(wr:Bool)(n:Nat)(ops:Array Oper):Nat->Array Bool->St->Option St
 | 0,listed,S=>match gL .any ops listed with
  | []=>some S
  | _=>none
 | m+1,listed,S=>match gL .any ops listed with
  | []=>some S
  | i::r=>match Ur ops.toList (i::r) S with
   | none=>none
   | some S=>match QP tab wr n ops listed S (i::r)with
    | some (j,S')=>Bt tab ext wr n ops m (listed.setIfInBounds j true) S'
    | none=>match TU ops.toList i with
     | some o=>match yI tab ext wr n false ops.toList S o with
      | some S1=>match Bt tab ext wr n ops m (listed.setIfInBounds i true) S1 with
       | some A=>Zk n S.L.length (λj=>match TU ops.toList j with
        | some p=>match yI tab ext wr n false ops.toList ⟨S.path,S.dec,S.E,S.L,[],S.pins⟩ p with
         | some S2=>Bt tab ext wr n ops m (listed.setIfInBounds j true) S2
         | none=>none
        | none=>none) r A
       | none=>none
      | none=>none
     | none=>none
theorem I0{tab:Γ TI}{wr:Bool}{ops:Array Oper}{listed:Array Bool}{S:St}{j:Nat}{S':St}:∀ {rs:Γ Nat},QP tab wr n ops listed S rs=some (j,S') ->
  j∈rs/\∃o,ops[j]? = some o/\AX .any ops listed j=true/\Uk tab wr n ops.toList S o=some S'
 | [],h=>by cases h
 | i::r,h=>by
  simp[QP]at h;have rest:QP tab wr n ops listed S r=some (j,S')->j∈i::r/\∃o,ops[j]? = some o/\AX .any ops listed j=true/\Uk tab wr n ops.toList S o=some S':=λh=>by
   obtain⟨h1,h2⟩:=I0 h;exact⟨aM _ h1,h2⟩
  grind [Fh]
theorem aEX{tab:Γ TI}{all:Γ Oper}{S S':St}(h:Uk tab wr n all S o=some S')(hc:iD S'.cs):iD S.cs:=by
 unfold Uk at h;split at h
 ·lia
 ·have hcs:=jW h
  grind [Bf]
 ·rename_i S1 hg;refine Bf hg ?_;split at h
  ·split at h
   ·have hcs:=jW h
    grind [qI]
   lia
  ·split at h
   ·lia
   ·split at h
    ·have hcs:=jW h
     grind [dY]
    lia
theorem aEY{tab:Γ TI}(hT:kZ P tab){S S':St}(hR:bQ n K w0 G w a S.E S.L V own)(hd:j5 q a S)
  (h:Uk tab wr n ops.toList S o=some S') (hc:iD S'.cs) :
  ∃v,qH P ops o v a/\bQ n K w0 G w (a.put o.dst v) S'.E S'.L V own/\j5 q (a.put o.dst v) S':=by
 unfold Uk at h;split at h
 ·lia
 ·rename_i S1 hg;have hcs:=jW h;rw[hcs]at hc;obtain⟨h1,h2,h3,h4,h5⟩:=nG hR hd hg (dY.1 hc).1;have hR1:bQ n K w0 G w a S1.E S1.L V own:=by lia
  obtain⟨g1,g2,_⟩:=rE (v:=undef) h hR1 h4 ⟨rfl,trivial⟩;exact⟨undef,.inr ⟨h1,rfl⟩,g1,g2⟩
 ·rename_i S1 hg;have hc1:iD S1.cs:=by
   split at h
   ·split at h
    ·have hcs:=jW h
     grind [qI]
    lia
   ·split at h
    ·lia
    ·split at h
     ·have hcs:=jW h
      grind [dY]
     lia
  obtain⟨h1,h2,h3,h4,h5⟩:=nG hR hd hg hc1;have hR1:bQ n K w0 G w a S1.E S1.L V own:=by lia
  split at h
  ·rename_i c x y ho;split at h
   ·rename_i d S2 hdec;have hcs:=jW h;rw[hcs]at hc;obtain⟨k1,k2,k3,k4,k5⟩:=tE hR1 h4 hdec (dY.1 hc).1;have hR2:bQ n K w0 G w a S2.E S2.L V own:=by lia
    have hv:mS w0 G S2.L V (cond d (opnd S2.E x) (opnd S2.E y)) (if d then a.eval x else a.eval y):=by
     cases d
     ·exact hR2.opnd y
     ·exact hR2.opnd x
    obtain⟨g1,g2,_⟩:=rE h hR2 k4 hv;exact⟨_,.inl ⟨h1,λw'=>Up ho k1 w'⟩,g1,g2⟩
   lia
  ·split at h
   ·lia
   ·split at h
    ·rename_i cs pv hop;have hcs:=jW h;rw[hcs]at hc;obtain⟨v,hv,hq⟩:=ZV hT hR1 hop (dY.1 hc).2;obtain⟨g1,g2,_⟩:=rE h hR1 h4 hv;exact⟨v,.inl ⟨h1,λw'=>hq w' λhl=>by lia⟩,g1,g2⟩
    lia
def aOA(n:Nat)(K:gU)(q:Nat->Value)(Q:Act->World->Prop)(S:St):Prop:=iD S.cs/\∀a' w0' G' w' V' own',bQ n K w0' G' w' a' S.E S.L V' own'->j5 q a' S->Q a' w'
theorem Ut{Q:Act->World->Prop}{L:Nat}{f:Nat->Option St}{S':St}:∀ {r:Γ Nat} {A:St},Zk n L f r A=some S'->aOA n K q Q S'->aOA n K q Q A/\∀j∈r,∃B,f j=some B/\aOA n K q Q B
 | [],A,h,hS=>by
  cases h
  grind
 | j::r,A,h,hS=>by
  simp[Zk]at h;split at h
  case h_2=>lia
  rename_i B hB;split at h
  case h_2=>lia
  rename_i B' hnB;obtain⟨nb1,nb2,nb3⟩:=Us hnB;split at h
  case h_2=>lia
  rename_i hpn;have hpn:=QM hpn;obtain⟨⟨hc,hK⟩,hr⟩:=Ut h hS;have hcA:iD A.cs:=(dY.1 hc).1;have hcB:iD B.cs:=by rw[<- nb1];exact(dY.1 (dY.1 hc).2).1
  have heq:(Di A.E n [],A.L)=(Di B'.E n [],B'.L):=(dY.1 (dY.1 hc).2).2.1;refine⟨⟨hcA,λa' w0' G' w' V' own' hr' hd'=>hK a' w0' G' w' V' own' hr'.tab ⟨λt d hl=>(by cases hl),hd'.2⟩⟩,λk hk=>?_⟩;rcases aW.1 hk with rfl | hk
  ·refine⟨B,hB,hcB,λa' w0' G' w' V' own' hr' hd'=>?_⟩;obtain⟨V2,own2,hr2⟩:=nb3 hr';refine hK a' w0' G' w' V2 own2 ?_ ⟨λt d hl=>(by cases hl),?_⟩
   ·have k1:Di A.E n []=Di B'.E n []:=congrArg dB heq;have k2:A.L=B'.L:=congrArg sZ heq;show bQ n K w0' G' w' a' (Di A.E n []) A.L V2 own2;rw[k1,k2];exact hr2.tab
   ·show ∀t∈A.pins,a'.tmps.getD t undef=q t;rw[hpn,nb2];exact hd'.2
  grind
theorem aEZ{L:Nat}{f:Nat->Option St}{S':St}:∀ {r:Γ Nat} {A:St},Zk n L f r A=some S'->iD S'.cs->iD A.cs
 | [],A,h,hc=>by cases h;lia
 | j::r,A,h,hc=>by
  simp[Zk]at h;split at h
  case h_2=>cases h
  split at h
  case h_2=>cases h
  split at h
  case h_2=>cases h
  exact(dY.1 (aEZ h hc)).1
theorem Bg{tab:Γ TI}{ext:A7}{wr:Bool}{ops:Array Oper}{S':St}:∀ {m:Nat} {listed:Array Bool} {S:St},Bt tab ext wr n ops m listed S=some S'->iD S'.cs->iD S.cs
 | 0,listed,S,h,hc=>by
  grind [Bt]
 | m+1,listed,S,h,hc=>by
  simp[Bt]at h;split at h
  ·lia
  ·split at h
   ·lia
   ·rename_i S1 hdec;refine OF hdec ?_;split at h
    ·rename_i j S2 hq;obtain⟨_,o,_,_,hst⟩:=I0 hq;exact aEX hst (Bg h hc)
    ·split at h
     case h_2=>cases h
     split at h
     case h_2=>cases h
     rename_i S2 hB;split at h
     case h_2=>cases h
     rename_i A hA;exact wZ hB (Bg hA (aEZ h hc))
theorem I1{tab:Γ TI}{ext:A7}(hT:kZ P tab)(hX:q8 P ext){wr:Bool}{ops:Array Oper}{Q:Exit->Act->World->Prop}(hs:Au ops=true)(hQ:∀c a w,¬Q (.panic c) a w):∀ {S':St} {w0:World} {G:Nat->Prop} {m:Nat} {listed:Array Bool} {S:St} {a:Act} {w:World} {V:Nat->Value} {own:Nat->Γ Nat},
  aOA n K q (Q .normal) S'->bQ n K w0 G w a S.E S.L V own->j5 q a S->Ks ops listed->Bt tab ext wr n ops m listed S=some S'->wpAny P .any ops Q m listed a w
 | S',w0,G,0,listed,S,a,w,V,own,hE,hR,hd,hD,h=>by
  simp[Bt]at h;split at h
  ·rename_i hr;cases h;exact⟨hr,hE.2 _ _ _ _ _ _ hR hd⟩
  lia
 | S',w0,G,m+1,listed,S,a,w,V,own,hE,hR,hd,hD,h=>by
  have hc:=hE.1;simp[Bt]at h;split at h
  ·cases h;exact⟨λ_=>hE.2 _ _ _ _ _ _ hR hd,λi hi=>by grind⟩
  ·rename_i i r hr;split at h
   ·lia
   ·rename_i S1 hdec;split at h
    ·rename_i j S2 hq;obtain⟨hjr,o,ho,hf,hst⟩:=I0 hq;rw[<- hr]at hjr;have hc2:iD S2.cs:=Bg h hc;have hc1:iD S1.cs:=aEX hst hc2;obtain⟨e1,e2,e3⟩:=y5 hR hd hdec hc1;have hR1:bQ n K w0 G w a S1.E S1.L V own:=by lia
     obtain⟨v,hy,g1,g2⟩:=aEY (ops:=ops) hT hR1 e3 hst hc2;refine aBb ho (AY hs) hQ m listed a w hD (Rq ho hf) hjr hy ?_;exact I1 hT hX hs hQ hE g1 g2 (hD.set hjr) h
    ·split at h
     case h_2=>lia
     split at h
     case h_2=>lia
     rename_i S2 hB;split at h
     case h_2=>lia
     rename_i A hA;obtain⟨hEA,hEB⟩:=Ut h hE;have hc2:iD S2.cs:=Bg hA hEA.1;have hc1:iD S1.cs:=wZ hB hc2;obtain⟨e1,e2,e3⟩:=y5 hR hd hdec hc1;have hR1:bQ n K w0 G w a S1.E S1.L V own:=by lia
     refine⟨λh0=>by lia,λk hk=>?_⟩;have go:∀(o:Oper) (Z S2 A:St),Z.E=S1.E->Z.L=S1.L->j5 q a Z->TU ops.toList k=some o->yI tab ext wr n false ops.toList Z o=some S2->Bt tab ext wr n ops m (listed.setIfInBounds k true) S2=some A->aOA n K q (Q .normal) A->wpOp P ops Q k (wpAny P .any ops Q m (listed.setIfInBounds k true)) a w:=λo Z S2 A z1 z2 z3 hno hB hA hE=>by
      rw[Fh]at hno;have ho:ops[k]? = some o:=by grind
      have hc2:iD S2.cs:=Bg hA hE.1;unfold wpOp;have:=Uq (Kt:=wpAny P .any ops Q m (listed.setIfInBounds k true)) (Q:=Q) (S:=Z) hT hX (by rw[z1,z2];exact hR1) z3 hB hc2 (λa' w0' G' w' V' own' hR' hd'=>I1 hT hX hs hQ hE hR' hd' (hD.set hk) hA)
      lia
     rw[hr]at hk;rcases aW.1 hk with rfl | hk'
     ·grind
     ·obtain⟨B,hfB,hEB⟩:=hEB k hk';split at hfB
      case h_2=>lia
      rename_i p hnp;split at hfB
      case h_2=>lia
      rename_i kx3.S hS3;exact go p ⟨S1.path,S1.dec,S1.E,S1.L,[],S1.pins⟩ kx3.S B rfl rfl e3 hnp hS3 hfB hEB
def OH(tab:Γ TI)(ext:A7)(wr:Bool)(n:Nat)(ops:Array Oper)(draw:Bool)(S:St):Option St :=
 match draw with
 | false=>QE tab ext wr n false ops.toList ops.toList S
 | true=>match Au ops with
  | true=>match (match bDF ops with
   | true=>aBd tab ext wr n ops 0 (jK ops.size false) ops.toList S
   | false=>Bs tab ext wr n ops ops.size (jK ops.size false) S)with
   | some S'=>some S'
   | none=>Bt tab ext wr n ops ops.size (jK ops.size false) S
  | false=>none
theorem aIj{tab:Γ TI}{ext:A7}{draw:Bool}{S S':St}(h:OH tab ext wr n ops draw S=some S')(hc:iD S'.cs):iD S.cs:=by
 unfold OH at h
 grind [QJ,K1,wA,Bg]
theorem aIk{tab:Γ TI}{ext:A7}(hT:kZ P tab)(hX:q8 P ext)(hm:P.follows .mixedOrders=true){id:Nat}{draw:Bool}{Q:Exit->Act->World->Prop}(hQ:∀c a w,¬Q (.panic c) a w){S S':St}
  (hR:bQ n K w0 G w a S.E S.L V own) (hd:j5 q a S)
  (h:OH tab ext wr n ops draw S=some S') (hc:iD S'.cs) (hK:∀a' w0' G' w' V' own',bQ n K w0' G' w' a' S'.E S'.L V' own'->j5 q a' S'->Q .normal a' w'):(Code.region id ops draw).wp P Q a w:=by
 unfold OH at h;split at h
 ·grind [wp_region_list,Zh]
 ·split at h
  ·rename_i hs;split at h
   ·rename_i S1 h1;cases h;refine wp_region_any hm (Uj (F:=[]) _ _ _ _ ?_);split at h1
    ·rename_i hok;have:=QO hT hX hs hQ hc hK hok (hR.ext (dD _ _).drew) hd (Ks.start ops ops.size) ⟨by simp,λk hk=>by simp_all⟩ (by rfl) hok h1;simp_all
    ·exact AG hT hX hs hQ hc hK (hR.ext (dD _ _).drew) hd (Ks.start ops _) h1
   ·refine wp_region_any hm ?_;exact I1 hT hX hs hQ ⟨hc,hK⟩ (hR.ext (dD _ _).drew) hd (Ks.start ops _) h
  lia
end
def y6(P:Program)(f:FuncId)(R:Ending->World->Prop)(k:Γ Item)(a:Act)(w:World):Prop :=
 ∀(b:Frame) cs,b.fn=f->b.kind = .normal->∃e w' fr,R e w'/\Comes P (lone (b.at a k) cs w) (lone fr cs w') e/\fr.fn=f/\fr.leaving P w' e
section
variable {P:Program} {f:FuncId} {R:Ending->World->Prop} {k k':Γ Item} {a a':Act} {w w':World}
theorem y6.step(h:∀(b:Frame) cs,step P (lone (b.at a k) cs w) = .next (lone (b.at a' k') cs w'))(hr:y6 P f R k' a' w'):y6 P f R k a w:=λb cs hb hk=>by
 obtain⟨e,w2,fr,h1,h2,h3,h4⟩:=hr b cs hb hk;exact⟨e,w2,fr,h1,Comes.of_steps (.one (h b cs)) h2,h3,h4⟩
theorem y6.of_wp{c:Code}(h:c.wp P (λe a' w'=>e = .normal/\y6 P f R k a' w') a w):y6 P f R (.code c::k) a w:=λb cs hb hk=>by
 obtain⟨e,a',w',⟨rfl,hr⟩,harr⟩:=h b k cs;obtain⟨e,w2,fr,h1,h2,h3,h4⟩:=hr b cs hb hk;exact⟨e,w2,fr,h1,Comes.of_steps harr h2,h3,h4⟩
def aX8(P:Program)(f:FuncId)(R:Ending->World->Prop)(a:Act)(w:World):Prop :=
 a.defers=[]/\∃fn v,P.funcs[f]? = some fn/\(results fn a.tmps).run P w = .ok v w/\R (.returned v) w
theorem y6.nil(h:aX8 P f R a w):y6 P f R [] a w:=λb cs hb hk=>by
 obtain⟨hd,fn,v,hf,hr,hR⟩:=h;exact⟨.returned v,w,_,hR,Steps.one step_end,hb,rfl,hd,hk,fn,by rw[show (b.at a []).fn=f from hb];lia,hr⟩
theorem y6.ret(h:aX8 P f R a w):y6 P f R (.code .ret::k) a w:=λb cs hb hk=>by
 obtain⟨hd,fn,v,hf,hr,hR⟩:=h;exact⟨.returned v,w,_,hR,Steps.one step_ret,hb,rfl,hd,hk,fn,by rw[show (b.at a (.code .ret::k)).fn=f from hb];lia,hr⟩
theorem aBe{fn:Func}{c:Code}{args:Array Value}(hf:P.funcs[f]? = some fn)(hb:fn.body=some c)
  (h:y6 P f R [.code c] { tmps:=args++jK (fn.ntmps-args.size) undef,defers:=[] } w):Calls P f args w R:=by
 intro cs
 let b:Frame:={ (default:Frame)with fn:=f,kind := .normal }
 have henter:Frame.enter P f args .normal =
   b.at { tmps:=args++jK (fn.ntmps-args.size) undef,defers:=[] } [.code c]:=by
  grind [Frame.enter,Frame.at]
 rw[henter];exact h b cs rfl rfl
end
inductive aMc where
 | stop (k:Γ Item) (S:St)
 | fin (S:St)
def aMc.st:aMc->St
 | .stop _ S=>S
 | .fin S=>S
def OI(S:St):Operand->Option (Bool×St)
 | .tmp t=>BM S t
 | .const (.bool b)=>some (b,S)
 | _=>none
def tF(tab:Γ TI)(ext:A7)(wr:Bool)(n:Nat)(stops:Γ Nat):Nat->Bool->Γ Item->St->Option aMc
 | 0,_,_,_=>none
 | _+1,_,[],S=>some (.fin S)
 | m+1,first,.inBlock _::k,S=>tF tab ext wr n stops m first k S
 | m+1,first,.inLoop c::k,S=>match yW 1000007 stops with
  | true=>tF tab ext wr n stops m first (.code c :: .inLoop c::k) S
  | false=>some (.stop (.code c :: .inLoop c::k) S)
 | m+1,first,.code c::k,S=>match c with
  | .skip=>tF tab ext wr n stops m first k S
  | .label _=>tF tab ext wr n stops m first k S
  | .seq x y=>tF tab ext wr n stops m first (.code x :: .code y::k) S
  | .block id c=>tF tab ext wr n stops m first (.code c :: .inBlock id::k) S
  | .loop c=>match yW 1000007 stops with
   | true=>tF tab ext wr n stops m first (.code c :: .inLoop c::k) S
   | false=>some (.stop (.code c :: .inLoop c::k) S)
  | .exit id=>match exitTo id k with
   | some k'=>tF tab ext wr n stops m first k' S
   | none=>none
  | .ret=>some (.fin S)
  | .cond c x y=>match OI S c with
   | some (d,S')=>tF tab ext wr n stops m false (.code (cond d x y)::k) S'
   | none=>none
  | .region id ops draw=>match !first&&yW id stops with
   | true=>some (.stop (.code (.region id ops draw)::k) S)
   | false=>match OH tab ext wr n ops draw S with
    | some S'=>tF tab ext wr n stops m false k S'
    | none=>none
  | _=>none
 | _+1,_,_,_=>none
section
variable {P:Program} {n:Nat} {q:Nat->Value} {K:gU} {G:Nat->Prop} {w0 w:World} {a:Act} {V:Nat->Value} {own:Nat->Γ Nat} {f:FuncId} {R:Ending->World->Prop}
def AtV(P:Program)(f:FuncId)(R:Ending->World->Prop)(n:Nat)(K:gU)(q:Nat->Value)(ps:Γ Nat)(k:Γ Item)(E:gK)(L:bM):Prop :=
 ∀a w w0 G V own,bQ n K w0 G w a E L V own->(∀t∈ps,a.tmps.getD t undef=q t)->y6 P f R k a w
def bKV(P:Program)(f:FuncId)(R:Ending->World->Prop)(n:Nat)(K:gU)(q:Nat->Value)(ps:Γ Nat)(E:gK)(L:bM):Prop :=
 ∀a w w0 G V own,bQ n K w0 G w a E L V own->(∀t∈ps,a.tmps.getD t undef=q t)->aX8 P f R a w
def bDG(P:Program)(f:FuncId)(R:Ending->World->Prop)(n:Nat)(K:gU)(q:Nat->Value):aMc->Prop
 | .stop k S=>AtV P f R n K q S.pins k S.E S.L
 | .fin S=>bKV P f R n K q S.pins S.E S.L
theorem aBf{S S':St}{x:Operand}{d:Bool}(hR:bQ n K w0 G w a S.E S.L V own)(hd:j5 q a S)(h:OI S x=some (d,S'))(hc:iD S'.cs) :
  a.eval x = .bool d/\S'.E=S.E/\S'.L=S.L/\j5 q a S'/\iD S.cs:=by
 unfold OI at h;split at h
 ·exact tE hR hd h hc
 ·cases h;exact⟨rfl,rfl,rfl,hd,hc⟩
 lia
theorem aIl{S S':St}{x:Operand}{d:Bool}(h:OI S x=some (d,S'))(hc:iD S'.cs):iD S.cs:=by
 unfold OI at h
 grind [qI]
theorem aKu{tab:Γ TI}{ext:A7}{wr:Bool}{stops:Γ Nat}:∀ {m:Nat} {first:Bool} {k:Γ Item} {S:St} {out:aMc},tF tab ext wr n stops m first k S=some out->iD out.st.cs->iD S.cs:=by
 intro m
 induction m with
 | zero=>intro first k S out h;cases h
 | succ m ih =>
  intro first k S out h hc
  match k,h with
  | [],h=>cases h;exact hc
  | .inBlock _::k,h=>grind [tF]
  | .inLoop c::k,h =>
   simp[tF]at h;split at h
   ·grind
   ·cases h;exact hc
  | .code c::k,h =>
   cases c with
   | skip=>grind [tF]
   | label _=>grind [tF]
   | seq x y=>grind [tF]
   | block id c=>grind [tF]
   | loop c =>
    simp[tF]at h;split at h
    ·grind
    ·cases h;exact hc
   | exit id =>
    grind [tF]
   | ret=>cases h;exact hc
   | cond c x y =>
    grind [tF,aIl]
   | region id ops draw =>
    simp[tF]at h;split at h
    ·cases h;exact hc
    grind [aIj]
   | _=>cases h
def aFa{tab:Γ TI}{ext:A7}(hT:kZ P tab)(hX:q8 P ext)(hm:P.follows .mixedOrders=true){wr:Bool}{stops:Γ Nat}:∀ {w0:World} {G:Nat->Prop} {m:Nat} {first:Bool} {k:Γ Item} {S:St} {out:aMc} {a:Act} {w:World} {V:Nat->Value} {own:Nat->Γ Nat},
  tF tab ext wr n stops m first k S=some out->iD out.st.cs->bQ n K w0 G w a S.E S.L V own->j5 q a S->bDG P f R n K q out->y6 P f R k a w:=by
 intro w0 G m
 induction m generalizing w0 G with
 | zero=>intro first k S out a w V own h;cases h
 | succ m ih =>
  intro first k S out a w V own h hc hR hd ho
  match k,h with
  | [],h=>cases h;exact y6.nil (ho _ _ _ _ _ _ hR hd.2)
  | .inBlock _::k,h=>grind [tF,y6.step,step_inBlock]
  | .inLoop c::k,h =>
   simp only[tF]at h;split at h
   ·grind [y6.step,step_inLoop]
   ·cases h;exact y6.step (λb cs=>step_inLoop) (ho _ _ _ _ _ _ hR hd.2)
  | .code c::k,h =>
   cases c with
   | skip=>grind [tF,y6.step,step_skip]
   | label _=>grind [tF,y6.step,step_label]
   | seq x y=>grind [tF,y6.step,step_seq]
   | block id c=>grind [tF,y6.step,step_block]
   | loop c =>
    simp only[tF]at h;split at h
    ·grind [y6.step,step_loop]
    ·cases h;exact y6.step (λb cs=>step_loop) (ho _ _ _ _ _ _ hR hd.2)
   | exit id =>
    grind [tF,y6.step,step_exit]
   | ret=>cases h;exact y6.ret (ho _ _ _ _ _ _ hR hd.2)
   | cond c x y =>
    simp only[tF]at h;split at h
    ·rename_i d S' hdec;obtain⟨h1,h2,h3,h4,h5⟩:=aBf hR hd hdec (aKu h hc)
     grind [y6.step,step_cond]
    lia
   | region id ops draw =>
    simp only[tF]at h;split at h
    ·cases h;exact ho _ _ _ _ _ _ hR hd.2
    ·split at h
     ·rename_i S' hr;refine y6.of_wp (aIk hT hX hm (λc a w hh=>by lia) hR hd hr (aKu h hc) λa' w0' G' w' V' own' hR' hd'=>⟨rfl,ih h hc hR' hd' ho⟩)
     lia
   | _=>cases h
end
def aKv:(caps:Γ (Bool×Ty))->u2 caps->Γ dE
 | [],_=>[]
 | (true,t)::r,x => .ptr t x.1::aKv r x.2
 | (false,t)::r,x=>j8 t x.1::aKv r x.2
def I2(k:Nat):(a:AT)->a.den->PV×bM
 | .v t,x=>(.a (j8 t x),[])
 | .p t,x=>(.a (.ptr t x),[])
 | .own t,xs=>(.a (.osl k none),[some ⟨t,xs,false,none,none⟩])
 | .po t,x=>match sD k t x with
  | (ls,es)=>(.a (.bptr (k+es.length) 0 t),es++[some ⟨t,[],false,some ls,none⟩])
 | .fn f caps,x=>(.fn f (aKv caps x),[])
def Ku:Nat->Nat->(sig:Γ AT)->eQ sig->gK
 | _,_,[],_=>[]
 | i,k,a::r,x=>match I2 k a x.1 with
  | (p,es)=>(i,p)::Ku (i+1) (k+es.length) r x.2
def aBg:Nat->(sig:Γ AT)->eQ sig->bM
 | _,[],_=>[]
 | k,a::r,x=>match I2 k a x.1 with
  | (_,es)=>es++aBg (k+es.length) r x.2
def TY(sig:Γ AT)(x:eQ sig):bM:=aBg 0 sig x
def mT:Nat->Γ AT->Γ Nat
 | _,[]=>[]
 | i,a::r=>match SL a with
  | true=>i::mT (i+1) r
  | false=>mT (i+1) r
def aIm:(caps:Γ (Bool×Ty))->u2 caps->Prop
 | [],_=>True
 | (_,t)::r,x=>Wf t x.1/\aIm r x.2
def wfA:(a:AT)->a.den->Prop
 | .v t,x=>Wf t x
 | .p t,x=>Wf t x
 | .own t,xs=>Wf (.sl t) xs
 | .po t,x=>Wf t x
 | .fn _ caps,x=>aIm caps x
def I3:(sig:Γ AT)->eQ sig->Prop
 | [],_=>True
 | a::r,x=>wfA a x.1/\I3 r x.2
def aKw:Γ AT->Bool
 | []=>true
 | a::r => !SL a&&aKw r
section
variable {P:Program} {n:Nat} {K:gU} {G:Nat->Prop} {w0 w:World} {a:Act} {V:Nat->Value} {own:Nat->Γ Nat} {f:FuncId} {R:Ending->World->Prop} {E:gK} {L:bM}
variable {t:Ty} {v:Value}
theorem aKx{G:Nat->Prop}{x:t.den}(h:yD w G (j8 t x) v):Wf t x:=by
 cases t with
 | int k=>exact h.2
 | bool=>trivial
 | fn=>trivial
 | str=>exact h.2
 | sl e=>exact aAH (λ_ _=>eK.wf) h
 | unit=>trivial
 | cons a b=>obtain⟨cs,_,h⟩:=h;exact h.wf
theorem aOB{G:Nat->Prop}{x:t.den}(h:Hy w G t x v):Wf t x:=by
 obtain⟨_,_,_,_,_,_,h⟩:=h;exact h.wf
theorem aBh{G:Nat->Prop}:∀ {caps:Γ (Bool×Ty)} {x:u2 caps} {vs:Γ Value},BJ w G caps x vs->aIm caps x
 | [],_,_,_=>trivial
 | (true,t)::r,x,vs,⟨_,_,_,h,h2⟩=>⟨aOB h,aBh h2⟩
 | (false,t)::r,x,vs,⟨_,_,_,h,h2⟩=>⟨aKx h,aBh h2⟩
theorem OJ{G G0:Nat->Prop}:∀ {sig:Γ AT} {x:eQ sig} {vs:Γ Value} {bss:Γ (Γ Nat)},Hz w G G0 sig x vs bss->I3 sig x
 | [],_,_,_,_=>trivial
 | a::r,x,vs,bss,⟨_,_,_,_,_,_,h,h2⟩=>by
  refine⟨?_,OJ h2⟩;cases a with
  | v t=>exact aKx h.2
  | p t=>exact aOB h.2
  | own t=>exact iA.wf h
  | po t=>obtain⟨b,off,_,h⟩:=h;exact(aEt (λ_ _ _=>iA.wf) h).2 _ (dU.2 rfl)
  | fn g caps=>obtain⟨_,_,_,h⟩:=h;exact aBh h
def aKy{G:Nat->Prop}{sig:Γ AT}{x:eQ sig}{vs:Γ Value}{bss:Γ (Γ Nat)}(h:Cx w G sig x vs bss):I3 sig x:=OJ h
theorem Uu:∀ {caps:Γ (Bool×Ty)} {x:u2 caps} {vs:Γ Value},BJ w0 G caps x vs->tV w0 G L V (aKv caps x) vs
 | [],_,_,h=>h
 | (true,t)::r,x,vs,⟨v,s,h1,h,h2⟩=>⟨v,s,h1,h,Uu h2⟩
 | (false,t)::r,x,vs,⟨v,s,h1,h,h2⟩=>⟨v,s,h1,AF h,Uu h2⟩
theorem aOC(hR:bQ n K w G w a E L V own){o:AT}{x:o.den}{bs:Γ Nat}(h:aOe w G K.G0 o x v bs)(hn:bs.Nodup)(hg:∀b∈bs,Out K G b)(hd:∀r A,b5 L r=some A->∀b∈own r,b ∉ bs) :
  ∃V' own',bQ n K w G w a E (L++(I2 L.length o x).2) V' own'/\pY L (I2 L.length o x).2 V V' own own' bs/\mS w G (L++(I2 L.length o x).2) V' (I2 L.length o x).1 v:=by
 cases o with
 | v t =>
  exact⟨V,own,by grind [I2],pY.refl _ _ _,AF h.2⟩
 | p t =>
  exact⟨V,own,by grind [I2],pY.refl _ _ _,h.2⟩
 | fn f caps =>
  obtain⟨_,vs,hv,hh⟩:=h;exact⟨V,own,by grind [I2],pY.refl _ _ _,vs,hv,Uu hh⟩
 | own t =>
  have hE:iS w G w ⟨t,x,false,none,none⟩ v bs:=iS.own.2 h;obtain⟨h1,h2⟩:=Nw hR hE hn hg hd;exact⟨_,_,h1,h2,uM (w0:=w) (G:=G) (u:=w) (G':=G) hE⟩
 | po t =>
  obtain⟨b,off,rfl,hO⟩:=h;rcases hO.2 with ⟨_,h1,_,_⟩ | ⟨b2,off2,cap,cur,ty,fz,bss,h1,h2,h3,h4,h5,h6,h7,h8,h9⟩
  ·lia
  ·simp only[Value.slice.injEq,Option.some.injEq,Addr.mk.injEq]at h1;obtain⟨⟨q1,q2,_⟩,_,q3⟩:=h1;subst q1 q2 q3;obtain⟨bi,rfl⟩:∃bi,bss=[bi]:=by
    match bss,h7 with
    | [bi],_=>lia
   obtain⟨cs,g1,g2,g3⟩:=h9 0 x bi rfl rfl;have hcells:lD w b off cs:=λj c hj=>by
    grind [gW]
   have h8:bs=b::bi:=by grind
   subst h8;obtain⟨hb,hni⟩:=jJ.1 hn;obtain⟨V1,own1,r1,k1,l1,n1⟩:=En hR g3 hni (λc hc=>hg c (aM _ hc)) (λr A hA c hc hm=>hd r A hA c hc (aM _ hm));have hE:iS w G w ⟨t,[],false,some (sD L.length t x).1,none⟩ (.slice (some ⟨b,off,none⟩) 0 1) [b] :=
    ⟨by simp,.inr ⟨b,off,1,cur,ty,fz,[],rfl,Nat.zero_le _,h3,h4,h5,h6,rfl,rfl,λi y bi hy=>by simp⟩⟩
   have hap:=k1.apart (rest:=[b]) (λr A hA c hc hm=>hd r A hA c hc (by grind)) (λc hc hm=>hb (by grind));obtain⟨h10,h11⟩:=Nw r1 hE (by simp) (λc hc=>by grind) hap (hbox:=λl hl=>by cases hl;exact⟨b,off,cs,rfl,g1,n1,hcells,l1⟩);have e2:(I2 L.length (.po t) x).2=(sD L.length t x).2++[some ⟨t,[],false,some (sD L.length t x).1,none⟩]:=rfl;have e1:(I2 L.length (.po t) x).1 = .a (.bptr (L.length+(sD L.length t x).2.length) 0 t):=rfl;rw[e1,e2, <- bZ];have hlen:(L++(sD L.length t x).2).length=L.length+(sD L.length t x).2.length:=by simp
   refine⟨_,_,h10,k1.trans h11 (λc hc=>aM _ hc) (λc hc=>by grind),?_⟩;rw[<- hlen];exact⟨_,_,b,off,U2 _ _,rfl,fC _ _ _,rfl,by lia⟩
theorem aFc:∀ {sig:Γ AT} {x:eQ sig} {vs:Γ Value} {bss:Γ (Γ Nat)} {L:bM} {V:Nat->Value} {own:Nat->Γ Nat} {i:Nat},bQ n K w G w a E L V own->Hz w G K.G0 sig x vs bss->bss.flatten.Nodup->(∀b∈bss.flatten,Out K G b)->(∀r A,b5 L r=some A->∀b∈own r,b ∉ bss.flatten) ->
  (∀j v,vs[j]? = some v->a.tmps.getD (i+j) undef=v) ->
  ∃V' own',bQ n K w G w a E (L++aBg L.length sig x) V' own'/\(∀r,(∃B,b5 L r=some B)->oD L V (L++aBg L.length sig x) V' r)/\∀j,mS w G (L++aBg L.length sig x) V' ((Ku i L.length sig x).get j) (a.tmps.getD j undef)
 | [],x,vs,bss,L,V,own,i,hR,_,_,_,_,_=>⟨V,own,by grind [aBg],λr _=>oD.of_same rfl (by simp[aBg]),λj=>trivial⟩
 | o::sig,x,vs,bss,L,V,own,i,hR,⟨v,s,b,bs,h1,h2,h,h3⟩,hn,hg,hd,ht=>by
  subst h1 h2;obtain⟨hn1,hn2,hn3⟩:=Bn hn;obtain⟨V1,own1,r1,g1,p1⟩:=aOC hR h hn1 (λc hc=>hg c (by grind)) (λr A hA c hc hm=>hd r A hA c hc (by grind));have hlen:(L++(I2 L.length o x.1).2).length=L.length+(I2 L.length o x.1).2.length:=by simp
  obtain⟨V2,own2,r2,a2,p2⟩:=aFc (i:=i+1) r1 h3 hn2 (λc hc=>hg c (by grind)) (g1.apart (λr A hA c hc hm=>hd r A hA c hc (by grind)) hn3) (λj u hj=>by
   have:=ht (j+1) u (by grind)
   lia)
  rw[hlen]at r2 a2 p2;have e1:aBg L.length (o::sig) x=(I2 L.length o x.1).2++aBg (L.length+(I2 L.length o x.1).2.length) sig x.2:=rfl;have e2:Ku i L.length (o::sig) x=(i,(I2 L.length o x.1).1)::Ku (i+1) (L.length+(I2 L.length o x.1).2.length) sig x.2:=rfl;rw[e1,e2, <- bZ];refine⟨V2,own2,r2,λr hr=>?_,λj=>?_⟩
  ·have a1:=g1.agree r hr;obtain⟨B,hB⟩:=hr;obtain⟨B',hB',_⟩:=a1.2 B hB;exact a1.trans (a2 r ⟨B',hB'⟩)
  ·simp only[pD];cases hij:cC i j with
   | true =>
    obtain rfl:=bF hij;have:=ht 0 v rfl
    grind [sC,Z1]
   | false =>
    grind
theorem aFd{G G0:Nat->Prop}:∀ {sig:Γ AT} {x:eQ sig} {vs:Γ Value} {bss:Γ (Γ Nat)} {i:Nat} {q:Nat->Value},Hz w G G0 sig x vs bss->(∀j v,vs[j]? = some v->q (i+j)=v)->lP sig vs=(mT i sig).map q
 | [],x,vs,bss,i,q,h,_=>by rfl
 | a::r,x,vs,bss,i,q,⟨v,s,b,bs,h1,h2,h,h3⟩,hq=>by
  subst h1 h2;have h0:q i=v:=by have:=hq 0 v rfl;lia
  have ih:=aFd (i:=i+1) (q:=q) h3 (λj u hj=>by have:=hq (j+1) u (by grind);lia);cases a with
  | v t=>exact ih
  | p t=>exact ih
  | fn g caps=>exact ih
  | own t=>simp[lP,mT,SL,h0,ih]
  | po t=>simp[lP,mT,SL,h0,ih]
def OL(kds:Γ RK)(oks:Γ AT)(ds:Γ aS)(us:Γ (Option jC))(pins:Γ Nat)(q:Nat->Value)(K:gU)(e:Ending)(w':World):Prop :=
 aOf K.w0 K.O K.Ga K.G0 kds ds oks us (pins.map q) e w'
theorem aFe{fn:Func}{c:Code}{S:Spec}(hf:P.funcs[f]? = some fn)(hb:fn.body=some c)(hl:S.sig.length<=fn.ntmps)
  (h:∀x,S.pre x->I3 S.sig x->∀K q,AtV P f (OL S.kds (Cp S.sig) (S.res x) (S.upd x) (mT 0 S.sig) q K) fn.ntmps K q (mT 0 S.sig) [.code c] (Ku 0 0 S.sig x) (TY S.sig x)):j9 P f S:=by
 intro w G G0 x vs bss hgo hG hG0 hpre hargs hnd;have hlen:=UI hargs;have hget0:∀j v,vs[j]? = some v->(vs.toArray++jK (fn.ntmps-vs.toArray.size) undef).getD j undef=v:=λj v hj=>by
  rw[iI]
  grind
 let q:Nat->Value:=λi=>(vs.toArray++jK (fn.ntmps-vs.toArray.size) undef).getD i undef
 let K:gU:=⟨w,bss.flatten,G0,G⟩
 let a0:Act:={ tmps:=vs.toArray++jK (fn.ntmps-vs.toArray.size) undef,defers:=[] }
 have hov:lP S.sig vs=(mT 0 S.sig).map q:=aFd hargs (λj v hj=>by grind);have h0:bQ fn.ntmps K w G w a0 [] [] (λ_=>undef) (λ_=>[]):=by
  refine⟨hgo,dD _ _,?_,rfl,λb hb=>(hG b hb).1,λ_ _=>rfl,hG0,λb hb=>hG b (hG0 b hb),λb hb => .inl hb,(λr A hr=>by cases hr),(λr A hr=>by simp),(λr A hr=>by simp),(λr s A B hr=>by simp),(λr A ls hr=>by cases hr),(λr A q hr=>by cases hr),λi=>trivial⟩
  grind
 obtain⟨V,own,h1,_,h2⟩:=aFc (i:=0) h0 hargs hnd (λb hb=>⟨λh=>h.2 hb,λh=>(hG b h).2 hb⟩) (λr A hr=>by simp) (λj v hj=>by grind);have h3:bQ fn.ntmps K w G w a0 (Ku 0 0 S.sig x) (TY S.sig x) V own:={ h1 with env:=λi=>h2 i };refine(aBe hf hb (h x hpre (OJ hargs) K q a0 w w G V own h3 (λt ht=>rfl))).mono ?_;intro e w' hp;rw[hov];exact hp
def aIn(L:bM):AT->PV->Option (jC×Γ Nat)
 | .own t,.a (.osl k none)=>match b5 L k with
  | some A=>match A.bor with
   | false=>some (⟨A.t,A.xs⟩,[k])
   | true=>none
  | none=>none
 | .po t,.a A=>match aKi L t A with
  | some (x,us)=>some (⟨t,[x]⟩,us)
  | none=>none
 | _,_=>none
def QQ(E:gK)(L:bM)(gone:Γ Nat):Γ Nat->Γ AT->Γ (Option jC)×Γ Nat
 | i::r,o::os=>match QQ E L gone r os with
  | (us,rs)=>match aIn L o (E.get i)with
   | some (A,ks)=>match aE2 ks gone with
    | true=>(some A::us,ks++rs)
    | false=>(none::us,rs)
   | none=>(none::us,rs)
 | _::r,[]=>(none::(QQ E L gone r []).1,[])
 | [],_=>([],[])
theorem aFf(hR:bQ n K w0 G w a E L V own){o:AT}{p:PV}{A:jC}{ks:Γ Nat}(hp:mS w0 G L V p v)(h:aIn L o p=some (A,ks)):aHK w K.G0 o A v (ks.map own).flatten/\∀r∈ks,∃B,b5 L r=some B:=by
 unfold aIn at h;split at h
 ·rename_i t k;split at h
  ·rename_i B hB;split at h
   ·rename_i hbor;cases h;obtain⟨B',hB',h1,_⟩:=hp;have hE:=hR.heap k B hB;obtain⟨tB,xB,bB,lB,sB⟩:=B;subst hbor;refine⟨?_,λr hr=>by grind⟩;rw[h1 rfl];simp;exact iS.own.1 hE
   lia
  lia
 ·split at h
  ·rename_i x us hpo;cases h;obtain⟨h1,h2,_⟩:=KV hR (dD _ _) hp hpo;exact⟨⟨x,rfl,h1⟩,h2⟩
  lia
 lia
theorem Zl{q:Nat->Value}{gone:Γ Nat}(hR:bQ n K w0 G w a E L V own):∀ {ps:Γ Nat} {os:Γ AT},ps.length<=os.length->(∀t∈ps,a.tmps.getD t undef=q t) ->
  ∃ubs,TS w K.G0 os (QQ E L gone ps os).1 (ps.map q) ubs/\ubs.flatten=((QQ E L gone ps os).2.map own).flatten/\∀r∈(QQ E L gone ps os).2,∃B,b5 L r=some B
 | [],os,_,_=>⟨[],by cases os <;> exact⟨rfl,rfl⟩,by rfl,λr hr=>by cases os <;> cases hr⟩
 | i::ps,[],hl,_=>by grind
 | i::ps,o::os,hl,hq=>by
  obtain⟨ubs,h1,h2,h3⟩:=Zl hR (ps:=ps) (os:=os) (by grind) (λt ht=>hq t (aM _ ht));simp[QQ];have skip:∃ubs,TS w K.G0 (o::os) (none::(QQ E L gone ps os).1) ((i::ps).map q) ubs/\ubs.flatten=((QQ E L gone ps os).2.map own).flatten/\∀r∈(QQ E L gone ps os).2,∃B,b5 L r=some B :=
   ⟨[]::ubs,⟨_,_,_,rfl,rfl,h1⟩,by grind,h3⟩
  split
  ·rename_i A ks hk;split
   ·have hv:=hR.env i;rw[hq i (aR ..)]at hv;obtain⟨g1,g2⟩:=aFf hR hv hk;refine⟨(ks.map own).flatten::ubs,⟨_,_,_,_,rfl,rfl,g1,h1⟩,by grind,λr hr=>?_⟩
    grind
   grind
  grind
def aX9(L:bM):(t:Ty)->dE->Option (t.den×Γ Nat)
 | .sl e,.osl r none=>match b5 L r with
  | some A=>match A.bor with
   | true=>none
   | false=>if h:A.t=e then some (q9 h A.xs,[r])else none
  | none=>none
 | .sl e,.osl r (some (lo,hi))=>match b5 L r with
  | some A=>match e.flat && !A.bor with
   | true=>if h:A.t=e then some (Ay (some (lo,hi)) (q9 h A.xs),[r])else none
   | false=>none
  | none=>none
 | .sl e,.val (.slice none _ _)=>some ([],[])
 | t,.rcd t' ls=>match decide (t'=t),t.agg with
  | true,true=>El L t ls
  | _,_=>none
 | t,A=>match t.flat with
  | true=>match Cq t A with
   | some x=>some (x,[])
   | none=>none
  | false=>none
def aSJ(L:bM):RK->(t:Ty)->dE->Option (t.den×Γ Nat)
 | .own,t,A=>aX9 L t A
 | .frz,t,A=>match Cq t (aBa A)with
  | some x=>some (x,[])
  | none=>none
def aOD(tab:Γ TI)(L:bM)(T:TypeId)(A:dE):Option dE :=
 match (jP tab T).ty with
 | some t=>aKg L t A
 | none=>none
def aMd(tab:Γ TI)(E:gK)(L:bM):Γ RK->Γ Ty->Γ ResultVar->Option (Γ aS×Γ Nat)
 | _,[],[]=>some ([],[])
 | ks,t::ts,.tmp i::r=>match E.get i with
  | .a A=>match aSJ L (RK.hd ks) t A,aMd tab E L ks.tail ts r with
   | some (x,us),some (ds,vs)=>some (⟨t,x⟩::ds,us++vs)
   | _,_=>none
  | _=>none
 | ks,t::ts,.cell i T::r=>match E.get i with
  | .a A=>match aOD tab L T A with
   | some B=>match aSJ L (RK.hd ks) t B,aMd tab E L ks.tail ts r with
    | some (x,us),some (ds,vs)=>some (⟨t,x⟩::ds,us++vs)
    | _,_=>none
   | none=>none
  | _=>none
 | _,_,_=>none
def aOE(tab:Γ TI)(E:gK)(L:bM):Γ RK->Γ ResultVar->Γ Nat
 | .frz::ks,.tmp i::r=>(match E.get i with
  | .a A=>uL A
  | _=>[])++aOE tab E L ks r
 | .frz::ks,.cell i T::r=>(match E.get i with
  | .a A=>match aOD tab L T A with
   | some B=>uL B
   | none=>[]
  | _=>[])++aOE tab E L ks r
 | _::ks,_::r=>aOE tab E L ks r
 | _,_=>[]
theorem Uv{cs:Γ Value}(hl:cs.length=t.size):H2 t cs (hZ t cs):=by
 cases t <;> simp[H2,hZ,iB]
 all_goals (match cs,hl with | [c],_=>rfl)
theorem aOF{T:TypeId}{u v:Value}(h:(tL T u).run P w = .ok v w):(do loadVar T (<- asAddr u):Sem Value).run P w = .ok v w:=by
 cases u with
 | pointer a =>
  cases a with
  | none=>simp[tL,n5]at h
  | some a=>grind [tL,n5,asAddr]
 | _=>simp[tL,n5]at h
theorem aMe(hR:bQ n K w0 G w a E L V own){A:dE}{x:t.den}{us:Γ Nat}(hv:nQ w0 G L V A v)(h:(match t.flat with | true=>(match Cq t A with | some x=>some (x,([]:Γ Nat)) | none=>none) | false=>none)=some (x,us)) :
  us=[]/\∃cs,iA w t x cs []/\H2 t cs v:=by
 split at h
 ·rename_i hf;split at h
  ·rename_i y hd;cases h;obtain⟨cs,hv,_,_,hent⟩:=F9 (qE hv hd) hd false (λ_=>hf);exact⟨rfl,cs,hent w,by grind [Uv]⟩
  lia
 lia
theorem aMf(hR:bQ n K w0 G w a E L V own){A:dE}{x:t.den}{us:Γ Nat}(hv:nQ w0 G L V A v)(h:aX9 L t A=some (x,us)) :
  (∃cs,iA w t x cs (us.map own).flatten/\H2 t cs v)/\∀r∈us,∃B,b5 L r=some B:=by
 unfold aX9 at h;split at h
 ·rename_i e r;have h':slW L e (.osl r none)=some (x,us):=h;obtain⟨h1,h2⟩:=aAP hR (l := .osl r none) (v:=v) hv h';exact⟨⟨[v],h1,rfl⟩,h2⟩
 ·rename_i e r lo hi;have h':slW L e (.osl r (some (lo,hi)))=some (x,us):=h;obtain⟨h1,h2⟩:=aAP hR (l := .osl r (some (lo,hi))) (v:=v) hv h';exact⟨⟨[v],h1,rfl⟩,h2⟩
 ·cases h;obtain⟨rfl,hn,hc⟩:=hv;subst hn hc;exact⟨⟨_,⟨_,rfl,by simp,.inl ⟨_,rfl,rfl,rfl⟩⟩,rfl⟩,λr hr=>by grind⟩
 ·split at h
  ·rename_i ht ha;obtain⟨cs,rfl,hl,hr⟩:=hv;obtain⟨h1,h2⟩:=KU hR hr h;refine⟨⟨cs,h1,?_⟩,h2⟩;have:=Uv h1.length
   rwa [hZ,π ha]at this
  lia
 ·obtain⟨rfl,cs,h1,h2⟩:=aMe hR hv h
  grind
def aSK(K:gU)(G:Nat->Prop)(b:Nat):Prop:=G b/\¬Good K.w0 K.O b
theorem Zm(hR:bQ n K w0 G w a E L V own){k:RK}{A:dE}{x:t.den}{us:Γ Nat}(hv:nQ w0 G L V A v)(h:aSJ L k t A=some (x,us)) :
  UH w K.Ga (aSK K G) k ⟨t,x⟩ v (us.map own).flatten/\∀r∈us,∃B,b5 L r=some B:=by
 have hup:∀b,G b->K.Ga b\/aSK K G b:=λb hb=>(hR.gup b hb).imp_right λh=>⟨hb,h⟩;cases k with
 | own=>exact aMf hR hv h
 | frz =>
  simp[aSJ]at h;split at h
  ·rename_i y hd;cases h;obtain⟨cs,hr,hvv⟩:=Bd (qE (Ug hv) hd) hd;refine⟨⟨rfl,cs,hr.keep hup hR.gref,?_⟩,λr hr=>by grind⟩;rw[hvv];exact Uv hr.length
  lia
theorem QR{tab:Γ TI}(hT:kZ P tab)(hR:bQ n K w0 G w a E L V own):∀ {ks:Γ RK} {ts:Γ Ty} {rv:Γ ResultVar} {ds:Γ aS} {us:Γ Nat},aMd tab E L ks ts rv=some (ds,us) ->
  ∃rs bss,(rv.mapM λx=>(match x with | .tmp t=>pure (a.tmps.getD t undef) | .cell b t=>do loadVar t (<- asAddr (a.tmps.getD b undef)):Sem Value)).run P w = .ok rs w/\rs.length=rv.length/\Y8 w K.Ga (aSK K G) ks ds rs bss/\bss.flatten=(us.map own).flatten/\∀r∈us,∃B,b5 L r=some B
 | ks,[],[],ds,us,h=>by
  have h':ds=[]/\us=[]:=by cases ks <;> (cases h;lia)
  obtain⟨rfl,rfl⟩:=h';exact⟨[],[],by rfl,rfl,by cases ks <;> exact⟨rfl,rfl⟩,rfl,λr hr=>by grind⟩
 | ks,t::ts,.tmp i::rv,ds,us,h=>by
  simp only[aMd]at h;split at h
  ·rename_i A hA;split at h
   ·rename_i x u ds' vs hd hf;cases h;have hv:nQ w0 G L V A (a.tmps.getD i undef):=by
     have:=hR.env i;rw[hA]at this;exact this
    obtain⟨h1,h3⟩:=Zm hR hv hd;obtain⟨rs,bss,g1,g2,g3,g4,g5⟩:=QR hT hR hf;refine⟨a.tmps.getD i undef::rs,(u.map own).flatten::bss,?_,by grind,by cases ks <;> exact⟨_,_,_,_,rfl,rfl,h1,g3⟩,?_,?_⟩
    ·rw[YO];simp only[c8,dW,bL];rw[g1];rfl
    ·simp[g4]
    ·intro r hr;rcases cY.1 hr with hr | hr
     ·exact h3 r hr
     ·exact g5 r hr
   lia
  lia
 | ks,t::ts,.cell i T::rv,ds,us,h=>by
  simp only[aMd]at h;split at h
  ·rename_i A hA;split at h
   ·rename_i B hB;split at h
    ·rename_i x u ds' vs hd hf;cases h;have hv:nQ w0 G L V A (a.tmps.getD i undef):=by
      have:=hR.env i;rw[hA]at this;exact this
     unfold aOD at hB;split at hB
     ·rename_i t0 ht0;obtain⟨v,hv',hrun⟩:=UR (P:=P) hR (TI.ty_ok (hT T) ht0) hv hB;obtain⟨h1,h3⟩:=Zm hR hv' hd;obtain⟨rs,bss,g1,g2,g3,g4,g5⟩:=QR hT hR hf;refine⟨v::rs,(u.map own).flatten::bss,?_,by grind,by cases ks <;> exact⟨_,_,_,_,rfl,rfl,h1,g3⟩,?_,?_⟩
      ·have hc:=aOF (hrun w (dD _ _));rw[YO,c8];simp_all
      all_goals grind
     lia
    lia
   lia
  lia
 | ks,[],_::_,_,_,h=>by cases ks <;> cases h
 | ks,_::_,[],_,_,h=>by cases ks <;> cases h
def OM(tab:Γ TI)(ext:A7)(wr:Bool)(n:Nat)(stops:Γ Nat)(m:Nat)(pins:Γ Nat)(oks:Γ AT)(kds:Γ RK)(ts:Γ Ty)(rv:Array ResultVar)(path:Γ Bool)(k:Γ Item)(E:gK)(L:bM):Option (Γ aS×Γ (Option jC)×Γ Prop) :=
 match tF tab ext wr n stops m true k ⟨path,[],E,L,[],pins⟩ with
 | some (.fin S)=>match Lv (aOE tab S.E S.L kds rv.toList) (S.E,S.L)with
  | (E1,L1)=>match aMd tab E1 L1 kds ts rv.toList with
   | some (ds,us)=>match Bk ((QQ E1 L1 us pins oks).2++us)&&decide (S.pins=pins)&&pE pins.length oks.length with
    | true=>some (ds,(QQ E1 L1 us pins oks).1,S.cs)
    | false=>none
   | none=>none
 | _=>none
def aFg:Γ (Option jC)->Γ (Option jC)->Prop
 | [],[]=>True
 | u::r,u'::r'=>(u'=u\/u'=none)/\aFg r r'
 | _,_=>False
variable {q:Nat->Value}
theorem OL.weak{kds:Γ RK}{oks:Γ AT}{ds:Γ aS}{us us':Γ (Option jC)}{pins:Γ Nat}{K:gU}{e:Ending}{w':World}(h:OL kds oks ds us pins q K e w')(hw:aFg us us'):OL kds oks ds us' pins q K e w':=by
 obtain⟨rs,ubs,rbs,F,h1,h2,h3,h4,h5,h6,h7⟩:=h;have key:∀(us us':Γ (Option jC)) (os:Γ AT) (vs:Γ Value) (ubs:Γ (Γ Nat)),aFg us us'->TS w' K.G0 os us vs ubs->∃nbs:Γ (Γ Nat),TS w' K.G0 os us' vs nbs/\nbs.flatten.Sublist ubs.flatten:=by
  intro us
  induction us with
  | nil =>
   intro us' os vs ubs hw h;cases us' with
   | nil=>grind
   | cons _ _=>cases hw
  | cons u r ih =>
   intro us' os vs ubs hw h;cases us' with
   | nil=>cases hw
   | cons u' r' =>
    obtain⟨hu,hw⟩:=hw;cases os with
    | nil=>cases u <;> exact h.elim
    | cons o os =>
     cases u with
     | none =>
      obtain⟨v,s,bs,rfl,rfl,h⟩:=h;obtain⟨nbs,g1,g2⟩:=ih _ _ _ _ hw h;have:u'=none:=by lia
      subst this;exact⟨[]::nbs,⟨_,_,_,rfl,rfl,g1⟩,by grind⟩
     | some A =>
      obtain⟨v,s,b,bs,rfl,rfl,h0,h⟩:=h;obtain⟨nbs,g1,g2⟩:=ih _ _ _ _ hw h;rcases hu with rfl | rfl
      ·exact⟨b::nbs,⟨_,_,_,_,rfl,rfl,h0,g1⟩,by grind⟩
      ·exact⟨[]::nbs,⟨_,_,_,rfl,rfl,g1⟩,by grind⟩
 obtain⟨nbs,g1,g2⟩:=key _ _ _ _ _ hw h4;have g3:(nbs.flatten++rbs.flatten).Sublist (ubs.flatten++rbs.flatten):=g2.append_right _;refine⟨rs,nbs,rbs,F,h1,h2,h3,g1,h5.sublist g3,λb hb=>h6 b (g3.subset hb),λb hb=>?_⟩
 grind
theorem AtV.mono{R':Ending->World->Prop}{ps:Γ Nat}{k:Γ Item}(h:AtV P f R n K q ps k E L)(hm:∀e w,R e w->R' e w):AtV P f R' n K q ps k E L:=by
 intro a w w0 G V own hR hq b cs hb hk;obtain⟨e,w',fr,h1,h2⟩:=h a w w0 G V own hR hq b cs hb hk
 grind
theorem AtV.weak{kds:Γ RK}{oks:Γ AT}{ds:Γ aS}{us us':Γ (Option jC)}{q:Nat->Value}{pins ps:Γ Nat}{k:Γ Item}(h:AtV P f (OL kds oks ds us pins q K) n K q ps k E L)(hw:aFg us us'):AtV P f (OL kds oks ds us' pins q K) n K q ps k E L :=
 h.mono λ_ _ h=>h.weak hw
theorem AtV.fin{fn:Func}(hf:P.funcs[f]? = some fn){tab:Γ TI}{ext:A7}(hT:kZ P tab)(hX:q8 P ext)(hm:P.follows .mixedOrders=true){pins:Γ Nat}{oks:Γ AT}{kds:Γ RK}{wr:Bool}{stops:Γ Nat}{m:Nat}{ts:Γ Ty}{path:Γ Bool}{k:Γ Item}{ds:Γ aS}{us:Γ (Option jC)}{cs:Γ Prop}
  (h:OM tab ext wr n stops m pins oks kds ts fn.results path k E L=some (ds,us,cs)) (hc:iD cs):AtV P f (OL kds oks ds us pins q K) n K q pins k E L:=by
 intro a w w0 G V own hR hq;unfold OM at h;split at h
 ·rename_i S hr;split at h;rename_i E1 L1 hfrz;split at h
  ·rename_i ds' us' hfin;split at h
   ·rename_i hnd;simp at hnd;obtain⟨⟨hnd,hp⟩,hpl⟩:=hnd;cases h;refine aFa hT hX hm hr hc hR ⟨λt d ht=>by grind [IT],hq⟩ ?_;intro a' w' w1 G1 V' own' hR1 hq';rw[hp]at hq';obtain⟨w2,G2,hR'⟩:=IS (rs:=aOE tab S.E S.L kds fn.results.toList) hR1;rw[hfrz]at hR';obtain⟨rs,bss,g1,g2,g3,g4,g5⟩:=QR (P:=P) hT hR' hfin;obtain⟨ubs,k1,k2,k3⟩:=Zl (gone:=us') hR' hpl hq';have hall:ubs.flatten++bss.flatten=(((QQ E1 L1 us' pins oks).2++us').map own').flatten:=by grind
    have hlive:∀r∈(QQ E1 L1 us' pins oks).2++us',∃B,b5 L1 r=some B:=λr hr=>by
     grind
    have hout:∀b∈ubs.flatten++bss.flatten,Am.Out K G2 b:=by
     intro b hb;rw[hall]at hb;obtain⟨l,hl,hb⟩:=kX.1 hb;obtain⟨r,hr,rfl⟩:=dK.1 hl;obtain⟨B,hB⟩:=hlive r hr;exact hR'.good r B hB b hb
    refine⟨hR'.defers,fn,IA rs,hf,?_,rs,ubs,bss,aSK K G2,rfl,hR'.kept,g3,k1,?_,λb hb=>(hout b hb).1,λb hb=>⟨hR'.glt b hb.1,hb.2,λhm=>(hout b hm).2 hb.1⟩⟩
    ·unfold results;have hm':(fn.results.mapM λx=>(match x with | .tmp t=>pure (a'.tmps.getD t undef) | .cell b t=>do loadVar t (<- asAddr (a'.tmps.getD b undef)):Sem Value)).run P w' = .ok rs.toArray w':=by
      rw[List.mapM_toArray];simp_all
     simp only[c8];refine(congrArg (λr=>Cb r _) hm').trans ?_
     match rs with
     | []=>rfl
     | [v]=>rfl
     | _::_::_=>rfl
    grind [QB,IG]
   lia
  lia
 lia
end
end Go.Am
namespace Go.Am
open Go.ChangeShapes Go.WideShapes Go.ChangeAt Go.RowKit
def o8(P:Program)(agg:Bool)(T:TypeId)(k:TypeId ⊕ (Γ Field×Nat)->Bool):Bool :=
 match agg with
 | true=>match P.underlying T with
  | some (.struct fs)=>k (.inr (fs.toList,0))
  | _=>false
 | false=>k (.inl T)
def kD(P:Program):Ty->TypeId ⊕ (Γ Field×Nat)->Bool
 | .int k,.inl T=>aAJ k (P.underlying T)
 | .bool,.inl T=>Th (P.underlying T)
 | .str,.inl T=>aAK (P.underlying T)
 | .unit,.inr ([],_)=>true
 | .cons a b,.inr (f::fs,o)=>cC f.offset o&&(cC (P.cellsOf f.type) a.size&&(o8 P a.agg f.type (kD P a)&&kD P b (.inr (fs,o+a.size))))
 | _,_=>false
def Lz(P:Program)(t:Ty)(T:TypeId):Bool:=cC (P.cellsOf T) t.size&&o8 P t.agg T (kD P t)
section
variable {H:Type} {enc:TypeId×Value->H} {P:Program} {w:World} {base:Nat} {spare:Nat->Bool} {held:Bool} {G:Nat->Prop}
def Fj(enc:TypeId×Value->H)(P:Program)(w:World)(base:Nat)(spare:Nat->Bool)(held:Bool)(cs:Γ Value)(f:Field):Prop :=
 ∃n x,Gu enc P w base spare held n f.type ((cs.drop f.offset).take (P.cellsOf f.type))=some x
variable {T:TypeId} {cs:Γ Value}
theorem DF{fs:Array Field}{fuel:Nat}{x:DataW H×Γ MemPlace}(ht:P.underlying T=some (.struct fs))(h:Gu enc P w base spare held fuel T cs=some x) :
  cs.length=P.cellsOf T/\∀f∈fs.toList,Fj enc P w base spare held cs f:=by
 obtain⟨xs,n,_,_,hl,hx,hf⟩:=DataW.trod_struct ht h;refine⟨hl,λf hf'=>?_⟩;obtain⟨i,hi⟩:=iM hf';rw[eF]at hi;have hlt:i<fs.size:=(kL.1 hi).1;exact⟨n,xs[i]'(by lia),by grind⟩
theorem Bu:∀(t:Ty),
  (∀T fuel cs x,o8 P t.agg T (kD P t)=true->P.cellsOf T=t.size->Gu enc P w base spare held fuel T cs=some x->∃y,eK w G t y cs) /\
  (∀fs o cs,kD P t (.inr (fs,o))=true->(∀f∈fs,Fj enc P w base spare held cs f)->cs.length=o+t.size->∃y,eK w G t y (cs.drop o))
 | .int k=>by
  refine⟨λT fuel cs x h _ ht=>?_,λfs o cs h=>by grind [kD]⟩;have hu:=Pn (by simpa [o8,iB,kD] using h);obtain⟨n,rfl,_,hw⟩:=DataW.trod_int hu ht;exact⟨n,rfl,by grind [Lit.wf,bA]⟩
 | .bool=>by
  refine⟨λT fuel cs x h _ ht=>?_,λfs o cs h=>by grind [kD]⟩;have hu:=Ll (by simpa [o8,iB,kD] using h);obtain⟨b,rfl,_⟩:=DataW.trod_bool hu ht;exact⟨b,rfl⟩
 | .fn=>⟨λT fuel cs x h=>by grind [o8,iB,kD],λfs o cs h=>by grind [kD]⟩
 | .str=>by
  refine⟨λT fuel cs x h _ ht=>?_,λfs o cs h=>by grind [kD]⟩;have hu:=Po (by simpa [o8,iB,kD] using h);obtain⟨s,rfl,_,hs⟩:=DataW.trod_string hu ht;exact⟨s,rfl,hs⟩
 | .sl e=>by
  simp[o8,iB,kD]
 | .unit=>by
  have hB:∀fs o cs,kD P .unit (.inr (fs,o))=true->(∀f∈fs,Fj enc P w base spare held cs f)->cs.length=o+Kp.size->∃y,eK w G .unit y (cs.drop o):=by
   intro fs o cs h _ hl;refine⟨(),?_⟩;show cs.drop o=[]
   grind [AZ,kS]
  refine⟨λT fuel cs x h hc ht=>?_,hB⟩;simp only[o8,iB]at h;split at h
  ·rename_i fs hu;obtain⟨h1,h2⟩:=DF hu ht
   grind
  lia
 | .cons a b=>by
  obtain⟨ha,_⟩:=Bu a;obtain⟨_,hb⟩:=Bu b;have hB:∀fs o cs,kD P (.cons a b) (.inr (fs,o))=true->(∀f∈fs,Fj enc P w base spare held cs f)->cs.length=o+(lX a b).size->∃y,eK w G (.cons a b) y (cs.drop o):=by
   intro fs o cs h hf hl
   match fs,h with
   | [],h=>grind [kD]
   | f::fs,h =>
    simp only[kD,aV]at h;obtain⟨h1,h2,h3,h4⟩:=h;have h1:=bF h1;have h2:=bF h2;simp only[kS]at hl;obtain⟨n,x,hx⟩:=hf f (aR ..);obtain⟨y1,hy1⟩:=ha _ _ _ _ h3 h2 hx;obtain⟨y2,hy2⟩:=hb fs (o+a.size) cs h4 (λg hg=>hf g (aM _ hg)) (by lia);refine⟨(y1,y2),_,_,?_,hy1,hy2⟩
    grind [pP,fH]
  refine⟨λT fuel cs x h hc ht=>?_,hB⟩;simp only[o8,iB]at h;split at h
  ·rename_i fs hu;obtain⟨h1,h2⟩:=DF hu ht
   grind
  lia
theorem aIo{a:Addr}{n:Nat}(h:w.cells? base a n=some cs):cs.length=n/\∀j c,cs[j]? = some c->w.cell? (a.add j)=some c:=by
 unfold World.cells? at h;split at h
 ·have key:∀(l:Γ Nat) (cs:Γ Value),(l.mapM λi=>w.cell? (a.add i))=some cs->cs.length=l.length/\∀(j:Nat) (c:Value) (i:Nat),cs[j]? = some c->l[j]? = some i->w.cell? (a.add i)=some c:=by
   intro l
   induction l with
   | nil=>simp
   | cons i l ih =>
    cases hc:w.cell? (a.add i)with
    | none=>grind
    | some c =>
     cases hr:l.mapM λi=>w.cell? (a.add i)with
     | none=>grind
     | some r =>
      grind
  obtain⟨h1,h2⟩:=key _ _ h;refine⟨by grind,λj c hj=>h2 j c j hj ?_⟩
  grind
 lia
def aIp(w:World)(v:Value):Prop:=∀a len cap,v = .slice (some a) len cap->a.spot=none/\a.block<w.heap.size
variable {r:Reach} {b0:Nat}
theorem aSL{a:Addr}{e:TypeId}{n:Nat}(h:w.has P r b0 a e n):a.spot=none/\a.block<w.heap.size:=by
 obtain⟨_,hs,row,cells,hsh,_⟩:=h
 grind [BU]
variable {v:Value}
theorem aOG{u:TypeId}(h:Cell.okWide P w r b0 u v):aIp w v:=by
 rintro a len cap rfl;unfold Cell.okWide at h;unfold Cell.ok at h
 grind [aSL]
theorem aSM{cs:Array Value}(h:Row.okWide P w r b0 T cs):∀v∈cs.toList,aIp w v:=by
 obtain⟨ts,_,_,h⟩:=h;intro v hv;obtain⟨i,hi⟩:=iM hv;rw[eF]at hi;obtain⟨u,_,hu⟩:=h i v hi;exact aOG hu
theorem I4{e:Ty}{E T:TypeId}{fuel:Nat}{x:DataW H×Γ MemPlace}(hu:P.underlying T=some (.slice E))(hr:Lz P e E=true)(hz:e.size≠0)(hf:∀v∈cs,aIp w v)
  (h:Gu enc P w base spare held fuel T cs=some x):∃(v:Value) (ys:Γ e.den),cs=[v]/\oE w (Good w []) (eK w (Good w []) e) e.size ys v:=by
 simp only[Lz,aV]at hr;obtain⟨hc,hr⟩:=hr;have hc:=bF hc;rcases DataW.trod_slice hu h with ⟨h1,_⟩ | ⟨a,len,cap,elems,rest,n,_,h1,_,_,hl,hm,hlen,hel,_⟩
 ·exact⟨_,[],h1,by simp,.inl ⟨_,rfl,rfl⟩⟩
 ·subst h1;obtain⟨hs,hb⟩:=hf _ (dU.2 rfl) _ _ _ rfl;obtain⟨b,off,spot⟩:=a;have each:∀i,i<len->∃y cs,cs.length=e.size/\(∀j c,cs[j]? = some c->w.cell? ⟨b,off+i*e.size+j,none⟩=some c)/\eK w (Good w []) e y cs:=by
   intro i hi;have hx:=hel i hi;rw[List.getElem?_eq_getElem (by lia)]at hx;simp[Option.bind_eq_some_iff]at hx;obtain⟨cs,g1,g2⟩:=hx;obtain⟨k1,k2⟩:=aIo g1;obtain⟨y,hy⟩:=(Bu (G:=Good w []) e).1 E _ _ _ hr hc g2
   grind [gB]
  have build:∀k,k<=len->∃ys:Γ e.den,ys.length=k/\∀i y,ys[i]? = some y->∃cs,cs.length=e.size/\(∀j c,cs[j]? = some c->w.cell? ⟨b,off+i*e.size+j,none⟩=some c)/\eK w (Good w []) e y cs:=by
   intro k
   induction k with
   | zero=>simp
   | succ k ih =>
    intro hk;obtain⟨ys,h1,h2⟩:=ih (by lia);obtain⟨y,cs,g1,g2,g3⟩:=each k (by lia);refine⟨ys++[y],by grind,λi z hz=>?_⟩
    grind
  obtain⟨ys,h1,h2⟩:=build len (aT _);exact⟨_,ys,rfl,by lia,.inr ⟨b,off,cap,by lia,by lia,by lia,⟨hb,by simp⟩,h2⟩⟩
def qJ(P:Program):Ty->TypeId ⊕ (Γ Field×Nat)->Bool
 | .sl e,.inl T=>match P.underlying T with
  | some (.slice E)=>Lz P e E && !cC e.size 0
  | _=>false
 | .unit,.inr ([],_)=>true
 | .cons a b,.inr (f::fs,o)=>cC f.offset o&&(cC (P.cellsOf f.type) a.size&&(o8 P a.agg f.type (qJ P a)&&qJ P b (.inr (fs,o+a.size))))
 | .int k,x=>kD P (.int k) x
 | .bool,x=>kD P .bool x
 | .str,x=>kD P .str x
 | _,_=>false
theorem QS:∀(t:Ty),
  (∀T fuel cs x,o8 P t.agg T (qJ P t)=true->P.cellsOf T=t.size->(∀v∈cs,aIp w v)->Gu enc P w base spare held fuel T cs=some x->∃y,eK w (Good w []) t y cs) /\
  (∀fs o cs,qJ P t (.inr (fs,o))=true->(∀f∈fs,Fj enc P w base spare held cs f)->(∀v∈cs,aIp w v)->cs.length=o+t.size->∃y,eK w (Good w []) t y (cs.drop o))
 | .int k=>by
  refine⟨λT fuel cs x h hc _ ht=>(Bu (.int k)).1 T fuel cs x ?_ hc ht,λfs o cs h=>by grind [qJ,kD]⟩
  grind [o8,iB,qJ]
 | .bool=>by
  refine⟨λT fuel cs x h hc _ ht=>(Bu .bool).1 T fuel cs x ?_ hc ht,λfs o cs h=>by grind [qJ,kD]⟩
  grind [o8,iB,qJ]
 | .fn=>⟨λT fuel cs x h=>by grind [o8,iB,qJ],λfs o cs h=>by grind [qJ]⟩
 | .str=>by
  refine⟨λT fuel cs x h hc _ ht=>(Bu .str).1 T fuel cs x ?_ hc ht,λfs o cs h=>by grind [qJ,kD]⟩
  grind [o8,iB,qJ]
 | .sl e=>by
  refine⟨λT fuel cs x h hc hf ht=>?_,λfs o cs h=>by grind [qJ]⟩;simp only[o8,iB,qJ]at h;split at h
  ·rename_i E hu;simp at h;obtain⟨v,ys,h1,h2⟩:=I4 hu h.1 (λhz=>by simp_all) hf ht;exact⟨ys,v,h1,h2⟩
  lia
 | .unit=>by
  have hB:∀fs o cs,qJ P .unit (.inr (fs,o))=true->(∀f∈fs,Fj enc P w base spare held cs f)->cs.length=o+Kp.size->∃y,eK w (Good w []) .unit y (cs.drop o):=by
   intro fs o cs h _ hl;refine⟨(),?_⟩;show cs.drop o=[]
   grind [AZ,kS]
  refine⟨λT fuel cs x h hc _ ht=>?_,λfs o cs h1 h2 _ h3=>hB fs o cs h1 h2 h3⟩;simp only[o8,iB]at h;split at h
  ·rename_i fs hu;obtain⟨h1,h2⟩:=DF hu ht
   grind
  lia
 | .cons a b=>by
  obtain⟨ha,_⟩:=QS a;obtain⟨_,hb⟩:=QS b;have hB:∀fs o cs,qJ P (.cons a b) (.inr (fs,o))=true->(∀f∈fs,Fj enc P w base spare held cs f)->(∀v∈cs,aIp w v)->cs.length=o+(lX a b).size->∃y,eK w (Good w []) (.cons a b) y (cs.drop o):=by
   intro fs o cs h hf hfit hl
   match fs,h with
   | [],h=>grind [qJ]
   | f::fs,h =>
    simp only[qJ,aV]at h;obtain⟨h1,h2,h3,h4⟩:=h;have h1:=bF h1;have h2:=bF h2;simp only[kS]at hl;obtain⟨n,x,hx⟩:=hf f (aR ..);obtain⟨y1,hy1⟩:=ha _ _ _ _ h3 h2 (λv hv=>hfit v (iN (gY hv))) hx;obtain⟨y2,hy2⟩:=hb fs (o+a.size) cs h4 (λg hg=>hf g (aM _ hg)) hfit (by lia);refine⟨(y1,y2),_,_,?_,hy1,hy2⟩
    grind [pP,fH]
  refine⟨λT fuel cs x h hc hfit ht=>?_,hB⟩;simp only[o8,iB]at h;split at h
  ·rename_i fs hu;obtain⟨h1,h2⟩:=DF hu ht
   grind
  lia
def aOH(P:Program):Ty->TypeId->Bool
 | .sl e,T=>match P.underlying T with
  | some (.slice E)=>Lz P e E && !cC e.size 0
  | _=>false
 | t,T=>Lz P t T||(t.agg&&(cC (P.cellsOf T) t.size&&o8 P true T (qJ P t)))
theorem Uw{fs:Array Field}(hu:P.underlying T=some (.struct fs))(h:oL P w r b0 T v):∃cs,v = .agg cs:=by
 grind [oL]
theorem Yh{t:Ty}{d:DataW H}{ps:Γ MemPlace}(hB:Lz P t T=true)(hv:oL P w r b0 T v)(h:aJY enc P w base spare held T v d ps) :
  ∃x:t.den,yD w G (j8 t x) v:=by
 simp only[Lz,aV]at hB;obtain⟨hc,hB⟩:=hB;have hc:=bF hc;obtain⟨fuel,hf⟩:=h;obtain⟨y,hy⟩:=(Bu (G:=G) t).1 T fuel _ _ hB hc hf;refine⟨y,?_⟩;cases t with
 | int k =>
  have hu:=Pn (by simpa [o8,iB,kD] using hB);obtain⟨n,rfl⟩:=okWide_int hu hv;obtain⟨h1,h2⟩:=hy;simp[wK]at h1;subst h1;exact⟨rfl,h2⟩
 | bool =>
  have hu:=Ll (by simpa [o8,iB,kD] using hB);obtain⟨b,rfl⟩:=okWide_bool hu hv;have h1:([.bool b]:Γ Value)=[.bool y]:=hy;cases h1;exact⟨rfl,trivial⟩
 | fn=>grind [o8,iB,kD]
 | str =>
  have hu:=Po (by simpa [o8,iB,kD] using hB);obtain⟨s,rfl⟩:=okWide_string hu hv;obtain⟨h1,h2⟩:=hy;simp[wK]at h1;subst h1;exact⟨rfl,h2⟩
 | sl e=>grind [o8,iB,kD]
 | unit =>
  simp[o8,iB]at hB;split at hB
  ·rename_i fs hu;obtain⟨cs,rfl⟩:=Uw hu hv;exact⟨cs.toList,by lia,hy⟩
  lia
 | cons a b =>
  simp[o8,iB]at hB;split at hB
  ·rename_i fs hu;obtain⟨cs,rfl⟩:=Uw hu hv;exact⟨cs.toList,by lia,hy⟩
  lia
theorem aOI{T E:TypeId}{a:Addr}{len cap:Nat}(hu:P.underlying T=some (.slice E))(hv:oL P w r b0 T (.slice (some a) len cap)):a.spot=none/\a.block<w.heap.size:=by
 simp[oL,hu,Cell.okWide,Cell.ok]at hv;obtain⟨_,_,hh⟩:=hv;obtain⟨_,hs,row,cells,hsh,_⟩:=hh
 grind [BU]
theorem aOJ{t:Ty}{d:DataW H}{ps:Γ MemPlace}(hB:aOH P t T=true)(hv:oL P w r b0 T v)(h:aJY enc P w base spare held T v d ps) :
  ∃x:t.den,yD w (Good w []) (j8 t x) v:=by
 unfold aOH at hB;split at hB
 ·split at hB
  ·rename_i E hu;simp at hB;obtain⟨a0,len,cap,rfl⟩:=okWide_slice hu hv;obtain⟨fuel,hf⟩:=h;have hfit:∀u∈(Value.slice a0 len cap).cells.toList,aIp w u:=λu hu'=>by
    simp[wK]at hu';rintro a l c he
    grind [aOI]
   obtain⟨u,ys,h1,h2⟩:=I4 hu hB.1 (λhz=>by simp_all) hfit hf;simp[wK]at h1;subst h1;exact⟨ys,h2⟩
  lia
 ·rw[Hb]at hB;rcases hB with hB | hB
  ·exact Yh hB hv h
  ·simp only[aV]at hB;obtain⟨ha,hc,hB⟩:=hB;have hc:=bF hc;obtain⟨fuel,hf⟩:=h;have hB':=hB;unfold o8 at hB;simp at hB;split at hB
   ·rename_i fs hu;simp[oL,hu]at hv;obtain⟨cs,rfl,_,hrow⟩:=hv;obtain⟨y,hy⟩:=(QS t).1 T fuel _ _ (by lia) hc (aSM hrow) (by simpa [wK] using hf);refine⟨y,?_⟩;cases t with
    | cons a b=>exact⟨cs.toList,by lia,hy⟩
    | unit=>exact⟨cs.toList,by lia,hy⟩
    | _=>cases ha
   lia
theorem Zn{r:Reach}{b0:Nat}:∀ {ts:Γ Ty} {Ts:Γ TypeId} {vs:Γ Value} {ds:Γ (DataW H)} {ps:Γ MemPlace},ts.length=Ts.length->(∀(i:Nat) (t:Ty) (T:TypeId),ts[i]? = some t->Ts[i]? = some T->aOH P t T=true) ->
  (∀(j:Nat) T v,Ts[j]? = some T->vs[j]? = some v->oL P w r b0 T v)->E4 enc P w base spare held Ts vs ds ps ->
  ∃(x:eQ (ts.map nM)) (bss:Γ (Γ Nat)),bss.flatten=[]/\Cx w (Good w []) (ts.map nM) x vs bss
 | [],[],[],[],_,_,_,_,_=>⟨(),[],rfl,rfl,rfl⟩
 | t::ts,T::Ts,v::vs,d::ds,ps,hl,hB,hv,h=>by
  obtain⟨p,q,h1,h2,_⟩:=h;obtain⟨x,hx⟩:=aOJ (hB 0 t T rfl rfl) (hv 0 T v rfl rfl) h1;obtain⟨y,bss,hb,hy⟩:=Zn (by simpa using hl) (λi t T h1 h2=>hB (i+1) t T (by grind) (by grind)) (λj T v h1 h2=>hv (j+1) T v (by grind) (by grind)) h2;exact⟨(x,y),[]::bss,by grind,v,vs,[],bss,rfl,rfl,⟨rfl,hx⟩,hy⟩
 | [],_::_,_,_,_,hl,_,_,_=>by grind
 | _::_,[],_,_,_,hl,_,_,_=>by grind
end
section
variable {H:Type} {enc:TypeId×Value->H} {P:Program} {W W':World}
theorem LJ(hl:laidOutB P=true)(hb:Below W.heap.size W W'):∀ {ts:Γ TypeId} {vs:Γ Value} {ds:Γ (DataW H)} {ps:Γ MemPlace},(∀t∈ts,P.readableRec t=true/\t<P.types.size) ->
  E4 enc P W 0 (λ_=>true) true ts vs ds ps->(∀x∈ps,x.block<W.heap.size)->E4 enc P W' 0 (λb=>decide (b<W.heap.size)) true ts vs ds ps
 | [],[],[],_,_,h,_=>h
 | t::ts,v::vs,d::ds,ps,hr,⟨p,q,h1,h2,e⟩,hlt=>by
  obtain⟨r1,r2⟩:=hr t (aR ..);refine⟨p,q,Below.trod hl r1 r2 h1 hb (λx hx=>hlt x (by grind)),LJ hl hb (λt ht=>hr t (aM _ ht)) h2 (λx hx=>hlt x (by grind)),e⟩
 | [],[],_::_,_,_,h,_=>h.elim
 | [],_::_,_,_,_,h,_=>h.elim
 | _::_,[],_,_,_,h,_=>h.elim
 | _::_,_::_,[],_,_,h,_=>h.elim
theorem SV{base:Nat}{sp:Nat->Bool}{held:Bool}:∀ {ts:Γ TypeId} {vs:Γ Value} {ds:Γ (DataW H)} {ps:Γ MemPlace},E4 enc P W base sp held ts vs ds ps->ds.length=ts.length/\vs.length=ts.length
 | [],[],[],_,h=>⟨rfl,rfl⟩
 | t::ts,v::vs,d::ds,ps,⟨p,q,h1,h2,e⟩=>by obtain⟨a,b⟩:=SV h2;exact⟨by simp[a],by simp[b]⟩
 | [],[],_::_,_,h=>h.elim
 | [],_::_,_,_,h=>h.elim
 | _::_,[],_,_,h=>h.elim
 | _::_,_::_,[],_,h=>h.elim
end
def aFh(P:Program):Γ Ty->Γ TypeId->Bool
 | [],[]=>true
 | t::ts,T::Ts=>aOH P t T&&aFh P ts Ts
 | _,_=>false
theorem Ux{P:Program}:∀ {ts:Γ Ty} {Ts:Γ TypeId},aFh P ts Ts=true->ts.length=Ts.length/\∀(i:Nat) (t:Ty) (T:TypeId),ts[i]? = some t->Ts[i]? = some T->aOH P t T=true
 | [],[],_=>⟨rfl,λi t T h=>by simp⟩
 | t::ts,T::Ts,h=>by
  simp[aFh]at h;obtain⟨h1,h2⟩:=Ux h.2;refine⟨by simp[h1],λi u U hu hU=>?_⟩;cases i with
  | zero=>simp at hu hU;subst hu hU;exact h.1
  | succ i=>exact h2 i u U (by simpa using hu) (by simpa using hU)
 | [],_::_,h=>by cases h
 | _::_,[],h=>by cases h
def aBi(ts:Γ Ty):Spec:={ sig:=ts.map nM,pre:=λ_=>True,res:=λ_=>[⟨.bool,true⟩] }
def aMg{H:Type}{enc:TypeId×Value->H}{C:Checked}{f:FuncId}{fn:Func}{s:ChangeSpec}{apart fresh handsOn:Bool}
  (hl:laidOutB C.prog=true) (hr:(fn.params.toList.all λt=>C.prog.readableRec t&&aCv t C.prog.types.size)=true)
  (ts:Γ Ty) (hts:aFh C.prog ts fn.params.toList=true) {tb:TypeId} (hres:fn.resultTypes = #[tb]) (htb:C.prog.underlying tb=some .bool) (hvars:s.vars=[])
  (hs:∀ds:Γ (DataW H),ds.length=fn.params.toList.length->(s.fn H (ds++[])).results=[.lit (.bool true)]/\(s.fn H (ds++[])).args=ds/\(s.fn H (ds++[])).vars=[])
  (hcon:j9 C.prog f (aBi ts)) {W:World} (hg:Eg W) {base:Nat} {args:Array Value} {ds gs:Γ (DataW H)} {before:Γ MemPlace}
  (hval:∀(j:Nat) t v,fn.params[j]? = some t->args[j]? = some v->oL C.prog W .any base t v)
  (hW:DataW.Whole enc C.prog fn.params.toList s.vars apart W args.toList ds gs before) :
  Calls C.prog f args W λe W'=>∃v,e = .returned v/\s.post enc C.prog fn apart fresh handsOn false W args v W':=by
 have hW':=hW;obtain⟨p,q,hA,hV,hbef,hfz,hnd⟩:=hW;rw[hvars]at hV;obtain⟨rfl,rfl⟩:=trodVars_none hV;obtain⟨hlen,hall⟩:=Ux hts;obtain⟨x,bss,hb0,hx⟩:=Zn (r := .any) (b0:=base) hlen hall (λj T v h1 h2=>hval j T v (by grind) (by grind)) hA;have hcall:=hcon W (Good W []) (Good W []) x args.toList bss (by exact⟨hg,hg.size,λb hb=>by grind⟩) (by lia) (λb hb=>hb) trivial hx (by grind);rw[hb0]at hcall;refine hcall.mono ?_;rintro e W' ⟨rs,ubs,rbs,F,rfl,hk,hrr,_⟩;have hrs:rs=[.bool true]:=by
  obtain⟨v,s',b,bs,h1,h2,⟨cs,h3,h4⟩,h5⟩:=hrr;obtain⟨h3,_⟩:=h3;rw[h3]at h4;cases h4;rw[h1,h5.1]
 subst hrs;have hbel:=hk.below;obtain⟨g1,g2,g3⟩:=hs ds (SV hA).1;have hlt:∀y∈p,y.block<W.heap.size:=λy hy=>hW'.lt y (by grind);have hr':∀t∈fn.params.toList,C.prog.readableRec t=true/\t<C.prog.types.size:=λt ht=>by
  have:=List.all_eq_true.1 hr t ht;simp_all
 refine⟨.bool true,rfl,ds,[],before,[],p,[],hW',?_,?_,?_,hbel.frame _,λh=>by lia⟩
 ·rw[hres,g1];exact trodAll_mk1 (shut_bool htb true)
 ·grind [LJ]
 ·rw[hvars,g3];rfl
def TZ{H:Type}{enc:TypeId×Value->H}{a:Assume}{C:Checked}{os:Os}{f:FuncId}{fn:Func}{s:ChangeSpec}{conds:Γ PathCond}{apart fresh handsOn:Bool}{laid:Γ (String×DataW Unit)}
  (own:ownKnob C.prog.godebug=none) (started:os.Started) (noInit:C.prog.inits.idxOf? f=none) (hfn:C.prog.funcs[f]? = some fn)
  (witness:∃(w:World) (tape:Tape) (i:Input),w.os=os/\(w.forCall tape i).Shaped C.prog/\i.vars=[]/\Input.okWide C.prog (w.forCall tape i) .any w.heap.size f i /\
   ((s.pre enc C.prog fn conds apart (w.forCall tape i).memory i.args/\laidMetH C.prog laid (w.forCall tape i).memory)/\sizedMet enc C.prog fn (OpenSpec.ofChange s) apart (w.forCall tape i).memory i.args)/\a.holds C.prog (lone (Frame.enter C.prog f i.args .normal) [] (w.forCall tape i)))
  (hl:laidOutB C.prog=true) (hr:(fn.params.toList.all λt=>C.prog.readableRec t&&aCv t C.prog.types.size)=true)
  (ts:Γ Ty) (hts:aFh C.prog ts fn.params.toList=true) {tb:TypeId} (hres:fn.resultTypes = #[tb]) (htb:C.prog.underlying tb=some .bool) (hvars:s.vars=[])
  (hs:∀ds:Γ (DataW H),ds.length=fn.params.toList.length->(s.fn H (ds++[])).results=[.lit (.bool true)]/\(s.fn H (ds++[])).args=ds/\(s.fn H (ds++[])).vars=[])
  (hg:∀W:World,W.ShapedOpen C.prog->laidMetH C.prog laid W->Eg W) (hcon:j9 C.prog f (aBi ts)) :
  ReturnsInHanded a C os f .any (λw args=>(s.pre enc C.prog fn conds apart w args/\laidMetH C.prog laid w)/\sizedMet enc C.prog fn (OpenSpec.ofChange s) apart w args) (s.post enc C.prog fn apart fresh handsOn false):=by
 refine returnsInHanded_of_calls own started noInit witness ?_;intro w tape i _ hsh _ hok hpre hholds;obtain⟨_,_,_,fn',hfn',_,_,_,_,hval⟩:=hok;have e:fn'=fn:=Option.some.inj (hfn'.symm.trans hfn);subst e;obtain⟨⟨⟨ds,gs,before,hw,hc⟩,hx⟩,hz⟩:=hpre;have hw':=DataW.Whole.of_heap (w':=w.forCall tape i) (by rfl) hw;have hx':laidMetH C.prog laid (w.forCall tape i):=hx.of_heap (by rfl);refine(aMg (fresh:=fresh) (handsOn:=handsOn) hl hr ts hts hres htb hvars hs hcon (hg _ hsh hx') hval hw').mono λe W' ⟨v,he,hp⟩=>?_
 grind [ChangeSpec.post_blind]
end Go.Am
namespace Go.Am
def y7(f:Func):Code:=match f.body with | some c=>c | none => .skip
def AH:Code->Nat
 | .region id _ _=>id
 | .seq x _=>AH x
 | .block _ c=>AH c
 | .loop c=>AH c
 | .scope c=>AH c
 | _=>999999
def orL:Option (Γ Item)->Option (Γ Item)->Option (Γ Item)
 | some k,_=>some k
 | none,x=>x
def Uy(id:Nat):Code->Γ Item->Option (Γ Item)
 | .seq x y,k=>orL (Uy id x (.code y::k)) (Uy id y k)
 | .block b c,k=>Uy id c (.inBlock b::k)
 | .loop c,k=>match cC (AH c) id with
  | true=>some (.code c :: .inLoop c::k)
  | false=>Uy id c (.inLoop c::k)
 | .cond _ x y,k=>orL (Uy id x k) (Uy id y k)
 | .region r ops d,k=>match cC r id with
  | true=>some (.code (.region r ops d)::k)
  | false=>none
 | _,_=>none
def bDH(c:Code)(id:Nat):Γ Item:=match Uy id c [] with | some k=>k | none=>[]
def ON(r i:Nat)(ty:Ty)(EL:gK×bM):gK×bM :=
 match b5 EL.2 r with
 | some A=>match A.ls with
  | some ls=>match ls[i]? with
   | some (.val (.slice none _ _))=>(EL.1,jY (EL.2++[some ⟨ty,[], !ty.flat,none,none⟩]) r (some ⟨A.t,A.xs,A.bor,some (ls.set i (.osl EL.2.length none)),A.sm⟩))
   | _=>EL
  | none=>EL
 | none=>EL
def aVA(t:Nat)(ty:Ty)(EL:gK×bM):gK×bM :=
 match EL.1.get t with
 | .a (.val (.slice none _ _))=>(EL.1.set t (.a (.osl EL.2.length none)),EL.2++[some ⟨ty,[], !ty.flat,none,none⟩])
 | _=>EL
def aMh(t:Nat)(ty:Ty)(EL:gK×bM):gK×bM :=
 match pE 1000000 t with
 | true=>match EL.1.get (t%1000000)with
  | .a (.bptr r _ _)=>ON r (t/1000000-1) ty EL
  | .a (.optr r _ _)=>ON r (t/1000000-1) ty EL
  | _=>EL
 | false=>aVA t ty EL
def Zo:Γ (Nat×Ty)->gK×bM->gK×bM
 | [],EL=>EL
 | (t,ty)::r,EL=>Zo r (aMh t ty EL)
def Dj(A:iJ):iJ :=
 match A.t.flat,A.bor with
 | false,false=>match A.ls,A.sm with
  | none,none=>match A.xs.isEmpty with
   | true=>⟨A.t,A.xs,true,none,none⟩
   | false=>A
  | _,_=>A
 | _,_=>A
def borUp(L:bM):bM:=L.map λo=>match o with | some A=>some (Dj A) | none=>none
theorem MA:∀(L:bM) (s:Nat),b5 (borUp L) s=(b5 L s).map Dj
 | [],_=>rfl
 | some B::L,0=>rfl
 | none::L,0=>rfl
 | o::L,s+1=>MA L s
theorem xC(A:iJ):Dj A=A\/(A.xs=[]/\A.ls=none/\A.sm=none/\Dj A=⟨A.t,A.xs,true,none,none⟩):=by
 unfold Dj
 grind
section
variable {P:Program} {n:Nat} {K:gU} {G:Nat->Prop} {w0 w:World} {a:Act} {V:Nat->Value} {own:Nat->Γ Nat} {f:FuncId} {R:Ending->World->Prop} {E:gK} {L:bM}
theorem bQ.reset(hR:bQ n K w0 G w a E L V own){t:Nat}{p:PV}(hp:mS w0 G L V p (a.tmps.getD t undef)):bQ n K w0 G w a (E.set t p) L V own :=
 ⟨hR.glob,hR.kept,hR.size,hR.defers,hR.glt,hR.gref,hR.gsub,hR.gold,hR.gup,hR.heap,hR.good,hR.nodup,hR.apart,hR.boxs,hR.small,λi=>by
  rw[gK.get_set];split
  ·lia
  ·exact hR.env i⟩
theorem Zp{V':Nat->Value}{L':bM}{x:gJ}{u:Value}(hx:UG w0 G L' V' x u):∀ {ls:Γ gJ} {cs:Γ Value} {i:Nat},iL w0 G L' V' ls cs->cs[i]? = some u->iL w0 G L' V' (ls.set i x) cs
 | [],cs,i,h,hi=>h
 | y::ls,cs,0,⟨v,r,h1,h2,h3⟩,hi=>by
  subst h1;simp at hi;subst hi;exact⟨v,r,rfl,hx,h3⟩
 | y::ls,cs,i+1,⟨v,r,h1,h2,h3⟩,hi=>by
  subst h1;exact⟨v,r,rfl,h2,Zp hx h3 (by grind)⟩
theorem aFi{V':Nat->Value}{L':bM}{x:gJ}:∀ {ls:Γ gJ} {cs:Γ Value} {i:Nat},iL w0 G L' V' ls cs->ls[i]? = some x->∃u,cs[i]? = some u/\UG w0 G L' V' x u
 | [],cs,i,h,hi=>by grind
 | y::ls,cs,0,⟨v,r,h1,h2,h3⟩,hi=>by
  grind
 | y::ls,cs,i+1,⟨v,r,h1,h2,h3⟩,hi=>by
  subst h1;obtain⟨u,h4,h5⟩:=aFi h3 (by simpa using hi);exact⟨u,by simpa using h4,h5⟩
theorem OO(hR:bQ n K w0 G w a E L V own)(r i:Nat)(ty:Ty):∃V' own',bQ n K w0 G w a (ON r i ty (E,L)).1 (ON r i ty (E,L)).2 V' own':=by
 unfold ON;split
 ·rename_i A hA;split
  ·rename_i ls hls;split
   ·rename_i m c hi;have hE:iS w0 G w ⟨ty,[], !ty.flat,none,none⟩ (.slice none 0 0) []:=⟨by simp,.inl ⟨_,rfl,rfl,rfl⟩⟩;have hR':=hR.grow hE lM (λb hb=>by grind) (λr A hA b hb hm=>by grind);have hrl:r<L.length:=wS hA;have hA':b5 (L++[some ⟨ty,[], !ty.flat,none,none⟩]) r=some A:=by
     rw[nE]
     lia
    obtain⟨b,off,cs,h1,h2,h3,h4,h5⟩:=hR'.boxs r A ls hA' hls;obtain⟨u,hu,hv⟩:=aFi h5 hi;obtain⟨hv,h0,h6⟩:=hv;obtain⟨h7,h8⟩:=h0;subst h7 h8;subst hv;refine⟨_,_,hR'.setLs hA' hls ⟨b,off,cs,h1,h2,by grind,h4,Zp ?_ h5 hu⟩⟩;exact uM (w0:=w0) (G:=G) (u:=w0) (G':=G) (w:=w) hE
   grind
  grind
 grind
theorem aMi(hR:bQ n K w0 G w a E L V own)(t:Nat)(ty:Ty):∃V' own',bQ n K w0 G w a (aMh t ty (E,L)).1 (aMh t ty (E,L)).2 V' own':=by
 unfold aMh;split
 ·split
  ·exact OO hR _ _ ty
  ·exact OO hR _ _ ty
  grind
 unfold aVA;split
 ·rename_i m c hg;have hv:=hR.env t;rw[hg]at hv;obtain⟨hv,h0,h1⟩:=hv;subst h0 h1;have hE:iS w0 G w ⟨ty,[], !ty.flat,none,none⟩ (.slice none 0 0) []:=⟨by simp,.inl ⟨_,rfl,rfl,rfl⟩⟩;have hR':=hR.grow hE lM (λb hb=>by grind) (λr A hA b hb hm=>by grind);refine⟨_,_,hR'.reset ?_⟩;rw[hv];exact uM (w0:=w0) (G:=G) (u:=w0) (G':=G) (w:=w) hE
 grind
theorem Uz:∀ {l:Γ (Nat×Ty)} {E:gK} {L:bM} {V:Nat->Value} {own:Nat->Γ Nat},bQ n K w0 G w a E L V own->∃V' own',bQ n K w0 G w a (Zo l (E,L)).1 (Zo l (E,L)).2 V' own'
 | [],E,L,V,own,hR=>⟨V,own,hR⟩
 | (t,ty)::r,E,L,V,own,hR=>by
  obtain⟨V',own',h⟩:=aMi hR t ty;show ∃V' own',bQ n K w0 G w a (Zo r (aMh t ty (E,L))).1 (Zo r (aMh t ty (E,L))).2 V' own';exact Uz h
theorem bQ.borUp(hR:bQ n K w0 G w a E L V own):bQ n K w0 G w a E (Am.borUp L) V own:=by
 have hback:∀s B,b5 (Am.borUp L) s=some B->∃C,b5 L s=some C/\B=Dj C:=λs B h=>by
  rw[MA]at h;cases hC:b5 L s with
  | none=>grind
  | some C=>grind
 have ht:∀C,(Dj C).t=C.t:=λC=>by grind [xC]
 have hl:∀C,(Dj C).xs.length=C.xs.length:=λC=>by grind [xC]
 have hls:∀C,(Dj C).ls=C.ls:=λC=>by grind [xC]
 have hag:∀s,oD L V (Am.borUp L) V s:=λs=>⟨rfl,λA hA=>⟨Dj A,by grind [MA],ht A,hl A,λls h=>⟨ls,by grind⟩⟩⟩;refine⟨hR.glob,hR.kept,hR.size,hR.defers,hR.glt,hR.gref,hR.gsub,hR.gold,hR.gup,?_,?_,?_,?_,?_,?_,λi=>?_⟩
 ·intro s B hs;obtain⟨C,h2,rfl⟩:=hback s B hs;have h:=hR.heap s C h2;rcases xC C with e | ⟨e1,e2,e3,e⟩
  ·lia
  ·rw[e];refine⟨h.1,?_⟩;rcases h.2 with h | ⟨b,off,cap,cur,ty,fz,bss,h1,h2,h3,h4,h5,h6,h7,h8,h9⟩
   ·grind
   ·exact .inr ⟨b,off,cap,cur,ty,fz,bss,h1,h2,h3,h4,h5,h6,h7,h8,λi x bi hx _=>by grind⟩
 ·intro s B hs;obtain⟨C,h2,rfl⟩:=hback s B hs;exact hR.good s C h2
 ·intro s B hs;obtain⟨C,h2,rfl⟩:=hback s B hs;exact hR.nodup s C h2
 ·intro s u B D hs hu hsu;obtain⟨C,h2,rfl⟩:=hback s B hs;obtain⟨F,h4,rfl⟩:=hback u D hu;exact hR.apart s u C F h2 h4 hsu
 ·intro s B ls hs hl';obtain⟨C,h2,rfl⟩:=hback s B hs;rw[hls]at hl';rw[ht];exact(hR.boxs s C ls h2 hl').agree λu _=>hag u
 ·intro s B q hs hq;obtain⟨C,h2,rfl⟩:=hback s B hs;rcases xC C with e | ⟨_,_,_,e⟩
  ·rw[e]at hq ⊢;exact hR.small s C q h2 hq
  lia
 ·exact sC (hR.env i) λu _=>hag u
end
instance (k:IntKind) (n:Int):Decidable (bA k n):=inferInstanceAs (Decidable (k.min<=n/\n<=k.max))
theorem Cx.wf{w:World}{G:Nat->Prop}{sig:Γ AT}{x:eQ sig}{vs:Γ Value}{bss:Γ (Γ Nat)}(h:Cx w G sig x vs bss):I3 sig x:=aKy h
def j9.says{P:Program}{f:FuncId}{sig:Γ AT}{pre pre':eQ sig->Prop}{upd:eQ sig->Γ (Option jC)}{res res':eQ sig->Γ aS}{kds:Γ RK}
  (hc:j9 P f { sig:=sig,pre:=pre,upd:=upd,res:=res,kds:=kds }) (h:∀x,pre' x->I3 sig x->pre x/\res x=res' x):j9 P f { sig:=sig,pre:=pre',upd:=upd,res:=res',kds:=kds }:=by
 intro w G G0 x vs bss hgo hG hG0 hp ha hn;obtain⟨h1,h2⟩:=h x hp (OJ ha);have:=hc w G G0 x vs bss hgo hG hG0 h1 ha hn
 lia
theorem bE(a b:Δ):(aB a==aB b)=true↔a=b:=by
 rw[<- beq_toListBytes];obtain⟨⟨x⟩⟩:=a;obtain⟨⟨y⟩⟩:=b;show ((⟨x⟩:Array UInt8)==⟨y⟩)=true↔_
 lia
variable {α:Type}
theorem jX(xs:Γ α)(i:Nat)(d:α)(h:i<xs.length):xs.getD i d=xs[i]:=by
 grind
theorem eD(xs:Γ α)(i:Nat)(d:α)(h:i<xs.length):xs.drop i=xs.getD i d::xs.drop (i+1):=by
 simp_all
theorem xD(xs:Γ α)(i:Nat)(h:xs.length<=i):xs.drop i=[]:=AZ.2 h
def jZ{xs:Γ α}(h:xs.length<=maxLen){i:Nat}(hi:i<xs.length):bA .i64 ((i:Int)+1):=by
 have e1:(IntKind.i64).min = -9223372036854775808:=by rfl
 have e2:(IntKind.i64).max=9223372036854775807:=by rfl
 grind [maxLen,bA]
theorem aK(n:Int):bA .i64 n ↔ -9223372036854775808<=n/\n<=9223372036854775807:=by
 rfl
theorem QT(n:Int):bA .u8 n↔0<=n/\n<=255:=by
 rfl
theorem sF(s:Δ):(b9 s).length=s.size:=by simp[b9]
theorem I5(s:Δ)(i:Nat):((List.getD (Array.toList (bO s)) i 0).toNat:Int)=(b9 s).getD i 0:=by
 unfold b9;rw[bC,bC,jH];cases h:s.data.toList[i]? with
 | none=>rfl
 | some b=>rfl
theorem aFj{s t:Δ}(h:b9 s=b9 t):s=t:=by
 obtain⟨⟨x⟩⟩:=s;obtain⟨⟨y⟩⟩:=t
 congr 2
 unfold b9 at h
 induction x generalizing y with
 | nil=>simp_all
 | cons a r ih=>cases y with
  | nil=>grind
  | cons b s =>
   simp at h;have h1:a=b:=by
    exact jL.1 (by omega)
   rw[h1,ih s h.2]
def goL{α β δ:Type}(f:β->α->Except δ β)(fin:β->δ):β->Γ α->δ
 | b,[]=>fin b
 | b,x::r=>match f b x with
  | .ok b'=>goL f fin b' r
  | .error d=>d
def aMj{α β δ:Type}(xs:Γ α)(d:α)(f:β->α->Except δ β)(fin:β->δ)(Inv:Nat->β->Prop)(R:Nat->Int->β->δ->Prop)
  (hend:∀n b,Inv xs.length b->R (n+1) xs.length b (fin b))
  (hstep:∀n (i:Nat) b,i<xs.length->Inv i b->match f b (xs.getD i d)with
   | .ok b'=>Inv (i+1) b'/\∀ds,R n (((i:Nat):Int)+1) b' ds->R (n+1) (i:Int) b ds
   | .error ds=>R (n+1) (i:Int) b ds) :
  ∀(k i:Nat) b,i+k=xs.length->Inv i b->R (k+1) (i:Int) b (goL f fin b (xs.drop i)):=by
 intro k
 induction k with
 | zero =>
  intro i b hi hinv;have:i=xs.length:=by lia
  subst this;rw[xD xs _ (aT _)];exact hend 0 b hinv
 | succ k ih =>
  grind [eD,goL]
def aFk{α β δ:Type}(xs:Γ α)(d:α)(f:β->α->Except δ β)(fin:β->δ)(Inv:Nat->β->Prop)(R:Nat->Int->β->δ->Prop){b:β}(h0:Inv 0 b)
  (hend:∀n b,Inv xs.length b->R (n+1) xs.length b (fin b))
  (hstep:∀n (i:Nat) b,i<xs.length->Inv i b->match f b (xs.getD i d)with
   | .ok b'=>Inv (i+1) b'/\∀ds,R n (((i:Nat):Int)+1) b' ds->R (n+1) (i:Int) b ds
   | .error ds=>R (n+1) (i:Int) b ds):R (xs.length+1) 0 b (goL f fin b xs):=by
 have:=aMj xs d f fin Inv R hend hstep xs.length 0 b (by lia) h0
 grind
theorem aKz{α δ:Type}(q:α->Bool)(no yes:δ):∀(l:Γ α) (f:Unit->α->Except δ Unit) (fin:Unit->δ),(∀x,f () x=if q x=true then .ok ()else .error no)->fin ()=yes->goL f fin () l=if l.all q=true then yes else no
 | [],f,fin,hf,hfin=>by grind [goL]
 | x::r,f,fin,hf,hfin=>by
  simp[goL,hf];cases h:q x with
  | true=>simp;rw[aKz q no yes r f fin hf hfin];grind
  | false=>grind
def tG{α δ:Type}(xs:Γ α)(d:α)(q:α->Bool)(no yes:δ)(R:Nat->Int->δ->Prop)(hend:∀n,R (n+1) xs.length yes)
  (hok:∀n (i:Nat),i<xs.length->q (xs.getD i d)=true->∀ds,R n (((i:Nat):Int)+1) ds->R (n+1) (i:Int) ds)
  (hno:∀n (i:Nat),i<xs.length->q (xs.getD i d)=false->R (n+1) (i:Int) no):R (xs.length+1) 0 (if xs.all q=true then yes else no):=by
 have key:=aFk (b:=()) xs d (λ(_:Unit) x=>if q x=true then .ok ()else .error no) (λ_=>yes) (λ_ _=>True) (λn i _ ds=>R n i ds) trivial (λn _ _=>hend n) (λn i _ hi _=>by
  grind)
 rw[aKz q no yes _ _ _ (λ_=>rfl) rfl]at key
 lia
def nL{α:Type}(q:Nat->α->Bool):Nat->Γ α->Bool
 | _,[]=>true
 | i,x::r=>q i x&&nL q (i+1) r
def y8{α δ:Type}(xs:Γ α)(d:α)(q:Nat->α->Bool)(no yes:δ)(R:Nat->Int->δ->Prop)(hend:∀n,R (n+1) xs.length yes)
  (hok:∀n (i:Nat),i<xs.length->q i (xs.getD i d)=true->∀ds,R n (((i:Nat):Int)+1) ds->R (n+1) (i:Int) ds)
  (hno:∀n (i:Nat),i<xs.length->q i (xs.getD i d)=false->R (n+1) (i:Int) no):R (xs.length+1) 0 (if nL q 0 xs=true then yes else no):=by
 have key:∀(k i:Nat),i+k=xs.length->R (k+1) (i:Int) (if nL q i (xs.drop i)=true then yes else no):=by
  intro k
  induction k with
  | zero =>
   grind [nL]
  | succ k ih =>
   intro i hi;rw[eD xs i d (by lia)];by_cases h:q i (xs.getD i d)=true
   ·have h2:=hok (k+1) i (by lia) h _ (by have:=ih (i+1) (by lia);rwa [show ((i+1:Nat):Int)=(i:Int)+1 from by lia]at this);simp only[nL]
    lia
   ·simp[nL]
    grind
 have:=key xs.length 0 (by lia)
 grind
theorem VA{α:Type}(q:α->Bool):∀(l:Γ α) (i:Nat),nL (λ_ x=>q x) i l=l.all q
 | [],_=>rfl
 | x::r,i=>by simp[nL,VA]
theorem vB{α:Type}{p q:Nat->α->Bool}:∀(l:Γ α) (i:Nat),(∀j x,i<=j->p j x=q j x)->nL p i l=nL q i l
 | [],_,_=>rfl
 | x::r,i,h=>by
  simp[nL];rw[h i x (aT _),vB r (i+1) (λj x hj=>h j x (by lia))]
def Er{α δ:Type}(xs:Γ α)(d:α)(q:α->Bool)(none':δ)(some':Int->δ)(R:Nat->Int->δ->Prop)(hend:∀n,R (n+1) xs.length none')
  (hgo:∀n (i:Nat),i<xs.length->q (xs.getD i d)=false->∀ds,R n (((i:Nat):Int)+1) ds->R (n+1) (i:Int) ds)
  (hhit:∀n (i:Nat),i<xs.length->q (xs.getD i d)=true->R (n+1) (i:Int) (some' i)):R (xs.length+1) 0 (match xs.findIdx? q with | some k=>some' (k:Nat) | none=>none'):=by
 have key:∀(k i:Nat),i+k=xs.length->R (k+1) (i:Int) (match (xs.drop i).findIdx? q with | some j=>some' ((i+j:Nat):Int) | none=>none'):=by
  intro k
  induction k with
  | zero =>
   grind
  | succ k ih =>
   intro i hi;rw[eD xs i d (by lia)];cases h:q (xs.getD i d)with
   | true=>grind
   | false =>
    cases hf:List.findIdx? q (List.drop (i+1) xs)with
    | none=>grind
    | some j =>
     grind
 have:=key xs.length 0 (by lia)
 grind
def idx:Option Nat->Int
 | some k=>(k:Nat)
 | none => -1
def DG(q:α->Bool):∀(l:Γ α),idx (l.findIdx? q)>=0↔l.any q=true:=by
 intro l;have h:=List.findIdx?_isSome (xs:=l) (p:=q);rw[<- h];cases l.findIdx? q with
 | none=>simp[idx]
 | some k=>simp[idx]
def bY(xs:Γ α)(i:Nat)(d:α)(h:i<xs.length):xs.getD i d∈xs:=by
 grind
end Go.Am
namespace Go.Am
open Go.RowKit (Below)
theorem Fk{w:World}{G:Nat->Prop}:∀ {sig:Γ AT} {x:eQ sig} {vs:Γ Value} {bss:Γ (Γ Nat)},aKw sig=true->Cx w G sig x vs bss->bss.flatten=[]/\lP sig vs=[]
 | [],_,vs,bss,_,⟨h1,h2⟩=>by subst h1 h2;exact⟨rfl,rfl⟩
 | .v t::r,x,vs,bss,h,⟨v,s,b,bs,h1,h2,h3,h4⟩=>by
  subst h1 h2;obtain⟨e1,e2⟩:=Fk (sig:=r) h h4;exact⟨by rw[gF,h3.1,e1];rfl,e2⟩
 | .p t::r,x,vs,bss,h,⟨v,s,b,bs,h1,h2,h3,h4⟩=>by
  subst h1 h2;obtain⟨e1,e2⟩:=Fk (sig:=r) h h4;exact⟨by rw[gF,h3.1,e1];rfl,e2⟩
 | .fn f c::r,x,vs,bss,h,⟨v,s,b,bs,h1,h2,h3,h4⟩=>by
  subst h1 h2;obtain⟨e1,e2⟩:=Fk (sig:=r) h h4;exact⟨by rw[gF,h3.1,e1];rfl,e2⟩
 | .own t::r,_,_,_,h,_=>by cases h
 | .po t::r,_,_,_,h,_=>by cases h
theorem DH:∀ {sig:Γ AT},aKw sig=true->Eh sig=true
 | [],_=>rfl
 | .v t::r,h=>DH (sig:=r) h
 | .p t::r,h=>DH (sig:=r) h
 | .fn f c::r,h=>DH (sig:=r) h
 | .own t::r,h=>by cases h
 | .po t::r,h=>by cases h
theorem K2{w:World}:∀ {t:Ty} {x:t.den},t.flat=true->Wf t x->iA w t x (qF t x) []
 | .int _,_,_,h=>⟨rfl,h,rfl⟩
 | .bool,_,_,_=>⟨rfl,rfl⟩
 | .fn,_,_,_=>⟨rfl,rfl⟩
 | .str,_,_,h=>⟨rfl,h,rfl⟩
 | .unit,_,_,_=>⟨rfl,rfl⟩
 | .cons a b,x,hf,h=>by
  simp only[PI,aV]at hf;exact⟨_,_,[],[],rfl,rfl,K2 hf.1 h.1,K2 hf.2 h.2⟩
 | .sl _,_,h,_=>by cases h
def aFl{w:World}{t:Ty}{x:t.den}{cs:Γ Value}{bs:Γ Nat}(h:iA w t x cs bs):H2 t cs (hZ t cs):=by
 have hl:=h.length;cases t <;> simp only[H2,hZ,iB,if_true,if_false,fU]
 all_goals (match cs,hl with | [c],_=>rfl)
theorem SW{w:World}:∀ {ds:Γ aS},(∀d∈ds,d.t.flat=true/\Wf d.t d.x)->De w ds (ds.map λd=>hZ d.t (qF d.t d.x)) (ds.map λ_=>[])
 | [],_=>⟨rfl,rfl⟩
 | d::r,h=>by
  obtain⟨h1,h2⟩:=h d (aR ..);have ho:=K2 (w:=w) h1 h2;exact⟨_,_,_,_,_,rfl,rfl,ho,aFl ho,SW λd hd=>h d (aM _ hd)⟩
theorem Zq(ds:Γ aS):(ds.map λ_=>([]:Γ Nat)).flatten=[]:=by
 induction ds with
 | nil=>rfl
 | cons d r ih=>simp
def nH{P:Program}{f:FuncId}{sig:Γ AT}{pre:eQ sig->Prop}{res:eQ sig->Γ aS}(hno:aKw sig=true)
  (h:∀(w:World) (x:eQ sig) (vs:Γ Value) (bss:Γ (Γ Nat)),Eg w->pre x->I3 sig x->Cx w (Good w []) sig x vs bss ->
   (∀d∈res x,d.t.flat=true/\Wf d.t d.x)/\Calls P f vs.toArray w λe w'=>e = .returned (IA ((res x).map λd=>hZ d.t (qF d.t d.x)))/\cQ [] w w') :
  j9 P f { sig:=sig,pre:=pre,res:=res }:=by
 refine Bb.up (DH hno) rfl ?_;intro w x vs bss hgo hp ha hn;obtain⟨e1,e2⟩:=Fk hno ha;have ha':=ha;rw[e1]at ha';obtain⟨h1,h2⟩:=h w x vs bss hgo.inv hp (aKy ha) ha';refine h2.mono ?_;rintro e w' ⟨rfl,hk⟩;refine⟨_,[],_,rfl,by rw[e1];exact hk,SW h1,by rw[e2];exact⟨rfl,rfl⟩,?_,?_⟩
 ·simp only[Zq,FN,cK];exact lM
 ·simp only[Zq,FN,cK];intro b hb;cases hb
theorem Y8.toRep{w:World}{G F:Nat->Prop}:∀ {ds:Γ aS} {rs:Γ Value} {rbs:Γ (Γ Nat)},Y8 w G F [] ds rs rbs->De w ds rs rbs
 | [],_,_,h=>h
 | d::r,_,_,⟨v,s,b,bs,h1,h2,⟨cs,h3,h4⟩,h5⟩=>⟨v,s,b,bs,cs,h1,h2,h3,h4,h5.toRep⟩
def j9.down{P:Program}{f:FuncId}{S:Spec}(hk:S.kds=[])(h:j9 P f S)(w:World)(x:eQ S.sig)(vs:Γ Value)(bss:Γ (Γ Nat))(hg:No w bss.flatten)(hp:S.pre x)
  (ha:Cx w (Good w bss.flatten) S.sig x vs bss) (hn:bss.flatten.Nodup) :
  Calls P f vs.toArray w λe w'=>∃(rs:Γ Value) (ubs rbs:Γ (Γ Nat)),e = .returned (IA rs)/\cQ bss.flatten w w'/\De w' (S.res x) rs rbs/\True:=by
 refine(h w (Good w bss.flatten) (Good w bss.flatten) x vs bss hg (λ_ h=>h) (λ_ h=>h) hp ha hn).mono ?_;rintro e w' ⟨rs,ubs,rbs,F,h1,h2,h3,_⟩;rw[hk]at h3;exact⟨rs,ubs,rbs,h1,h2,h3.toRep,trivial⟩
end Go.Am
namespace Go.Am
theorem aFm{α β δ:Type}(f:β->α->Except δ β)(g:β->α->β)(fin:β->δ)(hf:∀b x,f b x = .ok (g b x)):∀(l:Γ α) (b:β),goL f fin b l=fin (l.foldl g b)
 | [],_=>rfl
 | x::r,b=>by
  simp only[goL,hf,fR];exact aFm f g fin hf r _
def Zr{α β δ:Type}(xs:Γ α)(d:α)(g:β->α->β)(fin:β->δ)(Inv:Nat->β->Prop)(R:Nat->Int->β->δ->Prop){b:β}(h0:Inv 0 b)
  (hend:∀n b,Inv xs.length b->R (n+1) xs.length b (fin b))
  (hstep:∀n (i:Nat) b,i<xs.length->Inv i b->Inv (i+1) (g b (xs.getD i d))/\∀ds,R n (((i:Nat):Int)+1) (g b (xs.getD i d)) ds->R (n+1) (i:Int) b ds):R (xs.length+1) 0 b (fin (xs.foldl g b)):=by
 have key:=aFk xs d (λb x => .ok (g b x)) fin Inv R h0 hend (λn i b hi hb=>hstep n i b hi hb)
 rwa [aFm _ g _ (λ_ _=>rfl)]at key
theorem MB{α γ:Type}(m:α->γ):∀(l:Γ α) (b:Γ γ),l.foldl (λh x=>h++[m x]) b=b++l.map m
 | [],b=>by simp
 | x::r,b=>by rw[fR,MB m r];simp
def aOK{α:Type}{h:Γ α}{x:α}{i:Nat}(hl:h.length<=i):(h++[x]).length<=i+1:=by simp;omega
theorem K3:∀x:Γ UInt8,bK x x=false
 | []=>rfl
 | a::x=>by simp[bK,K3 x]
theorem aBj(a b:UInt8)(x y:Γ UInt8):bK (a::x) (b::y)=true↔a.toNat<b.toNat\/(a.toNat=b.toNat/\bK x y=true):=by
 simp only[bK,Hb,ε,aV,beq_iff_eq,UInt8.lt_iff_toNat_lt,jL]
theorem VB:∀x y z:Γ UInt8,bK x y=true->bK y z=true->bK x z=true
 | x,y,[],_,h=>by cases y <;> cases h
 | [],y,c::z,_,_=>rfl
 | a::x,[],c::z,h,_=>by cases h
 | a::x,b::y,c::z,h1,h2=>by
  rw[aBj]at *;rcases h1 with h1 | ⟨e1,h1⟩
  ·rcases h2 with h2 | ⟨e2,h2⟩
   ·exact .inl (by omega)
   ·exact .inl (by omega)
  ·rcases h2 with h2 | ⟨e2,h2⟩
   ·exact .inl (by omega)
   ·exact .inr ⟨by omega,VB x y z h1 h2⟩
theorem aIq:∀x y:Γ UInt8,bK x y=false->bK y x=false->x=y
 | [],[],_,_=>rfl
 | [],b::y,h,_=>by cases h
 | a::x,[],_,h=>by cases h
 | a::x,b::y,h1,h2=>by
  have n1:=mt (aBj a b x y).2 (by rw[h1];simp);have n2:=mt (aBj b a y x).2 (by rw[h2];simp);have e:a.toNat=b.toNat:=by omega
  have e':=jL.1 e;have l1:bK x y=false:=cG.2 λh=>n1 (.inr ⟨e,h⟩);have l2:bK y x=false:=cG.2 λh=>n2 (.inr ⟨e.symm,h⟩);rw[e',aIq x y l1 l2]
def toList_inj{a b:Δ}(h:aB a=aB b):a=b:=(bE a b).1 (by rw[h];simp)
def iC(p:Nat->Bool):Nat->Nat->Nat->Nat
 | 0,i,_=>i
 | m+1,i,j=>if i<j then(if p ((i+j)/2)=true then iC p m ((i+j)/2+1) j else iC p m i ((i+j)/2))else i
def repB(c:UInt8)(n:Nat):Δ:=⟨(wN [c] n).toArray⟩
end Go.Am
namespace Go.Am
open Go.RowKit (Below)
theorem OP{w:World}{t:Ty}(hf:t.flat=true):∀ {xs:Γ t.den},(∀x∈xs,Wf t x)->yZ (iA w t) t.size xs (xs.map (qF t)) (xs.map λ_=>[])
 | [],_=>⟨rfl,rfl⟩
 | x::r,h=>by
  have ho:=K2 (w:=w) hf (h x (aR ..));exact⟨_,_,_,_,rfl,rfl,ho.length,ho,OP hf λy hy=>h y (aM _ hy)⟩
theorem OQ{α:Type}(xs:Γ α):(xs.map λ_=>([]:Γ Nat)).flatten=[]:=by
 induction xs with
 | nil=>rfl
 | cons x r ih=>simp
def VC{w:World}{t:Ty}(hf:t.flat=true){base:Nat}{e:TypeId}{v:Value}{xs:Γ t.den}(hw:∀x∈xs,Wf t x)(hm:xs.length<=maxLen)
  (h:w.ownsRow base e t.size v xs.length (xs.map (qF t)).flatten):∃bs,iA w (.sl t) xs [v] bs/\bs.Nodup/\∀b∈bs,base<=b:=by
 rcases h.2 with ⟨rfl,hn⟩ | ⟨g,cap,cur,rfl,hb,hh,h1,h2,h3,h4⟩
 ·have:xs=[]:=List.eq_nil_of_length_eq_zero hn;subst this;exact⟨[],⟨_,rfl,by simp,.inl ⟨_,rfl,rfl,rfl⟩⟩,lM,λb hb=>by cases hb⟩
 ·have hrow:=OP (w:=w) hf hw;have ho:=tD hrow (b:=g) (off:=0) (cap:=cap) (cur:=cur) (ty:=e) (fz:=(0,0)) hm h1 h2 (by rw[bX,h3];exact aT _) hh (Bo _ _) (λj c hj=>by
   rw[bX, <- eF];have hl:j<xs.length*t.size:=by
    have:=(dQ.1 hj).1;rw[hrow.len.2.2]at this;exact this
   rw[<- h4,List.getElem?_take,π hl]at hj;exact hj)
  rw[OQ]at ho;exact⟨[g],⟨_,rfl,ho⟩,by simp,λb hb'=>by simp at hb';omega⟩
def bls(xs:Γ Δ):Γ (Γ UInt8):=xs.map λs=>s.data.toList
theorem VD{w:World}:∀ {xs:Γ Δ} {css:Γ (Γ Value)} {bss:Γ (Γ Nat)},yZ (iA w .str) 1 xs css bss->css.flatten=xs.map hJ/\bss.flatten=[]/\∀x∈xs,x.size<=maxLen
 | [],css,bss,⟨h1,h2⟩=>by subst h1 h2;exact⟨rfl,rfl,λx h=>by cases h⟩
 | x::r,css,bss,⟨c,cs,b,bs,h1,h2,h3,h4,h5⟩=>by
  subst h1 h2;obtain⟨e1,e2,e3⟩:=VD h5;obtain⟨rfl,hx,rfl⟩:=h4;refine⟨by simp[e1],by simp[e2],λy hy=>?_⟩;rcases aW.1 hy with rfl | hy
  ·exact hx
  ·exact e3 y hy
open Go.Sort in
def aOL{w:World}{xs:Γ Δ}{v:Value}{bs:Γ Nat}(h:iA w (.sl .str) xs [v] bs):(∀x∈xs,x.size<=maxLen)/\((∃ad,v = .slice ad 0 0/\xs=[]/\bs=[]) \/
  ∃b off cap cur ty fz,v = .slice (some ⟨b,off,none⟩) xs.length cap/\xs.length<=cap/\cap<=maxLen/\off+cap<=cur.size/\w.heap[b]? = some (.cells cur ty fz)/\H1 1 fz cur.size/\bs=[b] /\
   ∀(j:Nat) (x:Δ),xs[j]? = some x->cur[off+j]? = some (.string x)):=by
 obtain⟨v',hv,h⟩:=h;cases hv;obtain⟨css,bss,hrow,hcase⟩:=yE.row h;obtain⟨e1,e2,e3⟩:=VD hrow;refine⟨e3,?_⟩;rcases hcase with ⟨ad,h1,h2,h3⟩ | ⟨b,off,cap,cur,ty,fz,h1,h2,h3,h4,h5,h6,h7,h8⟩
 ·exact .inl ⟨ad,h1,h2,h3⟩
 ·refine .inr ⟨b,off,cap,cur,ty,fz,h1,h2,h3,by simpa [kS] using h4,h5,h6,by rw[h7,e2],λj x hx=>h8 j _ ?_⟩;rw[e1,jH,hx];rfl
end Go.Am
namespace Go.Am
end Go.Am
namespace Go.Am
open Go.Sort (grow)
def l5(n:Int):Δ:=⟨(Cd n).toArray⟩
def wC(n:Int)(h0 : -9223372036854775808<=n)(h1:n<=9223372036854775807):(l5 n).size<=21:=by
 show (Cd n).toArray.size<=21;rw[List.size_toArray];exact Lib.itoa_length_le n h0 h1
def aMk(w:World)(n:Nat)(os:Array Obj):cQ [] w (grow (w.drewN n) os) where
 os:=rfl
 tape:=rfl
 output:=rfl
 size:=by show w.heap.size<=(w.heap++os).size;rw[rS];omega
 block:=λk hk _=>by
  show (w.heap++os)[k]? = w.heap[k]?;exact Array.getElem?_append_left hk
theorem sG(sep:Δ)(save:Nat):∀(k:Nat) (s y:Δ),y∈Cf sep save k s->y.size<=s.size
 | 0,s,y,h=>by rw[Lib.splitB_zero,dU]at h;rw[h];exact aT _
 | k+1,s,y,h=>by
  unfold Cf at h;split at h
  ·rw[dU]at h;rw[h];exact aT _
  ·rcases aW.1 h with rfl | h
   ·rw[nA];omega
   ·have:=sG sep save k _ y h;rw[nA]at this;omega
def cH(c:UInt8):Γ UInt8->Γ (Γ UInt8)
 | []=>[[]]
 | b::r=>if b=c then []::cH c r else match cH c r with
  | []=>[[b]]
  | p::ps=>(b::p)::ps
theorem wD(c:UInt8):∀l,cH c l≠[]
 | []=>by simp[cH]
 | b::r=>by
  unfold cH;split
  ·simp
  ·split <;> simp
theorem lG(c:UInt8):∀ {p:Γ UInt8},c ∉ p->cH c p=[p]
 | [],_=>rfl
 | b::r,h=>by
  have h1:b≠c:=λe=>h (by rw[e];exact aR ..);have h2:c ∉ r:=λe=>h (aM _ e);unfold cH;rw[ν h1,lG c h2]
theorem nS(c:UInt8):∀ {p:Γ UInt8} (r:Γ UInt8),c ∉ p->cH c (p++c::r)=p::cH c r
 | [],r,_=>by simp[cH]
 | b::q,r,h=>by
  have h1:b≠c:=λe=>h (by rw[e];exact aR ..);have h2:c ∉ q:=λe=>h (aM _ e);rw[zX,cH,ν h1,nS c r h2]
theorem u3(c:UInt8):∀(l p:Γ UInt8),p∈cH c l->c ∉ p
 | [],p,h=>by simp[cH]at h;simp[h]
 | b::r,p,h=>by
  unfold cH at h;split at h
  ·rcases aW.1 h with rfl | h
   ·simp
   ·exact u3 c r p h
  ·rename_i hb;split at h
   ·rename_i e;exact absurd e (wD c r)
   ·rename_i q qs e;rcases aW.1 h with rfl | h
    ·have:=u3 c r q (by rw[e];exact aR ..);intro hm;rcases aW.1 hm with rfl | hm
     ·exact hb rfl
     ·exact this hm
    ·exact u3 c r p (by rw[e];exact aM _ h)
theorem nJ(c:UInt8):∀l,(cH c l).length=l.count c+1
 | []=>rfl
 | b::r=>by
  unfold cH;split
  ·rename_i h;subst h;rw[cL,nJ];simp
  ·rename_i h;have:=nJ c r;rw[List.count_cons_of_ne (by simpa using h)];split
   ·rename_i e;exact absurd e (wD c r)
   ·rename_i q qs e;rw[e]at this;simpa using this
theorem AI(c:UInt8):∀l,[c].intercalate (cH c l)=l
 | []=>by simp[cH,List.intercalate]
 | b::r=>by
  have ih:=AI c r;unfold cH;split
  ·rename_i h;subst h;cases e:cH b r with
   | nil=>exact absurd e (wD b r)
   | cons q qs =>
    rw[e]at ih;show tA ([]::q::qs) [b]=b::r;rw[o7];have:tA (q::qs) [b]=r:=ih;rw[o7]at this;simp only[Lib.joinTail,dG,gF,dL]at this ⊢;rw[<- this];simp
  ·split
   ·rename_i e;exact absurd e (wD c r)
   ·rename_i q qs e;rw[e]at ih;have h1:tA (q::qs) [c]=r:=ih;show tA ((b::q)::qs) [c]=b::r;rw[o7]at h1 ⊢;rw[<- h1];rfl
theorem Bv(c:UInt8):∀ {l:Γ UInt8},c ∉ l->FQ l [c] = -1
 | [],_=>by simp[FQ]
 | b::r,h=>by
  have h1:b≠c:=λe=>h (by rw[e];exact aR ..);have h2:c ∉ r:=λe=>h (aM _ e);rw[FQ,Bv c h2];simp[Hf,kT h1]
theorem Dk(c:UInt8):∀ {p:Γ UInt8} (r:Γ UInt8),c ∉ p->FQ (p++c::r) [c]=(p.length:Int)
 | [],r,_=>by simp[FQ,Hf]
 | b::q,r,h=>by
  have h1:b≠c:=λe=>h (by rw[e];exact aR ..);have h2:c ∉ q:=λe=>h (aM _ e);rw[zX,FQ,Dk c r h2];have:¬((q.length:Int) == -1)=true:=λe=>by have:=beq_iff_eq.1 e;omega
  have h3:([c]:Γ UInt8).isPrefixOf (b::(q++c::r))=false:=by simp[Hf,kT h1]
  rw[h3,ν (by simp),ν this];simp
theorem OR(c:UInt8):∀(l:Γ UInt8),c ∉ l\/∃p r,l=p++c::r/\c ∉ p
 | [] => .inl (by simp)
 | b::l=>by
  by_cases h:b=c
  ·exact .inr ⟨[],l,by rw[h];rfl,by simp⟩
  ·rcases OR c l with h1 | ⟨p,r,rfl,h2⟩
   ·exact .inl (λhm=>by rcases aW.1 hm with rfl | hm;exact h rfl;exact h1 hm)
   ·exact .inr ⟨b::p,r,rfl,λhm=>by rcases aW.1 hm with rfl | hm;exact h rfl;exact h2 hm⟩
theorem VE(c:UInt8):∀(k:Nat) (l:Γ UInt8),l.count c<=k->N3 [c] 0 k l=cH c l
 | 0,l,h=>by
  have hn:c ∉ l:=λhm=>by have:=List.count_pos_iff.2 hm;omega
  rw[lG c hn];rfl
 | k+1,l,h=>by
  rcases OR c l with hn | ⟨p,r,rfl,hn⟩
  ·rw[lG c hn,N3,Bv c hn,π (by rfl)]
  ·have hc:r.count c<=k:=by
    rw[List.count_append,List.count_cons_self]at h;omega
   rw[nS c r hn,N3,Dk c r hn,ν (λe=>by have:=beq_iff_eq.1 e;omega)]
   congr 1
   ·simp
   ·have e:(p++c::r).drop (((p.length:Int)).toNat+[c].length)=r:=by
     simp only[Int.toNat_natCast,List.length_singleton];rw[List.drop_append,List.drop_of_length_le (by omega),lV];rfl
    rw[e];exact VE c k r hc
def bss(ls:Γ (Γ UInt8)):Γ Δ:=ls.map λl=>⟨l.toArray⟩
theorem aOM(xs:Γ Δ):bss (xs.map λx=>x.data.toList)=xs:=by
 unfold bss;rw[List.map_map]
 conv=>rhs;rw[<- List.map_id xs]
 rfl
theorem vC(c:UInt8)(s:Δ):Cf ⟨#[c]⟩ 0 (hY s ⟨#[c]⟩) s=bss (cH c s.data.toList):=by
 have h:=Lib.splitB_data ⟨#[c]⟩ 0 (hY s ⟨#[c]⟩) s;have e:hY s ⟨#[c]⟩=s.data.toList.count c:=by
  show Lib.count s.data.toList [c]=_;exact Lib.count_one c _
 have h2:=VE c (hY s ⟨#[c]⟩) s.data.toList (by rw[e];exact aT _);rw[<- aOM (Cf ⟨#[c]⟩ 0 (hY s ⟨#[c]⟩) s),h];show bss (N3 [c] 0 _ _)=_;rw[h2]
def VF(c:UInt8){l:Γ UInt8}(h:c ∉ l):lF l [c]=(l,[],false):=by
 unfold lF;rw[Bv c h,ν (by decide)]
theorem Tl(c:UInt8){p:Γ UInt8}(r:Γ UInt8)(h:c ∉ p):lF (p++c::r) [c]=(p,r,true):=by
 unfold lF;rw[Dk c r h,π (by omega)];simp
end Go.Am
namespace Go.Am
def aFn(w:World):Γ (Nat×Γ Value)->World
 | []=>w
 | (g,cs)::r=>aFn { w with heap:=w.heap.modify g fun
   | .cells _ t fz => .cells cs.toArray t fz
   | o=>o } r
def aON:DataW Unit->Γ Value
 | .agg ps=>ps.filterMap fun
  | .lit (.int k z)=>some (.int k z)
  | _=>none
 | _=>[]
theorem QU{P:Program}{W:World}:∀ {l:Γ (String×DataW Unit)} {i:Nat} {x:String×DataW Unit},laidMet P l W->l[i]? = some x->∃r,laidMet P (x::r) W
 | [],i,x,_,h=>by simp at h
 | y::l,0,x,h,hi=>by simp at hi;subst hi;exact⟨l,h⟩
 | y::l,i+1,x,h,hi=>QU (l:=l) (i:=i) h.tail (by simpa using hi)
variable {l:Γ (String×DataW Unit)}
def aFo{P:Program}{W:World}{i:Nat}{name:String}{k:IntKind}{zs:Γ Int}{g n:Nat}{t e:TypeId}(h:laidMet P l W)(hi:l[i]? = some (name,Lib.tabData k zs))
  (hg:P.globalNamed name=some g) (hty:(P.globals[g]?).map (·.type)=some t) (ht:P.underlying t=some (.array n e)) (he:P.underlying e=some (.int k)) (hce:P.cellsOf e=1) (hct:P.cellsOf t=n):FI P W name k zs:=by
 obtain⟨r,h⟩:=QU h hi;exact Lib.tabIs_of_head hg hty ht he hce hct h
def SX{P:Program}{W:World}{i:Nat}{name nm:String}{text:Γ UInt8}{g:Nat}{ti tp te ts:TypeId}{ms:Array (String×TypeId)}{f:Field}(h:laidMet P l W)(hi:l[i]? = some (name,.iface nm (.ptr (.agg [.lit (.string text)]))))
  (hg:P.globalNamed name=some g) (ht:(P.globals[g]?).map (·.type)=some ti) (hint:P.underlying ti=some (.interface ms)) (hrow:∀u,P.typeName? 3 u=some nm->u=tp)
  (hp:P.underlying tp=some (.pointer te)) (he:P.underlying te=some (.struct #[f])) (hft:f.type=ts) (hfo:f.offset=0) (hs:P.underlying ts=some .string) (hc:P.cellsOf te=1) (hcs:P.cellsOf ts=1):yR W g .ifc:=by
 obtain⟨r,h⟩:=QU h hi;obtain⟨a,s,hv,_⟩:=laid_sentinel h hg ht hint hrow hp he hft hfo hs hc hcs;unfold World.var? at hv;rw[hg]at hv;have hv:(match W.heap[g]? with | some (.cells cs _ _)=>some cs | _=>none)=some #[Value.iface tp (.pointer (some a))]:=hv;split at hv
 ·rename_i cs t fz he;cases hv;exact⟨t,fz,_,_,he⟩
 ·cases hv
theorem yR.ifc_cell{W:World}{g:Nat}(h:yR W g .ifc):∃ev,W.cell? ⟨g,0,none⟩=some ev/\(ev = .nilIface\/∃te pe,ev = .iface te pe):=by
 obtain⟨t,fz,u,v,h⟩:=h;exact⟨.iface u v,by simp[gW, h],.inr ⟨u,v,rfl⟩⟩
end Go.Am
namespace Go.Am
open Go.RowKit (Below)
theorem Fm:∀ {t:Ty} {x:t.den},t.flat=true->∀u∈qF t x,u.oneCell'=true
 | .int _,_,_,u,hu=>by simp[qF]at hu;subst hu;rfl
 | .bool,_,_,u,hu=>by simp[qF]at hu;subst hu;rfl
 | .fn,x,_,u,hu=>by simp[qF]at hu;subst hu;exact Tg x
 | .str,_,_,u,hu=>by simp[qF]at hu;subst hu;rfl
 | .sl _,_,h,_,_=>by cases h
 | .unit,_,_,u,hu=>by simp[qF]at hu
 | .cons a b,x,hf,u,hu=>by
  simp only[PI,aV]at hf;simp only[qF,cY]at hu;rcases hu with hu | hu
  ·exact Fm hf.1 u hu
  ·exact Fm hf.2 u hu
def rA(t:Ty)(xs:Γ t.den):Γ Value:=(xs.map (qF t)).flatten
theorem MC{w:World}{t:Ty}(hf:t.flat=true):∀ {xs:Γ t.den} {css:Γ (Γ Value)} {bss:Γ (Γ Nat)},yZ (iA w t) t.size xs css bss->css=xs.map (qF t)/\bss.flatten=[]/\∀x∈xs,Wf t x
 | [],css,bss,⟨h1,h2⟩=>by subst h1 h2;exact⟨rfl,rfl,λx h=>by cases h⟩
 | x::r,css,bss,⟨c,cs,b,bs,h1,h2,h3,h4,h5⟩=>by
  subst h1 h2;obtain⟨e1,e2,e3⟩:=MC hf h5;have e4:b=[]:=(h4.flat (w':=w) (G:=λ_=>True) hf).2;refine⟨by rw[e1,Fe hf h4];rfl,by simp[e2,e4],λy hy=>?_⟩;rcases aW.1 hy with rfl | hy
  ·exact h4.wf
  ·exact e3 y hy
variable {t:Ty}
theorem nT(hf:t.flat=true){xs:Γ t.den}(hw:∀x∈xs,Wf t x):(rA t xs).length=xs.length*t.size :=
 (OP (w:=default) hf hw).len.2.2
def QV{w:World}{G:Nat->Prop}(hf:t.flat=true){xs:Γ t.den}{v:Value}(h:oE w G (eK w G t) t.size xs v) :
  (∀x∈xs,Wf t x)/\xs.length<=maxLen/\((∃ad,v = .slice ad 0 0/\xs=[]) \/
   ∃b off cap,v = .slice (some ⟨b,off,none⟩) xs.length cap/\xs.length<=cap/\cap<=maxLen/\G b/\∀j u,(rA t xs)[j]? = some u->w.cell? ⟨b,off+j,none⟩=some u):=by
 refine⟨(aAH (λ_ _=>eK.wf) h).2,h.1,?_⟩;have hl:=h.2;obtain⟨css,bss,hrow,hflat,hcase⟩:=oE.row h;rcases hcase with ⟨ad,rfl,rfl⟩ | ⟨b',off,cap,rfl,hG,hcells⟩
 ·exact .inl ⟨ad,rfl,rfl⟩
 ·rcases hl with ⟨ad,e,rfl⟩ | ⟨b2,off2,cap2,e,h2,h3,h4,_⟩
  ·simp only[Value.slice.injEq]at e;obtain⟨e1,e2,e3⟩:=e;exact .inl ⟨some ⟨b',off,none⟩,by rw[e3];rfl,rfl⟩
  ·cases e;refine .inr ⟨b',off,cap,rfl,h2,h3,hG,λj u hj=>hcells j u ?_⟩;have hr:yZ (iA w t) t.size xs css bss:=hrow.mono λy c b _ hh=>by
    obtain⟨g1,g2⟩:=hh;subst g2;exact g1.own hf
   rw[(MC hf hr).1];exact hj
def aFp{w:World}(hf:t.flat=true){xs:Γ t.den}{v:Value}{bs:Γ Nat}(h:iA w (.sl t) xs [v] bs) :
  (∀x∈xs,Wf t x)/\xs.length<=maxLen/\((∃ad,v = .slice ad 0 0/\xs=[]/\bs=[]) \/
  ∃b off cap cur ty fz,v = .slice (some ⟨b,off,none⟩) xs.length cap/\xs.length<=cap/\cap<=maxLen/\off+cap*t.size<=cur.size/\w.heap[b]? = some (.cells cur ty fz)/\H1 t.size fz cur.size/\bs=[b] /\
   ∀j u,(rA t xs)[j]? = some u->cur[off+j]? = some u):=by
 obtain⟨v',hv,h⟩:=h;cases hv;have hm:=h.1;obtain⟨css,bss,hrow,hcase⟩:=yE.row h;obtain⟨e1,e2,e3⟩:=MC hf hrow;refine⟨e3,hm,?_⟩;rcases hcase with ⟨ad,h1,h2,h3⟩ | ⟨b,off,cap,cur,ty,fz,h1,h2,h3,h4,h5,h6,h7,h8⟩
 ·exact .inl ⟨ad,h1,h2,h3⟩
 ·exact .inr ⟨b,off,cap,cur,ty,fz,h1,h2,h3,h4,h5,h6,by rw[h7,e2],λj u hj=>h8 j u (by rw[e1];exact hj)⟩
def SY{w:World}(hf:t.flat=true){xs:Γ t.den}(hw:∀x∈xs,Wf t x){n b off cap:Nat}{cur:Array Value}{ty:TypeId}{fz:Nat×Nat}(hn:n=xs.length)(h2:xs.length<=cap)(h3:cap<=maxLen)(h4:off+cap*t.size<=cur.size)
  (h5:w.heap[b]? = some (.cells cur ty fz)) (h6:H1 t.size fz cur.size) (h8:∀j u,(rA t xs)[j]? = some u->cur[off+j]? = some u):iA w (.sl t) xs [.slice (some ⟨b,off,none⟩) n cap] [b]:=by
 subst hn;have hrow:=OP (w:=w) hf hw;have ho:=tD hrow (b:=b) (off:=off) (cap:=cap) (cur:=cur) (ty:=ty) (fz:=fz) (Nat.le_trans h2 h3) h2 h3 h4 h5 h6 h8;rw[OQ]at ho;exact⟨_,rfl,ho⟩
def Zs(t:Ty):Spec:={ sig:=[nM (.sl t)],pre:=λ⟨x0,_⟩=>x0.length<=1048576,res:=λ⟨x0,_⟩=>[⟨.sl t,x0⟩] }
def VG{P:Program}{f:FuncId}{e:TypeId}(hf:t.flat=true)
  (hnil:∀w:World,Calls P f #[.slice none 0 0] w λe w'=>e = .returned (.slice none 0 0)/\w'=w)
  (hsome:∀(w:World) (a:Addr) (n c:Nat) (news:Γ Value),news.length=n*t.size->n<=1048576->(∀j u,news[j]? = some u->w.cell? (a.add j)=some u)->(∀u∈news,u.oneCell'=true) ->
   Calls P f #[.slice (some a) n c] w λr w'=>∃v',r = .returned v'/\w'.ownsRow w.heap.size e t.size v' n news/\Below w.heap.size w w') :
  j9 P f (Zs t):=by
 refine Bb.up rfl rfl ?_;rintro w ⟨x0,u⟩ vs bss hgo hp ⟨v,s,b,bs,rfl,rfl,⟨rfl,ho⟩,rfl,rfl⟩ hn;have hp:x0.length<=1048576:=hp;have hm:x0.length<=maxLen:=by unfold maxLen;omega
 obtain⟨hw,_,hcase⟩:=QV hf ho;have hfin:∀(v':Value) (w':World),w'.ownsRow w.heap.size e t.size v' x0.length (rA t x0)->Below w.heap.size w w' ->
   ∃rs ubs rbs,Hg v' = .returned (IA rs)/\cQ ([[]]:Γ (Γ Nat)).flatten w w'/\De w' [⟨.sl t,x0⟩] rs rbs/\yU w' [] (lP [nM (.sl t)] [v]) ubs/\(ubs.flatten++rbs.flatten).Nodup/\∀b∈ubs.flatten++rbs.flatten,¬Am.Good w ([[]]:Γ (Γ Nat)).flatten b:=λv' w' h1 h2=>by
  obtain⟨bs,g1,g2,g3⟩:=VC hf hw hm h1;refine⟨[v'],[],[bs],rfl,iO h2,⟨_,_,_,_,_,rfl,rfl,g1,rfl,rfl,rfl⟩,⟨rfl,rfl⟩,by simpa using g2,λb hb hg=>?_⟩;simp at hb;have:=g3 b hb;have:=hg.1;omega
 rcases hcase with ⟨ad,rfl,rfl⟩ | ⟨b',off,cap,rfl,h2,h3,hG,hcells⟩
 ·cases ad with
  | none =>
   refine(hnil w).mono ?_;rintro r w' ⟨rfl,rfl⟩;exact hfin _ _ ⟨by simp[rA],.inl ⟨rfl,rfl⟩⟩ (Below.refl _ _)
  | some a =>
   refine(hsome w a 0 0 [] (by simp) (by omega) (λj u h=>by simp at h) (λu h=>by cases h)).mono ?_;rintro r w' ⟨v',rfl,h1,h2⟩;exact hfin _ _ h1 h2
 ·refine(hsome w ⟨b',off,none⟩ x0.length cap (rA t x0) (nT hf hw) hp (λj u hj=>by rw[gB];exact hcells j u hj) (λu hu=>?_)).mono ?_
  ·obtain⟨l,hl,hu⟩:=kX.1 hu;obtain⟨x,_,rfl⟩:=dK.1 hl;exact Fm hf u hu
  ·rintro r w' ⟨v',rfl,h1,h2⟩;exact hfin _ _ h1 h2
section
variable {P:Program}
theorem Fo(w:World)(dT sT ty elem:TypeId)(k b o dLen dCap:Nat)(a:Addr)(sLen sCap:Nat)(cs:Γ Value)
  (hu:P.underlying dT=some (.slice elem)) (hs:(P.info? elem).map (·.size)=some k) (hn:cs.length=Gw sLen dLen*k)
  (hsrc:∀j v,cs[j]? = some v->w.cell? (a.add j)=some v) (hc:∀j,j<cs.length->(w.cell? ⟨b,o+j,none⟩).isSome=true) (hf:∀j,j<cs.length->w.frozen? ⟨b,o+j,none⟩=false) (h1:∀v∈cs,v.oneCell'=true) :
  (j7 #[dT,sT] ty #[.slice (some ⟨b,o,none⟩) dLen dCap,.slice (some a) sLen sCap]).run P w = .ok (goInt (Gw sLen dLen)) (w.setCells b o cs):=by
 have hl:=run_loadCells_list (P:=P) w a cs hsrc;have hst:=run_storeCells_cells (P:=P) b o cs 0 w (by simpa using hc) (by simpa using hf) h1;cases hq:P.info? elem with
 | none=>simp[hq]at hs
 | some i =>
  have hi:i.size=k:=by simpa [hq] using hs
  simp[j7,run_underlying hu,rG,eA,sizeOf,typeInfo,hq,hi, <- hn,hl,hst]
theorem SZ(t:Ty)(n:Nat):(gT (fD t).toArray n).toList=(aQ n (fD t)).flatten:=by
 have:=Ub (fD t).toArray n;unfold gT;rw[this]
end
theorem MD(b:Nat):∀(vs:Γ Value) (o:Nat) (w:World) (x:Addr),(w.cell? x).isSome=true->((w.setCells b o vs).cell? x).isSome=true
 | [],_,_,_,h=>h
 | v::r,o,w,x,h=>by
  refine MD b r (o+1) _ x ?_;obtain⟨u,hu⟩:=Option.isSome_iff_exists.1 h;by_cases e:(⟨b,o,none⟩:Addr)=x
  ·subst e;rw[World.cell?_setCell_same _ _ _ hu];rfl
  ·rw[World.cell?_setCell_other _ _ _ _ e,hu];rfl
variable {w:World} {cur:Array Value} {fz:Nat×Nat}
theorem Yi{b o:Nat}{v:Value}{ty:TypeId}(h:w.heap[b]? = some (.cells cur ty fz)):(w.setCell ⟨b,o,none⟩ v).heap[b]? = some (.cells (cur.setIfInBounds o v) ty fz)/\(∀k,k≠b->(w.setCell ⟨b,o,none⟩ v).heap[k]? = w.heap[k]?)/\(w.setCell ⟨b,o,none⟩ v).heap.size=w.heap.size:=by
 refine⟨?_,λk hk=>?_,?_⟩
 ·simp[uW,oC,h]
 ·simp[uW,oC,kT hk]
 ·simp[uW]
theorem nU:∀(vs:Γ Value) {w:World} {b o:Nat} {cur:Array Value} {ty:TypeId} {fz:Nat×Nat},w.heap[b]? = some (.cells cur ty fz)->o+vs.length<=cur.size ->
  ∃cur',(w.setCells b o vs).heap[b]? = some (.cells cur' ty fz)/\cur'.size=cur.size/\(∀j u,vs[j]? = some u->cur'[o+j]? = some u)/\(∀j,j<o\/o+vs.length<=j->cur'[j]? = cur[j]?) /\
   (∀k,k≠b->(w.setCells b o vs).heap[k]? = w.heap[k]?)/\(w.setCells b o vs).heap.size=w.heap.size
 | [],w,b,o,cur,ty,fz,h,_=>⟨cur,h,rfl,λj u hj=>by simp at hj,λ_ _=>rfl,λ_ _=>rfl,rfl⟩
 | v::r,w,b,o,cur,ty,fz,h,hl=>by
  simp only[cL]at hl;obtain⟨e1,e2,e3⟩:=Yi (o:=o) (v:=v) h;obtain⟨cur',g1,g2,g3,g4,g5,g6⟩:=nU r (o:=o+1) e1 (by simp;omega);refine⟨cur',g1,by rw[g2];simp,λj u hj=>?_,λj hj=>?_,λk hk=>by rw[YP,g5 k hk,e2 k hk],by rw[YP,g6,e3]⟩
  ·cases j with
   | zero =>
    simp at hj;subst hj;rw[Nat.add_zero,g4 o (.inl (by omega)),Array.getElem?_setIfInBounds_self_of_lt (by omega)]
   | succ j =>
    have:=g3 j u (by simpa using hj)
    rwa [show o+(j+1)=o+1+j by omega]
  ·simp only[cL]at hj;rw[g4 j (by omega),Array.getElem?_setIfInBounds_ne (by omega)]
theorem uO(vs:Γ Value){b o:Nat}{ty:TypeId}(h:w.heap[b]? = some (.cells cur ty fz))(hl:o+vs.length<=cur.size):cQ [b] w (w.setCells b o vs):=by
 obtain⟨_,_,_,_,_,g5,g6⟩:=nU vs h hl;have hw:∀(vs:Γ Value) (o:Nat) (w:World),(w.setCells b o vs).os=w.os/\(w.setCells b o vs).tape=w.tape/\(w.setCells b o vs).output=w.output:=by
  intro vs
  induction vs with
  | nil=>intro o w;exact⟨rfl,rfl,rfl⟩
  | cons v r ih =>
   intro o w;obtain⟨h1,h2,h3⟩:=ih (o+1) (w.setCell ⟨b,o,none⟩ v);exact⟨h1,h2,h3⟩
 obtain⟨h1,h2,h3⟩:=hw vs o w;exact⟨h1,h2,h3,by rw[g6];exact aT _,λk hk hkb=>g5 k (by simpa using hkb)⟩
theorem sH(t:Ty)(xs ys:Γ t.den):rA t (xs++ys)=rA t xs++rA t ys:=by simp[rA]
structure yJ (w:World) (t:Ty) (xs:Γ t.den) (b off cap:Nat) (cur:Array Value) (ty:TypeId) (fz:Nat×Nat):Prop where
 wf:∀x∈xs,Wf t x
 len:xs.length<=cap
 capm:cap<=maxLen
 fit:off+cap*t.size<=cur.size
 blk:w.heap[b]? = some (.cells cur ty fz)
 free:H1 t.size fz cur.size
 has:∀j u,(rA t xs)[j]? = some u->cur[off+j]? = some u
theorem yJ.cell{w:World}{t:Ty}{xs:Γ t.den}{b off cap:Nat}{cur:Array Value}{ty:TypeId}{fz:Nat×Nat}(h:yJ w t xs b off cap cur ty fz):∀j u,(rA t xs)[j]? = some u->w.cell? ⟨b,off+j,none⟩=some u:=λj u hj=>by
 simp only[gW, h.blk];exact h.has j u hj
variable {t:Ty}
def yJ.some'{xs:Γ t.den}{b off cap:Nat}{ty:TypeId}(h:yJ w t xs b off cap cur ty fz):∀j,j<cap*t.size->(w.cell? ⟨b,off+j,none⟩).isSome=true:=λj hj=>by
 have:=h.fit;simp only[gW, h.blk];rw[tZ (by omega)];rfl
theorem yJ.unfrozen{xs:Γ t.den}{b off cap:Nat}{ty:TypeId}(h:yJ w t xs b off cap cur ty fz):∀j,j<cap*t.size->w.frozen? ⟨b,off+j,none⟩=false:=λj hj=>by
 have h1:=h.fit;have h2:=h.free.1 (off+j) (by omega);simp only[World.frozen?, h.blk];rw[cG];intro hh;simp only[aV,ε]at hh;exact h2 hh
def yJ.lt{xs:Γ t.den}{b off cap:Nat}{ty:TypeId}(h:yJ w t xs b off cap cur ty fz):b<w.heap.size:=by
 rcases kJ b w.heap.size with h' | h'
 ·exact h'
 ·have:=h.blk;rw[iW h']at this;cases this
def aOO(hf:t.flat=true){xs:Γ t.den}{v:Value}{bs:Γ Nat}(h:iA w (.sl t) xs [v] bs)(hne:xs≠[]) :
  ∃b off cap cur ty fz,v = .slice (some ⟨b,off,none⟩) xs.length cap/\bs=[b]/\yJ w t xs b off cap cur ty fz:=by
 obtain⟨hw,hm,hcase⟩:=aFp hf h;rcases hcase with ⟨ad,rfl,h1,_⟩ | ⟨b,off,cap,cur,ty,fz,h1,h2,h3,h4,h5,h6,h7,h8⟩
 ·exact absurd h1 hne
 ·exact⟨b,off,cap,cur,ty,fz,h1,h7,hw,h2,h3,h4,h5,h6,h8⟩
theorem I6(hf:t.flat=true)(xs:Γ t.den):∀u∈rA t xs,u.oneCell'=true:=λu hu=>by
 obtain⟨l,hl,hu⟩:=kX.1 hu;obtain⟨x,_,rfl⟩:=dK.1 hl;exact Fm hf u hu
theorem aFq(hf:t.flat=true){xs:Γ t.den}(hw:∀x∈xs,Wf t x)(j:Nat)(hj:j<=xs.length):∀(k:Nat) (u:Value),(rA t (xs.drop j))[k]? = some u->(rA t xs)[j*t.size+k]? = some u:=λk u hk=>by
 have h1:rA t xs=rA t (xs.take j)++rA t (xs.drop j):=by rw[<- sH,fH]
 have h2:(rA t (xs.take j)).length=j*t.size:=by rw[nT hf (λx hx=>hw x (gY hx)),bW,Hh hj]
 rw[h1,cO (by omega),h2,lV];exact hk
theorem aFr(hf:t.flat=true){xs:Γ t.den}(hw:∀x∈xs,Wf t x)(j:Nat):∀(k:Nat) (u:Value),(rA t (xs.take j))[k]? = some u->(rA t xs)[k]? = some u:=λk u hk=>by
 have h1:rA t xs=rA t (xs.take j)++rA t (xs.drop j):=by rw[<- sH,fH]
 rw[h1,b7 (dQ.1 hk).1];exact hk
def VH(t:Ty):Spec:={ sig:=[qV t,nM (.int .i64),qV t],pre:=λ⟨x0,x1,x2,_⟩=>0<=x1/\x1<=x0.length/\x2.length=1/\x0.length<=1048576,upd:=λ_=>[none,none],res:=λ⟨x0,x1,x2,_⟩=>[⟨.sl t,x0.take x1.toNat++(x2++x0.drop x1.toNat)⟩] }
def aOP(P:Program)(f:FuncId)(t:Ty):Prop:=∀(w:World) (xs ys:Γ t.den) (b off cap:Nat) (cur:Array Value) (ty:TypeId) (fz:Nat×Nat) (vb voff vcap:Nat) (vcur:Array Value) (vty:TypeId) (vfz:Nat×Nat) (i:Nat),yJ w t xs b off cap cur ty fz->yJ w t ys vb voff vcap vcur vty vfz->ys.length=1->vb≠b->i<xs.length->xs.length+1<=cap ->
   Calls P f #[.slice (some ⟨b,off,none⟩) xs.length cap,.int .i64 i,.slice (some ⟨vb,voff,none⟩) 1 vcap] w λr w'=>r = .returned (.slice (some ⟨b,off,none⟩) (xs.length+1) cap) /\
    ∃q,w'=((w.drewN q).setCells b (off+(i+1)*t.size) (rA t (xs.drop i))).setCells b (off+i*t.size) (rA t ys)
def aVB(P:Program)(f:FuncId)(t:Ty)(e:TypeId):Prop:=∀(w:World) (xs ys:Γ t.den) (b off cap:Nat) (cur:Array Value) (ty:TypeId) (fz:Nat×Nat) (vb voff vcap:Nat) (vcur:Array Value) (vty:TypeId) (vfz:Nat×Nat) (i:Nat),yJ w t xs b off cap cur ty fz->yJ w t ys vb voff vcap vcur vty vfz->ys.length=1->vb≠b->i<xs.length->cap<xs.length+1->xs.length<=1048576 ->
   Calls P f #[.slice (some ⟨b,off,none⟩) xs.length cap,.int .i64 i,.slice (some ⟨vb,voff,none⟩) 1 vcap] w λr w'=>∃v',r = .returned v'/\w'.ownsRow w.heap.size e t.size v' (xs.length+1) (rA t (xs.take i++(ys++xs.drop i)))/\Below w.heap.size w w'
def bDI(P:Program)(f:FuncId)(t:Ty):Prop:=∀(w:World) (xs ys:Γ t.den) (b off cap:Nat) (cur:Array Value) (ty:TypeId) (fz:Nat×Nat) (vb voff vcap:Nat) (vcur:Array Value) (vty:TypeId) (vfz:Nat×Nat),yJ w t xs b off cap cur ty fz->yJ w t ys vb voff vcap vcur vty vfz->ys.length=1->vb≠b->xs.length+1<=cap ->
   Calls P f #[.slice (some ⟨b,off,none⟩) xs.length cap,.int .i64 xs.length,.slice (some ⟨vb,voff,none⟩) 1 vcap] w λr w'=>r = .returned (.slice (some ⟨b,off,none⟩) (xs.length+1) cap) /\
    ∃q,w'=(w.drewN q).setCells b (off+xs.length*t.size) (rA t ys)
def aVC(P:Program)(f:FuncId)(t:Ty)(e:TypeId):Prop:=∀(w:World) (xs ys:Γ t.den) (ad:Option Addr) (cap:Nat) (vb voff vcap:Nat) (vcur:Array Value) (vty:TypeId) (vfz:Nat×Nat),(∀x∈xs,Wf t x)->xs.length<=cap->(ad=none->xs=[])->(∀a,ad=some a->∀j u,(rA t xs)[j]? = some u->w.cell? (a.add j)=some u)->yJ w t ys vb voff vcap vcur vty vfz->ys.length=1->cap<xs.length+1->xs.length<=1048576 ->
   Calls P f #[.slice ad xs.length cap,.int .i64 xs.length,.slice (some ⟨vb,voff,none⟩) 1 vcap] w λr w'=>∃v',r = .returned v'/\w'.ownsRow w.heap.size e t.size v' (xs.length+1) (rA t (xs++ys))/\Below w.heap.size w w'
theorem T0{P:Program}{f:FuncId}{e:TypeId}(hf:t.flat=true)(hshift:aOP P f t)(hgrow:aVB P f t e)(hend:bDI P f t)(hlast:aVC P f t e) :
  j9 P f (VH t):=by
 refine Bb.up rfl rfl ?_;rintro w ⟨z0,z1,z2,u⟩ vs bss hgo hp ⟨v,s,b0,bs0,rfl,rfl,ho,v1,s1,b1,bs1,rfl,rfl,⟨rfl,rfl,_⟩,v2,s2,b2,bs2,rfl,rfl,ho2,rfl,rfl⟩ hn;obtain⟨x0,rfl⟩:∃y:Γ t.den,y=z0:=⟨z0,rfl⟩;obtain⟨x1,rfl⟩:∃y:Int,y=z1:=⟨z1,rfl⟩;obtain⟨x2,rfl⟩:∃y:Γ t.den,y=z2:=⟨z2,rfl⟩
 dsimp only
 obtain⟨p0,p1,p2,p3⟩:0<=x1/\x1<=x0.length/\x2.length=1/\x0.length<=1048576:=hp;obtain⟨i,rfl⟩:∃i:Nat,x1=i:=⟨x1.toNat,by omega⟩;have hi:i<=x0.length:=by omega
 have ho':iA w (.sl t) x0 [v] b0:=ho;have ho2':iA w (.sl t) x2 [v2] b2:=ho2;obtain⟨vb,voff,vcap,vcur,vty,vfz,rfl,rfl,hB⟩:=aOO hf ho2' (by intro e;rw[e]at p2;simp at p2);rw[p2];have hwf2:=hB.wf
 -- a row of one's own
 have fresh:∀(ys:Γ t.den) (v':Value) (w':World),ys.length=x0.length+1->(∀y∈ys,Wf t y)->w'.ownsRow w.heap.size e t.size v' (x0.length+1) (rA t ys)->Below w.heap.size w w' ->
   ∃rs ubs rbs,Hg v' = .returned (IA rs)/\cQ [b0,[],[vb]].flatten w w'/\De w' [⟨.sl t,ys⟩] rs rbs/\yU w' [none,none] (lP [qV t,nM (.int .i64),qV t] [v,.int .i64 i,.slice (some ⟨vb,voff,none⟩) 1 vcap]) ubs /\
    (ubs.flatten++rbs.flatten).Nodup/\∀d∈ubs.flatten++rbs.flatten,¬Am.Good w [b0,[],[vb]].flatten d:=λys v' w' hl hw h1 h2=>by
  rw[<- hl]at h1;obtain⟨bs,g1,g2,g3⟩:=VC hf hw (by rw[hl];unfold maxLen;omega) h1;refine⟨[v'],[[],[]],[bs],rfl,(iO h2).of_nil,⟨_,_,_,_,_,rfl,rfl,g1,rfl,rfl,rfl⟩,⟨_,_,_,rfl,rfl,_,_,_,rfl,rfl,rfl,rfl⟩,by simpa using g2,λd hd hg=>?_⟩;simp at hd;have:=g3 d hd;have:=hg.1;omega
 -- what was there,written anew
 have wf3:∀y∈x0.take i++(x2++x0.drop i),Wf t y->True:=λ_ _ _=>trivial;obtain⟨hw0,hm0,hcase⟩:=aFp hf ho';have hws:∀y∈x0.take i++(x2++x0.drop i),Wf t y:=λy hy=>by
  rcases cY.1 hy with hy | hy
  ·exact hw0 y (gY hy)
  ·rcases cY.1 hy with hy | hy
   ·exact hwf2 y hy
   ·exact hw0 y (iN hy)
 have hlens:(x0.take i++(x2++x0.drop i)).length=x0.length+1:=by
  simp only[List.length_append,bW,gQ,p2];omega
 rcases hcase with ⟨ad,rfl,rfl,rfl⟩ | ⟨b,off,cap,cur,ty,fz,rfl,h2,h3,h4,h5,h6,rfl,h8⟩
 ·have hi0:i=0:=by simpa using hi
  subst hi0;have:=hlast w [] x2 ad 0 vb voff vcap vcur vty vfz (λx h=>by cases h) (aT _) (λ_=>rfl) (λa _ j u hj=>by simp[rA]at hj) hB p2 (by simp) (by simp);refine this.mono ?_;rintro r w' ⟨v',rfl,h1,h2⟩;exact fresh _ v' w' hlens hws (by simpa using h1) h2
 ·have hA:yJ w t x0 b off cap cur ty fz:=⟨hw0,h2,h3,h4,h5,h6,h8⟩;have hvb:vb≠b:=by
   simp only[gF,FN,cK,dL,zX,jJ,dU]at hn;exact λe=>hn.1 e.symm
  have place:∀(w':World) (cur':Array Value),cQ [b] w w'->w'.heap[b]? = some (.cells cur' ty fz)->cur'.size=cur.size->x0.length+1<=cap->(∀j u,(rA t (x0.take i++(x2++x0.drop i)))[j]? = some u->cur'[off+j]? = some u) ->
    ∃rs ubs rbs,Hg (.slice (some ⟨b,off,none⟩) (x0.length+1) cap) = .returned (IA rs)/\cQ [[b],[],[vb]].flatten w w'/\De w' [⟨.sl t,x0.take i++(x2++x0.drop i)⟩] rs rbs/\yU w' [none,none] (lP [qV t,nM (.int .i64),qV t] [.slice (some ⟨b,off,none⟩) x0.length cap,.int .i64 i,.slice (some ⟨vb,voff,none⟩) 1 vcap]) ubs /\
     (ubs.flatten++rbs.flatten).Nodup/\∀d∈ubs.flatten++rbs.flatten,¬Am.Good w [[b],[],[vb]].flatten d:=λw' cur' hk hb hs hr hc=>by
   have hres:=SY (w:=w') hf hws (n:=x0.length+1) (b:=b) (off:=off) (cap:=cap) (cur:=cur') (ty:=ty) (fz:=fz) hlens.symm (by rw[hlens];exact hr) h3 (by rw[hs];exact h4) hb (by rw[hs];exact h6) hc;refine⟨[_],[[],[]],[[b]],rfl,hk.mono (λk hk=>by simp at hk;simp[hk]),⟨_,_,_,_,_,rfl,rfl,hres,rfl,rfl,rfl⟩,⟨_,_,_,rfl,rfl,_,_,_,rfl,rfl,rfl,rfl⟩,by simp,λd hd hg=>?_⟩;simp at hd;subst hd;exact hg.2 (by simp)
  have hdr:∀q,cQ [b] w (w.drewN q):=λq=>⟨rfl,rfl,rfl,aT _,λ_ _ _=>rfl⟩;have hlen2:(rA t x2).length=t.size:=by rw[nT hf hwf2,p2,D3]
  by_cases hroom:x0.length+1<=cap
  ·have hle:(x0.length+1)*t.size<=cap*t.size:=Nat.mul_le_mul_right _ hroom;rw[gE,D3]at hle;by_cases hin:i=x0.length
   ·subst hin;refine(hend w x0 x2 b off cap cur ty fz vb voff vcap vcur vty vfz hA hB p2 hvb hroom).mono ?_;rintro r w' ⟨rfl,q,rfl⟩;have l1:off+x0.length*t.size+(rA t x2).length<=cur.size:=by rw[hlen2];omega
    obtain⟨c1,g1,g2,g3,g4,g5,g6⟩:=nU (rA t x2) (show (w.drewN q).heap[b]? = some (.cells cur ty fz)from h5) l1;refine place _ c1 ((hdr q).trans (uO _ h5 l1)) g1 g2 hroom (λj u hu=>?_);rw[jT,FR,cK,sH]at hu;have hl0:=nT hf hw0;by_cases hj:j<x0.length*t.size
    ·rw[b7 (by omega)]at hu;rw[g4 _ (.inl (by omega))];exact h8 j u hu
    ·rw[cO (by omega),hl0]at hu;have:=g3 _ u hu
     rwa [show off+x0.length*t.size+(j-x0.length*t.size)=off+j by omega]at this
   ·have hlt:i<x0.length:=by omega
    refine(hshift w x0 x2 b off cap cur ty fz vb voff vcap vcur vty vfz i hA hB p2 hvb hlt hroom).mono ?_;rintro r w' ⟨rfl,q,rfl⟩;have hd:(rA t (x0.drop i)).length=(x0.length-i)*t.size:=by rw[nT hf (λx hx=>hw0 x (iN hx)),gQ]
    have hti:(rA t (x0.take i)).length=i*t.size:=by rw[nT hf (λx hx=>hw0 x (gY hx)),bW,Hh (by omega)]
    have e1:(i+1)*t.size+(x0.length-i)*t.size=x0.length*t.size+t.size:=by rw[<- gE, <- xX];congr 1;omega
    have e2:(i+1)*t.size=i*t.size+t.size:=xX _ _;have l1:off+(i+1)*t.size+(rA t (x0.drop i)).length<=cur.size:=by rw[hd];omega
    obtain⟨c1,g1,g2,g3,g4,g5,g6⟩:=nU (rA t (x0.drop i)) (show (w.drewN q).heap[b]? = some (.cells cur ty fz)from h5) l1;have l2:off+i*t.size+(rA t x2).length<=c1.size:=by rw[hlen2,g2];omega
    obtain⟨c2,k1,k2,k3,k4,k5,k6⟩:=nU (rA t x2) g1 l2;refine place _ c2 (((hdr q).trans (uO _ h5 l1)).trans (uO _ g1 l2)) k1 (by rw[k2,g2]) hroom (λj u hu=>?_);rw[sH,sH]at hu;by_cases hj:j<i*t.size
    ·rw[b7 (by omega)]at hu;rw[k4 _ (.inl (by omega)),g4 _ (.inl (by omega))];exact h8 j u (aFr hf hw0 i j u hu)
    ·rw[cO (by omega),hti]at hu;by_cases hj2:j<i*t.size+t.size
     ·rw[b7 (by omega)]at hu;have:=k3 _ u hu
      rwa [show off+i*t.size+(j-i*t.size)=off+j by omega]at this
     ·rw[cO (by omega),hlen2]at hu;rw[k4 _ (.inr (by rw[hlen2];omega))];have:=g3 _ u hu
      rwa [show off+(i+1)*t.size+(j-i*t.size-t.size)=off+j by omega]at this
  ·by_cases hin:i=x0.length
   ·subst hin;have:=hlast w x0 x2 (some ⟨b,off,none⟩) cap vb voff vcap vcur vty vfz hw0 h2 (λh=>by cases h) (λa ha j u hj=>by cases ha;rw[gB];exact hA.cell j u hj) hB p2 (by omega) p3;refine this.mono ?_;rintro r w' ⟨v',rfl,h1,h2⟩;exact fresh _ v' w' hlens hws (by rw[Int.toNat_natCast,jT,FR,cK];exact h1) h2
   ·have hlt:i<x0.length:=by omega
    refine(hgrow w x0 x2 b off cap cur ty fz vb voff vcap vcur vty vfz i hA hB p2 hvb hlt (by omega) p3).mono ?_;rintro r w' ⟨v',rfl,h1,h2⟩;exact fresh _ v' w' hlens hws h1 h2
end Go.Am
namespace Go.Am
def getD_all{h:Γ Int}{n:Int}(hn:0<=n)(hc:∀c∈h,0<=c/\c<=n)(k:Nat):0<=h.getD k 0/\h.getD k 0<=n:=by
 by_cases hlt:k<h.length
 ·exact hc _ (bY h k 0 hlt)
 ·rw[bC,List.getElem?_eq_none (by omega)];exact⟨Int.le_refl _,hn⟩
def bDJ(o:Option (Γ aS×Γ (Option jC)×Γ Prop)):Option (Γ aS×Γ (Option jC))×Prop :=
 match o with
 | some (ds,us,cs)=>(some (ds,us),iD cs)
 | none=>(none,True)
theorem a1{p q:Prop}(x:p)(y:q):p/\q:=⟨x,y⟩
section
variable {P:Program} {f:FuncId} {R:Ending->World->Prop} {n:Nat} {K:gU} {E:gK} {L:bM}
theorem AtV.ret{fn:Func}(hf:P.funcs[f]? = some fn){tab:Γ TI}{ext:A7}(hT:kZ P tab)(hX:q8 P ext)(hm:P.follows .mixedOrders=true)(wr:Bool)(stops:Γ Nat){q:Nat->Value}{pins:Γ Nat}{oks:Γ AT}{kds:Γ RK}(ts:Γ Ty)(path:Γ Bool){k:Γ Item}{ds:Γ aS}{us:Γ (Option jC)}{C:Prop}
  (hc:C) (h:bDJ (OM tab ext wr n stops 2000 pins oks kds ts fn.results path k E L)=(some (ds,us),C)):AtV P f (OL kds oks ds us pins q K) n K q pins k E L:=by
 cases hr:OM tab ext wr n stops 2000 pins oks kds ts fn.results path k E L with
 | none=>rw[hr]at h;cases h
 | some y =>
  obtain⟨d1,u1,cs⟩:=y;rw[hr]at h;cases h;exact AtV.fin hf hT hX hm hr hc
end
structure jB where
 f:FuncId
 fn:Func
 sig:Γ AT
 tys:Γ Ty
 kds:Γ RK
 ext:A7
 wr:Bool
 stops:Γ Nat
def Con(P:Program)(f:FuncId)(S:Spec):Prop:=Bj P f/\j9 P f S
structure Fok (P:Program) (tab:Γ TI) (d:jB):Prop where
 hf:P.funcs[d.f]? = some d.fn
 hT:kZ P tab
 hX:q8 P d.ext
 hm:P.follows .mixedOrders=true
def aOQ:Γ Prop->Prop
 | []=>True
 | p::r=>aOQ r/\p
theorem aOQ.all:∀ {l m:Γ Prop},aOQ l->iD m->iD (l.reverseAux m)
 | [],_,_,h=>h
 | p::l,m,⟨h,hp⟩,k=>show iD (l.reverseAux (p::m))from aOQ.all h ⟨hp,k⟩
def G(P:Program)(tab:Γ TI)(d:jB)(ds:Γ aS)(us:Γ (Option jC))(K:gU)(q:Nat->Value)(path:Γ Bool)(cs:Γ Prop)(k:Γ Item)(E:gK)(L:bM):Prop :=
 Fok P tab d->aOQ cs->AtV P d.f (OL d.kds (Cp d.sig) ds us (mT 0 d.sig) q K) d.fn.ntmps K q (mT 0 d.sig) k E L
def bDK:PV->Γ Nat
 | .a A=>uL A
 | .tup As=>As.flatMap uL
 | .fn _ As=>As.flatMap uL
def aOR:Γ Nat->Γ Nat->Γ Nat->Γ Nat
 | r::rs,s::ss,acc=>aOR rs ss (acc.set r s)
 | _,_,acc=>acc
def rsE(E1:gK):gK->Γ Nat->Γ Nat
 | [],acc=>acc
 | (t,p)::r,acc=>rsE E1 r (aOR (bDK p) (bDK (E1.get t)) acc)
def rsH(L1:bM):Nat->bM->Γ Nat->Γ Nat
 | _,[],acc=>acc
 | i,some A::r,acc=>rsH L1 (i+1) r (match A.ls,b5 L1 (IV acc i)with
  | some ls,some B=>match B.ls with
   | some ms=>aOR (jF ls) (jF ms) acc
   | none=>acc
  | _,_=>acc)
 | i,none::r,acc=>rsH L1 (i+1) r acc
def rsJ(E':gK)(L':bM)(E1:gK)(L1:bM):Γ Nat:=rsH L1 0 L' (rsE E1 E' (aQ L'.length L1.length))
def runJ(tab:Γ TI)(ext:A7)(wr:Bool)(n:Nat)(stops:Γ Nat)(m:Nat)(pins:Γ Nat)(nils:Γ (Nat×Ty))(path:Γ Bool)(E':gK)(L':bM)(k:Γ Item)(E:gK)(L:bM):Option (Γ Item×gK×bM×Γ Prop) :=
 match tF tab ext wr n stops m true k ⟨path,[],E,L,[],pins⟩ with
 | some (.stop k' S)=>match Zo nils (S.E,S.L)with
  | (E1,L1)=>match Bk (rsJ E' L' E1 L1)&&Zg (rsJ E' L' E1 L1) (Am.keepE E1 (E'.map dB))&&QG (rsJ E' L' E1 L1) (borUp L1) (rsJ E' L' E1 L1)&&decide (S.pins=pins)with
   | true=>some (k',aO4 (rsJ E' L' E1 L1) (Am.keepE E1 (E'.map dB)),OD (rsJ E' L' E1 L1) (borUp L1),S.cs)
   | false=>none
 | _=>none
def Zt:Γ (Option jC)->Γ (Option jC)->Γ (Option jC)
 | none::r,b::s=>b::Zt r s
 | some a::r,_::s=>some a::Zt r s
 | _::_,[]=>[none]
 | [],_=>[]
theorem ME:∀(us vs:Γ (Option jC)),vs=Zt us vs->aFg vs us
 | none::r,b::s,h=>⟨.inr rfl,ME r s (List.cons.inj h).2⟩
 | some a::r,b::s,h=>⟨.inl (List.cons.inj h).1.symm,ME r s (List.cons.inj h).2⟩
 | none::_,[],h=>by cases h
 | some _::_,[],h=>by cases h
 | [],[],_=>trivial
 | [],_::_,h=>by cases h
def usF(o:Option (Γ aS×Γ (Option jC)×Γ Prop)):Γ (Option jC):=match o with
 | some (_,us,_)=>us
 | none=>[]
section
variable {P:Program} {tab:Γ TI} {d:jB} {ds:Γ aS} {us:Γ (Option jC)} {K:gU} {q:Nat->Value} {path:Γ Bool} {cs:Γ Prop} {k:Γ Item} {E:gK} {L:bM}
def bR{x:Bool}{A B:Prop}(h:if x=true then A else B)(t:A->G P tab d ds us K q (true::path) ((x=true)::cs) k E L)(e:B->G P tab d ds us K q (false::path) ((x=false)::cs) k E L):G P tab d ds us K q path cs k E L:=λo c=>by
 cases x
 ·exact e h o ⟨c,rfl⟩
 ·exact t h o ⟨c,rfl⟩
theorem c1{p1 Q:Prop}(h:p1/\Q)(t:Q->G P tab d ds us K q path (p1::cs) k E L):G P tab d ds us K q path cs k E L:=λo c=>t h.2 o ⟨c,h.1⟩
def cS{p1 Q:Prop}(h:p1/\Q)(t:p1->Q->G P tab d ds us K q path (p1::cs) k E L):G P tab d ds us K q path cs k E L:=λo c=>t h.1 h.2 o ⟨c,h.1⟩
theorem c2{p1 p2 Q:Prop}(h:p1/\p2/\Q)(t:Q->G P tab d ds us K q path (p2::p1::cs) k E L):G P tab d ds us K q path cs k E L:=c1 h λh=>c1 h t
theorem c3{p1 p2 p3 Q:Prop}(h:p1/\p2/\p3/\Q)(t:Q->G P tab d ds us K q path (p3::p2::p1::cs) k E L):G P tab d ds us K q path cs k E L:=c2 h λh=>c1 h t
theorem c4{p1 p2 p3 p4 Q:Prop}(h:p1/\p2/\p3/\p4/\Q)(t:Q->G P tab d ds us K q path (p4::p3::p2::p1::cs) k E L):G P tab d ds us K q path cs k E L:=c3 h λh=>c1 h t
def c5{p1 p2 p3 p4 p5 Q:Prop}(h:p1/\p2/\p3/\p4/\p5/\Q)(t:Q->G P tab d ds us K q path (p5::p4::p3::p2::p1::cs) k E L):G P tab d ds us K q path cs k E L:=c4 h λh=>c1 h t
theorem c6{p1 p2 p3 p4 p5 p6 Q:Prop}(h:p1/\p2/\p3/\p4/\p5/\p6/\Q)(t:Q->G P tab d ds us K q path (p6::p5::p4::p3::p2::p1::cs) k E L):G P tab d ds us K q path cs k E L:=c5 h λh=>c1 h t
def tv(t:G P tab d ds us K q path (True::cs) k E L):G P tab d ds us K q path cs k E L:=λo c=>t o ⟨c,trivial⟩
def tT(t:G P tab d ds us K q (true::path) ((true=true)::cs) k E L):G P tab d ds us K q path cs k E L:=λo c=>t o ⟨c,rfl⟩
def tP{p:Prop}(h:p)(t:G P tab d ds us K q path (p::cs) k E L):G P tab d ds us K q path cs k E L:=λo c=>t o ⟨c,h⟩
def rt(r:OM tab d.ext d.wr d.fn.ntmps d.stops 2000 (mT 0 d.sig) (Cp d.sig) d.kds d.tys d.fn.results (path.reverseAux []) k E L=some (ds,Zt us (usF (OM tab d.ext d.wr d.fn.ntmps d.stops 2000 (mT 0 d.sig) (Cp d.sig) d.kds d.tys d.fn.results (path.reverseAux []) k E L)),cs.reverseAux []):=by kernel_rfl):G P tab d ds us K q path cs k E L:=λo c=>by
 have hu:usF (OM tab d.ext d.wr d.fn.ntmps d.stops 2000 (mT 0 d.sig) (Cp d.sig) d.kds d.tys d.fn.results (path.reverseAux []) k E L)=Zt us (usF (OM tab d.ext d.wr d.fn.ntmps d.stops 2000 (mT 0 d.sig) (Cp d.sig) d.kds d.tys d.fn.results (path.reverseAux []) k E L)):=congrArg usF r;exact AtV.weak (AtV.fin o.hf o.hT o.hX o.hm r (c.all trivial)) (by rw[<- hu];exact ME _ _ hu)
def rh{ds':Γ aS}(h:ds=ds')(r:OM tab d.ext d.wr d.fn.ntmps d.stops 2000 (mT 0 d.sig) (Cp d.sig) d.kds d.tys d.fn.results (path.reverseAux []) k E L=some (ds',us,cs.reverseAux []):=by kernel_rfl):G P tab d ds us K q path cs k E L:=λo c=>by
 subst h;exact AtV.fin o.hf o.hT o.hX o.hm r (c.all trivial)
def ru{ds':Γ aS}{us':Γ (Option jC)}(h:ds=ds'/\us=us')(r:OM tab d.ext d.wr d.fn.ntmps d.stops 2000 (mT 0 d.sig) (Cp d.sig) d.kds d.tys d.fn.results (path.reverseAux []) k E L=some (ds',us',cs.reverseAux []):=by kernel_rfl):G P tab d ds us K q path cs k E L:=λo c=>by
 obtain⟨rfl,rfl⟩:=h;exact AtV.fin o.hf o.hT o.hX o.hm r (c.all trivial)
def jn(nils:Γ (Nat×Ty)){k':Γ Item}{E':gK}{L':bM}(hk:G P tab d ds us K q [] [] k' E' L')(r:runJ tab d.ext d.wr d.fn.ntmps d.stops 2000 (mT 0 d.sig) nils (path.reverseAux []) E' L' k E L=some (k',E',L',cs.reverseAux []):=by kernel_rfl):G P tab d ds us K q path cs k E L:=λo hc=>by
 intro a w w0 G V own hR hq;have h:=r;unfold Am.runJ at h;split at h
 ·rename_i k1 S hr;split at h;rename_i E1 L1 hnil;split at h
  ·rename_i hb;simp only[aV,ε]at hb;obtain⟨⟨⟨hn,hb⟩,hh⟩,hp⟩:=hb;simp only[Option.some.injEq,Prod.mk.injEq]at h;obtain⟨e1,e2,e3,e4⟩:=h;subst e1;refine aFa o.hT o.hX o.hm hr (show iD S.cs by rw[e4];exact hc.all trivial) hR ⟨λt d ht=>by simp[IT]at ht,hq⟩ ?_;intro a' w' w1 G1 V' own' hR' hq';rw[hp]at hq';obtain⟨V2,own2,hR2⟩:=Uz (l:=nils) hR';rw[hnil]at hR2;have h3:=(hR2.borUp.keepE (E'.map dB)).renum hn hb hh;rw[e2,e3]at h3;exact hk o trivial _ _ _ _ _ _ h3 hq'
  ·cases h
 ·cases h
def jp{k':Γ Item}{E':gK}{L':bM}(hk:G P tab d ds us K q [] [] k' E' L')(r:runJ tab d.ext d.wr d.fn.ntmps d.stops 2000 (mT 0 d.sig) [] (path.reverseAux []) E' L' k E L=some (k',E',L',cs.reverseAux []):=by kernel_rfl):G P tab d ds us K q path cs k E L:=jn [] hk r
end
section
variable {P:Program} {tab:Γ TI} {d:jB} {us:Γ (Option jC)} {K:gU} {q:Nat->Value} {path:Γ Bool} {cs:Γ Prop} {k:Γ Item} {E:gK} {L:bM} {x:Bool} {A B:Prop} {t0 t1 t2 t3 T:Ty} {p0 q0:t0.den} {p1 q1:t1.den} {p2 q2:t2.den} {p3 q3:t3.den} {y z:T.den} {ys zs:Γ T.den}
theorem e1(t:G P tab d [⟨t0,p0⟩] us K q (true::path) ((x=true)::cs) k E L)(e:G P tab d [⟨t0,q0⟩] us K q (false::path) ((x=false)::cs) k E L):G P tab d [⟨t0,if x=true then p0 else q0⟩] us K q path cs k E L:=λo c=>by
 cases x
 ·exact e o ⟨c,rfl⟩
 ·exact t o ⟨c,rfl⟩
theorem bDM(h:if x=true then A else B)(t:A->G P tab d [⟨t0,p0⟩] [some ⟨T,[y]⟩] K q (true::path) ((x=true)::cs) k E L)(e:B->G P tab d [⟨t0,q0⟩] [some ⟨T,[z]⟩] K q (false::path) ((x=false)::cs) k E L):G P tab d [⟨t0,if x=true then p0 else q0⟩] [some ⟨T,[if x=true then y else z]⟩] K q path cs k E L:=λo c=>by
 cases x
 ·exact e h o ⟨c,rfl⟩
 ·exact t h o ⟨c,rfl⟩
theorem e2(t:G P tab d [⟨t0,p0⟩,⟨t1,p1⟩] us K q (true::path) ((x=true)::cs) k E L)(e:G P tab d [⟨t0,q0⟩,⟨t1,q1⟩] us K q (false::path) ((x=false)::cs) k E L):G P tab d [⟨t0,if x=true then p0 else q0⟩,⟨t1,if x=true then p1 else q1⟩] us K q path cs k E L:=λo c=>by
 cases x
 ·exact e o ⟨c,rfl⟩
 ·exact t o ⟨c,rfl⟩
theorem e2u(t:G P tab d [⟨t0,p0⟩,⟨t1,p1⟩] [some ⟨T,[y]⟩] K q (true::path) ((x=true)::cs) k E L)(e:G P tab d [⟨t0,q0⟩,⟨t1,q1⟩] [some ⟨T,[z]⟩] K q (false::path) ((x=false)::cs) k E L):G P tab d [⟨t0,if x=true then p0 else q0⟩,⟨t1,if x=true then p1 else q1⟩] [some ⟨T,[if x=true then y else z]⟩] K q path cs k E L:=λo c=>by
 cases x
 ·exact e o ⟨c,rfl⟩
 ·exact t o ⟨c,rfl⟩
theorem Yj(h:if x=true then A else B)(t:A->G P tab d [⟨t0,p0⟩,⟨t1,p1⟩] [some ⟨T,[y]⟩] K q (true::path) ((x=true)::cs) k E L)(e:B->G P tab d [⟨t0,q0⟩,⟨t1,q1⟩] [some ⟨T,[z]⟩] K q (false::path) ((x=false)::cs) k E L):G P tab d [⟨t0,if x=true then p0 else q0⟩,⟨t1,if x=true then p1 else q1⟩] [some ⟨T,[if x=true then y else z]⟩] K q path cs k E L:=λo c=>by
 cases x
 ·exact e h o ⟨c,rfl⟩
 ·exact t h o ⟨c,rfl⟩
theorem e3(t:G P tab d [⟨t0,p0⟩,⟨t1,p1⟩,⟨t2,p2⟩] us K q (true::path) ((x=true)::cs) k E L)(e:G P tab d [⟨t0,q0⟩,⟨t1,q1⟩,⟨t2,q2⟩] us K q (false::path) ((x=false)::cs) k E L):G P tab d [⟨t0,if x=true then p0 else q0⟩,⟨t1,if x=true then p1 else q1⟩,⟨t2,if x=true then p2 else q2⟩] us K q path cs k E L:=λo c=>by
 cases x
 ·exact e o ⟨c,rfl⟩
 ·exact t o ⟨c,rfl⟩
theorem e4(t:G P tab d [⟨t0,p0⟩,⟨t1,p1⟩,⟨t2,p2⟩,⟨t3,p3⟩] us K q (true::path) ((x=true)::cs) k E L)(e:G P tab d [⟨t0,q0⟩,⟨t1,q1⟩,⟨t2,q2⟩,⟨t3,q3⟩] us K q (false::path) ((x=false)::cs) k E L):G P tab d [⟨t0,if x=true then p0 else q0⟩,⟨t1,if x=true then p1 else q1⟩,⟨t2,if x=true then p2 else q2⟩,⟨t3,if x=true then p3 else q3⟩] us K q path cs k E L:=λo c=>by
 cases x
 ·exact e o ⟨c,rfl⟩
 ·exact t o ⟨c,rfl⟩
end
def fnB(fn : Func) : Bool := !(fn.name == "runtime.NumGoroutine") && fn.body.isSome
def AJ{P:Program}{f:FuncId}{fn:Func}{S:Spec}(hf:P.funcs[f]? = some fn)(h:j9 P f S)(hc:fnB fn=true:=by kernel_rfl):Con P f S:=by
 unfold fnB at hc;simp only[aV,Bool.not_eq_true']at hc;exact⟨⟨fn,hf,hc.1,by cases hb:fn.body with | none=>rw[hb]at hc;exact absurd hc.2 (by simp) | some c=>rfl⟩,h⟩
def mkC{P:Program}{tab:Γ TI}{d:jB}{pre:eQ d.sig->Prop}{upd:eQ d.sig->Γ (Option jC)}{res:eQ d.sig->Γ aS}(o:Fok P tab d)
  (h:∀x,pre x->I3 d.sig x->∀K q,G P tab d (res x) (upd x) K q [] [] [.code (y7 d.fn)] (Ku 0 0 d.sig x) (TY d.sig x)) (hc:(fnB d.fn&&pE d.sig.length d.fn.ntmps)=true:=by kernel_rfl):Con P d.f ⟨d.sig,pre,upd,res,d.kds⟩:=by
 rw[aV]at hc;obtain⟨h1,h2⟩:=hc;have hb:d.fn.body=some (y7 d.fn):=by
  unfold fnB at h1;simp only[aV]at h1;unfold y7;cases hb:d.fn.body with
  | none=>rw[hb]at h1;exact absurd h1.2 (by simp)
  | some c=>rfl
 exact AJ o.hf (aFe o.hf hb (oB h2) λx hp hw K q=>h x hp hw K q o trivial) h1
end Go.Am
set_option maxRecDepth 100000
namespace Go.Proofs.YtgfpjekjhnkbfaaGreatDoor
open Go Go.Am Go.Proofs
abbrev nO:TI:=TI.other
abbrev dM:TI:=TI.scal (Ty.fn)
abbrev tq2:TI:=TI.scal (.int .i64)
abbrev tq3:TI:=TI.scal (.int .u8)
abbrev tq4:TI:=TI.scal (.str)
abbrev tq5:TI:=TI.scal (.int .u64)
abbrev tq6:TI:=TI.scal (.int .i32)
abbrev tq7:TI:=TI.struct (.cons (.int .i64) (.cons (.int .i64) (.cons (.int .i64) (.cons (.int .i64) .unit))))
abbrev tq8:TI:=TI.struct (.cons (.int .i64) (.cons (.int .i64) (.cons (.int .i64) .unit)))
abbrev tq9:TI:=TI.struct (.cons .str (.cons (.int .i64) (.cons (.int .i64) (.cons (.int .i64) .unit))))
abbrev aMl:TI:=TI.struct (.cons .str (.cons (.int .i64) (.cons (.int .i64) .unit)))
def tab:Γ TI:=[nO,dM,tq2,tq2,TI.scal (.bool),tq3,tq3,tM (.cons (.int .i64) (.cons (.int .i64) (.cons .bool (.cons (.int .u8) .unit)))),tM (.cons (.int .i64) (.cons (.int .i64) (.cons .bool (.cons (.int .u8) .unit)))),tq4,tq4,tq4,tq5,nO,nO,nO,nO,nO,nO,nO,nO,tq6,nO,dM,dM,pQ 9 (.str) 16,dM,pQ 86 (.cons .str (.cons (.int .i64) (.cons (.int .i64) (.cons (.int .i64) .unit)))) 40,tq7,tq7,pQ 94 (.cons (.int .i64) (.cons (.int .i64) (.cons (.int .i64) .unit))) 24,pQ 137 (.cons (.int .i64) (.cons (.int .i64) (.cons (.int .i64) .unit))) 24,tq8,tq8,tq8,tq8,pQ 100 (.cons .str (.cons (.int .i64) (.cons (.int .i64) .unit))) 32,tq7,tq7,pQ 141 (.cons .str (.cons (.int .i64) (.cons (.int .i64) (.cons (.int .i64) .unit)))) 40,pQ 144 (.cons (.int .i64) (.cons (.int .i64) (.cons (.int .i64) .unit))) 24,pQ 147 (.cons .str (.cons (.int .i64) (.cons (.int .i64) .unit))) 32,pQ 150 (.cons .str (.cons (.int .i64) (.cons (.int .i64) .unit))) 32,tM (.cons (.sl (.cons .str (.cons (.int .i64) (.cons (.int .i64) (.cons (.int .i64) .unit))))) (.cons (.cons (.int .i64) (.cons (.int .i64) (.cons (.int .i64) (.cons (.int .i64) .unit)))) (.cons (.sl (.cons (.int .i64) (.cons (.int .i64) (.cons (.int .i64) .unit)))) (.cons (.sl (.cons (.int .i64) (.cons (.int .i64) (.cons (.int .i64) .unit)))) (.cons (.cons (.int .i64) (.cons (.int .i64) (.cons (.int .i64) .unit))) (.cons (.cons (.int .i64) (.cons (.int .i64) (.cons (.int .i64) .unit))) (.cons (.sl (.cons .str (.cons (.int .i64) (.cons (.int .i64) .unit)))) (.cons (.cons (.int .i64) (.cons (.int .i64) (.cons (.int .i64) (.cons (.int .i64) .unit)))) (.cons (.sl (.cons .str (.cons (.int .i64) (.cons (.int .i64) (.cons (.int .i64) .unit))))) (.cons (.sl (.cons (.int .i64) (.cons (.int .i64) (.cons (.int .i64) .unit)))) (.cons (.sl (.cons .str (.cons (.int .i64) (.cons (.int .i64) .unit)))) (.cons (.sl (.cons .str (.cons (.int .i64) (.cons (.int .i64) .unit)))) .unit)))))))))))),tM (.cons (.sl (.cons .str (.cons (.int .i64) (.cons (.int .i64) (.cons (.int .i64) .unit))))) (.cons (.cons (.int .i64) (.cons (.int .i64) (.cons (.int .i64) (.cons (.int .i64) .unit)))) (.cons (.sl (.cons (.int .i64) (.cons (.int .i64) (.cons (.int .i64) .unit)))) (.cons (.sl (.cons (.int .i64) (.cons (.int .i64) (.cons (.int .i64) .unit)))) (.cons (.cons (.int .i64) (.cons (.int .i64) (.cons (.int .i64) .unit))) (.cons (.cons (.int .i64) (.cons (.int .i64) (.cons (.int .i64) .unit))) (.cons (.sl (.cons .str (.cons (.int .i64) (.cons (.int .i64) .unit)))) (.cons (.cons (.int .i64) (.cons (.int .i64) (.cons (.int .i64) (.cons (.int .i64) .unit)))) (.cons (.sl (.cons .str (.cons (.int .i64) (.cons (.int .i64) (.cons (.int .i64) .unit))))) (.cons (.sl (.cons (.int .i64) (.cons (.int .i64) (.cons (.int .i64) .unit)))) (.cons (.sl (.cons .str (.cons (.int .i64) (.cons (.int .i64) .unit)))) (.cons (.sl (.cons .str (.cons (.int .i64) (.cons (.int .i64) .unit)))) .unit)))))))))))),dM,nO,dM,nO,nO,dM,nO,pQ 5 (.int .u8) 1,nO,nO,nO,dM,nO,nO,nO,dM,dM,dM,dM,dM,dM,pQ 2 (.int .i64) 8,tM (.cons .str (.cons .str (.cons (.sl (.int .i64)) (.cons (.sl (.int .i64)) .unit)))),tM (.cons .str (.cons .str (.cons (.sl (.int .i64)) (.cons (.sl (.int .i64)) .unit)))),nO,dM,dM,nO,dM,dM,nO,nO,dM,dM,dM,nO,dM,dM,dM,dM,tq9,tq9,nO,dM,dM,dM,nO,dM,tq8,tq8,nO,dM,nO,dM,aMl,aMl,nO,dM,dM,nO,dM,nO,dM,nO,dM,nO,dM,dM,nO,dM,dM,dM,dM,dM,dM,dM,dM,dM,dM,dM,dM,dM,dM,dM,dM,dM,nO,dM,dM,dM,dM,tq8,tq8,dM,dM,tq9,tq9,dM,tq8,tq8,dM,aMl,aMl,dM,aMl,aMl,nO,dM,dM,nO,dM,dM,nO,dM,dM,dM,dM,nO,nO,pQ 25 (.sl .str) 24,nO,dM,dM,dM,nO,dM,dM,nO,nO,dM,dM,nO,dM,dM,nO,dM,nO,dM,nO,nO,dM,dM,nO,dM,nO,dM,nO,dM,dM,nO,dM,dM,dM,dM,dM,pQ 3 (.int .i64) 8,dM,dM,dM,dM,nO,dM,dM,dM,dM,nO,dM,dM,dM,dM,dM,dM,dM,dM,dM,dM,dM,dM,dM,dM,dM,dM,dM,dM,dM,nO,dM,nO,dM,dM,nO,dM,dM,nO,dM,dM,nO,dM,dM,nO,dM,dM,nO,dM,nO,dM,dM,dM,nO,dM,dM,dM,dM,pQ 4 (.bool) 1,dM,dM,dM,dM,nO,dM,nO,dM,nO,dM,dM,dM,nO,dM,dM,dM,dM,dM,dM,dM,nO,dM,dM,dM,dM,dM,dM,dM,dM,dM,dM,nO,dM,dM,dM,dM,dM,dM,dM,dM,dM,dM,dM,dM,dM,dM,dM,dM,dM,dM,dM,dM,dM,dM,dM,dM,dM,dM,dM,dM,dM,dM,dM,dM,dM,dM,tq5,dM,tq2,tq5,nO,dM,nO,dM,dM,dM,dM,dM,dM,dM,dM,dM,dM,dM,dM,dM,dM,dM,dM,dM,dM,dM,dM,dM,dM,dM,dM,dM,dM,dM,dM,dM,dM,dM,dM,dM,dM,dM,dM,dM,dM,dM,nO,tM (.cons (.int .u8) (.cons (.int .u8) .unit)),tM (.cons (.int .u8) (.cons (.int .u8) .unit)),nO,TI.scal (.int .u32),nO,dM,dM,nO,nO,dM,dM,nO,dM,dM,nO,dM,dM,dM,dM,dM,dM,dM,nO,dM,dM,dM,dM,dM,dM,nO,nO,nO,dM,dM,nO,nO,tM (.cons .str .unit),tM (.cons .str .unit),dM,nO,nO,dM,dM,dM,dM,dM,dM,dM,dM,dM,dM,dM,dM,nO,dM,dM,dM,dM,dM,dM,nO,nO,dM,nO,nO,nO,nO,nO,tq3,tq3,dM,tq6,tq6]
def xE:kZ aL tab:=UK (by kernel_rfl)
def mixed:Tryz.prog.follows .mixedOrders=true:=by kernel_rfl
@[reducible] def eI(k:Nat)(v:Int):Nat×PV:=(k,.a (.val (.int .i64 v)))
@[reducible] def eB(k:Nat)(v:Bool):Nat×PV:=(k,.a (.val (.bool v)))
@[reducible] def eS(k:Nat)(v:Δ):Nat×PV:=(k,.a (.val (.string v)))
@[reducible] def eL(k:Nat)(T:Ty)(v:Γ T.den):Nat×PV:=(k,.a (.sl T v))
@[reducible] def eT(k:Nat)(T:Ty)(v:T.den):Nat×PV:=(k,.a (.st T v))
@[reducible] def eO(k a b:Nat)(p:Γ Nat):Nat×PV:=(k,.a (.optr a b p))
@[reducible] def eP(k a b:Nat)(T:Ty):Nat×PV:=(k,.a (.bptr a b T))
@[reducible] def eW(k a:Nat):Nat×PV:=(k,.a (.osl a none))
@[reducible] def Tm(v:Int):dE:=.val (.int .i64 v)
@[reducible] def Nl(v:Bool):dE:=.val (.bool v)
@[reducible] def Pk(v:Int):gJ:=.val (.int .i64 v)
@[reducible] def lO_(a:Nat):gJ:=.osl a none
@[reducible] def cN(T:Ty)(v:Γ T.den):Option iJ:=some (iJ.mk T v false none none)
@[reducible] def hB_(T:Ty)(l:Γ gJ):Option iJ:=some (iJ.mk T [] false (some l) none)
@[reducible] def mkS(d:jB)(p:eQ d.sig->Prop)(r:eQ d.sig->Γ aS):Am.Spec:=⟨d.sig,p,λ_=>[],r,d.kds⟩
@[reducible] def bNT(d:jB)(p:eQ d.sig->Prop)(u:eQ d.sig->Γ (Option jC))(r:eQ d.sig->Γ aS):Am.Spec:=⟨d.sig,p,u,r,d.kds⟩
abbrev FO(d:jB):Prop:=Fok aL tab d
def mo{d:jB}(h:aL.funcs[d.f]? = some d.fn)(x:q8 aL d.ext):Fok aL tab d:=⟨h,xE,x,mixed⟩
abbrev S0(f:FuncId)(S:Am.Spec):Prop:=Con aL f S
section
variable {d:jB} {ds:Γ aS} {us:Γ (Option jC)} {K:gU} {q:Nat->Value} {path:Γ Bool} {cs:Γ Prop} {k:Γ Item} {E:gK} {L:bM} {A B p p2 p3 p4:Prop} {x:Bool} {t0 t1 t2 t3 T:Ty} {p0 q0:t0.den} {p1 q1:t1.den} {y2 q2:t2.den} {y3 q3:t3.den} {y z:T.den}
abbrev GW(A:Prop)(d:jB)(ds:Γ aS)(us:Γ (Option jC))(K:gU)(q:Nat->Value)(path:Γ Bool)(cs:Γ Prop)(k:Γ Item)(E:gK)(L:bM):Prop:=A->G aL tab d ds us K q path cs k E L
def bS(t:GW A d ds us K q path (True::cs) k E L):GW A d ds us K q path cs k E L:=λh o c=>t h o ⟨c,trivial⟩
def j0(t:GW A d ds us K q (true::path) ((true=true)::cs) k E L):GW A d ds us K q path cs k E L:=λh o c=>t h o ⟨c,rfl⟩
def dN(t:GW A d ds us K q (false::path) ((false=false)::cs) k E L):GW A d ds us K q path cs k E L:=λh o c=>t h o ⟨c,rfl⟩
def rY(b:p)(t:GW A d ds us K q path (p::cs) k E L):GW A d ds us K q path cs k E L:=λh o c=>t h o ⟨c,b⟩
theorem pq(n:Nat)(t:GW A d ds us K q path ((0<=(n:Int))::cs) k E L):GW A d ds us K q path cs k E L:=rY (by omega) t
def pw(n:Nat)(t:GW A d ds us K q path (((n:Int)≠0)::cs) k E L)(b:(n:Int)≠0:=by decide):GW A d ds us K q path cs k E L:=rY b t
def pkT(b:x=true)(t:GW A d ds us K q (true::path) ((x=true)::cs) k E L):GW A d ds us K q path cs k E L:=λh o c=>t h o ⟨c,b⟩
def pkF(b:x=false)(t:GW A d ds us K q (false::path) ((x=false)::cs) k E L):GW A d ds us K q path cs k E L:=λh o c=>t h o ⟨c,b⟩
theorem pbS(t:x=true->GW A d ds us K q (true::path) ((x=true)::cs) k E L)(e:x=false->GW B d ds us K q (false::path) ((x=false)::cs) k E L):GW (if x=true then A else B) d ds us K q path cs k E L:=λh o c=>by
 cases x
 ·exact e rfl h o ⟨c,rfl⟩
 ·exact t rfl h o ⟨c,rfl⟩
def bU(t:GW A d ds us K q (true::path) ((x=true)::cs) k E L)(e:GW B d ds us K q (false::path) ((x=false)::cs) k E L):GW (if x=true then A else B) d ds us K q path cs k E L:=pbS (λ_=>t) λ_=>e
def Hp(t:p->GW A d ds us K q path (p::cs) k E L):GW (p/\A) d ds us K q path cs k E L:=λh o c=>t h.1 h.2 o ⟨c,h.1⟩
def aO(t:GW A d ds us K q path (p::cs) k E L):GW (p/\A) d ds us K q path cs k E L:=Hp λ_=>t
def eE(t:GW A d ds us K q path (p2::p::cs) k E L):GW (p/\p2/\A) d ds us K q path cs k E L:=aO<|aO t
def pc3(t:GW A d ds us K q path (p3::p2::p::cs) k E L):GW (p/\p2/\p3/\A) d ds us K q path cs k E L:=aO<|eE t
def pc4(t:GW A d ds us K q path (p4::p3::p2::p::cs) k E L):GW (p/\p2/\p3/\p4/\A) d ds us K q path cs k E L:=aO<|pc3 t
def pcF(t:GW A d ds us K q (false::path) ((x=false)::cs) k E L):GW (x=false/\A) d ds us K q path cs k E L:=λh=>pkF h.1 t h.2
def pr(r:OM tab d.ext d.wr d.fn.ntmps d.stops 2000 (mT 0 d.sig) (Cp d.sig) d.kds d.tys d.fn.results (path.reverseAux []) k E L=some (ds,Zt us (usF (OM tab d.ext d.wr d.fn.ntmps d.stops 2000 (mT 0 d.sig) (Cp d.sig) d.kds d.tys d.fn.results (path.reverseAux []) k E L)),cs.reverseAux []):=by kernel_rfl):GW A d ds us K q path cs k E L:=λ_=>rt r
def dR{ds':Γ aS}(r:OM tab d.ext d.wr d.fn.ntmps d.stops 2000 (mT 0 d.sig) (Cp d.sig) d.kds d.tys d.fn.results (path.reverseAux []) k E L=some (ds',us,cs.reverseAux []):=by kernel_rfl):GW (ds=ds') d ds us K q path cs k E L:=λh=>rh h r
def Kv{ds':Γ aS}{us':Γ (Option jC)}(r:OM tab d.ext d.wr d.fn.ntmps d.stops 2000 (mT 0 d.sig) (Cp d.sig) d.kds d.tys d.fn.results (path.reverseAux []) k E L=some (ds',us',cs.reverseAux []):=by kernel_rfl):GW (ds=ds'/\us=us') d ds us K q path cs k E L:=λh=>ru h r
def Dl(nils:Γ (Nat×Ty)){k':Γ Item}{E':gK}{L':bM}(hk:GW A d ds us K q [] [] k' E' L')(r:runJ tab d.ext d.wr d.fn.ntmps d.stops 2000 (mT 0 d.sig) nils (path.reverseAux []) E' L' k E L=some (k',E',L',cs.reverseAux []):=by kernel_rfl):GW A d ds us K q path cs k E L:=λh=>jn nils (hk h) r
def cX{k':Γ Item}{E':gK}{L':bM}(hk:GW A d ds us K q [] [] k' E' L')(r:runJ tab d.ext d.wr d.fn.ntmps d.stops 2000 (mT 0 d.sig) [] (path.reverseAux []) E' L' k E L=some (k',E',L',cs.reverseAux []):=by kernel_rfl):GW A d ds us K q path cs k E L:=Dl [] hk r
theorem fP(t:GW A d [⟨t0,p0⟩] us K q (true::path) ((x=true)::cs) k E L)(e:GW A d [⟨t0,q0⟩] us K q (false::path) ((x=false)::cs) k E L):GW A d [⟨t0,if x=true then p0 else q0⟩] us K q path cs k E L:=λh o c=>by
 cases x
 ·exact e h o ⟨c,rfl⟩
 ·exact t h o ⟨c,rfl⟩
theorem tH(t:GW A d [⟨t0,p0⟩] us K q (true::path) ((x=true)::cs) k E L)(e:GW B d [⟨t0,q0⟩] us K q (false::path) ((x=false)::cs) k E L):GW (if x=true then A else B) d [⟨t0,if x=true then p0 else q0⟩] us K q path cs k E L:=λh o c=>by
 cases x
 ·exact e h o ⟨c,rfl⟩
 ·exact t h o ⟨c,rfl⟩
theorem vD(t:GW A d [⟨t0,p0⟩,⟨t1,p1⟩] us K q (true::path) ((x=true)::cs) k E L)(e:GW A d [⟨t0,q0⟩,⟨t1,q1⟩] us K q (false::path) ((x=false)::cs) k E L):GW A d [⟨t0,if x=true then p0 else q0⟩,⟨t1,if x=true then p1 else q1⟩] us K q path cs k E L:=λh o c=>by
 cases x
 ·exact e h o ⟨c,rfl⟩
 ·exact t h o ⟨c,rfl⟩
theorem dP(t:GW A d [⟨t0,p0⟩,⟨t1,p1⟩] us K q (true::path) ((x=true)::cs) k E L)(e:GW B d [⟨t0,q0⟩,⟨t1,q1⟩] us K q (false::path) ((x=false)::cs) k E L):GW (if x=true then A else B) d [⟨t0,if x=true then p0 else q0⟩,⟨t1,if x=true then p1 else q1⟩] us K q path cs k E L:=λh o c=>by
 cases x
 ·exact e h o ⟨c,rfl⟩
 ·exact t h o ⟨c,rfl⟩
theorem bLd(t:x=true->GW A d [⟨t0,p0⟩,⟨t1,p1⟩] us K q (true::path) ((x=true)::cs) k E L)(e:x=false->GW A d [⟨t0,q0⟩,⟨t1,q1⟩] us K q (false::path) ((x=false)::cs) k E L):GW A d [⟨t0,if x=true then p0 else q0⟩,⟨t1,if x=true then p1 else q1⟩] us K q path cs k E L:=λh o c=>by
 cases x
 ·exact e rfl h o ⟨c,rfl⟩
 ·exact t rfl h o ⟨c,rfl⟩
theorem rQ(t:GW A d [⟨t0,p0⟩,⟨t1,p1⟩] [some ⟨T,[y]⟩] K q (true::path) ((x=true)::cs) k E L)(e:GW B d [⟨t0,q0⟩,⟨t1,q1⟩] [some ⟨T,[z]⟩] K q (false::path) ((x=false)::cs) k E L):GW (if x=true then A else B) d [⟨t0,if x=true then p0 else q0⟩,⟨t1,if x=true then p1 else q1⟩] [some ⟨T,[if x=true then y else z]⟩] K q path cs k E L:=λh o c=>by
 cases x
 ·exact e h o ⟨c,rfl⟩
 ·exact t h o ⟨c,rfl⟩
theorem pe3(t:GW A d [⟨t0,p0⟩,⟨t1,p1⟩,⟨t2,y2⟩] us K q (true::path) ((x=true)::cs) k E L)(e:GW A d [⟨t0,q0⟩,⟨t1,q1⟩,⟨t2,q2⟩] us K q (false::path) ((x=false)::cs) k E L):GW A d [⟨t0,if x=true then p0 else q0⟩,⟨t1,if x=true then p1 else q1⟩,⟨t2,if x=true then y2 else q2⟩] us K q path cs k E L:=λh o c=>by
 cases x
 ·exact e h o ⟨c,rfl⟩
 ·exact t h o ⟨c,rfl⟩
theorem aBk(t:GW A d [⟨t0,p0⟩,⟨t1,p1⟩,⟨t2,y2⟩] us K q (true::path) ((x=true)::cs) k E L)(e:GW B d [⟨t0,q0⟩,⟨t1,q1⟩,⟨t2,q2⟩] us K q (false::path) ((x=false)::cs) k E L):GW (if x=true then A else B) d [⟨t0,if x=true then p0 else q0⟩,⟨t1,if x=true then p1 else q1⟩,⟨t2,if x=true then y2 else q2⟩] us K q path cs k E L:=λh o c=>by
 cases x
 ·exact e h o ⟨c,rfl⟩
 ·exact t h o ⟨c,rfl⟩
theorem aOS(t:GW A d [⟨t0,p0⟩,⟨t1,p1⟩,⟨t2,y2⟩] [some ⟨T,[y]⟩] K q (true::path) ((x=true)::cs) k E L)(e:GW B d [⟨t0,q0⟩,⟨t1,q1⟩,⟨t2,q2⟩] [some ⟨T,[z]⟩] K q (false::path) ((x=false)::cs) k E L):GW (if x=true then A else B) d [⟨t0,if x=true then p0 else q0⟩,⟨t1,if x=true then p1 else q1⟩,⟨t2,if x=true then y2 else q2⟩] [some ⟨T,[if x=true then y else z]⟩] K q path cs k E L:=λh o c=>by
 cases x
 ·exact e h o ⟨c,rfl⟩
 ·exact t h o ⟨c,rfl⟩
theorem pe4(t:GW A d [⟨t0,p0⟩,⟨t1,p1⟩,⟨t2,y2⟩,⟨t3,y3⟩] us K q (true::path) ((x=true)::cs) k E L)(e:GW A d [⟨t0,q0⟩,⟨t1,q1⟩,⟨t2,q2⟩,⟨t3,q3⟩] us K q (false::path) ((x=false)::cs) k E L):GW A d [⟨t0,if x=true then p0 else q0⟩,⟨t1,if x=true then p1 else q1⟩,⟨t2,if x=true then y2 else q2⟩,⟨t3,if x=true then y3 else q3⟩] us K q path cs k E L:=λh o c=>by
 cases x
 ·exact e h o ⟨c,rfl⟩
 ·exact t h o ⟨c,rfl⟩
theorem bDN(t:GW A d [⟨t0,p0⟩,⟨t1,p1⟩,⟨t2,y2⟩,⟨t3,y3⟩] us K q (true::path) ((x=true)::cs) k E L)(e:GW B d [⟨t0,q0⟩,⟨t1,q1⟩,⟨t2,q2⟩,⟨t3,q3⟩] us K q (false::path) ((x=false)::cs) k E L):GW (if x=true then A else B) d [⟨t0,if x=true then p0 else q0⟩,⟨t1,if x=true then p1 else q1⟩,⟨t2,if x=true then y2 else q2⟩,⟨t3,if x=true then y3 else q3⟩] us K q path cs k E L:=λh o c=>by
 cases x
 ·exact e h o ⟨c,rfl⟩
 ·exact t h o ⟨c,rfl⟩
end
theorem nI{p:Nat->Prop}(z:p 0)(s:∀n,p n->p (n+1)):∀n,p n
 | 0=>z
 | n+1=>s n (nI z s n)
structure KK where
 f:FuncId
 S:Am.Spec
 h:S0 f S
abbrev exK:Γ KK->A7
 | []=>[]
 | k::r=>(k.f,k.S)::exK r
theorem exO:∀l,q8 aL (exK l)
 | []=>trivial
 | k::r=>⟨k.h,exO r⟩
abbrev Cc:Γ (Bool×Ty)->Type->Type
 | [],X=>X
 | (_,t)::r,X=>t.den->Cc r X
abbrev Ca:AT->Type->Type
 | .fn _ c,X=>Cc c X
 | .own t,X=>Γ t.den->X
 | .v t,X=>t.den->X
 | .p t,X=>t.den->X
 | .po t,X=>t.den->X
abbrev Cu0:Γ AT->Type->Type
 | [],X=>X
 | a::r,X=>Ca a (Cu0 r X)
abbrev ac{X:Type}:∀c,Cc c X->u2 c->X
 | [],f,_=>f
 | (_,_)::r,f,x=>ac r (f x.1) x.2
abbrev aa{X:Type}:∀a,Ca a X->a.den->X
 | .fn _ c,f,x=>ac c f x
 | .own _,f,x=>f x
 | .v _,f,x=>f x
 | .p _,f,x=>f x
 | .po _,f,x=>f x
abbrev ap{X:Type}:∀s,Cu0 s X->eQ s->X
 | [],f,_=>f
 | a::r,f,x=>ap r (aa a f x.1) x.2
abbrev qc{X:Type}(y:X):∀c,Cc c X
 | []=>y
 | (_,_)::r=>λ_=>qc y r
abbrev qa{X:Type}(y:X):∀a,Ca a X
 | .fn _ c=>qc y c
 | .own _=>λ_=>y
 | .v _=>λ_=>y
 | .p _=>λ_=>y
 | .po _=>λ_=>y
abbrev nP:∀ {s},Cu0 s Prop
 | []=>True
 | a::_=>qa nP a
abbrev Gs(s:Γ AT):Γ Ty->Type
 | []=>Unit
 | t::r=>Cu0 s t.den×Gs s r
abbrev rs(s:Γ AT):∀l,Gs s l->eQ s->Γ aS
 | [],_,_=>[]
 | t::r,g,x=>⟨t,ap s g.1 x⟩::rs s r g.2 x
noncomputable abbrev D{n:FuncId}{fn:Func}(hf:aL.funcs[n]? = some fn)(sig:Γ AT)(tys:Γ Ty)(kds:Γ RK)(l:Γ KK)(wr:Bool)(stops:Γ Nat):jB:=⟨n,fn,sig,tys,kds,exK l,wr,stops⟩
noncomputable abbrev D0{n:FuncId}{fn:Func}(hf:aL.funcs[n]? = some fn)(sig:Γ AT)(tys:Γ Ty)(l:Γ KK):jB:=D hf sig tys [] l false []
def DO{n:FuncId}{fn:Func}(hf:aL.funcs[n]? = some fn){sig:Γ AT}{tys:Γ Ty}{kds:Γ RK}{l:Γ KK}{wr:Bool}{stops:Γ Nat}:FO (D hf sig tys kds l wr stops):=mo hf (exO l)
section
variable (d:jB) (o:FO d) (P:Cu0 d.sig Prop) (u:eQ d.sig->Γ (Option jC)) (g:Gs d.sig d.tys)
include o
noncomputable def mM(p:eQ d.sig->Prop)(u:eQ d.sig->Γ (Option jC))(r:eQ d.sig->Γ aS)(h:∀x,p x->I3 d.sig x->∀K q,G aL tab d (r x) (u x) K q [] [] [.code (y7 d.fn)] (Ku 0 0 d.sig x) (TY d.sig x))(hc:(fnB d.fn&&pE d.sig.length d.fn.ntmps)=true:=by kernel_rfl):KK:=⟨d.f,⟨d.sig,p,u,r,d.kds⟩,mkC o h hc⟩
noncomputable def mR(p:eQ d.sig->Prop)(u:eQ d.sig->Γ (Option jC))(r:eQ d.sig->Γ aS)(h:∀x:eQ d.sig×gU×(Nat->Value),GW (p x.1) d (r x.1) (u x.1) x.2.1 x.2.2 [] [] [.code (y7 d.fn)] (Ku 0 0 d.sig x.1) (TY d.sig x.1))(hc:(fnB d.fn&&pE d.sig.length d.fn.ntmps)=true:=by kernel_rfl):KK:=mM d o p u r (λx a _ K q=>h (x,K,q) a) hc
noncomputable def mN(h:∀x,ap d.sig P x->I3 d.sig x->∀K q,G aL tab d (rs d.sig d.tys g x) (u x) K q [] [] [.code (y7 d.fn)] (Ku 0 0 d.sig x) (TY d.sig x))(hc:(fnB d.fn&&pE d.sig.length d.fn.ntmps)=true:=by kernel_rfl):KK:=mM d o (ap d.sig P) u (rs d.sig d.tys g) h hc
noncomputable def mL(h:∀x,ap d.sig P x->I3 d.sig x->∀K q,G aL tab d (rs d.sig d.tys g x) [] K q [] [] [.code (y7 d.fn)] (Ku 0 0 d.sig x) (TY d.sig x))(hc:(fnB d.fn&&pE d.sig.length d.fn.ntmps)=true:=by kernel_rfl):KK:=mN d o P (λ_=>[]) g h hc
noncomputable def mU(h:∀x:eQ d.sig×gU×(Nat->Value),GW (ap d.sig P x.1) d (rs d.sig d.tys g x.1) (u x.1) x.2.1 x.2.2 [] [] [.code (y7 d.fn)] (Ku 0 0 d.sig x.1) (TY d.sig x.1))(hc:(fnB d.fn&&pE d.sig.length d.fn.ntmps)=true:=by kernel_rfl):KK:=mR d o (ap d.sig P) u (rs d.sig d.tys g) h hc
noncomputable def mA(h:∀x:eQ d.sig×gU×(Nat->Value),GW (ap d.sig P x.1) d (rs d.sig d.tys g x.1) [] x.2.1 x.2.2 [] [] [.code (y7 d.fn)] (Ku 0 0 d.sig x.1) (TY d.sig x.1))(hc:(fnB d.fn&&pE d.sig.length d.fn.ntmps)=true:=by kernel_rfl):KK:=mU d o P (λ_=>[]) g h hc
end
section
variable {n:FuncId} {fn:Func} (hf:aL.funcs[n]? = some fn) (s:Γ AT) (t:Γ Ty) (l:Γ KK) (P:Cu0 s Prop) (u:eQ s->Γ (Option jC)) (g:Gs s t)
noncomputable def mV(h:∀x:eQ s×gU×(Nat->Value),GW (ap s P x.1) (D0 hf s t l) (rs s t g x.1) (u x.1) x.2.1 x.2.2 [] [] [.code (y7 fn)] (Ku 0 0 s x.1) (TY s x.1))(hc:(fnB fn&&pE s.length fn.ntmps)=true:=by kernel_rfl):KK:=mU (D0 hf s t l) (DO hf) P u g h hc
noncomputable def mB(h:∀x:eQ s×gU×(Nat->Value),GW (ap s P x.1) (D0 hf s t l) (rs s t g x.1) [] x.2.1 x.2.2 [] [] [.code (y7 fn)] (Ku 0 0 s x.1) (TY s x.1))(hc:(fnB fn&&pE s.length fn.ntmps)=true:=by kernel_rfl):KK:=mV hf s t l P (λ_=>[]) g h hc
end
abbrev St(d:jB)(x:eQ d.sig)(ds:Γ aS)(us:Γ (Option jC))(K:gU)(q:Nat->Value):Prop:=G aL tab d ds us K q [] [] [.code (y7 d.fn)] (Ku 0 0 d.sig x) (TY d.sig x)
abbrev Cu(d:jB)(c:Nat)(z:gK×bM)(ds:Γ aS)(us:Γ (Option jC))(K:gU)(q:Nat->Value):Prop:=G aL tab d ds us K q [] [] (bDH (y7 d.fn) c) z.1 z.2
variable {W:World}
def gv0(h:Eg W):yR W 0 (.int .i64):=h.1
def aXA(W:World)(h:W.ShapedOpen aL):∃m,W.cell? ⟨0,0,none⟩=some (.int .i64 m) :=
 Go.Proofs.cell_of_shapedOpen_int (zero := #[.int .i64 0]) (t:=3) h (of_decide_eq_true (by kernel_rfl)) (by kernel_rfl) rfl (by kernel_rfl) (by kernel_rfl) eZ
def gv3(h:Eg W):yR W 3 (.ifc):=h.2.1
def gv4(h:Eg W):yR W 4 (.ifc):=h.2.2.1
def gv5(h:Eg W):yR W 5 (.tab .u64 BS):=h.2.2.2.1
def aK1(h:Eg W):∃m,W.cell? ⟨0,0,none⟩=some (.int .i64 m):=gv0 h
def aXB{W : World}(h : Eg W) : FI aL W "internal/strconv.uint64pow10" .u64 BS := yR.tab (by kernel_rfl) (gv5 h)
def aIr(h:Eg W):∃ev,W.cell? ⟨3,0,none⟩=some ev/\(ev = .nilIface\/∃te pe,ev = .iface te pe):=yR.ifc_cell (gv3 h)
def aMm(h:Eg W):∃ev,W.cell? ⟨4,0,none⟩=some ev/\(ev = .nilIface\/∃te pe,ev = .iface te pe):=yR.ifc_cell (gv4 h)
def ginv(W:World)(h:W.ShapedOpen aL)(h3:yR W 3 (.ifc))(h4:yR W 4 (.ifc))(h5:yR W 5 (.tab .u64 BS)):Eg W:=⟨aXA W h,h3,h4,h5,trivial⟩
@[reducible] def bV:Type:=Γ (Δ×Int×Int×Int×Unit)×(Int×Int×Int×Int×Unit)×Γ (Int×Int×Int×Unit)×Γ (Int×Int×Int×Unit)×(Int×Int×Int×Unit)×(Int×Int×Int×Unit)×Γ (Δ×Int×Int×Unit)×(Int×Int×Int×Int×Unit)×Γ (Δ×Int×Int×Int×Unit)×Γ (Int×Int×Int×Unit)×Γ (Δ×Int×Int×Unit)×Γ (Δ×Int×Int×Unit)×Unit
@[reducible] def eR:Type:=Δ×Int×Int×Int×Unit
@[reducible] def b6:Type:=Δ×Int×Int×Unit
@[reducible] def c7:Type:=Int×Int×Int×Unit
@[reducible] def iU:Ty := .cons (.sl (.cons .str (.cons (.int .i64) (.cons (.int .i64) (.cons (.int .i64) .unit))))) (.cons (.cons (.int .i64) (.cons (.int .i64) (.cons (.int .i64) (.cons (.int .i64) .unit)))) (.cons (.sl (.cons (.int .i64) (.cons (.int .i64) (.cons (.int .i64) .unit)))) (.cons (.sl (.cons (.int .i64) (.cons (.int .i64) (.cons (.int .i64) .unit)))) (.cons (.cons (.int .i64) (.cons (.int .i64) (.cons (.int .i64) .unit))) (.cons (.cons (.int .i64) (.cons (.int .i64) (.cons (.int .i64) .unit))) (.cons (.sl (.cons .str (.cons (.int .i64) (.cons (.int .i64) .unit)))) (.cons (.cons (.int .i64) (.cons (.int .i64) (.cons (.int .i64) (.cons (.int .i64) .unit)))) (.cons (.sl (.cons .str (.cons (.int .i64) (.cons (.int .i64) (.cons (.int .i64) .unit))))) (.cons (.sl (.cons (.int .i64) (.cons (.int .i64) (.cons (.int .i64) .unit)))) (.cons (.sl (.cons .str (.cons (.int .i64) (.cons (.int .i64) .unit)))) (.cons (.sl (.cons .str (.cons (.int .i64) (.cons (.int .i64) .unit)))) .unit)))))))))))
@[reducible] def YA1:Ty := .cons (.cons (.int .i64) (.cons (.int .i64) (.cons (.int .i64) (.cons (.int .i64) .unit)))) (.cons (.sl (.cons (.int .i64) (.cons (.int .i64) (.cons (.int .i64) .unit)))) (.cons (.sl (.cons (.int .i64) (.cons (.int .i64) (.cons (.int .i64) .unit)))) (.cons (.cons (.int .i64) (.cons (.int .i64) (.cons (.int .i64) .unit))) (.cons (.cons (.int .i64) (.cons (.int .i64) (.cons (.int .i64) .unit))) (.cons (.sl (.cons .str (.cons (.int .i64) (.cons (.int .i64) .unit)))) (.cons (.cons (.int .i64) (.cons (.int .i64) (.cons (.int .i64) (.cons (.int .i64) .unit)))) (.cons (.sl (.cons .str (.cons (.int .i64) (.cons (.int .i64) (.cons (.int .i64) .unit))))) (.cons (.sl (.cons (.int .i64) (.cons (.int .i64) (.cons (.int .i64) .unit)))) (.cons (.sl (.cons .str (.cons (.int .i64) (.cons (.int .i64) .unit)))) (.cons (.sl (.cons .str (.cons (.int .i64) (.cons (.int .i64) .unit)))) .unit))))))))))
@[reducible] def K4:Ty := .cons .str (.cons .str (.cons (.sl (.int .i64)) (.cons (.sl (.int .i64)) .unit)))
@[reducible] def YA3:Ty := .cons (.int .i64) (.cons (.int .i64) (.cons (.int .i64) (.cons (.int .i64) .unit)))
@[reducible] def fQ:Ty := .cons .str (.cons (.int .i64) (.cons (.int .i64) (.cons (.int .i64) .unit)))
@[reducible] def dX:Ty := .cons (.int .i64) (.cons (.int .i64) (.cons (.int .i64) .unit))
@[reducible] def eC:Ty := .cons .str (.cons (.int .i64) (.cons (.int .i64) .unit))
@[reducible] def YA7:Ty := .cons (.int .i64) (.cons (.int .i64) .unit)
@[reducible] def Jy:Ty:=.int .i64
@[reducible] def QW(d:bV)(a b c e f g h i:Nat):Option iJ:=hB_ iU [lO_ a,Pk d.2.1.1,Pk d.2.1.2.1,Pk d.2.1.2.2.1,Pk d.2.1.2.2.2.1,lO_ b,lO_ c,Pk d.2.2.2.2.1.1,Pk d.2.2.2.2.1.2.1,Pk d.2.2.2.2.1.2.2.1,Pk d.2.2.2.2.2.1.1,Pk d.2.2.2.2.2.1.2.1,Pk d.2.2.2.2.2.1.2.2.1,lO_ e,Pk d.2.2.2.2.2.2.2.1.1,Pk d.2.2.2.2.2.2.2.1.2.1,Pk d.2.2.2.2.2.2.2.1.2.2.1,Pk d.2.2.2.2.2.2.2.1.2.2.2.1,lO_ f,lO_ g,lO_ h,lO_ i]
theorem Dm{b:Bool}(h:¬b=true):b=false:=cG.2 h
open Go.RowKit
theorem aVD:∃j,aL.info? 54=some j/\j.size=2:=by
 have h:(aL.info? 54).map (·.size)=some 2:=by kernel_rfl
 obtain⟨j,hj,hjs⟩:=Option.map_eq_some_iff.1 h;exact⟨j,hj,hjs⟩
set_option maxHeartbeats 1000000 in
theorem aOU(b:Nat)(w:World)(h0:w.cell? ⟨b,0,none⟩=some (.pointer (some ⟨b,0,none⟩))) :
  Calls aL 23 #[.pointer (some ⟨b,0,none⟩)] w λe w'=>e = .returned (.tuple #[])/\w'=w:=by
 obtain⟨j,hj,_⟩:=aVD;have mixed:=mixed
 go_enter KA,aCy
 go_wp2
 rw[Lib.run_neq_ptr_same w _ lZ hj]
 go_wp2
 go_end0
 exact⟨rfl,rfl⟩
set_option maxHeartbeats 1000000 in
theorem aMo(b:Nat)(w:World)(h0:w.cell? ⟨b,0,none⟩=some (.pointer none))(hsh:w.shape? b=some (54,2))(hfz:w.frozen? ⟨b,0,none⟩=false) :
  Calls aL 23 #[.pointer (some ⟨b,0,none⟩)] w λe w'=>e = .returned (.tuple #[])/\w'=w.setCell ⟨b,0,none⟩ (.pointer (some ⟨b,0,none⟩)):=by
 obtain⟨j,hj,hjs⟩:=aVD;have mixed:=mixed;have t70:=lZ;have t164:=qW
 go_enter KA,aCy
 go_wp2
 rw[Lib.run_to_unsafe w ⟨b,0,none⟩ lZ qW hj (by rw[hjs];decide) hsh (Nat.zero_lt_succ 1)];simp only[Cb];rw[Hi]
 go_wp2
 rw[run_callFunc_extern TG (by kernel_rfl) (by kernel_rfl) (by kernel_rfl) (e:=Extern.AbiNoEscape.same) (by kernel_rfl)];rw[Lib.run_noEscape];simp only[Cb];rw[Hi]
 go_wp2
 rw[Lib.run_from_unsafe w ⟨b,0,none⟩ qW lZ hj hsh (by kernel_rfl)];simp only[Cb];rw[Hi]
 go_wp2
 go_end0
 exact⟨rfl,rfl⟩
end Go.Proofs.YtgfpjekjhnkbfaaGreatDoor
set_option maxRecDepth 100000
namespace Go.Proofs
open Go.Shelf
def Tryz.lays169_ren:Go.Shelf.Ren:=⟨fun | 169=>13 | n=>n,fun | 70=>51 | 9=>9 | 0=>0 | 72=>54 | 37=>52 | 127=>75 | 3=>3 | 5=>5 | n=>n,fun | n=>n⟩
def Tryz.lays169:Go.Proofs.Lays.n169 aL Tryz.lays169_ren:={
 mixed:=by rfl
 f169:=TH.trans (congrArg some (by rfl))
 t0:=nN
 a0:=wO
 z0:=tN
 v0:=oG
 t3:=eZ
 a3:=oN
 z3:=nB
 v3:=jM
 t9:=fZ
 a9:=oO
 z9:=nC
 v9:=jN
 t37:=oP
 a37:=BV
 z37:=AD
 v37:=tO
 t70:=lZ
 a70:=PM
 z70:=Lb
 v70:=FT
 t72:=D7
 a72:=PN
 z72:=Lc
 v72:=FU
 t127:=xZ
 a127:=Gx
 z127:=E6
 v127:=zY }
def Tryz.Builder_Extra_169:Builder.Extra aL Tryz.lays169_ren:={
 sizeBuilder:=by rfl
 liesBuilder:=by rfl
 t5:=jV
 a5:=qA
 z5:=oQ
 v5:=kO
 infoByte:=by rfl
 cellsByte:=by rfl
 sizeByte:=by rfl
 neB5:=by decide }
def Tryz.lays156_ren:Go.Shelf.Ren:=⟨fun | 156=>255 | 165=>336 | 166=>12 | 169=>13 | 240=>23 | 241=>403 | 276=>80 | 277=>449 | n=>n,fun | 31=>25 | 9=>9 | 3=>3 | 4=>4 | 0=>0 | 20=>20 | 72=>54 | 76=>59 | 70=>51 | 37=>52 | 75=>58 | 127=>75 | 164=>154 | 5=>5 | 80=>61 | n=>n,fun | n=>n⟩
def Tryz.lays156:Go.Proofs.Lays.n156 aL Tryz.lays156_ren:={
 mixed:=by rfl
 f156:=Tryz.func255.trans (congrArg some (by rfl))
 f165:=aC0.trans (congrArg some (by rfl))
 f166:=TJ.trans (congrArg some (by rfl))
 f169:=TH.trans (congrArg some (by rfl))
 f240:=KA.trans (congrArg some (by rfl))
 f241:=aC1.trans (congrArg some (by rfl))
 f276:=TG.trans (congrArg some (by rfl))
 f277:=aC2.trans (congrArg some (by rfl))
 t0:=nN
 a0:=wO
 z0:=tN
 v0:=oG
 t3:=eZ
 a3:=oN
 z3:=nB
 v3:=jM
 t4:=iZ
 a4:=qB
 z4:=oR
 v4:=kP
 t9:=fZ
 a9:=oO
 z9:=nC
 v9:=jN
 t20:=x6
 a20:=Gy
 z20:=E7
 v20:=zZ
 t31:=oS
 a31:=aC3
 z31:=Yw
 v31:=Rt
 t37:=oP
 a37:=BV
 z37:=AD
 v37:=tO
 t70:=lZ
 a70:=PM
 z70:=Lb
 v70:=FT
 t72:=D7
 a72:=PN
 z72:=Lc
 v72:=FU
 t75:=rV
 a75:=PO
 z75:=Ld
 v75:=FV
 t76:=PP
 a76:=aC4
 z76:=Yx
 v76:=Ru
 t127:=xZ
 a127:=Gx
 z127:=E6
 v127:=zY
 t164:=qW
 a164:=Yy
 z164:=YQ
 v164:=PQ }
def Tryz.Builder_Extra_156:Builder.Extra aL Tryz.lays156_ren:={
 sizeBuilder:=by rfl
 liesBuilder:=by rfl
 t5:=jV
 a5:=qA
 z5:=oQ
 v5:=kO
 infoByte:=by rfl
 cellsByte:=by rfl
 sizeByte:=by rfl
 neB5:=by decide }
open Go.RowKit in theorem Tryz.strings_Join_none (a : Option Addr) (c : Nat) (sep : ByteArray) (w : World) :
    Calls aL 255 #[.slice a 0 c, .string sep] w λe w'=>e = .returned (.string ⟨#[]⟩) /\ w' = w:=Any.strings_Join_none Tryz.lays156 Tryz.Builder_Extra_156 a c sep w
open Go.RowKit in theorem Tryz.strings_Join (bk o c : Nat) (xs : List ByteArray) (sep : ByteArray) (w : World) (hcells : ∀ (j : Nat) x, xs[j]? = some x -> w.cell? ⟨bk, o + j, none⟩ = some (.string x)) (hbk : bk < w.heap.size) (hN : xs.length <= 140737488355328) (hcap : xs.length <= c) (hlen : (Lib.join (xs.map (·.data.toList)) sep.data.toList).length <= 140737488355328) :
    Calls aL 255 #[.slice (some ⟨bk, o, none⟩) xs.length c, .string sep] w λe w'=>e = .returned (.string ⟨(tA (xs.map (·.data.toList)) sep.data.toList).toArray⟩) /\ Below w.heap.size w w':=Any.strings_Join Tryz.lays156 Tryz.Builder_Extra_156 bk o c xs sep w hcells hbk hN hcap hlen
def Tryz.lays162_ren:Go.Shelf.Ren:=⟨fun | 162=>388 | 232=>438 | 227=>439 | 234=>440 | 236=>441 | 228=>462 | 271=>463 | 151=>464 | 120=>469 | 197=>235 | 152=>470 | 260=>323 | 137=>472 | 119=>473 | 224=>326 | 225=>325 | 217=>324 | 266=>392 | n=>n,fun | 9=>9 | 4=>4 | 3=>3 | 5=>5 | 117=>403 | 116=>402 | 0=>0 | 124=>406 | 21=>21 | 105=>279 | 46=>325 | 119=>371 | 139=>374 | 138=>373 | n=>n,fun | 3=>1 | 4=>2 | n=>n⟩
def Tryz.lays162:Go.Proofs.Lays.n162 aL Tryz.lays162_ren:={
 mixed:=by rfl
 f119:=Tryz.func473.trans (congrArg some (by rfl))
 f120:=Tryz.func469.trans (congrArg some (by rfl))
 f137:=Tryz.func472.trans (congrArg some (by rfl))
 f151:=Tryz.func464.trans (congrArg some (by rfl))
 f152:=Tryz.func470.trans (congrArg some (by rfl))
 f162:=Tryz.func388.trans (congrArg some (by rfl))
 f197:=aC7.trans (congrArg some (by rfl))
 f217:=PR.trans (congrArg some (by rfl))
 f224:=PS.trans (congrArg some (by rfl))
 f225:=PT.trans (congrArg some (by rfl))
 f227:=Tryz.func439.trans (congrArg some (by rfl))
 f228:=Tryz.func462.trans (congrArg some (by rfl))
 f232:=Tryz.func438.trans (congrArg some (by rfl))
 f234:=Tryz.func440.trans (congrArg some (by rfl))
 f236:=Tryz.func441.trans (congrArg some (by rfl))
 f260:=aC8.trans (congrArg some (by rfl))
 f266:=PU.trans (congrArg some (by rfl))
 f271:=Tryz.func463.trans (congrArg some (by rfl))
 t0:=nN
 a0:=wO
 z0:=tN
 v0:=oG
 t3:=eZ
 a3:=oN
 z3:=nB
 v3:=jM
 t4:=iZ
 a4:=qB
 z4:=oR
 v4:=kP
 t5:=jV
 a5:=qA
 z5:=oQ
 v5:=kO
 t9:=fZ
 a9:=oO
 z9:=nC
 v9:=jN
 t21:=Da
 a21:=PW
 z21:=Le
 v21:=FW
 t46:=n9
 a46:=uY
 z46:=tC
 v46:=oT
 t105:=N5
 a105:=Yz
 z105:=YR
 v105:=PX
 t116:=Tryz.underlying402
 a116:=Tryz.isAgg402
 z116:=Tryz.sizeOf402
 t117:=Tryz.underlying403
 a117:=Tryz.isAgg403
 z117:=Tryz.sizeOf403
 v117:=Tryz.zeroValue403
 t119:=N6
 a119:=ZA
 z119:=YS
 t124:=Tryz.underlying406
 a124:=Tryz.isAgg406
 z124:=Tryz.sizeOf406
 v124:=Tryz.zeroValue406
 t138:=N7
 a138:=ZB
 z138:=YT
 v138:=PY
 t139:=N8
 a139:=ZC
 z139:=YU
 v139:=PZ
 g3:=by kernel_rfl
 g4:=by kernel_rfl }
open Go.RowKit in theorem Tryz.strings_TrimRight_one (s : ByteArray) (c : UInt8) (hc : c.toNat < 128) (w : World) (hs : s.size <= 9223372036854775807) :
    Calls aL 388 #[.string s, .string ⟨#[c]⟩] w λe w'=>e = .returned (.string ⟨(Lib.trimRightB s.data.toList c).toArray⟩) /\ w' = w:=Any.strings_TrimRight_one Tryz.lays162 s c hc w hs
open Go.RowKit in theorem Tryz.Builder_String_any_k (B b : Nat) (l : List UInt8) (w : World) (h : Lib.IsBuilderF 54 5 B b (Lib.byteCells l) w) (hBw : B <= w.heap.size) :
    Calls aL 13 #[.pointer (some ⟨b, 0, none⟩)] w λe w'=>e = .returned (.string ⟨l.toArray⟩) /\ (Lib.IsBuilderF 54 5 B b (Lib.byteCells l) w' /\ Below B w w' /\ Lib.OthersKept 5 (some b) w w'):=Any.Builder_String_any_k Tryz.lays169 Tryz.Builder_Extra_169 B b l w h hBw
def Tryz.laysM173_ren:Go.Shelf.Ren:=⟨fun | 173=>251 | 246=>334 | 283=>399 | 284=>400 | 285=>401 | 286=>402 | 129=>445 | 317=>444 | 318=>446 | 319=>447 | 320=>448 | 337=>467 | 338=>468 | n=>n,fun | 2=>2 | 3=>3 | 9=>9 | 4=>4 | 171=>383 | 0=>0 | 53=>328 | 37=>52 | 5=>5 | 173=>386 | 212=>411 | 51=>375 | 20=>20 | 213=>412 | 46=>325 | 232=>432 | 233=>433 | n=>n,fun | 17=>5 | 18=>6 | 19=>7 | n=>n⟩
def Tryz.laysM173:Go.Proofs.LaysM.n173 aL Tryz.laysM173_ren:={
 mixed:=by rfl
 f129:=aC9.trans (congrArg some (by rfl))
 f173:=Tryz.func251.trans (congrArg some (by rfl))
 f246:=aCB.trans (congrArg some (by rfl))
 f283:=aCC.trans (congrArg some (by rfl))
 f284:=aCD.trans (congrArg some (by rfl))
 f285:=aCE.trans (congrArg some (by rfl))
 f286:=aCF.trans (congrArg some (by rfl))
 f317:=aCG.trans (congrArg some (by rfl))
 f318:=aCH.trans (congrArg some (by rfl))
 f319:=aCI.trans (congrArg some (by rfl))
 f320:=aCJ.trans (congrArg some (by rfl))
 f337:=aCK.trans (congrArg some (by rfl))
 f338:=aCL.trans (congrArg some (by rfl))
 t0:=nN
 a0:=wO
 z0:=tN
 v0:=oG
 t2:=Rv
 a2:=aGX
 z2:=aCM
 v2:=Tc
 t3:=eZ
 a3:=oN
 z3:=nB
 v3:=jM
 t4:=iZ
 a4:=qB
 z4:=oR
 v4:=kP
 t5:=jV
 a5:=qA
 z5:=oQ
 v5:=kO
 t9:=fZ
 a9:=oO
 z9:=nC
 v9:=jN
 t20:=x6
 a20:=Gy
 z20:=E7
 v20:=zZ
 t37:=oP
 a37:=BV
 z37:=AD
 v37:=tO
 t46:=n9
 a46:=uY
 z46:=tC
 v46:=oT
 t51:=qX
 a51:=AE
 z51:=x8
 v51:=rW
 t53:=vY
 a53:=Lg
 z53:=KB
 v53:=Db
 t171:=N9
 a171:=ZD
 z171:=YV
 v171:=P0
 t173:=Na
 a173:=ZE
 z173:=YW
 v173:=P2
 t212:=Cg
 a212:=ZF
 z212:=YX
 v212:=P7
 t213:=Nb
 a213:=ZG
 z213:=YY
 t232:=Nc
 a232:=ZH
 z232:=YZ
 v232:=Pa
 t233:=Nd
 a233:=ZI
 z233:=Y0
 v233:=Pb
 g17:=by kernel_rfl
 g18:=by kernel_rfl
 g19:=by kernel_rfl
 i0:=by rfl
 i2:=by rfl
 i3:=by rfl
 i4:=by rfl
 i5:=by rfl
 i9:=by rfl
 i20:=by rfl
 i37:=by rfl
 i46:=by rfl
 i51:=by rfl
 i53:=by rfl
 i171:=by rfl
 i173:=by rfl
 i212:=by rfl
 i232:=by rfl
 i233:=by rfl
 m17:=by rfl
 m18:=by rfl
 m19:=by rfl }
open Go.RowKit Go.Sort Go.Lib in theorem Tryz.strconv_FormatInt_10 (n : Int) (h0 : -9223372036854775808 <= n) (h1 : n <= 9223372036854775807) (w : World) (htab : Lib.TabIs Tryz.prog w "internal/strconv.uint64pow10" .u64 Lib.pow10Tab) :
    Calls aL 251 #[.int .i64 n, .int .i64 10] w λe w'=>e = .returned (.string ⟨(Cd n).toArray⟩) /\ ∃k os, w' = grow (w.drewN k) os:=Any.strconv_FormatInt_10 Tryz.laysM173 n h0 h1 w htab
def Tryz.laysC174_ren:Go.Shelf.Ren:=⟨fun | 174=>155 | 247=>249 | 245=>250 | 287=>329 | 279=>330 | 280=>331 | 281=>332 | 282=>333 | 321=>394 | 322=>395 | 316=>396 | 171=>398 | 205=>397 | 243=>443 | 246=>334 | 283=>399 | 284=>400 | 285=>401 | 286=>402 | 129=>445 | 317=>444 | 318=>446 | 319=>447 | 320=>448 | 337=>467 | 338=>468 | n=>n,fun | 9=>9 | 3=>3 | 2=>2 | 75=>58 | 85=>230 | 4=>4 | 167=>327 | 5=>5 | 53=>328 | 175=>329 | 46=>325 | 168=>331 | 37=>52 | 0=>0 | 210=>380 | 21=>21 | 127=>75 | 145=>409 | 143=>407 | 171=>383 | 173=>386 | 212=>411 | 51=>375 | 20=>20 | 213=>412 | 232=>432 | 233=>433 | 80=>61 | n=>n,fun | 15=>3 | 16=>4 | 17=>5 | 18=>6 | 19=>7 | n=>n⟩
def Tryz.laysC174:Go.Proofs.LaysC.n174 aL Tryz.laysC174_ren:={
 mixed:=by rfl
 f129:=aC9.trans (congrArg some (by rfl))
 f171:=Tryz.func398.trans (congrArg some (by rfl))
 f174:=Tryz.func155.trans (congrArg some (by rfl))
 f205:=Tryz.func397.trans (congrArg some (by rfl))
 f243:=Tryz.func443.trans (congrArg some (by rfl))
 f245:=Tryz.func250.trans (congrArg some (by rfl))
 f246:=aCB.trans (congrArg some (by rfl))
 f247:=Tryz.func249.trans (congrArg some (by rfl))
 f279:=Tryz.func330.trans (congrArg some (by rfl))
 f280:=Tryz.func331.trans (congrArg some (by rfl))
 f281:=Tryz.func332.trans (congrArg some (by rfl))
 f282:=Tryz.func333.trans (congrArg some (by rfl))
 f283:=aCC.trans (congrArg some (by rfl))
 f284:=aCD.trans (congrArg some (by rfl))
 f285:=aCE.trans (congrArg some (by rfl))
 f286:=aCF.trans (congrArg some (by rfl))
 f287:=Tryz.func329.trans (congrArg some (by rfl))
 f316:=Tryz.func396.trans (congrArg some (by rfl))
 f317:=aCG.trans (congrArg some (by rfl))
 f318:=aCH.trans (congrArg some (by rfl))
 f319:=aCI.trans (congrArg some (by rfl))
 f320:=aCJ.trans (congrArg some (by rfl))
 f321:=Tryz.func394.trans (congrArg some (by rfl))
 f322:=Tryz.func395.trans (congrArg some (by rfl))
 f337:=aCK.trans (congrArg some (by rfl))
 f338:=aCL.trans (congrArg some (by rfl))
 t0:=nN
 a0:=wO
 z0:=tN
 v0:=oG
 t2:=Rv
 a2:=aGX
 z2:=aCM
 v2:=Tc
 t3:=eZ
 a3:=oN
 z3:=nB
 v3:=jM
 t4:=iZ
 a4:=qB
 z4:=oR
 v4:=kP
 t5:=jV
 a5:=qA
 z5:=oQ
 v5:=kO
 t9:=fZ
 a9:=oO
 z9:=nC
 v9:=jN
 t20:=x6
 a20:=Gy
 z20:=E7
 v20:=zZ
 t21:=Da
 a21:=PW
 z21:=Le
 v21:=FW
 t37:=oP
 a37:=BV
 z37:=AD
 v37:=tO
 t46:=n9
 a46:=uY
 z46:=tC
 v46:=oT
 t51:=qX
 a51:=AE
 z51:=x8
 v51:=rW
 t53:=vY
 a53:=Lg
 z53:=KB
 v53:=Db
 t75:=rV
 a75:=PO
 z75:=Ld
 v75:=FV
 t85:=Tryz.underlying230
 a85:=Tryz.isAgg230
 z85:=Tryz.sizeOf230
 v85:=Tryz.zeroValue230
 t127:=xZ
 a127:=Gx
 z127:=E6
 v127:=zY
 t143:=Tryz.underlying407
 a143:=Tryz.isAgg407
 z143:=Tryz.sizeOf407
 v143:=Tryz.zeroValue407
 t145:=Tryz.underlying409
 a145:=Tryz.isAgg409
 z145:=Tryz.sizeOf409
 v145:=Tryz.zeroValue409
 t167:=Tryz.underlying327
 a167:=Tryz.isAgg327
 z167:=Tryz.sizeOf327
 v167:=Tryz.zeroValue327
 t168:=Tryz.underlying331
 a168:=Tryz.isAgg331
 z168:=Tryz.sizeOf331
 v168:=Tryz.zeroValue331
 t171:=N9
 a171:=ZD
 z171:=YV
 v171:=P0
 t173:=Na
 a173:=ZE
 z173:=YW
 v173:=P2
 t175:=Tryz.underlying329
 a175:=Tryz.isAgg329
 z175:=Tryz.sizeOf329
 v175:=Tryz.zeroValue329
 t210:=Tryz.underlying380
 a210:=Tryz.isAgg380
 z210:=Tryz.sizeOf380
 v210:=Tryz.zeroValue380
 t212:=Cg
 a212:=ZF
 z212:=YX
 v212:=P7
 t213:=Nb
 a213:=ZG
 z213:=YY
 t232:=Nc
 a232:=ZH
 z232:=YZ
 v232:=Pa
 t233:=Nd
 a233:=ZI
 z233:=Y0
 v233:=Pb
 g15:=by kernel_rfl
 g16:=by kernel_rfl
 g17:=by kernel_rfl
 g18:=by kernel_rfl
 g19:=by kernel_rfl
 t80:=Tryz.underlying61
 a80:=Tryz.isAgg61
 z80:=Tryz.sizeOf61
 v80:=Tryz.zeroValue61
 i0:=by rfl
 i2:=by rfl
 i3:=by rfl
 i4:=by rfl
 i5:=by rfl
 i9:=by rfl
 i20:=by rfl
 i21:=by rfl
 i37:=by rfl
 i46:=by rfl
 i51:=by rfl
 i53:=by rfl
 i75:=by rfl
 i80:=by rfl
 i85:=by rfl
 i127:=by rfl
 i143:=by rfl
 i145:=by rfl
 i167:=by rfl
 i168:=by rfl
 i171:=by rfl
 i173:=by rfl
 i175:=by rfl
 i210:=by rfl
 i212:=by rfl
 i232:=by rfl
 i233:=by rfl
 m15:=by rfl
 m16:=by rfl
 m17:=by rfl
 m18:=by rfl
 m19:=by rfl
 c0:=by rfl
 c2:=by rfl
 c3:=by rfl
 c4:=by rfl
 c5:=by rfl
 c9:=by rfl
 c20:=by rfl
 c21:=by rfl
 c37:=by rfl
 c46:=by rfl
 c51:=by rfl
 c53:=by rfl
 c75:=by rfl
 c80:=by rfl
 c85:=by rfl
 c127:=by rfl
 c143:=by rfl
 c145:=by rfl
 c167:=by rfl
 c168:=by rfl
 c171:=by rfl
 c173:=by rfl
 c175:=by rfl
 c210:=by rfl
 c212:=by rfl
 c213:=by rfl
 c232:=by rfl
 c233:=by rfl }
open Go.RowKit in theorem Tryz.strconv_ParseInt_10_at64_ok (s : ByteArray) (hmax : s.size <= 9223372036854775806) (v : Int) (h : Lib.parseIntB 64 s.data.toList = .ok v) (w : World) :
    Calls aL 155 #[.string s, .int .i64 10, .int .i64 64] w λe w'=>e = .returned (.tuple #[.int .i64 v, .nilIface]) /\ (w' = w \/ ∃t, w' = Lib.bytesWorld w 5 t):=Any.strconv_ParseInt_10_at64_ok Tryz.laysC174 s hmax v h w
open Go.RowKit in theorem Tryz.strconv_ParseInt_10_at64_syntax (s : ByteArray) (hlim : s.size <= 281474976710656) (h : Lib.parseIntB 64 s.data.toList = .syntax) (ev : Value) (w : World) (hv : w.cell? ⟨3, 0, none⟩ = some ev) (hev : ev = .nilIface \/ ∃ te pe, ev = .iface te pe) :
    Calls aL 155 #[.string s, .int .i64 10, .int .i64 64] w λe w' => ∃N, e = .returned (.tuple #[.int .i64 (0), .iface 331 (.pointer (some ⟨N, 0, none⟩))]) /\ w.heap.size<=N /\ w'.heap[N]? = some (.cells #[.string ⟨#[80, 97, 114, 115, 101, 73, 110, 116]⟩, .string s, ev] 380 (0, 0)) /\ Below w.heap.size w w':=Any.strconv_ParseInt_10_at64_syntax Tryz.laysC174 s hlim h ev w hv hev
open Go.RowKit in theorem Tryz.strconv_ParseInt_10_at64_range (s : ByteArray) (hlim : s.size <= 281474976710656) (h : Lib.parseIntB 64 s.data.toList = .range) (ev : Value) (w : World) (hv : w.cell? ⟨4, 0, none⟩ = some ev) (hev : ev = .nilIface \/ ∃ te pe, ev = .iface te pe) :
    Calls aL 155 #[.string s, .int .i64 10, .int .i64 64] w λe w' => ∃N, e = .returned (.tuple #[.int .i64 (Lib.intSat 64 s.data.toList), .iface 331 (.pointer (some ⟨N, 0, none⟩))]) /\ w.heap.size<=N /\ w'.heap[N]? = some (.cells #[.string ⟨#[80, 97, 114, 115, 101, 73, 110, 116]⟩, .string s, ev] 380 (0, 0)) /\ Below w.heap.size w w':=Any.strconv_ParseInt_10_at64_range Tryz.laysC174 s hlim h ev w hv hev
def Tryz.lays145_ren:Go.Shelf.Ren:=⟨fun | 145=>65 | 220=>153 | 219=>237 | 217=>324 | 225=>325 | 224=>326 | 267=>327 | 266=>392 | 314=>393 | n=>n,fun | 9=>9 | 4=>4 | 59=>131 | 3=>3 | 5=>5 | 46=>325 | 146=>376 | 51=>375 | n=>n,fun | 1=>0 | n=>n⟩
def Tryz.lays145:Go.Proofs.Lays.n145 aL Tryz.lays145_ren:={
 mixed:=by rfl
 f145:=Tryz.func65.trans (congrArg some (by rfl))
 f217:=PR.trans (congrArg some (by rfl))
 f219:=aCN.trans (congrArg some (by rfl))
 f220:=Tryz.func153.trans (congrArg some (by rfl))
 f224:=PS.trans (congrArg some (by rfl))
 f225:=PT.trans (congrArg some (by rfl))
 f266:=PU.trans (congrArg some (by rfl))
 f267:=aCO.trans (congrArg some (by rfl))
 f314:=aCP.trans (congrArg some (by rfl))
 t3:=eZ
 a3:=oN
 z3:=nB
 v3:=jM
 t4:=iZ
 a4:=qB
 z4:=oR
 v4:=kP
 t5:=jV
 a5:=qA
 z5:=oQ
 v5:=kO
 t9:=fZ
 a9:=oO
 z9:=nC
 v9:=jN
 t46:=n9
 a46:=uY
 z46:=tC
 v46:=oT
 t51:=qX
 a51:=AE
 z51:=x8
 v51:=rW
 t59:=Tryz.underlying131
 a59:=Tryz.isAgg131
 z59:=Tryz.sizeOf131
 v59:=Tryz.zeroValue131
 t146:=Cj
 a146:=Li
 z146:=KC
 v146:=Dc
 g1:=by kernel_rfl }
open Go.RowKit Go.Lib in theorem Tryz.strings_Cut (s sep : ByteArray) (m : Int) (w : World) (hs : s.size < 4294967281) (hm : w.cell? ⟨0, 0, none⟩ = some (.int .i64 m)) :
    Calls aL 65 #[.string s, .string sep] w λe w'=>e = .returned (.tuple #[.string ⟨(lF s.data.toList sep.data.toList).1.toArray⟩, .string ⟨(lF s.data.toList sep.data.toList).2.1.toArray⟩, .bool (lF s.data.toList sep.data.toList).2.2]) /\ ∃n, w' = w.drewN n:=Any.strings_Cut Tryz.lays145 s sep m w hs hm
def Tryz.lays99_ren:Go.Shelf.Ren:=⟨fun | 99=>431 | 206=>328 | n=>n,fun | 9=>9 | 4=>4 | 3=>3 | n=>n,fun | n=>n⟩
def Tryz.lays99:Go.Proofs.Lays.n99 aL Tryz.lays99_ren:={
 mixed:=by rfl
 f99:=aCQ.trans (congrArg some (by rfl))
 f206:=Pc.trans (congrArg some (by rfl))
 t3:=eZ
 a3:=oN
 z3:=nB
 v3:=jM
 t4:=iZ
 a4:=qB
 z4:=oR
 v4:=kP
 t9:=fZ
 a9:=oO
 z9:=nC
 v9:=jN }
open Go.RowKit Go.Lib in theorem Tryz.strings_HasPrefix (s p : ByteArray) (w : World) :
    Calls aL 431 #[.string s, .string p] w λe w'=>e = .returned (.bool (Lib.hasPrefix s.data.toList p.data.toList)) /\ w' = w:=Any.strings_HasPrefix Tryz.lays99 s p w
def Tryz.lays101_ren:Go.Shelf.Ren:=⟨fun | 101=>154 | 208=>248 | 206=>328 | n=>n,fun | 9=>9 | 4=>4 | 3=>3 | n=>n,fun | n=>n⟩
def Tryz.lays101:Go.Proofs.Lays.n101 aL Tryz.lays101_ren:={
 mixed:=by rfl
 f101:=Tryz.func154.trans (congrArg some (by rfl))
 f206:=Pc.trans (congrArg some (by rfl))
 f208:=Tryz.func248.trans (congrArg some (by rfl))
 t3:=eZ
 a3:=oN
 z3:=nB
 v3:=jM
 t4:=iZ
 a4:=qB
 z4:=oR
 v4:=kP
 t9:=fZ
 a9:=oO
 z9:=nC
 v9:=jN }
open Go.RowKit Go.Lib in theorem Tryz.strings_TrimPrefix (s p : ByteArray) (w : World) :
    Calls aL 154 #[.string s, .string p] w λe w'=>e = .returned (.string ⟨(Lib.trimPrefix s.data.toList p.data.toList).toArray⟩) /\ w' = w:=Any.strings_TrimPrefix Tryz.lays101 s p w
def Tryz.lays146_ren:Go.Shelf.Ren:=⟨fun | 146=>17 | 221=>49 | 268=>134 | 138=>135 | 143=>136 | 195=>234 | 197=>235 | 218=>236 | 219=>237 | 260=>323 | 217=>324 | 225=>325 | 224=>326 | 267=>327 | 266=>392 | 314=>393 | n=>n,fun | 9=>9 | 31=>25 | 3=>3 | 4=>4 | 0=>0 | 105=>279 | 21=>21 | 5=>5 | 46=>325 | 119=>371 | 139=>374 | 138=>373 | 146=>376 | 51=>375 | n=>n,fun | 1=>0 | 3=>1 | 4=>2 | n=>n⟩
def Tryz.lays146:Go.Proofs.Lays.n146 aL Tryz.lays146_ren:={
 mixed:=by rfl
 f138:=Tryz.func135.trans (congrArg some (by rfl))
 f143:=Tryz.func136.trans (congrArg some (by rfl))
 f146:=Tryz.func17.trans (congrArg some (by rfl))
 f195:=Tryz.func234.trans (congrArg some (by rfl))
 f197:=aC7.trans (congrArg some (by rfl))
 f217:=PR.trans (congrArg some (by rfl))
 f218:=Tryz.func236.trans (congrArg some (by rfl))
 f219:=aCN.trans (congrArg some (by rfl))
 f221:=Tryz.func49.trans (congrArg some (by rfl))
 f224:=PS.trans (congrArg some (by rfl))
 f225:=PT.trans (congrArg some (by rfl))
 f260:=aC8.trans (congrArg some (by rfl))
 f266:=PU.trans (congrArg some (by rfl))
 f267:=aCO.trans (congrArg some (by rfl))
 f268:=Tryz.func134.trans (congrArg some (by rfl))
 f314:=aCP.trans (congrArg some (by rfl))
 t0:=nN
 a0:=wO
 z0:=tN
 v0:=oG
 t3:=eZ
 a3:=oN
 z3:=nB
 v3:=jM
 t4:=iZ
 a4:=qB
 z4:=oR
 v4:=kP
 t5:=jV
 a5:=qA
 z5:=oQ
 v5:=kO
 t9:=fZ
 a9:=oO
 z9:=nC
 v9:=jN
 t21:=Da
 a21:=PW
 z21:=Le
 v21:=FW
 t31:=oS
 a31:=aC3
 z31:=Yw
 v31:=Rt
 t46:=n9
 a46:=uY
 z46:=tC
 v46:=oT
 t51:=qX
 a51:=AE
 z51:=x8
 v51:=rW
 t105:=N5
 a105:=Yz
 z105:=YR
 v105:=PX
 t119:=N6
 a119:=ZA
 z119:=YS
 t138:=N7
 a138:=ZB
 z138:=YT
 v138:=PY
 t139:=N8
 a139:=ZC
 z139:=YU
 v139:=PZ
 t146:=Cj
 a146:=Li
 z146:=KC
 v146:=Dc
 g1:=by kernel_rfl
 g3:=by kernel_rfl
 g4:=by kernel_rfl }
open Go.RowKit Go.Lib in theorem Tryz.strings_Split (s sep : ByteArray) (m : Int) (w : World) (hs : s.size < 4294967281) (hm : w.cell? ⟨0, 0, none⟩ = some (.int .i64 m)) (h1 : 1 <= sep.size) :
    Calls aL 17 #[.string s, .string sep] w λe w' =>
      e = .returned (.slice (some ⟨w.heap.size, 0, none⟩) (hY s sep+1) (hY s sep+1)) /\ w' = w.alloc (.cells ((Cf sep 0 (hY s sep) s).map hJ).toArray 9):=Any.strings_Split Tryz.lays146 (by kernel_rfl) s sep m w hs hm h1
def Tryz.lays105_ren:Go.Shelf.Ren:=⟨fun | 105=>384 | 212=>430 | 99=>431 | 165=>336 | 166=>12 | 170=>432 | 169=>13 | 263=>458 | 264=>459 | 206=>328 | 240=>23 | 241=>403 | 276=>80 | 277=>449 | n=>n,fun | 9=>9 | 3=>3 | 4=>4 | 20=>20 | 0=>0 | 46=>325 | 109=>394 | 5=>5 | 72=>54 | 76=>59 | 51=>375 | 146=>376 | 53=>328 | 148=>425 | 70=>51 | 37=>52 | 75=>58 | 127=>75 | 164=>154 | 80=>61 | n=>n,fun | n=>n⟩
def Tryz.lays105:Go.Proofs.Lays.n105 aL Tryz.lays105_ren:={
 mixed:=by rfl
 f99:=aCQ.trans (congrArg some (by rfl))
 f105:=Tryz.func384.trans (congrArg some (by rfl))
 f165:=aC0.trans (congrArg some (by rfl))
 f166:=TJ.trans (congrArg some (by rfl))
 f169:=TH.trans (congrArg some (by rfl))
 f170:=Tryz.func432.trans (congrArg some (by rfl))
 f206:=Pc.trans (congrArg some (by rfl))
 f212:=Tryz.func430.trans (congrArg some (by rfl))
 f240:=KA.trans (congrArg some (by rfl))
 f241:=aC1.trans (congrArg some (by rfl))
 f263:=Tryz.func458.trans (congrArg some (by rfl))
 f264:=Tryz.func459.trans (congrArg some (by rfl))
 f276:=TG.trans (congrArg some (by rfl))
 f277:=aC2.trans (congrArg some (by rfl))
 t0:=nN
 a0:=wO
 z0:=tN
 v0:=oG
 t3:=eZ
 a3:=oN
 z3:=nB
 v3:=jM
 t4:=iZ
 a4:=qB
 z4:=oR
 v4:=kP
 t5:=jV
 a5:=qA
 z5:=oQ
 v5:=kO
 t9:=fZ
 a9:=oO
 z9:=nC
 v9:=jN
 t20:=x6
 a20:=Gy
 z20:=E7
 v20:=zZ
 t37:=oP
 a37:=BV
 z37:=AD
 v37:=tO
 t46:=n9
 a46:=uY
 z46:=tC
 v46:=oT
 t51:=qX
 a51:=AE
 z51:=x8
 v51:=rW
 t53:=vY
 a53:=Lg
 z53:=KB
 v53:=Db
 t70:=lZ
 a70:=PM
 z70:=Lb
 v70:=FT
 t72:=D7
 a72:=PN
 z72:=Lc
 v72:=FU
 t75:=rV
 a75:=PO
 z75:=Ld
 v75:=FV
 t76:=PP
 a76:=aC4
 z76:=Yx
 v76:=Ru
 t109:=Tryz.underlying394
 a109:=Tryz.isAgg394
 z109:=Tryz.sizeOf394
 v109:=Tryz.zeroValue394
 t127:=xZ
 a127:=Gx
 z127:=E6
 v127:=zY
 t146:=Cj
 a146:=Li
 z146:=KC
 v146:=Dc
 t148:=Tryz.underlying425
 a148:=Tryz.isAgg425
 z148:=Tryz.sizeOf425
 v148:=Tryz.zeroValue425
 t164:=qW
 a164:=Yy
 z164:=YQ
 v164:=PQ }
def Tryz.Builder_Extra_105:Builder.Extra aL Tryz.lays105_ren:={
 sizeBuilder:=by rfl
 liesBuilder:=by rfl
 t5:=jV
 a5:=qA
 z5:=oQ
 v5:=kO
 infoByte:=by rfl
 cellsByte:=by rfl
 sizeByte:=by rfl
 neB5:=by decide }
open Go.RowKit Go.Lib in theorem Tryz.strings_Repeat (s : ByteArray) (c : Nat) (w : World) (hc : c <= 9223372036854775807) (hlen : s.size * c <= 140737488355328) :
    Calls aL 384 #[.string s, .int .i64 c] w λe w'=>e = .returned (.string ⟨(wN s.data.toList c).toArray⟩) /\ Below w.heap.size w w':=Any.strings_Repeat Tryz.lays105 Tryz.Builder_Extra_105 s c w hc hlen
end Go.Proofs
