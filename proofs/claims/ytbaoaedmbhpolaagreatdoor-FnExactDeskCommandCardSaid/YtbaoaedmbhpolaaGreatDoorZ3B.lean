/- The functions that this law reaches, and their laws. -/
import Derived.Test.YtbaoaedmbhpolaaGreatDoorZ3A
import Derived.Laws.IdiomCopy
import Derived.KernelRfl
import Derived.Test.YtbaoaedmbhpolaaGreatDoorRows
import Derived.Shelf.Vars
set_option linter.unusedVariables false
set_option linter.unusedSimpArgs false
set_option linter.defProp false
open Array renaming getD_eq_getD_getElem?->iD,getElem?_eq_getElem->uV,getElem?_eq_none->kD,getElem?_eq_some_iff->kH,getElem?_modify->n7,getElem?_toList->eK,replicate->jI,setIfInBounds_comm->vI,size_append->sK
open Bool renaming and_eq_true->aT,eq_false_iff->bV,false_eq_true->gE,or_eq_true->BQ
open ByteArray renaming data->bO,empty->aC,size_extract->mW,toList->aB
open Classical renaming byContradiction->kR
open Go.Act renaming put_comm->HO,put_defers->Y0
open Go.Addr renaming add_lit->fX
open Go.Am.AT renaming own->rE,v->nV
open Go.Am.gZ renaming append->dP
open Go.Am.aS renaming mk->aI
open Go.Am.gH renaming get->pI
open Go.Am.dD renaming of_below->iR,refl->dI
open Go.Am.Ty renaming agg->hZ,cons->lQ,flat->Pm,size->uM,unit->LL
open Go.Builtin renaming copy_->jX,firstCells->eQ,lenOf->rU,zeroCells->gS
open Go.DataW renaming Trod->aDr,TrodAll->Eh,trod->HS
open Go.Ending renaming returned->Ho
open Go.Instr renaming loadAt->Bf,sureAddr->tX
open Go.Lib renaming countB->gX,cut->lC,index->F6,itoa->Cq,join->uC,join_cons->pD,splitB->Cs,splitK->Nz
open Go.Op renaming bytesLess->bL
open Go.Oper renaming apart_spec->Tq,asks->aHA,quietAt->oK,quietUpon->uA,upon->LK,wp->Bh,wp_of_quiet->S5
open Go.Region renaming binds->fQ,free->Ar,free_spec->S6,noSelect->BR,noSelect_spec->At,ready->gJ,wanted->fJ
open Go.Result renaming andThen_ok->cJ
open Go.Sem renaming run_bind->dV,run_pure->fP
open Go.Value renaming cells->xD,int->LI,okWide->oL
open Go.World renaming cell?->iK,freeze->Pp,setCell->Ef,setCells->Y5,shape?->Bg
open Int renaming le_refl->dX,toNat->aE,toNat_natCast->aK
open List renaming append_assoc->cK,append_nil->dN,cons_append->AV,drop_drop->pY,drop_eq_nil_iff->Au,drop_length->F7,flatten_cons->gR,flatten_nil->F2,foldl_cons->iQ,getD->aD,getD_eq_getElem?_getD->bW,getElem?_append_left->c6,getElem?_append_right->cY,getElem?_eq_some_iff->eH,getElem?_map->sJ,getElem?_of_mem->iL,isPrefixOf->Hn,length_append->bS,length_cons->cH,length_drop->p7,length_nil->Hq,length_singleton->jE,length_take->fL,mapM_cons->Y4,map_cons->dY,mem_append->dC,mem_cons->bA,mem_cons_of_mem->aM,mem_cons_self->aR,mem_flatten->kU,mem_map->cW,mem_of_mem_drop->iO,mem_of_mem_take->iN,mem_singleton->dG,nil_append->fV,nodup_cons->jH,nodup_nil->kE,replicate->aP,set->eU,set_append_right->Hy,take_append_drop->fD,take_length->nG
open List.cons renaming inj->Lk,injEq->oD
open Nat renaming add_mul->fZ,add_sub_cancel_left->lP,beq->cE,ble->pJ,blt->kv,eq_of_beq_eq_true->aZ,eq_of_testBit_eq->KT,land->KS,le_of_ble_eq_true->nZ,le_refl->aU,lt_or_ge->mS,min->HV,min_eq_left->Hp,one_mul->Dd,one_ne_zero->Tp,shiftLeft->Eg,shiftRight->uB,sub_self->yL,succ_mul->yN,testBit_or->Y1,testBit_shiftRight->HQ,zero_add->cO
open Ne renaming symm->kQ
open Prod renaming fst->eE,snd->tZ
open UInt8 renaming toNat_inj->jJ
namespace Go.Am
def qQ:(t:Ty)->t.den->Γ Value
 | .int k,n=>[.int k n]
 | .bool,b=>[.bool b]
 | .fn,f=>[fnV f]
 | .str,s=>[.string s]
 | .sl _,_=>[]
 | .unit,_=>[]
 | .cons a b,x=>qQ a x.1++qQ b x.2
theorem Fs{w:World}:∀ {t:Ty} {x:t.den} {cs:Γ Value} {bs:Γ Nat},t.flat=true->iH w t x cs bs->cs=qQ t x
 | .int _,_,_,_,_,h=>h.1
 | .bool,_,_,_,_,h=>h.1
 | .fn,_,_,_,_,h=>h.1
 | .str,_,_,_,_,h=>h.1
 | .unit,_,_,_,_,h=>h.1
 | .cons _ _,_,_,_,hf,⟨c1,c2,b1,b2,h,_,h1,h2⟩=>by
  simp[Pm]at hf;rw[h,Fs hf.1 h1,Fs hf.2 h2];rfl
def aD7:Γ aS->Option (Γ (c7×Value))
 | []=>some []
 | d::r=>match d.t.flat,aD7 r with
  | true,some s=>some ((jY d.t d.x,gY d.t (qQ d.t d.x))::s)
  | _,_=>none
def Zy(ext:Aw)(L:bM)(f:FuncId)(ps:Γ PV):Option (Γ Prop×PV) :=
 match ext with
 | []=>none
 | (g,S)::r=>match cE f g with
  | true=>match xP L S.sig ps with
   | some (x,os,us)=>match os.flatten,fe S.kds,aD7 (S.res x)with
    | [],true,some vs=>some ([S.pre x],ug (vs.map eE))
    | _,_,_=>Zy r L f ps
   | none=>Zy r L f ps
  | false=>Zy r L f ps
def Ob(E:gH)(f:Operand)(args:Γ Operand):Option (FuncId×Γ PV) :=
 match opnd E f with
 | .fn g caps=>some (g,args.map (opnd E)++caps.map PV.a)
 | .a (.val v)=>match aFz v with
  | some (some g)=>some (g,args.map (opnd E))
  | _=>none
 | _=>none
def opQ(tab:Γ TI)(ext:Aw)(wr:Bool)(E:gH)(L:bM):Op->Option (Γ Prop×PV)
 | .call { callee := .value f,args,argTypes }=>match Ob E f args.toList with
  | some (g,ps)=>Zy ext L g ps
  | none=>none
 | .convert s d x=>match aSf tab L s d (opnd E x)with
  | some r=>some ([],.a (.val (.string r)))
  | none=>aF4 tab wr E L (.convert s d x)
 | op=>aF4 tab wr E L op
def opM(tab:Γ TI)(ext:Aw)(wr:Bool)(E:gH)(L:bM):Op->Option (Γ Prop×PV×gH×bM)
 | .box T x=>match aMC tab wr T (opnd E x)with
  | some A=>some ([],.a (Ux L.length A),E,L++[some A])
  | none=>none
 | .alloc T=>match fj tab T with
  | some A=>some ([],.a (Ux L.length A),E,L++[some A])
  | none=>none
 | .buildSlice T n parts=>match Kg tab T n (parts.toList.map λp=>(p.1,opnd E p.2))with
  | some A=>some ([],.a (.osl L.length none),E,L++[some A])
  | none=>none
 | .makeSlice T l c=>match aD5 tab T (opnd E l) (opnd E c)with
  | some (cs,A)=>some (cs,.a (.osl L.length none),E,L++[some A])
  | none=>none
 | .store T x y=>match aBk tab L T (opnd E x) (opnd E y)with
  | some L'=>some ([],.a .junk,E,L')
  | none=>none
 | .call { callee := .value f,args,argTypes }=>match Ob E f args.toList with
  | some (g,ps)=>Zr ext E L g ps
  | none=>none
 | .call { callee := .builtin .append,args,argTypes }=>match args.toList,argTypes.toList with
  | [s,x],[T,T2]=>aSh tab E L T T2 (opnd E s) (opnd E x)
  | _,_=>none
 | .convert s d x=>match aME tab s d (opnd E x)with
  | some A=>some ([],.a (.osl L.length none),E,L++[some A])
  | none=>match opQ tab ext wr E L (.convert s d x)with
   | some (cs,pv)=>some (cs,pv,E,L)
   | none=>none
 | op=>match opQ tab ext wr E L op with
  | some (cs,pv)=>some (cs,pv,E,L)
  | none=>none
section
variable {P:Program} {n:Nat} {K:fG} {G:Nat->Prop} {w0 w:World} {a:Act} {E:gH} {L:bM} {V:Nat->Value} {own:Nat->Γ Nat}
theorem fk{g:FuncId}(h:CC P g)(args:Array Value)(w:World):(callFunc g args).run P w = .ok (.enter g args) w:=by
 obtain⟨fn,h1,h2,h3⟩:=h;unfold callFunc;simp only[dV,run_program,cJ,h1,h2,h3,gE,if_false,fP]
theorem Uz{g:FuncId}(h:CC P g){ρ:Operand->Value}{o:Oper}{f:Operand}{args:Array Operand}{ts:Array TypeId}(ho:o.op = .call { callee := .value f,args,argTypes:=ts }){vs:Γ Value}(hf:ρ f = .func (.func g) #[] vs.toArray)(w:World) :
  (execOp ρ o).run P w = .ok (.enter g ((args.toList.map ρ)++vs).toArray) w:=by
 simp[execOp,ho,resolve,hf,Deferred.ofValue,invoke];rw[fk h];simp
theorem Ft(hR:bQ n K w0 G w a E L V own){f:Operand}{args:Γ Operand}{g:FuncId}{ps:Γ PV}(h:Ob E f args=some (g,ps)) :
  ∃vs,a.eval f = .func (.func g) #[] vs.toArray/\DR w0 G L V ps (args.map a.eval++vs):=by
 unfold Ob at h;split at h
 ·rename_i g' caps hf;cases h;have hx:=hR.opnd f;rw[hf]at hx;obtain⟨vs,hv,hr⟩:=hx;exact⟨vs,hv,O0 (hR.opnds args) (Sn hr)⟩
 ·rename_i v hf;split at h
  ·rename_i g' hu;cases h;have hx:=hR.valEq hf;refine⟨[],by rw[hx.1,ee hu];rfl,?_⟩;rw[dN];exact hR.opnds args
  lia
 lia
theorem VA{Gc F:Nat->Prop}:∀ {ks:Γ RK} {ds:Γ aS} {vs:Γ (c7×Value)} {rs:Γ Value} {rbs:Γ (Γ Nat)} {w:World},fe ks=true->aD7 ds=some vs->Yo w Gc F ks ds rs rbs->rs=vs.map tZ/\uS w0 G L V (vs.map eE) rs
 | ks,[],vs,rs,rbs,w,hk,h,hr=>by
  have hr':rs=[]:=by cases ks <;> exact hr.1
  cases h;exact⟨hr',hr'⟩
 | ks,d::r,vs,rs,rbs,w,hk,h,hr=>by
  have hr':∃v s b bs,rs=v::s/\rbs=b::bs/\U4 w Gc F (RK.hd ks) d v b/\Yo w Gc F ks.tail r s bs:=by cases ks <;> exact hr
  obtain⟨v,s,b,bs,h1,h2,h34,h5⟩:=hr';have hk1:RK.hd ks = .own:=by
   cases ks with
   | nil=>rfl
   | cons k ks=>cases k <;> first | rfl | cases hk
  have hk2:fe ks.tail=true:=by
   cases ks with
   | nil=>rfl
   | cons k ks=>cases k <;> first | exact hk | cases hk
  rw[hk1]at h34;obtain⟨cs,h3,h4⟩:=h34;simp[aD7]at h;split at h
  ·rename_i s' hf hs;cases h;obtain⟨e1,e2⟩:=VA hk2 hs h5;subst h1;have hc:=Fs hf h3;have hv:v=gY d.t (qQ d.t d.x):=by
    rw[<- hc];obtain⟨t,x⟩:=d;cases t <;> simp at h4 <;> subst h4 <;> rfl
   obtain⟨ha,_⟩:=Ur (w0:=w0) (L:=L) (V:=V) hf h3 h4 G;exact⟨by grind,⟨v,s,rfl,ha,e2⟩⟩
  lia
theorem FD{own:Nat->Γ Nat}{os:Γ (Γ Nat)}(h:os.flatten=[]):(BV own os).flatten=[]:=by
 grind [vC]
theorem Fu:∀ {ext:Aw} (hX:rM P ext) (hR:bQ n K w0 G w a E L V own) {f:FuncId} {ps:Γ PV} {vs:Γ Value} {cs:Γ Prop} {pv:PV}
  (hps:DR w0 G L V ps vs) (h:Zy ext L f ps=some (cs,pv)) (hc:gZ cs),
  CC P f/\∃v,mK w0 G L V pv v/\∀w',dD [] w w'->Calls P f vs.toArray w' λe w''=>e = .returned v/\dD [] w' w''
 | [],_,_,_,_,_,_,_,_,h,_=>by cases h
 | (g,S)::r,hX,hR,f,ps,vs,cs,pv,hps,h,hc=>by
  obtain⟨⟨hcall,hcon⟩,hX'⟩:=hX;simp[Zy]at h;split at h
  ·rename_i hfg;obtain rfl:=aZ hfg;split at h
   ·rename_i x os us hd;split at h
    ·rename_i vals hos hok hsc;cases h;obtain⟨l1,_⟩:=xQ hR hps hd;have hall:∀w',dD [] w w'->Calls P f vs.toArray w' λe w''=>e = .returned (II (vals.map tZ))/\dD [] w' w''/\uS w0 G L V (vals.map eE) (vals.map tZ):=by
      intro w' k;have hargs:=DS (q:=uX L S.sig ps) hR k (G':=So G own us) (λb hb => .inl hb) hps hd (λh=>h) (λr hr b hb => .inr ⟨r,hr,hb⟩);refine(hcon w' (So G own us) (SmG K G (uX L S.sig ps)) x _ _ (hR.gok k (by grind [FD])) (λb hb=>?_) (λb hb => .inl ?_) hc.1 hargs (by grind [FD])).mono ?_
      ·rw[FD hos];refine⟨Nat.lt_of_lt_of_le ?_ k.size,by simp⟩;rcases hb with hb | ⟨r,hr,hb⟩
       ·exact hR.glt b hb
       ·obtain⟨A,hA⟩:=l1 r hr;exact hR.own_lt hA b hb
      ·unfold SmG at hb;split at hb
       ·exact hR.gsub b hb
       lia
      ·rintro e w'' ⟨rs,ubs,rbs,F,rfl,hk,hrr,_⟩;obtain⟨rfl,ho⟩:=VA (w0:=w0) (G:=G) (L:=L) (V:=V) hok hsc hrr;rw[FD hos]at hk
       lia
     obtain⟨_,_,_,⟨_,_,hokk⟩,_⟩:=hall w (dI _ _) [];exact⟨hcall,II (vals.map tZ),Qf hokk,λw' k=>(hall w' k).mono λe w'' hh=>⟨hh.1,hh.2.1⟩⟩
    ·exact Fu hX' hR hps h hc
   ·exact Fu hX' hR hps h hc
  ·exact Fu hX' hR hps h hc
theorem L5(xs:Γ Int):(jQ xs).size=xs.length:=by
 have key:∀(xs:Γ Int) (s:Δ),(xs.foldl (λr n=>r.push (UInt8.ofNat n.toNat)) s).size=s.size+xs.length:=by
  intro xs
  induction xs with
  | nil=>simp
  | cons x r ih=>simp[ih];omega
 simpa [jQ] using key xs aC
def aIe{tab:Γ TI}(hT:kW P tab)(hR:bQ n K w0 G w a E L V own){s d:TypeId}{x:Operand}{r:Δ}(h:aSf tab L s d (opnd E x)=some r) :
  OR (.string r)/\∀w',dD [] w w'->(convert s d (a.eval x)).run P w' = .ok (.string r) w':=by
 unfold aSf at h;split at h
 ·rename_i A hA;split at h
  ·rename_i e b xs hs hd hdec;cases h;have hS:=hT s;rw[hs]at hS;have hD:=hT d;rw[hd]at hD;have hrep:=λw' k=>Uk hR (w':=w') k (G':=λ_=>True) (λ_ _=>trivial) (hR.atom hA) hdec (λ_ _ _ _=>trivial);have hlen:=(hrep w (dI _ _)).1;refine⟨?_,λw' k=>?_⟩
   ·show (jQ xs).size<=maxLen
    grind [L5]
   ·have hr:=hrep w' k;rcases hr.2 with ⟨ad,e1,e2⟩ | ⟨b',off,cap,e1,e2,e3,e4,e5⟩
    ·have:xs=[]:=e2;subst this;rw[e1,run_convert_bytes_string w' s d e ad 0 0 hS.2.1 hS.2.2.1.int_und hD.str_und];cases ad with
     | none=>rfl
     | some ad =>
      rfl
    ·rw[e1,run_convert_bytes_string w' s d e _ _ _ hS.2.1 hS.2.2.1.int_und hD.str_und];refine run_bytesToString w' _ _ _ xs ?_;have:=run_loadCells_list (P:=P) w' ⟨b',off,none⟩ (xs.map (LI .u8)) (λj v hj=>by
      rw[sJ]at hj;cases hx:xs[j]? with
      | none=>grind
      | some y =>
       obtain⟨cs,g1,g2,g3⟩:=e5 j y hx;obtain⟨g3,_⟩:=g3;subst g3;have:=g2 0 _ rfl
       grind [fX])
     grind
  lia
 lia
def uq{tab:Γ TI}{ext:Aw}(hT:kW P tab)(hX:rM P ext)(hR:bQ n K w0 G w a E L V own){wr:Bool}{o:Oper}{cs:Γ Prop}{pv:PV}
  (h:opQ tab ext wr E L o.op=some (cs,pv)) (hc:gZ cs) :
  ∃v,mK w0 G L V pv v/\∀w',dD [] w w'->o.quietAt P a (dD [] w') w' v:=by
 have plain:∀ {op:Op} (ho:o.op=op),aF4 tab wr E L op=some (cs,pv)->∃v,mK w0 G L V pv v/\∀w',dD [] w w'->o.quietAt P a (dD [] w') w' v:=by
  intro op ho h;rw[<- ho]at h;obtain⟨v,hv,hr⟩:=Zj hT hR h hc;refine⟨v,hv,λw' k=>?_⟩;unfold oK;rw[hr w' (λ_=>k)];exact⟨rfl,rfl⟩
 unfold opQ at h;split at h
 ·rename_i f args ts ho;split at h
  ·rename_i g ps hg;obtain⟨vs,hv,hps⟩:=Ft hR hg;obtain⟨hcall,v,hrep,hcalls⟩:=Fu hX hR hps h hc;refine⟨v,hrep,λw' k=>?_⟩;unfold oK;rw[Uz hcall ho hv];exact⟨rfl,hcalls w' k⟩
  lia
 ·rename_i s d x ho;split at h
  ·rename_i r hr;cases h;obtain⟨h1,h2⟩:=aIe hT hR hr;refine⟨_,⟨rfl,h1⟩,λw' k=>?_⟩;unfold oK;simp only[execOp,ho];rw[gU _ _ _ _ (h2 w' k)];exact⟨rfl,rfl⟩
  grind
 grind
def ur{tab:Γ TI}(hT:kW P tab)(hR:bQ n K w0 G w a E L V own){s d:TypeId}{x:Operand}{A:iE}(h:aME tab s d (opnd E x)=some A) :
  ∃v w' V' own',(convert s d (a.eval x)).run P w = .ok v w'/\ui n K w0 G w w' a E L (L++[some A]) V V' own own'/\mK w0 G (L++[some A]) V' (.a (.osl L.length none)) v:=by
 unfold aME at h;split at h
 ·rename_i b hx;split at h
  ·rename_i e by' hs hd
   cases h;obtain⟨e1,e2⟩:=hR.valEq hx;have hS:=hT s;rw[hs]at hS;have hD:=hT d;rw[hd]at hD;have hcapg:=grownCap_ge w b.size 0 e;have hcapm:=grownCap_le_maxLen w b.size 0 e e2;have hrow:∀(l:Γ UInt8) (w1:World) (bor:Bool),AZ (pO w0 G w1 (.int .u8) bor) (Ty.int IntKind.u8).size (l.map λb=>(b.toNat:Int)) (l.map λb=>[.int .u8 (b.toNat:Int)]) (l.map λ_=>[]):=by
    intro l w1 bor
    induction l with
    | nil=>exact⟨rfl,rfl⟩
    | cons b l ih =>
     refine⟨_,_,_,_,rfl,rfl,rfl,?_,ih⟩;refine un (w:=w1) (G:=λ_=>True) (t := .int .u8) (x:=(b.toNat:Int)) (cs:=[.int .u8 (b.toNat:Int)]) ⟨rfl,?_⟩ rfl bor _ _;have hb:=b.toNat_lt
     grind [aX,IntKind.min,IntKind.max,IntKind.bits,IntKind.signed]
   let cells:Array Value:=(b.data.map λx => .int .u8 x.toNat)++jI (grownCap w b.size 0 e-b.size) (.int .u8 0)
   have hcs:cells.size=grownCap w b.size 0 e:=by
    simp only[cells,sK,Array.size_map,Array.size_replicate];simp_all
   let w2:World:=(w.drew.alloc (.cells cells e)).freeze ⟨w.heap.size,cells.size,none⟩ 1
   have hk:dD [] w w2:=by
    refine⟨rfl,rfl,rfl,by simp[w2,Pp],λk hk _=>?_⟩;have h1:(w.drew.alloc (.cells cells e)).heap[k]? = w.heap[k]? := Go.RowKit.Below.heap_alloc w.drew _ k hk;simp only[w2,Pp,Tp,if_false,n7]
    lia
   have hb2:w2.heap[w.heap.size]? = some (.cells cells e (cells.size,cells.size+1)):=by
    have h1:=FC w.drew (.cells cells e);have hsz:w.drew.heap.size=w.heap.size:=rfl;rw[hsz]at h1;simp only[w2,Pp,Tp,if_false,n7,π,h1];rfl
   have hent:=uE (hrow b.data.toList w2 false) (b:=w.heap.size) (off:=0) (cap:=grownCap w b.size 0 e) (cur:=cells) (ty:=e) (fz:=(cells.size,cells.size+1)) (by grind) (by grind) hcapm (by rw[hcs,cO,show (Ty.int IntKind.u8).size=1 from rfl,Nat.mul_one];lia) hb2 ⟨aMG _,.inl rfl⟩ (λj c hj=>by
    have hfl:∀l:Γ UInt8,(l.map λb=>[LI .u8 (b.toNat:Int)]).flatten=l.map λb=>LI .u8 (b.toNat:Int):=by
     intro l
     induction l with
     | nil=>rfl
     | cons x l ih=>grind
    grind)
   have hnil:((b.data.toList.map λ_=>([]:Γ Nat))).flatten=[]:=by simp
   rw[hnil]at hent;have hent':iI w0 G w2 ⟨.int .u8,cD b,false,none,none⟩ (.slice (some ⟨w.heap.size,0,none⟩) (cD b).length (grownCap w b.size 0 e)) [w.heap.size]:=hent;refine⟨_,_,_,_,?_,hR.freshN hk hent' (by simp) (by simp),vB (w0:=w0) (G:=G) (u:=w0) (G':=G) hent'⟩;have hlen:(cD b).length=b.size:=by simp[cD]
   rw[e1,hlen];have hsz:w.drew.heap.size=w.heap.size:=rfl;have hsh:(w.drew.alloc (.cells cells e)).shape? w.heap.size=some (e,cells.size):=by
    grind [FC,Bg]
   have hgc:(Question.appendCap b.size 0 e).cut (w.tape w.drawn (.appendCap b.size 0 e))=grownCap w b.size 0 e:=rfl;unfold convert;simp only[dV,run_underlying hS.str_und,run_underlying hD.2.1,cJ,run_underlying hD.2.2.1.int_und];unfold Conv.stringToBytes;simp;show ((markStringish ⟨w.drew.heap.size,0,none⟩).run P (w.drew.alloc (.cells cells e))).andThen _=_
   grind [markStringish,dV,run_shape,cJ,run_freeze]
  lia
 lia
end
def fm(r:Nat)(A:iE):gB->gB
 | .osl s rg=>match cE s r with
  | true => .sl A.t (BU rg A.xs)
  | false => .osl s rg
 | l=>l
def Sr(r:Nat)(A:iE)(ls:Γ gB):Γ gB:=ls.map (fm r A)
def B6(r:Nat)(A:iE):c7->c7
 | .osl s rg=>match cE s r with
  | true => .sl A.t (BU rg A.xs)
  | false => .osl s rg
 | .optr s i p=>match cE s r with
  | true=>match OW p ⟨A.t,A.xs.getD i A.t.dflt⟩ with
   | some d => .ptr d.t d.x
   | none => .junk
  | false => .optr s i p
 | .rcd t ls=>match t.agg,vU t (Sr r A ls)with
  | true,some x => .st t x
  | _,_ => .rcd t (Sr r A ls)
 | .bptr s o t=>match cE s r with
  | true => .junk
  | false => .bptr s o t
 | X=>X
def aZV(r:Nat)(A:iE):PV->PV
 | .a X => .a (B6 r A X)
 | .tup xs => .tup (xs.map (B6 r A))
 | .fn f xs => .fn f (xs.map (B6 r A))
def aMH(r:Nat)(A:iE)(E:gH):gH:=E.map λq=>(q.1,aZV r A q.2)
def I0(r:Nat)(A:iE)(B:iE):iE:=match B.ls with
 | some ls=>⟨B.t,B.xs,B.bor,some (Sr r A ls),B.sm⟩
 | none=>B
def fp(r:Nat)(A:iE)(L:bM):bM:=L.map λo=>match o with | some B=>some (I0 r A B) | none=>none
def aFD(r:Nat)(EL:gH×bM):gH×bM :=
 match bZ EL.2 r with
 | some A=>match A.ls with
  | none=>(aMH r A EL.1,fp r A (jT EL.2 r none))
  | some _=>EL
 | none=>EL
def MI:Γ Nat->gH×bM->gH×bM
 | [],EL=>EL
 | r::s,EL=>MI s (aFD r EL)
def aPP(E:gH)(x:Operand):Γ Nat :=
 match opnd E x with
 | .a (.osl r _)=>[r]
 | .a (.rcd _ ls)=>jC ls
 | _=>[]
def fq(E:gH):Γ Operand->Γ Nat
 | []=>[]
 | x::r=>aPP E x++fq E r
def aIf(E:gH):Op->Γ Nat
 | .build T parts=>fq E (parts.toList.map tZ)
 | .buildSlice T n parts=>fq E (parts.toList.map tZ)
 | .store T x y=>aPP E y
 | .call { callee := .value f,args,argTypes }=>fq E args.toList
 | _=>[]
def fu:c7->c7
 | .rcd t ls=>match t.agg,vU t ls with
  | true,some x => .st t x
  | _,_ => .rcd t ls
 | X=>X
def stP:PV->PV
 | .a X => .a (fu X)
 | p=>p
def stE(E:gH):gH:=E.map λq=>(q.1,stP q.2)
def bHp(EL:gH×bM):gH×bM:=(stE EL.1,EL.2)
def Ss(op:Op)(EL:gH×bM):gH×bM:=bHp (MI (aIf EL.1 op) EL)
section
variable {P:Program} {n:Nat} {K:fG} {G:Nat->Prop} {w0 w:World} {a:Act} {E:gH} {L:bM} {V:Nat->Value} {own:Nat->Γ Nat}
theorem ut(r:Nat)(A:iE):∀(E:gH) (i:Nat),(aMH r A E).get i=aZV r A (E.get i)
 | [],i=>rfl
 | (j,p)::s,i=>by
  simp[aMH,pI];cases h:cE j i with
  | true=>rfl
  | false=>exact ut r A s i
theorem Qg(r:Nat)(A:iE):∀(L:bM) (s:Nat),bZ (fp r A L) s=(bZ L s).map (I0 r A)
 | [],_=>rfl
 | some B::L,0=>rfl
 | none::L,0=>rfl
 | _::L,s+1=>by exact Qg r A L s
theorem aIg(r:Nat)(A B:iE):(I0 r A B).t=B.t:=by grind [I0]
theorem aMI(r:Nat)(A B:iE):(I0 r A B).sm=B.sm:=by grind [I0]
theorem aIh(r:Nat)(A B:iE):(I0 r A B).bor=B.bor:=by grind [I0]
theorem aIi(r:Nat)(A B:iE):(I0 r A B).xs.length=B.xs.length:=by grind [I0]
theorem uu{w0 w:World}{G:Nat->Prop}{r:Nat}{A B:iE}{v:Value}{bs:Γ Nat}:iI w0 G w (I0 r A B) v bs↔iI w0 G w B v bs:=by
 unfold I0;split
 all_goals rfl
theorem aD8{r:Nat}{A B:iE}:(∀ls,B.ls=some ls->(I0 r A B).ls=some (Sr r A ls))/\∀ls',(I0 r A B).ls=some ls'->∃ls,B.ls=some ls/\ls'=Sr r A ls:=by
 unfold I0
 grind
theorem bQ.freeze(hR:bQ n K w0 G w a E L V own){r:Nat}{A:iE}(hA:bZ L r=some A)(hls:A.ls=none) :
  ∃w0' G',bQ n K w0' G' w a (aMH r A E) (fp r A (jT L r none)) V own:=by
 let G':Nat->Prop:=λb=>G b\/b∈own r
 have hG:∀b,G b->G' b:=λb hb => .inl hb;have hread:oA w G' (fI w G' A.t) A.t.size A.xs (V r):=hR.lend (dI _ _) hG hA (λb hb => .inr hb);have hback:∀s B,bZ (fp r A (jT L r none)) s=some B->s≠r/\∃C,bZ L s=some C/\B=I0 r A C:=by
  intro s B hs;rw[Qg]at hs;by_cases hsr:s=r
  ·grind [j0]
  ·rw[dM (kQ hsr)]at hs;cases hC:bZ L s with
   | none=>grind
   | some C=>grind
 have hag:∀s,s≠r->n9 L V (fp r A (jT L r none)) V s:=λs hs=>by
  refine⟨rfl,λB hB=>⟨I0 r A B,?_,aIg r A B,aIi r A B,λls h=>⟨_,aD8.1 ls h⟩⟩⟩;rw[Qg,dM (kQ hs),hB];rfl
 have hsub:∀ {rg:Option (Nat×Nat)} {v:Value},QW L V r rg v->oA w G' (fI w G' A.t) A.t.size (BU rg A.xs) v:=by
  rintro rg v ⟨B,hB,_,hs⟩;rw[hA]at hB;cases hB;cases rg with
  | none=>exact hread.whole hs
  | some q=>exact hread.sub (nn:=0) hs
 have leaf:∀ {l:gB} {v:Value},U3 w0 G L V l v->U3 w G' (fp r A (jT L r none)) V (fm r A l) v:=by
  intro l v h;cases l with
  | val u=>exact h
  | sl t xs=>exact oA.keep (λ_ _=>fI.keep hG hR.gref) hG hR.gref h
  | osl s rg =>
   simp only[fm];cases hb:cE s r with
   | true =>
    obtain rfl:=aZ hb;exact hsub h
   | false=>exact Fh h (hag s λe=>by simp_all)
  | junk=>exact h
 have leafs:∀ {ls:Γ gB} {cs:Γ Value},iG w0 G L V ls cs->iG w G' (fp r A (jT L r none)) V (Sr r A ls) cs:=by
  intro ls
  induction ls with
  | nil=>intro cs h;exact h
  | cons l s ih=>rintro cs ⟨v,t,h1,h2,h3⟩;exact⟨v,t,h1,leaf h2,ih h3⟩
 have atom:∀ {X:c7} {v:Value},nE w0 G L V X v->nE w G' (fp r A (jT L r none)) V (B6 r A X) v:=by
  intro X v h;cases X with
  | val u=>exact h
  | sl t xs=>exact pP (A := .sl t xs) hG hR.gref h
  | ptr t x=>exact pP (A := .ptr t x) hG hR.gref h
  | st t x=>exact pP (A := .st t x) hG hR.gref h
  | junk=>exact h
  | osl s rg =>
   simp only[B6];cases hb:cE s r with
   | true =>
    obtain rfl:=aZ hb;exact hsub h
   | false=>exact Fh h (hag s λe=>by simp_all)
  | optr s i p =>
   simp only[B6];cases hb:cE s r with
   | true =>
    obtain rfl:=aZ hb;cases hd:OW p ⟨A.t,A.xs.getD i A.t.dflt⟩ with
    | none=>trivial
    | some d=>exact Ul hR (dI _ _) (G':=G') hG (A := .optr s i p) (t:=d.t) (x:=d.x) h (by grind [aHZ,aDz]) (λu hu b hb'=>by grind [IP,vA,dG])
   | false =>
    refine CF (A := .optr s i p) (w0:=w) (G:=G') h λu hu=>?_;simp only[vA,dG]at hu;rw[hu];exact hag s λe=>by simp_all
  | rcd t ls =>
   obtain⟨cs,h1,h2,h3⟩:=h;have h4:=leafs h3;simp only[B6];split
   ·rename_i x ha hx;exact⟨cs,h1,jP h4 hx⟩
   ·exact⟨cs,h1,by grind [Sr],h4⟩
  | bptr s o t =>
   simp only[B6];cases hb:cE s r with
   | true=>trivial
   | false =>
    refine CF (A := .bptr s o t) (w0:=w) (G:=G') h λu hu=>?_;simp only[vA,dG]at hu;rw[hu];exact hag s λe=>by simp_all
 have atoms:∀ {xs:Γ c7} {vs:Γ Value},uS w0 G L V xs vs->uS w G' (fp r A (jT L r none)) V (xs.map (B6 r A)) vs:=by
  intro xs
  induction xs with
  | nil=>intro vs h;exact h
  | cons X s ih=>rintro vs ⟨v,t,h1,h2,h3⟩;exact⟨v,t,h1,atom h2,ih h3⟩
 refine⟨w,G',hR.glob,hR.kept,hR.size,hR.defers,?_,λ_ _=>rfl,λb hb => .inl (hR.gsub b hb),hR.gold,(λb hb=>hb.elim (hR.gup b) λh => .inr (hR.good r A hA b h).1),?_,?_,?_,?_,?_,?_,λi=>?_⟩
 ·rintro b (hb | hb)
  ·exact hR.glt b hb
  ·exact hR.own_lt hA b hb
 ·intro s B hs;obtain⟨_,C,h2,rfl⟩:=hback s B hs;exact uu.2 ((hR.heap s C h2).keepG hG hR.gref (λ_ _=>rfl))
 ·intro s B hs b hb;obtain⟨h1,C,h2,rfl⟩:=hback s B hs;obtain⟨g1,g2⟩:=hR.good s C h2 b hb;exact⟨g1,λh=>h.elim g2 (hR.apart s r C A h2 hA h1 b hb)⟩
 ·intro s B hs;obtain⟨_,C,h2,rfl⟩:=hback s B hs;exact hR.nodup s C h2
 ·intro s u B D hs hu hsu;obtain⟨_,C,h2,rfl⟩:=hback s B hs;obtain⟨_,F,h4,rfl⟩:=hback u D hu;exact hR.apart s u C F h2 h4 hsu
 ·intro s B ls hs hl;obtain⟨_,C,h2,rfl⟩:=hback s B hs;obtain⟨l0,h0,rfl⟩:=aD8.2 ls hl;obtain⟨b,off,cs,k1,k3,k4,k5,k6⟩:=hR.boxs s C l0 h2 h0;rw[aIg];exact⟨b,off,cs,k1,k3,by grind [Sr],k5,leafs k6⟩
 ·intro s B q hs hq;obtain⟨_,C,h2,rfl⟩:=hback s B hs;rw[aMI]at hq;obtain⟨g1,g2⟩:=hR.small s C q h2 hq;exact⟨g1,λe=>⟨by grind [aIh],uu.2 ((g2 e).2.keepG (λ_ h=>h) (λb hb=>hR.gref b (hR.gsub b hb)) (λ_ _=>rfl))⟩⟩
 ·rw[ut];have hi:=hR.env i;generalize E.get i=p at hi;cases p with
  | a X=>exact atom hi
  | tup xs=>obtain⟨vs,hv,hr⟩:=hi;exact⟨vs,hv,atoms hr⟩
  | fn f xs=>obtain⟨vs,hv,hr⟩:=hi;exact⟨vs,hv,atoms hr⟩
theorem I1:∀ {rs:Γ Nat} {E:gH} {L:bM} {w0:World} {G:Nat->Prop},bQ n K w0 G w a E L V own->∃w0' G',bQ n K w0' G' w a (MI rs (E,L)).1 (MI rs (E,L)).2 V own
 | [],E,L,w0,G,hR=>⟨w0,G,hR⟩
 | r::s,E,L,w0,G,hR=>by
  show ∃w0' G',bQ n K w0' G' w a (MI s (aFD r (E,L))).1 (MI s (aFD r (E,L))).2 V own;have h1:∃w0' G',bQ n K w0' G' w a (aFD r (E,L)).1 (aFD r (E,L)).2 V own:=by
   unfold aFD;split
   ·rename_i A hA;split
    ·rename_i hls;exact hR.freeze hA hls
    grind
   grind
  obtain⟨w1,G1,h1⟩:=h1;exact I1 h1
theorem VB{A:c7}{v:Value}(h:nE w0 G L V A v):nE w0 G L V (fu A) v:=by
 cases A with
 | rcd t ls =>
  simp[fu];split
  ·rename_i x ha hx;obtain⟨cs,h1,h2,h3⟩:=h;exact⟨cs,h1,jP h3 hx⟩
  lia
 | _=>exact h
theorem aD9:∀(E:gH) (i:Nat),(stE E).get i=stP (E.get i)
 | [],i=>rfl
 | (j,p)::s,i=>by
  simp[stE,pI];cases h:cE j i with
  | true=>rfl
  | false=>exact aD9 s i
theorem bQ.stE(hR:bQ n K w0 G w a E L V own):bQ n K w0 G w a (Am.stE E) L V own :=
 ⟨hR.glob,hR.kept,hR.size,hR.defers,hR.glt,hR.gref,hR.gsub,hR.gold,hR.gup,hR.heap,hR.good,hR.nodup,hR.apart,hR.boxs,hR.small,λi=>by
  rw[aD9];have hi:=hR.env i;generalize E.get i=p at hi;cases p with
  | a X=>exact VB hi
  | tup xs=>exact hi
  | fn f xs=>exact hi⟩
theorem VC(hR:bQ n K w0 G w a E L V own)(op:Op):∃w0' G',bQ n K w0' G' w a (Ss op (E,L)).1 (Ss op (E,L)).2 V own:=by
 obtain⟨w1,G1,h⟩:=I1 (rs:=aIf E op) hR;exact⟨w1,G1,h.stE⟩
end
section
variable {P:Program} {n:Nat} {K:fG} {G:Nat->Prop} {w0 w:World} {a:Act} {E:gH} {L:bM} {V:Nat->Value} {own:Nat->Γ Nat}
variable {o:Oper} {Q:Exit->Act->World->Prop}
theorem kI{next:Act->World->Prop}{v:Value}{w w':World}(h:(execOp a.eval o).run P w = .ok (.value v) w')(hn:next (a.put o.dst v) w'):o.wp P a w next Q:=by
 unfold Bh;rw[h];exact hn
def Yu(hR:bQ n K w0 G w a E L V own){next:Act->World->Prop}{v:Value}(h:o.quietAt P a (dD [] w) w v)
  (hn:∀w',bQ n K w0 G w' a E L V own->next (a.put o.dst v) w'):o.wp P a w next Q:=by
 unfold oK at h;unfold Bh;generalize (execOp a.eval o).run P w=r at *;cases r with
 | ok nx w' =>
  cases nx <;> simp[uA]at h <;> simp[LK]
  case value u=>grind
  case skip=>grind
  case enter f args =>
   obtain⟨rfl,hc⟩:=h;refine hc.mono ?_;rintro e w'' ⟨rfl,hk⟩;exact hn _ (hR.ext hk)
 | halt x w'=>grind [uA]
theorem uv{tab:Γ TI}{ext:Aw}(hT:kW P tab)(hX:rM P ext)(hR:bQ n K w0 G w a E L V own){wr:Bool}{cs:Γ Prop}{pv:PV}{E':gH}{L':bM}
  (h:opM tab ext wr E L o.op=some (cs,pv,E',L')) (hc:gZ cs) {next:Act->World->Prop} {Q:Exit->Act->World->Prop}
  (hn:∀v w0' G' w' V' own',bQ n K w0' G' w' a E' L' V' own'->mK w0' G' L' V' pv v->next (a.put o.dst v) w'):o.wp P a w next Q:=by
 have quiet:∀ {op:Op} (ho:o.op=op) {r:Option (Γ Prop×PV×gH×bM)},(match opQ tab ext wr E L op with | some (cs,pv)=>some (cs,pv,E,L) | none=>none)=some (cs,pv,E',L')->o.wp P a w next Q:=by
  intro op ho r h;split at h
  ·rename_i cs1 pv1 hq;cases h;rw[<- ho]at hq;obtain⟨v,hv,hqa⟩:=uq hT hX hR hq hc;exact Yu hR (hqa w (dI _ _)) λw' hR'=>hn v w0 G w' V own hR' hv
  lia
 unfold opM at h;split at h
 ·rename_i T x ho;split at h
  ·rename_i A hA;cases h;obtain⟨v,w',V',own',h1,h2,h3⟩:=uk hT hR hA;exact kI (w':=w') (by grind [execOp,gU]) (hn _ _ _ _ _ _ h2.1 h3)
  lia
 ·rename_i T ho;split at h
  ·rename_i A hA;cases h;obtain⟨v,w',V',own',h1,h2,h3⟩:=Uy hT hR hA;exact kI (w':=w') (by grind [execOp,gU]) (hn _ _ _ _ _ _ h2.1 h3)
  lia
 ·rename_i T k parts ho;split at h
  ·rename_i A hA;cases h;obtain⟨v,w',V',own',h1,h2,h3⟩:=L3 hT hR hA;exact kI (w':=w') (by grind [execOp,gU]) (hn _ _ _ _ _ _ h2.1 h3)
  lia
 ·rename_i T l c ho;split at h
  ·rename_i cs1 A hA;cases h;obtain⟨v,w',V',own',h1,h2,h3⟩:=Zw hT hR hA hc;exact kI (w':=w') (by grind [execOp,gU]) (hn _ _ _ _ _ _ h2.1 h3)
  lia
 ·rename_i T x y ho;split at h
  ·rename_i L1 hL;cases h;obtain⟨w',h1,h2,_⟩:=aBl hT hR hL;unfold Bh;have:(execOp a.eval o).run P w = .ok .skip w':=by simp[execOp,ho,h1]
   rw[this];exact hn _ _ _ _ _ _ h2 trivial
  lia
 ·rename_i f args ts ho;split at h
  ·rename_i g ps hg;obtain⟨vs,hv,hps⟩:=Ft hR hg;obtain⟨hcall,hcalls⟩:=Fm hX hR hps h hc;unfold Bh;rw[Uz hcall ho hv];refine hcalls.mono ?_
   grind
  lia
 ·rename_i args ts ho;split at h
  ·rename_i s x T T2 hargs hts;obtain⟨v,w',V',own',h1,h2,h3⟩:=uo (ty:=o.type) hT hR h hc;refine kI (w':=w') ?_ (hn _ _ _ _ _ _ h2 h3);have ea:args = #[s,x]:=by grind
   have et:ts = #[T,T2]:=by grind
   subst ea et;simp only[execOp,ho,resolve,dV,fP,cJ,invoke]
   grind [builtin,gU]
  lia
 ·rename_i s d x ho;split at h
  ·rename_i A hA;cases h;obtain⟨v,w',V',own',h1,h2,h3⟩:=ur hT hR hA;exact kI (w':=w') (by grind [execOp,gU]) (hn _ _ _ _ _ _ h2.1 h3)
  ·exact quiet (r:=none) ho h
 ·exact quiet (r:=none) rfl h
def aFE{tab:Γ TI}{ext:Aw}(hT:kW P tab)(hX:rM P ext)(hR:bQ n K w0 G w a E L V own){wr:Bool}{cs:Γ Prop}{pv:PV}{E':gH}{L':bM}
  (h:(match opM tab ext wr E L o.op with | some r=>some r | none=>opM tab ext wr (Ss o.op (E,L)).1 (Ss o.op (E,L)).2 o.op)=some (cs,pv,E',L')) (hc:gZ cs) {next:Act->World->Prop} {Q:Exit->Act->World->Prop}
  (hn:∀v w0' G' w' V' own',bQ n K w0' G' w' a E' L' V' own'->mK w0' G' L' V' pv v->next (a.put o.dst v) w'):o.wp P a w next Q:=by
 split at h
 ·grind [uv]
 ·obtain⟨w1,G1,h1⟩:=VC hR o.op
  grind [uv]
end
structure St where
 path:Γ Bool
 dec:Γ (Nat×Bool)
 E:gH
 L:bM
 cs:Γ Prop
 pins:Γ Nat
def Tb:Γ Oper->Nat->Option Oper
 | [],_=>none
 | o::_,0=>some o
 | _::r,n+1=>Tb r n
def I2:Γ (Nat×Bool)->Nat->Option Bool
 | [],_=>none
 | (t,d)::r,n=>match cE t n with | true=>some d | false=>I2 r n
def VD(t:Nat):Γ (Nat×Bool)->Γ (Nat×Bool)
 | []=>[]
 | (s,d)::r=>match cE s t with | true=>VD t r | false=>(s,d)::VD t r
def bHq:Bool->Bool->Bool
 | true,b=>b
 | false,b => !b
def B7(S:St)(t:Nat):Option (Bool×St) :=
 match I2 S.dec t with
 | some d=>some (d,S)
 | none=>match S.E.get t,S.path with
  | .a (.val (.bool b)),d::p=>some (d,⟨p,(t,d)::S.dec,S.E,S.L,S.cs++[b=d],S.pins⟩)
  | _,_=>none
def I4(all:Γ Oper)(S:St):Option (Nat×Bool)->Option (Bool×St)
 | none=>some (true,S)
 | some (j,want)=>match Tb all j with
  | some o=>match o.dst with
   | some t=>match S.E.get t with
    | .a (.val (.tuple _))=>some (false,S)
    | _=>match B7 S t with
     | some (d,S')=>some (bHq d want,S')
     | none=>none
   | none=>none
  | none=>none
def Tc(n:Nat)(S:St)(E:gH)(L:bM)(cs:Γ Prop):Option Nat->PV->Option St
 | none,_=>some ⟨S.path,S.dec,E,L,S.cs++cs,S.pins⟩
 | some d,pv=>match kv d n && !zN d S.pins with
  | true=>some ⟨S.path,VD d S.dec,E.set d pv,L,S.cs++cs,S.pins⟩
  | false=>none
def y8(tab:Γ TI)(ext:Aw)(wr:Bool)(n:Nat)(quiet:Bool)(all:Γ Oper)(S:St)(o:Oper):Option St :=
 match I4 all S o.guard with
 | none=>none
 | some (false,S)=>Tc n S S.E S.L [] o.dst (.a (.val undef))
 | some (true,S)=>match o.op with
  | .pick (.tmp c) x y=>match B7 S c with
   | some (d,S)=>Tc n S S.E S.L [] o.dst (cond d (opnd S.E x) (opnd S.E y))
   | none=>none
  | op=>match quiet with
   | true=>match opQ tab ext wr S.E S.L op with
    | some (cs,pv)=>Tc n S S.E S.L cs o.dst pv
    | none=>none
   | false=>match (match opM tab ext wr S.E S.L op with | some r=>some r | none=>opM tab ext wr (Ss op (S.E,S.L)).1 (Ss op (S.E,S.L)).2 op)with
    | some (cs,pv,E,L)=>Tc n S E L cs o.dst pv
    | none=>none
def Qh(tab:Γ TI)(ext:Aw)(wr:Bool)(n:Nat)(quiet:Bool)(all:Γ Oper):Γ Oper->St->Option St
 | [],S=>some S
 | o::r,S=>match y8 tab ext wr n quiet all S o with
  | some S'=>Qh tab ext wr n quiet all r S'
  | none=>none
section
variable {P:Program} {n:Nat} {K:fG} {G:Nat->Prop} {w0 w:World} {a:Act} {E:gH} {L:bM} {V:Nat->Value} {own:Nat->Γ Nat}
theorem Fv:∀(l:Γ Oper) (j:Nat),Tb l j=l[j]?
 | [],j=>rfl
 | o::r,0=>rfl
 | o::r,j+1=>by simp[Tb,Fv]
def jV(q:Nat->Value)(a:Act)(S:St):Prop:=(∀t d,I2 S.dec t=some d->a.tmps.getD t undef = .bool d)/\∀t∈S.pins,a.tmps.getD t undef=q t
theorem MJ:∀(dec:Γ (Nat×Bool)) (s t:Nat),I2 (VD s dec) t=if s=t then none else I2 dec t
 | [],s,t=>by simp[VD,I2]
 | (u,d)::r,s,t=>by
  simp[VD];cases h:cE u s with
  | true =>
   obtain rfl:=aZ h;rw[MJ r u t];by_cases ht:u=t
   ·lia
   ·simp[I2,zI ht]
  | false =>
   simp[I2,MJ r s t]
   lia
theorem jV.put{q:Nat->Value}{S S':St}(h:jV q a S)(d:Nat)(v:Value)(hp:d ∉ S.pins)(e1:S'.dec=VD d S.dec)(e2:S'.pins=S.pins):jV q (a.put (some d) v) S':=by
 have other:∀t,d≠t->(a.put (some d) v).tmps.getD t undef=a.tmps.getD t undef:=λt hne=>by
  simp[Act.put];simp_all
 constructor
 ·intro t b hb;rw[e1,MJ]at hb;split at hb
  ·lia
  ·rename_i hne;rw[other t hne];exact h.1 t b hb
 ·intro t ht;rw[e2]at ht;rw[other t (λe=>hp (by lia))];exact h.2 t ht
theorem uF{q:Nat->Value}{S S':St}{t:Nat}{d:Bool}(hR:bQ n K w0 G w a S.E S.L V own)(hd:jV q a S)(h:B7 S t=some (d,S'))(hc:gZ S'.cs) :
  a.tmps.getD t undef = .bool d/\S'.E=S.E/\S'.L=S.L/\jV q a S'/\gZ S.cs:=by
 unfold B7 at h;split at h
 ·rename_i d' hl;cases h;exact⟨hd.1 _ _ hl,rfl,rfl,hd,hc⟩
 ·split at h
  ·rename_i b d' p hg hp;cases h;obtain⟨h1,h2⟩:=dP.1 hc;have hv:=hR.valEq (x := .tmp t) (v := .bool b) (by grind [opnd]);have hb:b=d:=h2.1;subst hb;refine⟨hv.1,rfl,rfl,⟨?_,hd.2⟩,h1⟩;intro s c hs;simp[I2]at hs;split at hs
   ·rename_i hst;obtain rfl:=aZ hst;cases hs;exact hv.1
   ·exact hd.1 s c hs
  lia
end
def Zz(ext:Aw)(L:bM)(f:FuncId)(ps:Γ PV):Option (Γ Prop×PV×bM) :=
 match ext with
 | []=>none
 | (g,S)::r=>match cE f g with
  | true=>match xP L S.sig ps with
   | some (x,os,us)=>match os.flatten,fe S.kds||us.isEmpty,Fj L (uX L S.sig ps) S.sig ps os (S.upd x)with
    | [],true,some (cs,[],[])=>match O4 L.length S.kds (S.res x)with
     | (ats,es)=>some (S.pre x::cs,ug ats,L++es)
    | _,_,_=>Zz r L f ps
   | none=>Zz r L f ps
  | false=>Zz r L f ps
def opK(tab:Γ TI)(ext:Aw)(E:gH)(L:bM):Op->Option (Γ Prop×PV×bM)
 | .box T x=>match aMC tab false T (opnd E x)with
  | some A=>some ([],.a (Ux L.length A),L++[some A])
  | none=>none
 | .alloc T=>match fj tab T with
  | some A=>some ([],.a (Ux L.length A),L++[some A])
  | none=>none
 | .buildSlice T n parts=>match Kg tab T n (parts.toList.map λp=>(p.1,opnd E p.2))with
  | some A=>some ([],.a (.osl L.length none),L++[some A])
  | none=>none
 | .makeSlice T l c=>match aD5 tab T (opnd E l) (opnd E c)with
  | some (cs,A)=>some (cs,.a (.osl L.length none),L++[some A])
  | none=>none
 | .call { callee := .value f,args,argTypes }=>match Ob E f args.toList with
  | some (g,ps)=>Zz ext L g ps
  | none=>none
 | .convert s d x=>match aME tab s d (opnd E x)with
  | some A=>some ([],.a (.osl L.length none),L++[some A])
  | none=>none
 | _=>none
section
variable {P:Program} {n:Nat} {K:fG} {G:Nat->Prop} {w0 w:World} {a:Act} {E:gH} {L:bM} {V:Nat->Value} {own:Nat->Γ Nat}
theorem Fw:∀ {ext:Aw} (hX:rM P ext) (hR:bQ n K w0 G w a E L V own) {f:FuncId} {ps:Γ PV} {vs:Γ Value} {cs:Γ Prop} {pv:PV} {L':bM}
  (hps:DR w0 G L V ps vs) (h:Zz ext L f ps=some (cs,pv,L')) (hc:gZ cs),
  CC P f/\Calls P f vs.toArray w λe w'=>∃v w0' G' V' own',e = .returned v/\dD [] w w'/\bQ n K w0' G' w' a E L' V' own'/\mK w0' G' L' V' pv v
 | [],_,_,_,_,_,_,_,_,_,h,_=>by cases h
 | (g,S)::r,hX,hR,f,ps,vs,cs,pv,L',hps,h,hc=>by
  obtain⟨⟨hcall,hcon⟩,hX'⟩:=hX;simp[Zz]at h;split at h
  ·rename_i hfg;obtain rfl:=aZ hfg;split at h
   ·rename_i x os us hd;split at h
    ·rename_i cd hos hko hpl;cases h;obtain⟨hpre,hc⟩:=hc;simp at hko;obtain⟨l1,_⟩:=xQ hR hps hd;have hon:=FD (own:=own) hos;have hargs:=DS (q:=uX L S.sig ps) hR (dI [] w) (G':=So G own us) (λb hb => .inl hb) hps hd (λh=>h) (λr hr b hb => .inr ⟨r,hr,hb⟩);refine⟨hcall,(hcon w (So G own us) (SmG K G (uX L S.sig ps)) x _ _ (hR.gok (dI _ _) (by grind)) (λb hb=>?_) (λb hb => .inl ?_) hpre hargs (by grind)).mono ?_⟩
     ·rw[hon];refine⟨?_,by simp⟩;rcases hb with hb | ⟨r,hr,hb⟩
      ·exact hR.glt b hb
      ·obtain⟨A,hA⟩:=l1 r hr;exact hR.own_lt hA b hb
     ·unfold SmG at hb;split at hb
      ·exact hR.gsub b hb
      lia
     ·intro e w' hpost;obtain⟨v,w0',G',V',own',h1,hk,h2,h3⟩:=Zu hR hps hd (by grind) hko hpl hc hpost;rw[hon]at hk;exact⟨v,w0',G',V',own',h1,hk,h2,h3⟩
    ·exact Fw hX' hR hps h hc
   ·exact Fw hX' hR hps h hc
  ·exact Fw hX' hR hps h hc
def aIj{tab:Γ TI}{ext:Aw}(hT:kW P tab)(hX:rM P ext)(hR:bQ n K w0 G w a E L V own){o:Oper}{cs:Γ Prop}{pv:PV}{L':bM}
  (h:opK tab ext E L o.op=some (cs,pv,L')) (hc:gZ cs) {next:Act->World->Prop} {Q:Exit->Act->World->Prop}
  (hn:∀v w0' G' w' V' own',dD [] w w'->bQ n K w0' G' w' a E L' V' own'->mK w0' G' L' V' pv v->next (a.put o.dst v) w'):o.wp P a w next Q:=by
 unfold opK at h;split at h
 ·split at h
  ·rename_i A hA;cases h;obtain⟨v,w',V',own',h1,h2,h3⟩:=uk hT hR hA;exact kI (w':=w') (by grind [execOp,gU]) (hn _ _ _ _ _ _ h2.2.kept h2.1 h3)
  lia
 ·split at h
  ·rename_i A hA;cases h;obtain⟨v,w',V',own',h1,h2,h3⟩:=Uy hT hR hA;exact kI (w':=w') (by grind [execOp,gU]) (hn _ _ _ _ _ _ h2.2.kept h2.1 h3)
  lia
 ·split at h
  ·rename_i A hA;cases h;obtain⟨v,w',V',own',h1,h2,h3⟩:=L3 hT hR hA;exact kI (w':=w') (by grind [execOp,gU]) (hn _ _ _ _ _ _ h2.2.kept h2.1 h3)
  lia
 ·split at h
  ·rename_i cs1 A hA;cases h;obtain⟨v,w',V',own',h1,h2,h3⟩:=Zw hT hR hA hc;exact kI (w':=w') (by grind [execOp,gU]) (hn _ _ _ _ _ _ h2.2.kept h2.1 h3)
  lia
 ·rename_i f args ts ho;split at h
  ·rename_i g ps hg;obtain⟨vs,hv,hps⟩:=Ft hR hg;obtain⟨hcall,hcalls⟩:=Fw hX hR hps h hc;unfold Bh;rw[Uz hcall ho hv];refine hcalls.mono ?_
   grind
  lia
 ·split at h
  ·rename_i A hA;cases h;obtain⟨v,w',V',own',h1,h2,h3⟩:=ur hT hR hA;exact kI (w':=w') (by grind [execOp,gU]) (hn _ _ _ _ _ _ h2.2.kept h2.1 h3)
  lia
 lia
end
def ae:Γ Nat->Γ Nat
 | []=>[]
 | x::r=>match zN x r with
  | true=>ae r
  | false=>x::ae r
theorem Qi:∀ {l:Γ Nat} {k:Nat},k∈ae l->k∈l
 | x::r,k,h=>by
  simp[ae]at h;split at h
  ·exact aM _ (Qi h)
  ·rcases bA.1 h with rfl | h
   ·exact aR ..
   ·exact aM _ (Qi h)
def aPQ(ops:Array Oper)(js:Γ Nat):Γ Nat:=js.flatMap λj=>match ops[j]? with
 | some o=>(o.after.toList.filter λe=>fQ .any e).map λe=>e.on
 | none=>[]
def aMJ(ops:Array Oper):Nat->Γ Nat->Γ Nat
 | 0,_=>[]
 | m+1,js=>match ae (aPQ ops js)with
  | []=>[]
  | x::r=>(x::r)++aMJ ops m (x::r)
def isT:Op->Bool
 | .extract _ _=>true
 | _=>false
def aMK(ops:Array Oper)(k:Nat):Bool:=match ops[k]? with
 | some o=>isT o.op
 | none=>false
def Td(ops:Array Oper)(listed:Array Bool)(i:Nat):Bool :=
 (List.range ops.size).all λk => !listed.getD k true||(aMK ops k||zN k (aMJ ops ops.size [i]))
def LO(ops:Array Oper)(listed:Array Bool):Prop :=
 ∀k o,listed.getD k false=true->ops[k]? = some o->∀e∈o.after,fQ .any e=true->listed.getD e.on false=true
section
variable {P:Program} {ops:Array Oper} {Q:Exit->Act->World->Prop}
theorem LO.start(ops:Array Oper)(m:Nat):LO ops (jI m false):=λk o h=>by
 rw[iD]at h
 grind
variable {listed:Array Bool}
theorem LO.set(h:LO ops listed){i:Nat}(hi:i∈gJ .any ops listed):LO ops (listed.setIfInBounds i true):=by
 intro k o hk ho e he hb;by_cases hki:i=k
 ·grind [mem_ready,getD_set_true]
 ·rw[getD_set_ne false hki]at hk;exact getD_set_true (h k o hk ho e he hb)
theorem uw{listed:Array Bool}(hD:LO ops listed):∀ {m:Nat} {js:Γ Nat},(∀j∈js,∀o,ops[j]? = some o->∀e∈o.after,fQ .any e=true->listed.getD e.on false=true) ->
  ∀k∈aMJ ops m js,listed.getD k false=true
 | 0,_,_,k,hk=>by cases hk
 | m+1,js,h,k,hk=>by
  have hd:∀k∈ae (aPQ ops js),listed.getD k false=true:=by
   intro k hk;obtain⟨j,hj,hk⟩:=List.mem_flatMap.1 (Qi hk)
   grind
  simp only[aMJ]at hk;split at hk
  ·cases hk
  ·rename_i x r hxr;rw[hxr]at hd;rcases dC.1 hk with hk | hk
   ·exact hd k hk
   ·exact uw hD (λj hj o ho e he hb=>hD j o (hd j hj) ho e he hb) k hk
def qR(P:Program)(ops:Array Oper)(Q:Exit->Act->World->Prop)(F:Γ Nat):Nat->Array Bool->Act->World->Prop
 | 0,listed,a,w=>∀w1,dD [] w w1->gJ .any ops listed=[]/\Q .normal a w1
 | fuel+1,listed,a,w=>∀w1,dD [] w w1->(gJ .any ops listed=[]->Q .normal a w1) /\
  ∀i∈gJ .any ops listed,wpOp P ops Q i (λa' w'=>(Td ops listed i=true\/dD F w1 w')/\qR P ops Q F fuel (listed.setIfInBounds i true) a' w') a w1
variable {F:Γ Nat}
def qR.up:∀ {fuel:Nat} {listed:Array Bool} {a:Act} {w w1:World},qR P ops Q F fuel listed a w->dD [] w w1->qR P ops Q F fuel listed a w1
 | 0,_,_,_,_,h,k=>λw2 k2=>h w2 (k.trans k2)
 | _+1,_,_,_,_,h,k=>λw2 k2=>h w2 (k.trans k2)
theorem VE{F:Γ Nat}:∀(fuel:Nat) (listed:Array Bool) (a:Act) (w:World),qR P ops Q F fuel listed a w->wpAny P .any ops Q fuel listed a w
 | 0,_,_,w,h=>h w (dI _ _)
 | fuel+1,_,_,w,h=>⟨(h w (dI _ _)).1,λi hi=>wpOp_mono (λa' w' h'=>VE fuel _ a' w' h'.2) ((h w (dI _ _)).2 i hi)⟩
def nX(P:Program)(ops:Array Oper)(F:Γ Nat)(o:Oper)(v:Value)(a:Act)(w:World):Prop :=
 (fJ o (yielded ops a.tmps)=true/\∀w',dD F w w'->o.quietAt P a (dD [] w') w' v) \/
 (fJ o (yielded ops a.tmps)=false/\v=undef)
variable {o:Oper} {v:Value}
def nX.up{a:Act}{w w1:World}(h:nX P ops F o v a w)(k:dD F w w1):nX P ops F o v a w1 :=
 h.imp (λ⟨h1,h2⟩=>⟨h1,λw' k'=>h2 w' (k.trans k')⟩) id
theorem nX.of_same{a a':Act}{w:World}(hy:nX P ops F o v a w)(he:execOp a'.eval o=execOp a.eval o)
  (hw:fJ o (yielded ops a'.tmps)=fJ o (yielded ops a.tmps)):nX P ops F o v a' w:=by
 grind [nX,oK]
theorem nX.wpOp{F:Γ Nat}{i:Nat}{o:Oper}{v:Value}{a:Act}{w:World}(hi:ops[i]? = some o)(hy:nX P ops F o v a w)
  {K:Act->World->Prop} (h:∀w',dD [] w w'->K (a.put o.dst v) w'):wpOp P ops Q i K a w:=by
 unfold Go.wpOp;simp[hi];rcases hy with ⟨hw,hv⟩ | ⟨hw,rfl⟩
 ·simp[hw];refine .inl (S5 (C:=dD [] w) (K:=λa'=>a'=a.put o.dst v) (dI _ _) (λa' w' k e=>by grind) ⟨v,λw' k=>?_,rfl⟩);have:=hv w' k.of_nil;unfold oK at this ⊢;generalize (execOp a.eval o).run P w'=r at *;cases r with
  | ok nx w2 =>
   cases nx <;> simp[uA]at this ⊢
   case value u=>lia
   case skip=>lia
   case enter f args=>exact⟨this.1,this.2.mono λe w3 hh=>⟨hh.1,k.trans hh.2⟩⟩
  | halt x w2=>grind [uA]
 ·grind [dI]
theorem aFF{j:Nat}{oi oj:Oper}(hj:ops[j]? = some oj)(hap:oi.apart ops oj=true)
  (hsi:∀cs b,oi.op ≠ .select cs b) (hsj:∀cs b,oj.op ≠ .select cs b)
  (hQ:∀c a w,¬Q (.panic c) a w) {K:Act->World->Prop} {a:Act} {w wb:World}
  (hy:nX P ops F oi v a wb) (h:wpOp P ops Q j K (a.put oi.dst v) w) :
  wpOp P ops Q j (λa' w'=>nX P ops F oi v a' wb/\K (a'.put oi.dst v) w') a w:=by
 obtain⟨h1,h2,h3⟩:=Tq hap;have keep:∀(a:Act),nX P ops F oi v a wb->∀u,nX P ops F oi v (a.put oj.dst u) wb:=λa hy u =>
  hy.of_same (execOp_put oi hsi a oj.dst u h3) (wanted_put oi a oj.dst u h3)
 have keepD:∀d,nX P ops F oi v { a with defers:=d::a.defers } wb:=λd=>hy.of_same rfl rfl;unfold wpOp at *;simp only[hj]at *;rw[wanted_put oj a oi.dst v h1]at h;split
 ·rename_i hw;simp[hw]at h;rcases h with h | ⟨hasks,hlets⟩
  case inr=>exact .inr ⟨by unfold aHA at *;rw[execOp_put oj hsj a oi.dst v h1]at hasks;lia,hlets⟩
  unfold Bh at *;rw[execOp_put oj hsj a oi.dst v h1]at h;generalize (execOp a.eval oj).run P w=r at *;cases r with
  | ok n w' =>
   cases n <;> simp[LK]at h ⊢
   all_goals grind [HO,Y0]
  | halt x w' =>
   cases x <;> simp[LK]at h ⊢
   grind
 grind [HO]
theorem aBn(hD:LO ops listed){i j:Nat}(hn:aMK ops i=false)(hi:i∈gJ .any ops listed)(hj:j∈gJ .any ops listed):Td ops (listed.setIfInBounds i true) j=false:=by
 obtain⟨h0,oi,hoi,_⟩:=mem_ready.1 hi;obtain⟨_,oj,hoj,hallj⟩:=mem_ready.1 hj;have hilt:i<ops.size:=(kH.1 hoi).1;rw[bV];intro hb;simp[Td]at hb
 grind [uw,CE]
def qS(P:Program)(ops:Array Oper)(o:Oper)(v:Value)(a:Act):Prop :=
 (fJ o (yielded ops a.tmps)=true/\∀w,(execOp a.eval o).run P w = .ok (.value v) w)\/(fJ o (yielded ops a.tmps)=false/\v=undef)
theorem qS.of_same{a a':Act}(hy:qS P ops o v a)(he:execOp a'.eval o=execOp a.eval o)
  (hw:fJ o (yielded ops a'.tmps)=fJ o (yielded ops a.tmps)):qS P ops o v a':=by
 grind [qS]
theorem qS.wpOp{i:Nat}{o:Oper}{v:Value}{a:Act}{w:World}(hi:ops[i]? = some o)(hy:qS P ops o v a){K:Act->World->Prop}(h:K (a.put o.dst v) w):wpOp P ops Q i K a w:=by
 unfold Go.wpOp;simp[hi];rcases hy with ⟨hw,hv⟩ | ⟨hw,rfl⟩
 ·simp[hw];refine .inl ?_;unfold Bh;rw[hv w];exact h
 lia
theorem af{j:Nat}{oi oj:Oper}(hj:ops[j]? = some oj)(hap:oi.apart ops oj=true)
  (hsi:∀cs b,oi.op ≠ .select cs b) (hsj:∀cs b,oj.op ≠ .select cs b)
  (hQ:∀c a w,¬Q (.panic c) a w) {K:Act->World->Prop} {a:Act} {w:World}
  (hy:qS P ops oi v a) (h:wpOp P ops Q j K (a.put oi.dst v) w) :
  wpOp P ops Q j (λa' w'=>qS P ops oi v a'/\K (a'.put oi.dst v) w') a w:=by
 obtain⟨h1,h2,h3⟩:=Tq hap;have keep:∀(a:Act),qS P ops oi v a->∀u,qS P ops oi v (a.put oj.dst u):=λa hy u =>
  hy.of_same (execOp_put oi hsi a oj.dst u h3) (wanted_put oi a oj.dst u h3)
 have keepD:∀d,qS P ops oi v { a with defers:=d::a.defers }:=λd=>hy.of_same rfl rfl;unfold wpOp at *;simp only[hj]at *;rw[wanted_put oj a oi.dst v h1]at h;split
 ·rename_i hw;simp[hw]at h;rcases h with h | ⟨hasks,hlets⟩
  case inr=>exact .inr ⟨by unfold aHA at *;rw[execOp_put oj hsj a oi.dst v h1]at hasks;lia,hlets⟩
  unfold Bh at *;rw[execOp_put oj hsj a oi.dst v h1]at h;generalize (execOp a.eval oj).run P w=r at *;cases r with
  | ok n w' =>
   cases n <;> simp[LK]at h ⊢
   all_goals grind [HO,Y0]
  | halt x w' =>
   cases x <;> simp[LK]at h ⊢
   grind
 grind [HO]
theorem aFG{i j:Nat}(h:Td ops (listed.setIfInBounds i true) j=true):Td ops listed j=true:=by
 simp[Td]at h ⊢;intro k hk;have:=h k hk;by_cases hik:i=k
 all_goals simp_all
theorem nX.noMem{a:Act}{w:World}(ho:isT o.op=true)(h:nX P ops F o v a w):qS P ops o v a:=by
 refine h.imp (λ⟨h1,h2⟩=>⟨h1,λw2=>?_⟩) id;have:=h2 w (dI _ _);unfold oK at this;cases hop:o.op with
 | extract x k =>
  unfold execOp at this ⊢;simp[hop]at this ⊢;generalize a.eval x=y at this ⊢;cases y with
  | tuple vs =>
   unfold Instr.extract at this ⊢;simp at this ⊢;cases hv:vs[k]? with
   | none=>rw[hv]at this;exact False.elim this
   | some u =>
    rw[hv]at this;have h3:w=w/\u=v:=this;simp_all
  | _=>exact False.elim this
 | _=>rw[hop]at ho;cases ho
def Yv{i:Nat}{oi:Oper}(hi:ops[i]? = some oi)(hsel:∀(j:Nat) (o:Oper) cs b,ops[j]? = some o->o.op ≠ .select cs b)
  (hQ:∀c a w,¬Q (.panic c) a w) :
  ∀(fuel:Nat) (listed:Array Bool) (a:Act) (w:World),LO ops listed ->
   (∀j oj,ops[j]? = some oj->j≠i->listed.getD j true=false->(∀e∈oj.after,fQ .any e=true->e.on≠i)->oi.apart ops oj=true) ->
   i∈gJ .any ops listed->qS P ops oi v a ->
   qR P ops Q F fuel (listed.setIfInBounds i true) (a.put oi.dst v) w->qR P ops Q F (fuel+1) listed a w:=by
 intro fuel
 induction fuel with
 | zero =>
  intro listed a w hD _ hr hy H w1 k;refine⟨λh=>(by grind),λj hj=>?_⟩;by_cases hji:j=i
  ·subst hji;exact hy.wpOp hi ⟨.inr (dI _ _),H.up k⟩
  ·have:=ready_mono hj hji;rw[(H w1 k).1]at this
   grind
 | succ fuel ih =>
  intro listed a w hD hfree hr hy H w1 k;refine⟨λh=>(by grind),λj hj=>?_⟩;by_cases hji:j=i
  ·subst hji;exact hy.wpOp hi ⟨.inr (dI _ _),H.up k⟩
  ·have h1:=(H w1 k).2 j (ready_mono hj hji);obtain⟨hjun,oj,hoj,hall⟩:=mem_ready.1 hj;have hnot:∀e∈oj.after,fQ .any e=true->e.on≠i:=λe he hb heq=>by
    grind [mem_ready]
   have h2:=af hoj (hfree j oj hoj hji hjun hnot) (λcs b=>hsel i oi cs b hi) (λcs b=>hsel j oj cs b hoj) hQ hy h1;have hfree':∀k ok,ops[k]? = some ok->k≠i->(listed.setIfInBounds j true).getD k true=false ->
     (∀e∈ok.after,fQ .any e=true->e.on≠i)->oi.apart ops ok=true:=λk ok hk hki hun hno=>by
    refine hfree k ok hk hki ?_ hno;by_cases hjk:j=k
    all_goals simp_all
   refine wpOp_mono (λa' w' h3=>?_) h2;obtain⟨hy',hkk,H'⟩:=h3;refine⟨hkk.imp aFG id,ih (listed.setIfInBounds j true) a' w' (hD.set hj) hfree' (ready_mono hr (kQ hji)) hy' ?_⟩
   grind [vI]
def Oc{i:Nat}{oi:Oper}(hi:ops[i]? = some oi)(hsel:∀(j:Nat) (o:Oper) cs b,ops[j]? = some o->o.op ≠ .select cs b)
  (hQ:∀c a w,¬Q (.panic c) a w) :
  ∀(fuel:Nat) (listed:Array Bool) (a:Act) (w:World),LO ops listed ->
   (∀j oj,ops[j]? = some oj->j≠i->listed.getD j true=false->(∀e∈oj.after,fQ .any e=true->e.on≠i)->oi.apart ops oj=true) ->
   i∈gJ .any ops listed->nX P ops F oi v a w ->
   qR P ops Q F fuel (listed.setIfInBounds i true) (a.put oi.dst v) w->qR P ops Q F (fuel+1) listed a w:=by
 by_cases hti:isT oi.op=true
 case pos =>
  intro fuel listed a w hD hfree hr hy H;exact Yv hi hsel hQ fuel listed a w hD hfree hr (hy.noMem hti) H
 have hti:aMK ops i=false:=by unfold aMK;lia
 intro fuel
 induction fuel with
 | zero =>
  intro listed a w hD _ hr hy H w1 k;refine⟨λh=>(by grind),λj hj=>?_⟩;by_cases hji:j=i
  ·subst hji;exact(hy.up k.of_nil).wpOp hi λw' k'=>⟨.inr k'.of_nil,H.up (k.trans k')⟩
  ·have:=ready_mono hj hji;rw[(H w1 k).1]at this
   grind
 | succ fuel ih =>
  intro listed a w hD hfree hr hy H w1 k;refine⟨λh=>(by grind),λj hj=>?_⟩;by_cases hji:j=i
  ·subst hji;exact(hy.up k.of_nil).wpOp hi λw' k'=>⟨.inr k'.of_nil,H.up (k.trans k')⟩
  ·have h1:=(H w1 k).2 j (ready_mono hj hji);obtain⟨hjun,oj,hoj,hall⟩:=mem_ready.1 hj;have hnot:∀e∈oj.after,fQ .any e=true->e.on≠i:=λe he hb heq=>by
    grind [mem_ready]
   have hbar:=aBn hD hti hr hj;have h2:=aFF hoj (hfree j oj hoj hji hjun hnot) (λcs b=>hsel i oi cs b hi) (λcs b=>hsel j oj cs b hoj) hQ (hy.up k.of_nil) h1;have hfree':∀k ok,ops[k]? = some ok->k≠i->(listed.setIfInBounds j true).getD k true=false ->
     (∀e∈ok.after,fQ .any e=true->e.on≠i)->oi.apart ops ok=true:=λk ok hk hki hun hno=>by
    refine hfree k ok hk hki ?_ hno;by_cases hjk:j=k
    all_goals simp_all
   refine wpOp_mono (λa' w' h3=>?_) h2;obtain⟨hy',hkk,H'⟩:=h3;have hkk:dD F w1 w':=hkk.resolve_left (by lia);refine⟨.inr hkk,ih (listed.setIfInBounds j true) a' w' (hD.set hj) hfree' (ready_mono hr (kQ hji)) (hy'.up hkk) ?_⟩
   grind [vI]
theorem qR.mono{F F':Γ Nat}(hF:∀k∈F,k∈F'):∀ {fuel:Nat} {listed:Array Bool} {a:Act} {w:World},qR P ops Q F fuel listed a w->qR P ops Q F' fuel listed a w
 | 0,_,_,_,h=>h
 | fuel+1,_,_,_,h=>λw1 k=>⟨(h w1 k).1,λi hi=>wpOp_mono (λa' w' h'=>⟨h'.1.imp id λk'=>k'.mono hF,h'.2.mono hF⟩) ((h w1 k).2 i hi)⟩
end
section
variable {P:Program} {n:Nat} {K:fG} {G:Nat->Prop} {w0 w w':World} {a:Act} {E:gH} {L:bM} {V:Nat->Value} {own:Nat->Γ Nat}
def noMem:Op->Bool
 | .move _=>true
 | .assign _=>true
 | .nilCheck _=>true
 | _=>false
end
section
variable {P:Program} {ops:Array Oper} {Q:Exit->Act->World->Prop}
def fv{i:Nat}{oi:Oper}{v:Value}(hi:ops[i]? = some oi)(hsel:∀(j:Nat) (o:Oper) cs b,ops[j]? = some o->o.op ≠ .select cs b)
  (hQ:∀c a w,¬Q (.panic c) a w) :
  ∀(fuel:Nat) (listed:Array Bool) (a:Act) (w:World),LO ops listed ->
   (∀j oj,ops[j]? = some oj->j≠i->listed.getD j true=false->(∀e∈oj.after,fQ .any e=true->e.on≠i)->oi.apart ops oj=true) ->
   i∈gJ .any ops listed->qS P ops oi v a ->
   wpAny P .any ops Q fuel (listed.setIfInBounds i true) (a.put oi.dst v) w->wpAny P .any ops Q (fuel+1) listed a w:=by
 intro fuel
 induction fuel with
 | zero =>
  intro listed a w hD _ hr hy H;refine⟨λh=>(by grind),λj hj=>?_⟩;by_cases hji:j=i
  ·subst hji;exact hy.wpOp hi H
  ·have:=ready_mono hj hji;rw[H.1]at this
   grind
 | succ fuel ih =>
  intro listed a w hD hfree hr hy H;refine⟨λh=>(by grind),λj hj=>?_⟩;by_cases hji:j=i
  ·subst hji;exact hy.wpOp hi H
  ·have h1:=H.2 j (ready_mono hj hji);obtain⟨hjun,oj,hoj,hall⟩:=mem_ready.1 hj;have hnot:∀e∈oj.after,fQ .any e=true->e.on≠i:=λe he hb heq=>by
    grind [mem_ready]
   have h2:=af hoj (hfree j oj hoj hji hjun hnot) (λcs b=>hsel i oi cs b hi) (λcs b=>hsel j oj cs b hoj) hQ hy h1;have hfree':∀k ok,ops[k]? = some ok->k≠i->(listed.setIfInBounds j true).getD k true=false ->
     (∀e∈ok.after,fQ .any e=true->e.on≠i)->oi.apart ops ok=true:=λk ok hk hki hun hno=>by
    refine hfree k ok hk hki ?_ hno;by_cases hjk:j=k
    all_goals simp_all
   refine wpOp_mono (λa' w' h3=>?_) h2;obtain⟨hy',H'⟩:=h3;refine ih (listed.setIfInBounds j true) a' w' (hD.set hj) hfree' (ready_mono hr (kQ hji)) hy' ?_
   grind [vI]
end
def VF(tab:Γ TI)(wr:Bool)(n:Nat)(all:Γ Oper)(S:St)(o:Oper):Option St :=
 match I4 all S o.guard with
 | none=>none
 | some (false,S)=>Tc n S S.E S.L [] o.dst (.a (.val undef))
 | some (true,S)=>match o.op with
  | .pick (.tmp c) x y=>match B7 S c with
   | some (d,S)=>Tc n S S.E S.L [] o.dst (cond d (opnd S.E x) (opnd S.E y))
   | none=>none
  | op=>match fb op with
   | true=>none
   | false=>match aF4 tab wr S.E S.L op with
    | some (cs,pv)=>Tc n S S.E S.L cs o.dst pv
    | none=>none
def keepE(E:gH):Γ Nat->gH
 | []=>[]
 | i::r=>(i,E.get i)::keepE E r
theorem ag(E:gH):∀(ks:Γ Nat) (i:Nat),(keepE E ks).get i=if zN i ks=true then E.get i else .a .junk
 | [],i=>rfl
 | j::r,i=>by
  simp only[keepE,pI,zN];cases h:cE j i with
  | true =>
   simp_all
  | false =>
   have:cE i j=false:=zI (λe=>by subst e;simp at h);simp[this,ag E r i]
section
variable {P:Program} {n:Nat} {q:Nat->Value} {K:fG} {G:Nat->Prop} {w0 w:World} {a:Act} {V:Nat->Value} {own:Nat->Γ Nat} {f:FuncId} {R:Ending->World->Prop} {E:gH} {L:bM}
theorem bQ.keepE(hR:bQ n K w0 G w a E L V own)(ks:Γ Nat):bQ n K w0 G w a (Am.keepE E ks) L V own :=
 ⟨hR.glob,hR.kept,hR.size,hR.defers,hR.glt,hR.gref,hR.gsub,hR.gold,hR.gup,hR.heap,hR.good,hR.nodup,hR.apart,hR.boxs,hR.small,λi=>by
  rw[ag];split
  ·exact hR.env i
  ·trivial⟩
def VG(r:Nat):Γ Nat->Nat
 | []=>0
 | x::l=>cond (cE x r) 0 (VG r l+1)
def I5:Γ Nat->Nat->Nat
 | [],_=>0
 | x::_,0=>x
 | _::l,n+1=>I5 l n
def aFH(rs:Γ Nat):gB->gB
 | .osl r rg => .osl (VG r rs) rg
 | l=>l
def aIk(rs:Γ Nat):c7->c7
 | .osl r rg => .osl (VG r rs) rg
 | .optr r i p => .optr (VG r rs) i p
 | .rcd t ls => .rcd t (ls.map (aFH rs))
 | .bptr r o t => .bptr (VG r rs) o t
 | A=>A
def CJ(rs:Γ Nat)(A:iE):iE:=match A.ls with
 | some ls=>⟨A.t,A.xs,A.bor,some (ls.map (aFH rs)),A.sm⟩
 | none=>A
def aZW(rs:Γ Nat):PV->PV
 | .a A => .a (aIk rs A)
 | .tup xs => .tup (xs.map (aIk rs))
 | .fn f xs => .fn f (xs.map (aIk rs))
def aIl(rs:Γ Nat)(E:gH):gH:=E.map λq=>(q.1,aZW rs q.2)
def Od(rs:Γ Nat)(L:bM):bM:=rs.map λr=>match bZ L r with | some A=>some (CJ rs A) | none=>none
def ah(rs:Γ Nat):Γ Nat->Bool
 | []=>true
 | r::s=>zN r rs&&ah rs s
def ai(rs:Γ Nat):gH->Bool
 | []=>true
 | (_,p)::r=>ah rs (IS p)&&ai rs r
def Qj(rs:Γ Nat)(L:bM):Γ Nat->Bool
 | []=>true
 | r::s=>(match bZ L r with
  | some A=>match A.ls with
   | some ls=>ah rs (jC ls)
   | none=>true
  | none=>true)&&Qj rs L s
theorem I6(rs0:Γ Nat):∀(rs:Γ Nat) (L:bM) (s:Nat) {A:iE},bZ (rs.map λr=>match bZ L r with | some A=>some (CJ rs0 A) | none=>none) s=some A->s<rs.length/\∃B,bZ L (I5 rs s)=some B/\A=CJ rs0 B
 | [],L,s,A,h=>by cases s <;> cases h
 | r::rs,L,0,A,h=>by
  simp[bZ]at h;cases hB:bZ L r with
  | none=>lia
  | some B=>rw[hB]at h;cases h;exact⟨by simp,B,hB,rfl⟩
 | r::rs,L,s+1,A,h=>by
  obtain⟨h1,h2⟩:=I6 rs0 rs L s h;exact⟨by grind,h2⟩
def vV(rs:Γ Nat)(L:bM)(s:Nat){A:iE}(h:bZ (Od rs L) s=some A):s<rs.length/\∃B,bZ L (I5 rs s)=some B/\A=CJ rs B:=I6 rs rs L s h
theorem Oe(rs0:Γ Nat):∀(rs:Γ Nat) (L:bM) (r:Nat),zN r rs=true->bZ (rs.map λr=>match bZ L r with | some A=>some (CJ rs0 A) | none=>none) (VG r rs)=(bZ L r).map (CJ rs0)/\I5 rs (VG r rs)=r
 | [],L,r,h=>by cases h
 | x::rs,L,r,h=>by
  simp only[zN]at h;simp[VG];cases hb:cE x r with
  | true =>
   obtain rfl:=aZ hb;refine⟨?_,rfl⟩;simp[bZ]
   grind
  | false =>
   have:zN r rs=true:=by
    grind [aZ]
   exact Oe rs0 rs L r this
def VH(rs:Γ Nat)(L:bM)(r:Nat)(h:zN r rs=true):bZ (Od rs L) (VG r rs)=(bZ L r).map (CJ rs)/\I5 rs (VG r rs)=r:=Oe rs rs L r h
theorem fw(rs:Γ Nat)(A:iE):(CJ rs A).t=A.t:=by grind [CJ]
theorem aML(rs:Γ Nat)(A:iE):(CJ rs A).sm=A.sm:=by grind [CJ]
theorem aIm(rs:Γ Nat)(A:iE):(CJ rs A).bor=A.bor:=by grind [CJ]
theorem ux(rs:Γ Nat)(A:iE):(CJ rs A).xs.length=A.xs.length:=by grind [CJ]
theorem uy{w0 w:World}{G:Nat->Prop}{rs:Γ Nat}{A:iE}{v:Value}{bs:Γ Nat}:iI w0 G w (CJ rs A) v bs↔iI w0 G w A v bs:=by
 unfold CJ;split
 all_goals rfl
theorem aDA{rs:Γ Nat}{A:iE}:(∀ls,A.ls=some ls->(CJ rs A).ls=some (ls.map (aFH rs)))/\∀ls',(CJ rs A).ls=some ls'->∃ls,A.ls=some ls/\ls'=ls.map (aFH rs):=by
 unfold CJ
 grind
theorem Su{rs:Γ Nat}{L:bM}:∀ {l:Γ Nat},Qj rs L l=true->∀r∈l,∀A ls,bZ L r=some A->A.ls=some ls->ah rs (jC ls)=true
 | [],_,r,hr,_,_,_,_=>by grind
 | x::l,h,r,hr,A,ls,hA,hls=>by
  simp[Qj]at h;rcases bA.1 hr with rfl | hr
  ·have:=h.1;rw[hA]at this;simp[hls]at this;exact this
  ·exact Su h.2 r hr A ls hA hls
theorem VI:∀(rs:Γ Nat) (s:Nat),s<rs.length->I5 rs s∈rs
 | [],s,h=>by grind
 | x::rs,0,_=>by simp[I5]
 | x::rs,s+1,h=>aM _ (VI rs s (by grind))
theorem uz:∀(rs:Γ Nat),CD rs=true->∀s u,s<rs.length->u<rs.length->I5 rs s=I5 rs u->s=u
 | [],_,s,u,h,_,_=>by grind
 | x::rs,hn,s,u,h1,h2,he=>by
  simp[CD]at hn;have hx:∀s,s<rs.length->I5 rs s≠x:=λs hs e=>by
   grind [VI,CE]
  cases s with
  | zero =>
   cases u with
   | zero=>rfl
   | succ u=>exact absurd he.symm (hx u (by grind))
  | succ s =>
   cases u with
   | zero=>exact absurd he (hx s (by grind))
   | succ u=>rw[uz rs hn.2 s u (by grind) (by grind) he]
theorem MM{rs:Γ Nat}:∀ {l:Γ Nat},ah rs l=true->∀r∈l,zN r rs=true
 | [],_,r,h=>by grind
 | a::s,h,r,hr=>by
  simp[ah]at h;rcases bA.1 hr with rfl | hr
  ·exact h.1
  ·exact MM h.2 r hr
theorem VJ{rs:Γ Nat}:∀ {E:gH},ai rs E=true->∀i,∀r∈IS (E.get i),zN r rs=true
 | [],_,i,r,h=>by grind [pI,IS,vA]
 | (j,p)::E,h,i,r,hr=>by
  simp[ai]at h;simp[pI]at hr;cases hj:cE j i with
  | true=>rw[hj]at hr;exact MM h.1 r hr
  | false=>rw[hj]at hr;exact VJ h.2 i r hr
theorem va(rs:Γ Nat):∀(E:gH) (i:Nat),(aIl rs E).get i=aZW rs (E.get i)
 | [],i=>rfl
 | (j,p)::s,i=>by
  simp[aIl,pI];cases h:cE j i with
  | true=>rfl
  | false=>exact va rs s i
theorem vc{rs:Γ Nat}{r:Nat}{rg:Option (Nat×Nat)}{v:Value}(h:QW L V r rg v)(hm:zN r rs=true):QW (Od rs L) (λs=>V (I5 rs s)) (VG r rs) rg v:=by
 obtain⟨B,hB,h1,h2⟩:=h;obtain⟨e1,e2⟩:=VH rs L r hm;refine⟨CJ rs B,by grind,λhr=>by lia,?_⟩
 grind [ux,fw]
theorem Qk{w0:World}{G:Nat->Prop}{rs:Γ Nat}:∀ {ls:Γ gB} {cs:Γ Value},iG w0 G L V ls cs->(∀r∈jC ls,zN r rs=true)->iG w0 G (Od rs L) (λs=>V (I5 rs s)) (ls.map (aFH rs)) cs
 | [],_,h,_=>h
 | l::ls,_,⟨v,s,h,h1,h2⟩,hm=>by
  refine⟨v,s,h,?_,Qk h2 λr hr=>hm r (by grind [jC])⟩;cases l with
  | osl r rg=>exact vc h1 (hm r (by simp[jC,MD]))
  | _=>exact h1
theorem vd{w0:World}{G:Nat->Prop}{rs:Γ Nat}{A:c7}{v:Value}(h:nE w0 G L V A v)(hm:∀r∈vA A,zN r rs=true):nE w0 G (Od rs L) (λs=>V (I5 rs s)) (aIk rs A) v:=by
 cases A with
 | osl r rg=>exact vc h (hm r (by simp[vA]))
 | optr r i p =>
  obtain⟨B,hB,h2⟩:=h;obtain⟨e1,e2⟩:=VH rs L r (hm r (by simp[vA]));refine⟨CJ rs B,by grind,?_⟩
  grind [ux,fw]
 | rcd t ls =>
  obtain⟨cs,h1,h2,h3⟩:=h;exact⟨cs,h1,by grind,Qk h3 hm⟩
 | bptr r o t =>
  obtain⟨B,ls,b,off,hB,h1,h2,h3,h4⟩:=h;obtain⟨e1,e2⟩:=VH rs L r (hm r (by simp[vA]));refine⟨CJ rs B,ls.map (aFH rs),b,off,by grind,aDA.1 ls h1,?_,h3,by grind [fw]⟩
  lia
 | _=>exact h
theorem Ql{w0:World}{G:Nat->Prop}{rs:Γ Nat}:∀ {ats:Γ c7} {vs:Γ Value},uS w0 G L V ats vs->(∀r∈ats.flatMap vA,zN r rs=true)->uS w0 G (Od rs L) (λs=>V (I5 rs s)) (ats.map (aIk rs)) vs
 | [],_,h,_=>h
 | A::s,vs,⟨v,r,h,h1,h2⟩,ha=>⟨v,r,h,vd h1 (λr hr=>ha r (by grind)),Ql h2 (λr hr=>ha r (by grind))⟩
theorem bQ.renum(hR:bQ n K w0 G w a E L V own){rs:Γ Nat}(hn:CD rs=true)(h:ai rs E=true)(hh:Qj rs L rs=true):bQ n K w0 G w a (aIl rs E) (Od rs L) (λs=>V (I5 rs s)) (λs=>own (I5 rs s)) where
 glob:=hR.glob
 kept:=hR.kept
 size:=hR.size
 defers:=hR.defers
 glt:=hR.glt
 gref:=hR.gref
 gsub:=hR.gsub
 gold:=hR.gold
 gup:=hR.gup
 heap:=λr A hr=>by
  obtain⟨_,B,hB,rfl⟩:=vV rs L r hr;exact uy.2 (hR.heap _ B hB)
 good:=λr A hr=>by
  obtain⟨_,B,hB,rfl⟩:=vV rs L r hr;exact hR.good _ B hB
 nodup:=λr A hr=>by
  obtain⟨_,B,hB,rfl⟩:=vV rs L r hr;exact hR.nodup _ B hB
 apart:=λr s A B hr hs hrs=>by
  obtain⟨l1,A',g1,rfl⟩:=vV rs L r hr;obtain⟨l2,B',g2,rfl⟩:=vV rs L s hs;exact hR.apart _ _ A' B' g1 g2 λe=>hrs (uz rs hn r s l1 l2 e)
 boxs:=λr A ls hr hls=>by
  obtain⟨l1,B,hB,rfl⟩:=vV rs L r hr;obtain⟨l0,h0,rfl⟩:=aDA.2 ls hls;obtain⟨b,off,cs,k1,k3,k4,k5,k6⟩:=hR.boxs _ B l0 hB h0;rw[fw];exact⟨b,off,cs,k1,k3,by grind,k5,Qk k6 λu hu=>MM (Su hh _ (VI rs r l1) B l0 hB h0) u hu⟩
 small:=λr A q hr hq=>by
  obtain⟨_,B,hB,rfl⟩:=vV rs L r hr;rw[aML]at hq;obtain⟨g1,g2⟩:=hR.small _ B q hB hq
  grind [aIm,uy]
 env:=λi=>by
  rw[va];have hi:=hR.env i;have hm:=VJ h i;generalize E.get i=p at hi hm;cases p with
  | a A=>exact vd hi hm
  | tup xs=>obtain⟨vs,hv,hr⟩:=hi;exact⟨vs,hv,Ql hr hm⟩
  | fn f xs=>obtain⟨vs,hv,hr⟩:=hi;exact⟨vs,hv,Ql hr hm⟩
end
section
variable {P:Program} {n:Nat} {q:Nat->Value} {K:fG} {G:Nat->Prop} {w0 w:World} {a:Act} {V:Nat->Value} {own:Nat->Γ Nat}
theorem aFI{tm:Array Value}{t:Nat}{v:Value}(h:tm.getD t undef=v)(hv:v≠undef):tm[t]? = some v:=by
 rw[iD]at h
 grind
variable {ops:Array Oper} {j:Nat} {o:Oper} {d:Bool}
theorem aBo{t:Nat}(ho:ops[j]? = some o)(hd:o.dst=some t)(ht:a.tmps.getD t undef = .bool d):yielded ops a.tmps j=some d:=by
 unfold yielded;have:=aFI ht (by intro h;cases h)
 grind
theorem aBp{t:Nat}{x:Array Value}(ho:ops[j]? = some o)(hd:o.dst=some t)(ht:a.tmps.getD t undef = .tuple x):yielded ops a.tmps j=none:=by
 unfold yielded;rw[iD]at ht
 grind
theorem nD{S S':St}{b:Bool}(hR:bQ n K w0 G w a S.E S.L V own)(hd:jV q a S)(h:I4 ops.toList S o.guard=some (b,S'))(hc:gZ S'.cs) :
  fJ o (yielded ops a.tmps)=b/\S'.E=S.E/\S'.L=S.L/\jV q a S'/\gZ S.cs:=by
 unfold I4 at h;split at h
 ·cases h;exact⟨by grind [fJ],rfl,rfl,hd,hc⟩
 ·rename_i j want hg;split at h
  ·rename_i p hp;rw[Fv]at hp;have hp':ops[j]? = some p:=by grind
   split at h
   ·rename_i t ht;split at h
    ·rename_i x hx;cases h;have hv:=hR.valEq (x := .tmp t) (v := .tuple x) (by grind [opnd]);refine⟨?_,rfl,rfl,hd,hc⟩;simp[fJ,hg,aBp hp' ht hv.1]
    ·split at h
     ·rename_i d S1 hdec;cases h;obtain⟨h1,h2,h3,h4,h5⟩:=uF hR hd hdec hc;refine⟨?_,h2,h3,h4,h5⟩;simp[fJ,hg,aBo hp' ht h1];cases d <;> cases want <;> rfl
     lia
   lia
  lia
theorem rS{S S':St}{E:gH}{L:bM}{cs:Γ Prop}{d:Option Nat}{pv:PV}{v:Value}{w':World}{V':Nat->Value}{own':Nat->Γ Nat}
  (h:Tc n S E L cs d pv=some S') (hR:bQ n K w0 G w' a E L V' own') (hd:jV q a S) (hv:mK w0 G L V' pv v) :
  bQ n K w0 G w' (a.put d v) S'.E S'.L V' own'/\jV q (a.put d v) S'/\S'.cs=S.cs++cs:=by
 cases d with
 | none =>
  cases h;exact⟨hR,hd,rfl⟩
 | some d =>
  simp[Tc]at h;split at h
  ·rename_i hlt;cases h;simp only[aT]at hlt;exact⟨hR.put (nZ hlt.1) hv,hd.put d v (λhm=>by grind [CE]) rfl rfl,rfl⟩
  lia
theorem jS{S S':St}{E:gH}{L:bM}{cs:Γ Prop}{d:Option Nat}{pv:PV}(h:Tc n S E L cs d pv=some S'):S'.cs=S.cs++cs:=by
 cases d with
 | none=>cases h;rfl
 | some d =>
  grind [Tc]
theorem qT{S S':St}{t:Nat}(h:B7 S t=some (d,S'))(hc:gZ S'.cs):gZ S.cs:=by
 grind [B7,dP]
theorem Bw{all:Γ Oper}{S S':St}{g:Option (Nat×Bool)}{b:Bool}(h:I4 all S g=some (b,S'))(hc:gZ S'.cs):gZ S.cs:=by
 unfold I4 at h;split at h
 all_goals grind [qT]
theorem xT{tab:Γ TI}{ext:Aw}{wr q:Bool}{all:Γ Oper}{S S':St}(h:y8 tab ext wr n q all S o=some S')(hc:gZ S'.cs):gZ S.cs:=by
 unfold y8 at h;split at h
 ·lia
 ·have:=jS h
  grind [Bw]
 ·rename_i S1 hg;refine Bw hg ?_;split at h
  ·split at h
   ·have:=jS h
    grind [qT]
   lia
  ·split at h
   ·split at h
    ·have:=jS h
     grind [dP]
    lia
   ·split at h
    ·have:=jS h
     grind [dP]
    lia
theorem Qm{tab:Γ TI}{ext:Aw}{wr q:Bool}{all:Γ Oper}:∀ {l:Γ Oper} {S S':St} (h:Qh tab ext wr n q all l S=some S') (hc:gZ S'.cs),gZ S.cs
 | [],S,S',h,hc=>by cases h;lia
 | o::r,S,S',h,hc=>by
  simp[Qh]at h;split at h
  ·rename_i S1 h1;exact xT h1 (Qm h hc)
  ·cases h
theorem VK{ρ:Operand->Value}{c x y:Operand}(ho:o.op = .pick c x y)(hc:ρ c = .bool d)(w:World):(execOp ρ o).run P w = .ok (.value (if d then ρ x else ρ y)) w:=by
 simp[execOp,ho,hc];rfl
theorem ve{L:bM}{p q:PV}{u v:Value}(hp:mK w0 G L V p u)(hq:mK w0 G L V q v):mK w0 G L V (cond d p q) (if d then u else v):=by
 lia
variable {wr:Bool}
theorem VL{tab:Γ TI}{ext:Aw}(hT:kW P tab)(hX:rM P ext){S S':St}(hR:bQ n K w0 G w a S.E S.L V own)(hd:jV q a S)
  (h:y8 tab ext wr n false ops.toList S o=some S') (hc:gZ S'.cs) {Kt:Act->World->Prop} {Q:Exit->Act->World->Prop}
  (hK:∀a' w0' G' w' V' own',bQ n K w0' G' w' a' S'.E S'.L V' own'->jV q a' S'->Kt a' w') :
  if fJ o (yielded ops a.tmps)then o.wp P a w Kt Q else Kt (a.put o.dst undef) w:=by
 unfold y8 at h;split at h
 ·lia
 ·rename_i S1 hg;have hcs:=jS h;rw[hcs]at hc;obtain⟨h1,h2,h3,h4,h5⟩:=nD hR hd hg (dP.1 hc).1;have hR1:bQ n K w0 G w a S1.E S1.L V own:=by lia
  obtain⟨g1,g2,_⟩:=rS (v:=undef) h hR1 h4 ⟨rfl,trivial⟩
  grind
 ·rename_i S1 hg;have hc1:gZ S1.cs:=by
   split at h
   ·split at h
    ·have hcs:=jS h
     grind [qT]
    lia
   ·dsimp only at h
    split at h
    ·have hcs:=jS h
     grind [dP]
    lia
  obtain⟨h1,h2,h3,h4,h5⟩:=nD hR hd hg hc1;rw[h1];have hR1:bQ n K w0 G w a S1.E S1.L V own:=by lia
  split at h
  ·rename_i c x y ho;split at h
   ·rename_i d S2 hdec;have hcs:=jS h;rw[hcs]at hc;obtain⟨k1,k2,k3,k4,k5⟩:=uF hR1 h4 hdec (dP.1 hc).1;have hR2:bQ n K w0 G w a S2.E S2.L V own:=by lia
    obtain⟨g1,g2,_⟩:=rS h hR2 k4 (ve (d:=d) (hR2.opnd x) (hR2.opnd y));exact kI (w':=w) (VK ho k1 w) (hK _ _ _ _ _ _ g1 g2)
   lia
  ·dsimp only at h
   split at h
   ·rename_i cs pv E L hop;have hcs:=jS h;rw[hcs]at hc;refine aFE hT hX hR1 hop (dP.1 hc).2 λv w0' G' w' V' own' hR' hv=>?_;obtain⟨g1,g2,_⟩:=rS h hR' h4 hv
    grind
   lia
theorem aj{tab:Γ TI}{ext:Aw}(hT:kW P tab)(hX:rM P ext){wr:Bool}{ops:Array Oper}{Q:Exit->Act->World->Prop}:∀ {w0:World} {G:Nat->Prop} {l:Γ Oper} {S S':St} {a:Act} {w:World} {V:Nat->Value} {own:Nat->Γ Nat} (hR:bQ n K w0 G w a S.E S.L V own) (hd:jV q a S)
  (h:Qh tab ext wr n false ops.toList l S=some S') (hc:gZ S'.cs) (hK:∀a' w0' G' w' V' own',bQ n K w0' G' w' a' S'.E S'.L V' own'->jV q a' S'->Q .normal a' w'),wpList P ops Q l a w
 | w0,G,[],S,S',a,w,V,own,hR,hd,h,hc,hK=>by
  cases h;exact hK _ _ _ _ _ _ hR hd
 | w0,G,o::r,S,S',a,w,V,own,hR,hd,h,hc,hK=>by
  simp[Qh]at h;split at h
  ·rename_i S1 h1;refine wpList_step λK hKK=>?_;exact VL hT hX hR hd h1 (Qm h hc) λa' w0' G' w' V' own' hR' hd'=>hKK _ _ (aj hT hX hR' hd' h hc hK)
  ·cases h
theorem I7{tab:Γ TI}{ext:Aw}(hT:kW P tab)(hX:rM P ext){S S':St}(hR:bQ n K w0 G w a S.E S.L V own)(hd:jV q a S)
  (h:y8 tab ext wr n true ops.toList S o=some S') (hc:gZ S'.cs) :
  ∃v,nX P ops [] o v a w/\bQ n K w0 G w (a.put o.dst v) S'.E S'.L V own/\jV q (a.put o.dst v) S':=by
 unfold y8 at h;split at h
 ·lia
 ·rename_i S1 hg;have hcs:=jS h;rw[hcs]at hc;obtain⟨h1,h2,h3,h4,h5⟩:=nD hR hd hg (dP.1 hc).1;have hR1:bQ n K w0 G w a S1.E S1.L V own:=by lia
  obtain⟨g1,g2,_⟩:=rS (v:=undef) h hR1 h4 ⟨rfl,trivial⟩;exact⟨undef,.inr ⟨h1,rfl⟩,g1,g2⟩
 ·rename_i S1 hg;have hc1:gZ S1.cs:=by
   split at h
   ·split at h
    ·have hcs:=jS h
     grind [qT]
    lia
   ·dsimp only at h
    split at h
    ·have hcs:=jS h
     grind [dP]
    lia
  obtain⟨h1,h2,h3,h4,h5⟩:=nD hR hd hg hc1;have hR1:bQ n K w0 G w a S1.E S1.L V own:=by lia
  split at h
  ·rename_i c x y ho;split at h
   ·rename_i d S2 hdec;have hcs:=jS h;rw[hcs]at hc;obtain⟨k1,k2,k3,k4,k5⟩:=uF hR1 h4 hdec (dP.1 hc).1;have hR2:bQ n K w0 G w a S2.E S2.L V own:=by lia
    obtain⟨g1,g2,_⟩:=rS h hR2 k4 (ve (d:=d) (hR2.opnd x) (hR2.opnd y));refine⟨_,.inl ⟨h1,λw' k=>?_⟩,g1,g2⟩;unfold oK;rw[VK ho k1 w'];exact⟨rfl,rfl⟩
   lia
  ·dsimp only at h
   split at h
   ·rename_i cs pv hop;have hcs:=jS h;rw[hcs]at hc;obtain⟨v,hv,hq⟩:=uq hT hX hR1 hop (dP.1 hc).2;obtain⟨g1,g2,_⟩:=rS h hR1 h4 hv;exact⟨v,.inl ⟨h1,hq⟩,g1,g2⟩
   lia
def vf(all:Γ Oper)(S:St)(o:Oper):Option St :=
 match I4 all S o.guard with
 | none=>none
 | some (false,S)=>some S
 | some (true,S)=>match o.op with
  | .pick (.tmp c) _ _=>match B7 S c with
   | some (_,S)=>some S
   | none=>none
  | _=>some S
def VM(all:Γ Oper):Γ Nat->St->Option St
 | [],S=>some S
 | i::r,S=>match Tb all i with
  | some o=>match vf all S o with
   | some S=>VM all r S
   | none=>none
  | none=>none
def Qn(tab:Γ TI)(ext:Aw)(wr:Bool)(n:Nat)(ops:Array Oper)(listed:Array Bool)(S:St):Γ Nat->Option (Nat×St)
 | []=>none
 | i::r=>match Tb ops.toList i,Ar .any ops listed i with
  | some o,true=>match y8 tab ext wr n true ops.toList S o with
   | some S'=>some (i,S')
   | none=>Qn tab ext wr n ops listed S r
  | _,_=>Qn tab ext wr n ops listed S r
def ak(tab:Γ TI)(ext:Aw)(n:Nat)(all:Γ Oper)(S:St)(o:Oper):Option St :=
 match I4 all S o.guard with
 | some (true,S)=>match opK tab ext S.E S.L o.op with
  | some (cs,pv,L)=>Tc n S S.E L cs o.dst pv
  | none=>none
 | _=>none
def aSi(S:St)(op:Op):St:=⟨S.path,S.dec,(Ss op (S.E,S.L)).1,(Ss op (S.E,S.L)).2,S.cs,S.pins⟩
def Sv(tab:Γ TI)(ext:Aw)(wr:Bool)(n:Nat)(ops:Array Oper)(listed:Array Bool)(i:Nat)(S:St)(o:Oper):Option St :=
 match ak tab ext n ops.toList S o with
 | some S'=>some S'
 | none=>match Td ops listed i with
  | true=>y8 tab ext wr n false ops.toList S o
  | false=>match y8 tab ext wr n true ops.toList (aSi S o.op) o with
   | some S'=>some S'
   | none=>ak tab ext n ops.toList (aSi S o.op) o
def DU(E:gH)(L:bM)(E':gH)(L':bM):Prop:=(E,L)=(E',L')
def Do(E:gH):Nat->gH->gH
 | 0,acc=>acc
 | k+1,acc=>Do E k (match E.get k with
  | .a .junk=>acc
  | p=>(k,p)::acc)
def aPR(n:Nat)(A B:St):St:=⟨A.path,[],Do A.E n [],A.L,A.cs++(B.cs++[DU (Do A.E n []) A.L (Do B.E n []) B.L]),A.pins⟩
theorem Qo(E:gH)(i:Nat):∀(k:Nat) (acc:gH),k<=i->(Do E k acc).get i=acc.get i
 | 0,acc,_=>rfl
 | k+1,acc,h=>by
  unfold Do;rw[Qo E i k _ (by lia)];split
  ·rfl
  ·show cond (cE k i) (E.get k) (pI acc i)=pI acc i
   grind [aZ]
theorem vg(E:gH)(i:Nat):∀(k:Nat) (acc:gH),i<k->(Do E k acc).get i=E.get i\/(E.get i = .a .junk/\(Do E k acc).get i=acc.get i)
 | 0,acc,h=>absurd h (Nat.not_lt_zero _)
 | k+1,acc,h=>by
  unfold Do;by_cases hk:i<k
  ·rcases vg E i k (match E.get k with
    | .a .junk=>acc
    | p=>(k,p)::acc) hk with h1 | ⟨h1,h2⟩
   ·lia
   ·refine .inr ⟨h1,h2.trans ?_⟩;split
    ·rfl
    ·show cond (cE k i) (E.get k) (pI acc i)=pI acc i
     grind [aZ]
  ·have hik:i=k:=by lia
   subst hik;rw[Qo E i i _ (aU _)];split
   ·lia
   simp[pI]
theorem bQ.tab{n:Nat}{K:fG}{G:Nat->Prop}{w0 w:World}{a:Act}{E:gH}{L:bM}{V:Nat->Value}{own:Nat->Γ Nat}(h:bQ n K w0 G w a E L V own):bQ n K w0 G w a (Do E n []) L V own:=by
 have he:∀i,mK w0 G L V ((Do E n []).get i) (a.tmps.getD i undef):=λi=>by
  by_cases hi:i<n
  ·rcases vg E i n [] hi with e | ⟨e1,e2⟩
   ·rw[e];exact h.env i
   ·have:=h.env i;rw[e1]at this;rw[e2];exact this
  ·rw[Qo E i n [] (by lia)];exact trivial
 exact { h with env:=he }
def aDB:PV->Option Nat
 | .a (.osl r _)=>some r
 | .a (.optr r _ _)=>some r
 | .a (.bptr r _ _)=>some r
 | _=>none
def aBq(A B:gH):Nat->Bool
 | 0=>false
 | k+1=>match aDB (A.get k),aDB (B.get k)with
  | some r,some s=>match cE r s with
   | true=>aBq A B k
   | false=>true
  | _,_=>aBq A B k
def swL(m:Nat):Nat->Γ Nat->Γ Nat
 | 0,acc=>acc
 | k+1,acc=>swL m k ((match cE k m with
  | true=>m+1
  | false=>match cE k (m+1)with
   | true=>m
   | false=>k)::acc)
def idL:Nat->Γ Nat->Γ Nat
 | 0,acc=>acc
 | k+1,acc=>idL k (k::acc)
def aMM(A B:gH):Nat->Γ Nat->Γ Nat
 | 0,acc=>acc
 | k+1,acc=>match aDB (A.get k),aDB (B.get k)with
  | some r,some s=>aMM A B k (acc.set r s)
  | _,_=>aMM A B k acc
def rsL(n m:Nat)(A B:gH)(len:Nat):Γ Nat:=match CD (aMM A B n (idL len []))with
 | true=>aMM A B n (idL len [])
 | false=>swL m len []
def aDC(n m:Nat)(A B:St):Option St:=match aBq A.E B.E n with
 | false=>some B
 | true=>match CD (rsL n m A.E B.E B.L.length)&&(ai (rsL n m A.E B.E B.L.length) B.E&&Qj (rsL n m A.E B.E B.L.length) B.L (rsL n m A.E B.E B.L.length))with
  | true=>some ⟨B.path,B.dec,aIl (rsL n m A.E B.E B.L.length) B.E,Od (rsL n m A.E B.E B.L.length) B.L,B.cs,B.pins⟩
  | false=>none
theorem VN{n m:Nat}{A B B':St}(h:aDC n m A B=some B'):B'.cs=B.cs/\B'.pins=B.pins/\∀ {k:Nat} {K:fG} {G:Nat->Prop} {w0 w:World} {a:Act} {V:Nat->Value} {own:Nat->Γ Nat},bQ k K w0 G w a B.E B.L V own->∃V' own',bQ k K w0 G w a B'.E B'.L V' own':=by
 unfold aDC at h;split at h
 ·grind
 ·split at h
  ·rename_i hc;simp at hc;cases h;exact⟨rfl,rfl,λhr=>⟨_,_,hr.renum hc.1 hc.2.1 hc.2.2⟩⟩
  lia
def aIn:Γ Nat->Γ Nat->Bool
 | [],[]=>true
 | a::r,b::s=>match cE a b with
  | true=>aIn r s
  | false=>false
 | _,_=>false
theorem Qp:∀ {l m:Γ Nat},aIn l m=true->l=m
 | [],[],_=>rfl
 | [],_::_,h=>by cases h
 | _::_,[],h=>by cases h
 | a::r,b::s,h=>by
  unfold aIn at h;split at h
  ·rename_i e;rw[aZ e,Qp h]
  ·cases h
def CK(tab:Γ TI)(ext:Aw)(wr:Bool)(n:Nat)(ops:Array Oper):Nat->Array Bool->St->Option St
 | 0,listed,S=>match gJ .any ops listed with
  | []=>some S
  | _=>none
 | m+1,listed,S=>match gJ .any ops listed with
  | []=>some S
  | i::r=>match VM ops.toList (i::r) S with
   | none=>none
   | some S=>match Qn tab ext wr n ops listed S (i::r)with
    | some (j,S')=>CK tab ext wr n ops m (listed.setIfInBounds j true) S'
    | none=>match r,Tb ops.toList i with
     | [],some o=>match Sv tab ext wr n ops listed i S o with
      | some S'=>CK tab ext wr n ops m (listed.setIfInBounds i true) S'
      | none=>none
     | [j],some o=>match Tb ops.toList j with
      | some p=>match Sv tab ext wr n ops listed i S o,Sv tab ext wr n ops listed j ⟨S.path,S.dec,S.E,S.L,[],S.pins⟩ p with
       | some S1,some S2=>match CK tab ext wr n ops m (listed.setIfInBounds i true) S1,CK tab ext wr n ops m (listed.setIfInBounds j true) S2 with
        | some A,some B=>match aDC n S.L.length A B with
         | some B'=>match aIn A.pins B'.pins with
          | true=>some (aPR n A B')
          | false=>none
         | none=>none
        | _,_=>none
       | _,_=>none
      | none=>none
     | _,_=>none
theorem aIo{all:Γ Oper}{S S':St}(h:vf all S o=some S')(hc:gZ S'.cs):gZ S.cs:=by
 grind [vf,Bw,qT]
theorem aBr{S S':St}(hR:bQ n K w0 G w a S.E S.L V own)(hd:jV q a S)(h:vf ops.toList S o=some S')(hc:gZ S'.cs) :
  S'.E=S.E/\S'.L=S.L/\jV q a S':=by
 unfold vf at h;split at h
 ·lia
 ·rename_i S1 hg;cases h;obtain⟨_,h2,h3,h4,_⟩:=nD hR hd hg hc
  lia
 ·rename_i S1 hg;split at h
  ·split at h
   ·rename_i hdec;cases h;obtain⟨_,h2,h3,h4,_⟩:=nD hR hd hg (qT hdec hc);have hR1:bQ n K w0 G w a S1.E S1.L V own:=by lia
    obtain⟨_,k2,k3,k4,_⟩:=uF hR1 h4 hdec hc
    lia
   lia
  ·cases h;obtain⟨_,h2,h3,h4,_⟩:=nD hR hd hg hc
   lia
theorem Of{all:Γ Oper}:∀ {is:Γ Nat} {S S':St},VM all is S=some S'->gZ S'.cs->gZ S.cs
 | [],_,_,h,hc=>by cases h;lia
 | i::r,S,S',h,hc=>by
  simp[VM]at h;split at h
  ·split at h
   ·rename_i h1;exact aIo h1 (Of h hc)
   ·cases h
  ·cases h
theorem zS{ops:Array Oper}:∀ {is:Γ Nat} {S S':St},bQ n K w0 G w a S.E S.L V own->jV q a S->VM ops.toList is S=some S'->gZ S'.cs->S'.E=S.E/\S'.L=S.L/\jV q a S'
 | [],_,_,_,hd,h,hc=>by cases h;lia
 | i::r,S,S',hR,hd,h,hc=>by
  simp[VM]at h;split at h
  ·split at h
   ·rename_i S1 h1;obtain⟨e1,e2,e3⟩:=aBr hR hd h1 (Of h hc);obtain⟨f1,f2,f3⟩:=zS (S:=S1) (by rw[e1,e2];exact hR) e3 h hc;exact⟨f1.trans e1,f2.trans e2,f3⟩
   ·cases h
  ·cases h
theorem I8{tab:Γ TI}{ext:Aw}{wr:Bool}{ops:Array Oper}{listed:Array Bool}{S:St}{j:Nat}{S':St}:∀ {rs:Γ Nat},Qn tab ext wr n ops listed S rs=some (j,S') ->
  j∈rs/\∃o,ops[j]? = some o/\Ar .any ops listed j=true/\y8 tab ext wr n true ops.toList S o=some S'
 | [],h=>by cases h
 | i::r,h=>by
  simp[Qn]at h;have rest:Qn tab ext wr n ops listed S r=some (j,S')->j∈i::r/\∃o,ops[j]? = some o/\Ar .any ops listed j=true/\y8 tab ext wr n true ops.toList S o=some S':=λh=>by
   obtain⟨h1,h2⟩:=I8 h;exact⟨aM _ h1,h2⟩
  grind [Fv]
theorem vh{tab:Γ TI}{ext:Aw}{all:Γ Oper}{S S':St}(h:ak tab ext n all S o=some S')(hc:gZ S'.cs):gZ S.cs:=by
 unfold ak at h;split at h
 ·split at h
  ·have:=jS h
   grind [Bw,dP]
  lia
 lia
variable {listed:Array Bool}
theorem I9{tab:Γ TI}{ext:Aw}{i:Nat}{S S':St}(h:Sv tab ext wr n ops listed i S o=some S')(hc:gZ S'.cs):gZ S.cs:=by
 unfold Sv at h;split at h
 ·grind [vh]
 ·split at h
  ·grind [xT]
  ·split at h
   ·rename_i h1;cases h;have:=xT h1 hc;exact this
   ·have:=vh h hc;exact this
theorem vi{tab:Γ TI}{ext:Aw}(hT:kW P tab)(hX:rM P ext){S S':St}(hR:bQ n K w0 G w a S.E S.L V own)(hd:jV q a S)
  (h:ak tab ext n ops.toList S o=some S') (hc:gZ S'.cs) {Kt:Act->World->Prop} {Q:Exit->Act->World->Prop}
  (hK:∀a' w0' G' w' V' own',dD [] w w'->bQ n K w0' G' w' a' S'.E S'.L V' own'->jV q a' S'->Kt a' w') :
  if fJ o (yielded ops a.tmps)then o.wp P a w Kt Q else Kt (a.put o.dst undef) w:=by
 unfold ak at h;split at h
 ·rename_i S1 hg;split at h
  ·rename_i cs pv L hop;have hcs:=jS h;rw[hcs]at hc;obtain⟨h1,h2,h3,h4,h5⟩:=nD hR hd hg (dP.1 hc).1;rw[h1];have hR1:bQ n K w0 G w a S1.E S1.L V own:=by lia
   refine aIj hT hX hR1 hop (dP.1 hc).2 λv w0' G' w' V' own' k hR' hv=>?_;obtain⟨g1,g2,_⟩:=rS h hR' h4 hv
   grind
  lia
 lia
theorem Og{tab:Γ TI}{ext:Aw}(hT:kW P tab)(hX:rM P ext){i:Nat}{S S':St}(hR:bQ n K w0 G w a S.E S.L V own)(hd:jV q a S)
  (h:Sv tab ext wr n ops listed i S o=some S') (hc:gZ S'.cs) {Kt:Act->World->Prop} {Q:Exit->Act->World->Prop}
  (hK:∀a' w0' G' w' V' own',(Td ops listed i=true\/dD [] w w')->bQ n K w0' G' w' a' S'.E S'.L V' own'->jV q a' S'->Kt a' w') :
  if fJ o (yielded ops a.tmps)then o.wp P a w Kt Q else Kt (a.put o.dst undef) w:=by
 unfold Sv at h;split at h
 ·rename_i h1;cases h;exact vi hT hX hR hd h1 hc λa' w0' G' w' V' own' k=>hK a' w0' G' w' V' own' (.inr k)
 ·split at h
  ·rename_i hb;exact VL hT hX hR hd h hc λa' w0' G' w' V' own'=>hK a' w0' G' w' V' own' (.inl hb)
  ·obtain⟨w1,G1,hR1⟩:=VC hR o.op;have hd1:jV q a (aSi S o.op):=hd;split at h
   ·rename_i h1;cases h;obtain⟨v,hy,g1,g2⟩:=I7 hT hX hR1 hd1 h1 hc;rcases hy with ⟨hw,hv⟩ | ⟨hw,rfl⟩
    ·rw[hw];refine S5 (C:=dD [] w) (K:=λa'=>a'=a.put o.dst v) (dI _ _) (λa' w' k e=>by subst e;exact hK _ _ _ _ _ _ (.inr k) (g1.ext k) g2) ⟨v,λw' k=>?_,rfl⟩;have:=hv w' k;unfold oK at this ⊢;generalize (execOp a.eval o).run P w'=r at *;cases r with
     | ok nx w2 =>
      cases nx <;> simp[uA]at this ⊢
      case value u=>lia
      case skip=>lia
      case enter f args=>exact⟨this.1,this.2.mono λe w3 hh=>⟨hh.1,k.trans hh.2⟩⟩
     | halt x w2=>grind [uA]
    grind [dI]
   ·exact vi hT hX hR1 hd1 h hc λa' w0' G' w' V' own' k=>hK a' w0' G' w' V' own' (.inr k)
theorem wZ{tab:Γ TI}{ext:Aw}{wr:Bool}{ops:Array Oper}{S':St}:∀ {m:Nat} {listed:Array Bool} {S:St},CK tab ext wr n ops m listed S=some S'->gZ S'.cs->gZ S.cs
 | 0,listed,S,h,hc=>by
  grind [CK]
 | m+1,listed,S,h,hc=>by
  simp[CK]at h;split at h
  ·lia
  ·split at h
   ·lia
   ·rename_i S1 hdec;refine Of hdec ?_;split at h
    ·rename_i j S2 hq;obtain⟨_,o,_,_,hst⟩:=I8 hq;exact xT hst (wZ h hc)
    ·split at h
     ·split at h
      ·rename_i S2 hB;exact I9 hB (wZ h hc)
      ·cases h
     ·split at h
      ·split at h
       ·rename_i S2 kx3.S hA hB;split at h
        ·rename_i A B hA2 hB2;split at h
         ·split at h
          ·cases h;exact I9 hA (wZ hA2 (dP.1 hc).1)
          lia
         lia
        lia
       lia
      lia
     lia
theorem Ad{tab:Γ TI}{ext:Aw}(hT:kW P tab)(hX:rM P ext){wr:Bool}{ops:Array Oper}{Q:Exit->Act->World->Prop}(hs:BR ops=true)(hQ:∀c a w,¬Q (.panic c) a w){S':St}
  (hc:gZ S'.cs) (hK:∀a' w0' G' w' V' own',bQ n K w0' G' w' a' S'.E S'.L V' own'->jV q a' S'->Q .normal a' w'):∀ {w0:World} {G:Nat->Prop} {m:Nat} {listed:Array Bool} {S:St} {a:Act} {w:World} {V:Nat->Value} {own:Nat->Γ Nat},
  bQ n K w0 G w a S.E S.L V own->jV q a S->LO ops listed->CK tab ext wr n ops m listed S=some S'->qR P ops Q [] m listed a w
 | w0,G,0,listed,S,a,w,V,own,hR,hd,hD,h=>by
  simp only[CK]at h;split at h
  ·rename_i hr;cases h;exact λw1 k=>⟨hr,hK _ _ _ _ _ _ (hR.ext k) hd⟩
  lia
 | w0,G,m+1,listed,S,a,w,V,own,hR,hd,hD,h=>by
  simp only[CK]at h;split at h
  ·rename_i hr;cases h;exact λw1 k=>⟨λ_=>hK _ _ _ _ _ _ (hR.ext k) hd,by grind⟩
  ·rename_i i r hr;split at h
   ·lia
   ·rename_i S1 hdec;split at h
    ·rename_i j S2 hq;obtain⟨hjr,o,ho,hf,hst⟩:=I8 hq;rw[<- hr]at hjr;have hc2:gZ S2.cs:=wZ h hc;have hc1:gZ S1.cs:=xT hst hc2;obtain⟨e1,e2,e3⟩:=zS hR hd hdec hc1;have hR1:bQ n K w0 G w a S1.E S1.L V own:=by lia
     obtain⟨v,hy,g1,g2⟩:=I7 hT hX hR1 e3 hst hc2;refine Oc ho (At hs) hQ m listed a w hD (S6 ho hf) hjr hy ?_;exact Ad hT hX hs hQ hc hK g1 g2 (hD.set hjr) h
    ·split at h
     ·rename_i o hno _;rw[Fv]at hno;have ho:ops[i]? = some o:=by grind
      split at h
      ·rename_i S2 hB;have hc2:gZ S2.cs:=wZ h hc;have hc1:gZ S1.cs:=I9 hB hc2;obtain⟨e1,e2,e3⟩:=zS hR hd hdec hc1;have hir:i∈gJ .any ops listed:=by grind
       refine λw1 k=>⟨λh0=>by lia,λj hj=>?_⟩;have hji:j=i:=by grind
       subst hji;have hR1:bQ n K w0 G w1 a S1.E S1.L V own:=by rw[e1,e2];exact hR.ext k
       unfold wpOp;simp only[ho];have:=Og (Kt:=λa' w'=>(Td ops listed j=true\/dD [] w1 w')/\qR P ops Q [] m (listed.setIfInBounds j true) a' w') (Q:=Q) hT hX hR1 e3 hB hc2 (λa' w0' G' w' V' own' hb hR' hd'=>⟨hb,Ad hT hX hs hQ hc hK hR' hd' (hD.set hir) h⟩)
       lia
      lia
     ·rename_i j o hno _;split at h
      ·rename_i p hnp;rw[Fv]at hno hnp;have ho:ops[i]? = some o:=by grind
       have hp:ops[j]? = some p:=by grind
       split at h
       ·rename_i S2 kx3.S hA hB;split at h
        ·rename_i A B hA2 hB2;split at h
         case h_2=>lia
         rename_i B' hnB;obtain⟨nb1,nb2,nb3⟩:=VN hnB;split at h
         case h_2=>lia
         rename_i hpn;have hpn:=Qp hpn;cases h;have hcA:gZ A.cs:=(dP.1 hc).1;have hcB:gZ B.cs:=by rw[<- nb1];exact(dP.1 (dP.1 hc).2).1
         have heq:(Do A.E n [],A.L)=(Do B'.E n [],B'.L):=(dP.1 (dP.1 hc).2).2.1;have hc2:gZ S2.cs:=wZ hA2 hcA;have hc3:gZ kx3.S.cs:=wZ hB2 hcB;have hc1:gZ S1.cs:=I9 hA hc2;obtain⟨e1,e2,e3⟩:=zS hR hd hdec hc1;have hKA:∀a' w0' G' w' V' own',bQ n K w0' G' w' a' A.E A.L V' own'->jV q a' A->Q .normal a' w':=λa' w0' G' w' V' own' hr' hd' =>
          hK a' w0' G' w' V' own' hr'.tab ⟨λt d hl=>(by cases hl),hd'.2⟩
         have hKB:∀a' w0' G' w' V' own',bQ n K w0' G' w' a' B.E B.L V' own'->jV q a' B->Q .normal a' w':=λa' w0' G' w' V' own' hr' hd'=>by
          obtain⟨V2,own2,hr2⟩:=nb3 hr';refine hK a' w0' G' w' V2 own2 ?_ ⟨λt d hl=>(by cases hl),?_⟩
          ·have k1:Do A.E n []=Do B'.E n []:=congrArg eE heq;have k2:A.L=B'.L:=congrArg tZ heq;show bQ n K w0' G' w' a' (Do A.E n []) A.L V2 own2;rw[k1,k2];exact hr2.tab
          ·show ∀t∈A.pins,a'.tmps.getD t undef=q t;rw[hpn,nb2];exact hd'.2
         have hir:i∈gJ .any ops listed:=by grind
         have hjr:j∈gJ .any ops listed:=by grind
         refine λw1 k=>⟨λh0=>by lia,λc hk=>?_⟩;have hkk:c=i\/c=j:=by grind
         have hR1:bQ n K w0 G w1 a S1.E S1.L V own:=by rw[e1,e2];exact hR.ext k
         rcases hkk with rfl | rfl
         ·unfold wpOp;simp only[ho];have:=Og (Kt:=λa' w'=>(Td ops listed c=true\/dD [] w1 w')/\qR P ops Q [] m (listed.setIfInBounds c true) a' w') (Q:=Q) hT hX hR1 e3 hA hc2 (λa' w0' G' w' V' own' hb hR' hd'=>⟨hb,Ad hT hX hs hQ hcA hKA hR' hd' (hD.set hir) hA2⟩)
          lia
         ·unfold wpOp;simp only[hp];have:=Og (Kt:=λa' w'=>(Td ops listed c=true\/dD [] w1 w')/\qR P ops Q [] m (listed.setIfInBounds c true) a' w') (Q:=Q) (S:=⟨S1.path,S1.dec,S1.E,S1.L,[],S1.pins⟩) hT hX hR1 e3 hB hc3 (λa' w0' G' w' V' own' hb hR' hd'=>⟨hb,Ad hT hX hs hQ hcB hKB hR' hd' (hD.set hjr) hB2⟩)
          lia
        lia
       lia
      lia
     lia
def xU:Γ Nat->Nat
 | []=>0
 | d::r=>Nat.lor (Eg 1 d) (xU r)
theorem Sw(x d:Nat):(1 <<< x).testBit d=decide (x=d):=by
 rw[Nat.one_shiftLeft,Nat.testBit_two_pow]
theorem w4:∀(l:Γ Nat) (d:Nat),(xU l).testBit d=decide (d∈l)
 | [],d=>by simp[xU]
 | x::r,d=>by
  have e:xU (x::r)=(1 <<< x) ||| xU r:=rfl
  rw[e,Y1,w4 r d,Sw];by_cases hx:x=d
  ·subst hx;simp
  ·have:¬d=x:=λh=>hx h.symm;simp[hx,this]
structure OpI where
 looks:Nat
 dst:Nat
 pre:Nat
 loud:Bool
def aIp:Op->Bool
 | .call { callee := .builtin .len,.. }=>false
 | .call _=>true
 | .box _ _=>true
 | .alloc _=>true
 | .buildSlice _ _ _=>true
 | .makeSlice _ _ _=>true
 | .store _ _ _=>true
 | .convert _ _ _=>true
 | _=>false
def aIq(o:Oper):Γ Nat:=match o.dst with | some d=>[d] | none=>[]
def vj(o:Oper):Γ Nat:=(o.after.toList.filter λe=>fQ .any e).map λe=>e.on
def th(ops:Array Oper)(o:Oper):OpI:=⟨xU (o.looksAt ops),xU (aIq o),xU (vj o),aIp o.op⟩
def MN(y:OpI)(j:Nat):Nat->Γ OpI->Bool
 | _,[]=>true
 | k,x::r=>match cE k j with
  | true=>true
  | false=>match cE (KS y.pre (Eg 1 k)) 0 with
   | false=>MN y j (k+1) r
   | true=>cE (KS (Nat.lor y.looks y.dst) x.dst) 0&&(cE (KS x.looks y.dst) 0&&MN y j (k+1) r)
def aDD(j:Nat):Γ OpI->Bool
 | []=>true
 | x::r => !cE (uB x.pre j) 0&&aDD j r
def aBs(all:Γ OpI):Nat->Γ OpI->Bool
 | _,[]=>true
 | j,y::r=>cE (uB y.pre j) 0&&(MN y j 0 all&&((match y.loud with | true=>aDD j r | false=>true)&&aBs all (j+1) r))
def aZX(ops:Array Oper):Bool:=match ops.toList.map (th ops)with
 | all=>aBs all 0 all
def fy(tab:Γ TI)(ext:Aw)(wr:Bool)(n:Nat)(ops:Array Oper):Nat->Array Bool->Γ Oper->St->Option St
 | _,_,[],S=>some S
 | j,listed,o::r,S=>match aIp o.op with
  | false=>match y8 tab ext wr n true ops.toList S o with
   | some S'=>fy tab ext wr n ops (j+1) (listed.setIfInBounds j true) r S'
   | none=>none
  | true=>match y8 tab ext wr n true ops.toList S o with
   | some S'=>fy tab ext wr n ops (j+1) (listed.setIfInBounds j true) r S'
   | none=>match Sv tab ext wr n ops listed j S o with
    | some S'=>fy tab ext wr n ops (j+1) (listed.setIfInBounds j true) r S'
    | none=>none
theorem Ki{tab:Γ TI}{ext:Aw}{wr:Bool}{ops:Array Oper}{S':St}:∀ {l:Γ Oper} {j:Nat} {listed:Array Bool} {S:St},fy tab ext wr n ops j listed l S=some S'->gZ S'.cs->gZ S.cs
 | [],j,listed,S,h,hc=>by cases h;lia
 | o::r,j,listed,S,h,hc=>by
  simp[fy]at h;split at h
  ·split at h
   ·rename_i h1;exact xT h1 (Ki h hc)
   ·cases h
  ·split at h
   ·rename_i h1;exact xT h1 (Ki h hc)
   ·split at h
    ·rename_i h1;exact I9 h1 (Ki h hc)
    ·cases h
theorem Sx{ops:Array Oper}{y:Oper}{j:Nat}:∀ {l:Γ Oper} {k:Nat},MN (th ops y) j k (l.map (th ops))=true->∀(i:Nat) (x:Oper),l[i]? = some x->k+i<j ->
  (∃e∈y.after,fQ .any e=true/\e.on=k+i)\/x.apart ops y=true
 | [],k,_,i,x,hx,_=>by grind
 | z::r,k,h,i,x,hx,hi=>by
  simp only[dY,MN]at h;have hkj:cE k j=false:=zI (by lia);rw[hkj]at h;simp only at h;have rest:MN (th ops y) j (k+1) (r.map (th ops))=true->∀i',i=i'+1->(∃e∈y.after,fQ .any e=true/\e.on=k+i)\/x.apart ops y=true:=by
   rintro h i' rfl;have:=Sx h i' x (by simpa using hx) (by omega);rw[show k+(i'+1)=k+1+i' by omega];exact this
  split at h
  ·rename_i hb;cases i with
   | zero =>
    left;have hb2:(xU (vj y)).testBit k=true:=by
     cases ht:(xU (vj y)).testBit k with
     | true=>rfl
     | false =>
      exfalso;have h0:cE (KS (xU (vj y)) (Eg 1 k)) 0=true:=by
       have:(xU (vj y)) &&& (1 <<< k)=0:=by
        apply KT;intro m;rw[Nat.testBit_and,Sw];by_cases hm:k=m
        ·subst hm;simp[ht]
        ·simp[hm]
       simp_all
      grind [cE,KS,th,Eg]
    rw[w4]at hb2;have:=of_decide_eq_true hb2;obtain⟨e,he,rfl⟩:=cW.1 this
    grind
   | succ i'=>grind
  ·simp only[aT]at h;obtain⟨h1,h2,h3⟩:=h;cases i with
   | zero =>
    right;simp at hx;subst hx;have land0:∀ {a b d:Nat},cE (KS a b) 0=true->b.testBit d=true->a.testBit d=false:=by
     intro a b d h hb;have h:=aZ h;have h':a &&& b=0:=h;have h3:(a &&& b).testBit d=false:=by grind
     grind
    have hdst:∀(o:Oper) d,o.dst=some d->(th ops o).dst.testBit d=true:=by
     intro o d hd;show (xU (aIq o)).testBit d=true
     grind [w4,aIq]
    unfold Oper.apart;rw[aT];constructor
    ·split
     ·rename_i d hd;have h4:=land0 h1 (hdst _ d hd);have h4':((xU (y.looksAt ops)) ||| (xU (aIq y))).testBit d=false:=h4;rw[Y1,w4,w4,Bool.or_eq_false_iff]at h4';rw[aT]
      grind [aIq]
     lia
    ·split
     ·rename_i d hd;have h4:=land0 h2 (hdst _ d hd);have h4':(xU (z.looksAt ops)).testBit d=false:=h4
      grind [w4,of_decide_eq_false]
     lia
   | succ i'=>grind
def Qq(ops:Array Oper)(listed:Array Bool)(j:Nat):Prop:=listed.size=ops.size/\∀k,k<ops.size->listed.getD k true=decide (k<j)
theorem Qq.false(h:Qq ops listed j){k:Nat}:listed.getD k false=decide (k<j/\k<ops.size):=by
 by_cases hk:k<ops.size
 ·have:=h.2 k hk;rw[iD]at this ⊢;rw[uV (by rw[h.1];lia)]at this ⊢
  grind
 ·rw[iD, kD (by rw[h.1];lia)]
  grind
theorem Qq.set(h:Qq ops listed j):Qq ops (listed.setIfInBounds j true) (j+1):=by
 refine⟨by simpa using h.1,λk hk=>?_⟩;by_cases hkj:j=k
 ·simp_all
 ·rw[getD_set_ne true hkj,h.2 k hk]
  lia
theorem aSj(h:cE (uB (th ops o).pre j) 0=true):∀e∈o.after,fQ .any e=true->e.on<j:=by
 intro e he hb;rcases mS e.on j with h1 | h1
 ·lia
 ·have h:=aZ h;have h':(xU (vj o)) >>> j=0:=h;have h2:((xU (vj o)) >>> j).testBit (e.on-j)=true:=by
   rw[HQ,w4,show j+(e.on-j)=e.on by lia];refine decide_eq_true (cW.2 ⟨e,List.mem_filter.2 ⟨by grind,hb⟩,rfl⟩)
  grind
theorem aSk(h:cE (uB (th ops o).pre j) 0=false):∃e∈o.after,fQ .any e=true/\j<=e.on:=by
 apply kR;intro hn;have h':(xU (vj o)) >>> j=0:=by
  apply KT;intro m;rw[HQ,w4,Nat.zero_testBit];refine decide_eq_false λhm=>hn ?_;obtain⟨e,he,h1⟩:=cW.1 hm
  grind
 have h2:uB (th ops o).pre j=0:=h';simp_all
theorem aBt:∀(l:Γ Oper),aDD j (l.map (th ops))=true->∀x∈l,∃e∈x.after,fQ .any e=true/\j<=e.on:=by
 intro l
 induction l with
 | nil=>simp
 | cons x r ih =>
  intro h y hy;rw[dY,aDD]at h
  all_goals grind [aSk]
theorem al{all:Γ OpI}:∀ {l:Γ OpI} {j:Nat},aBs all j l=true->∀i y,l[i]? = some y->cE (uB y.pre (j+i)) 0=true/\MN y (j+i) 0 all=true
 | x::r,j,h,i,y,hy=>by
  simp only[aBs,aT]at h;obtain⟨h1,h2,_,h4⟩:=h;cases i with
  | zero=>grind
  | succ i =>
   have:=al h4 i y (by grind)
   lia
theorem Qr{tab:Γ TI}{ext:Aw}(hT:kW P tab)(hX:rM P ext){wr:Bool}{ops:Array Oper}{Q:Exit->Act->World->Prop}(hs:BR ops=true)(hQ:∀c a w,¬Q (.panic c) a w){S':St}
  (hc:gZ S'.cs) (hK:∀a' w0' G' w' V' own',bQ n K w0' G' w' a' S'.E S'.L V' own'->jV q a' S'->Q .normal a' w')
  (hall:aBs (ops.toList.map (th ops)) 0 (ops.toList.map (th ops))=true):∀ {l:Γ Oper} {w0:World} {G:Nat->Prop} {j:Nat} {listed:Array Bool} {S:St} {a:Act} {w:World} {V:Nat->Value} {own:Nat->Γ Nat},
  bQ n K w0 G w a S.E S.L V own->jV q a S->LO ops listed->Qq ops listed j->ops.toList.drop j=l->aBs (ops.toList.map (th ops)) j (l.map (th ops))=true->fy tab ext wr n ops j listed l S=some S'->qR P ops Q [] l.length listed a w
 | [],w0,G,j,listed,S,a,w,V,own,hR,hd,hD,hF,hl,_,h=>by
  cases h;have hge:ops.size<=j:=by
   simp_all
  refine λw1 k=>⟨?_,hK _ _ _ _ _ _ (hR.ext k) hd⟩;apply List.eq_nil_iff_forall_not_mem.2;intro i hi;obtain⟨h1,o,ho,_⟩:=mem_ready.1 hi;have hlt:=(kH.1 ho).1;rw[hF.2 i hlt]at h1
  lia
 | o::r,w0,G,j,listed,S,a,w,V,own,hR,hd,hD,hF,hl,hB,h=>by
  have hlen:=congrArg List.length hl;simp at hlen;have hj:j<ops.size:=by lia
  have ho:ops[j]? = some o:=by
   have:=congrArg (λl=>l[0]?) hl
   grind
  have hr:ops.toList.drop (j+1)=r:=by
   have:=congrArg List.tail hl;simpa using this
  simp only[dY,aBs,aT]at hB;obtain⟨b1,b2,b3,b4⟩:=hB;have hready:j∈gJ .any ops listed:=by
   refine mem_ready.2 ⟨by rw[hF.2 j hj];lia,o,ho,λe he hb=>?_⟩;have:=aSj b1 e he hb;rw[hF.false]
   lia
  have hfree:∀i oi,ops[i]? = some oi->i≠j->listed.getD i true=false->(∀e∈oi.after,fQ .any e=true->e.on≠j)->o.apart ops oi=true:=by
   intro i oi hi hij hun hno;have hlt:=(kH.1 hi).1;rw[hF.2 i hlt]at hun;have hy:(ops.toList.map (th ops))[i]? = some (th ops oi):=by grind
   obtain⟨_,hp⟩:=al hall i _ hy;rw[cO]at hp;rcases Sx hp j o (by grind) (by lia)with ⟨e,he,hb,he2⟩ | hap
   all_goals grind
  have quiet:∀ {S2:St},y8 tab ext wr n true ops.toList S o=some S2->fy tab ext wr n ops (j+1) (listed.setIfInBounds j true) r S2=some S'->qR P ops Q [] (o::r).length listed a w:=by
   intro S2 hst h;obtain⟨v,hy,g1,g2⟩:=I7 hT hX hR hd hst (Ki h hc);exact Oc ho (At hs) hQ r.length listed a w hD hfree hready hy (Qr hT hX hs hQ hc hK hall g1 g2 (hD.set hready) hF.set hr b4 h)
  simp only[fy]at h;split at h
  ·grind
  ·rename_i hloud;split at h
   ·grind
   ·split at h
    ·rename_i S2 hB;have hlo:(th ops o).loud=true:=hloud;rw[hlo]at b3;simp only at b3;have hc2:gZ S2.cs:=Ki h hc;refine λw1 k=>⟨λh0=>by grind,λi hi=>?_⟩;have hji:i=j:=by
      obtain⟨h1,oi,hoi,hai⟩:=mem_ready.1 hi;have hlt:=(kH.1 hoi).1;rw[hF.2 i hlt]at h1;apply kR;intro hne;have hmem:oi∈r:=by
       rw[<- hr];refine List.mem_of_getElem? (i:=i-(j+1)) ?_
       grind
      obtain⟨e,he,hb,hle⟩:=aBt _ b3 oi hmem;have:=hai e he hb;rw[hF.false]at this
      lia
     subst hji;have hR1:bQ n K w0 G w1 a S.E S.L V own:=hR.ext k;unfold wpOp;simp only[ho];have:=Og (Kt:=λa' w'=>(Td ops listed i=true\/dD [] w1 w')/\qR P ops Q [] r.length (listed.setIfInBounds i true) a' w') (Q:=Q) hT hX hR1 hd hB hc2 (λa' w0' G' w' V' own' hb hR' hd'=>⟨hb,Qr hT hX hs hQ hc hK hall hR' hd' (hD.set hready) hF.set hr b4 h⟩)
     lia
    lia
def Qs(tab:Γ TI)(wr:Bool)(n:Nat)(ops:Array Oper)(listed:Array Bool)(S:St):Γ Nat->Option (Nat×St)
 | []=>none
 | i::r=>match Tb ops.toList i,Ar .any ops listed i with
  | some o,true=>match VF tab wr n ops.toList S o with
   | some S'=>some (i,S')
   | none=>Qs tab wr n ops listed S r
  | _,_=>Qs tab wr n ops listed S r
def am(n L:Nat)(f:Nat->Option St):Γ Nat->St->Option St
 | [],A=>some A
 | j::r,A=>match f j with
  | some B=>match aDC n L A B with
   | some B'=>match aIn A.pins B'.pins with
    | true=>am n L f r (aPR n A B')
    | false=>none
   | none=>none
  | none=>none
def CL(tab:Γ TI)(ext:Aw)(wr:Bool)(n:Nat)(ops:Array Oper):Nat->Array Bool->St->Option St
 | 0,listed,S=>match gJ .any ops listed with
  | []=>some S
  | _=>none
 | m+1,listed,S=>match gJ .any ops listed with
  | []=>some S
  | i::r=>match VM ops.toList (i::r) S with
   | none=>none
   | some S=>match Qs tab wr n ops listed S (i::r)with
    | some (j,S')=>CL tab ext wr n ops m (listed.setIfInBounds j true) S'
    | none=>match Tb ops.toList i with
     | some o=>match y8 tab ext wr n false ops.toList S o with
      | some S1=>match CL tab ext wr n ops m (listed.setIfInBounds i true) S1 with
       | some A=>am n S.L.length (λj=>match Tb ops.toList j with
        | some p=>match y8 tab ext wr n false ops.toList ⟨S.path,S.dec,S.E,S.L,[],S.pins⟩ p with
         | some S2=>CL tab ext wr n ops m (listed.setIfInBounds j true) S2
         | none=>none
        | none=>none) r A
       | none=>none
      | none=>none
     | none=>none
theorem Ia{tab:Γ TI}{wr:Bool}{ops:Array Oper}{listed:Array Bool}{S:St}{j:Nat}{S':St}:∀ {rs:Γ Nat},Qs tab wr n ops listed S rs=some (j,S') ->
  j∈rs/\∃o,ops[j]? = some o/\Ar .any ops listed j=true/\VF tab wr n ops.toList S o=some S'
 | [],h=>by cases h
 | i::r,h=>by
  simp[Qs]at h;have rest:Qs tab wr n ops listed S r=some (j,S')->j∈i::r/\∃o,ops[j]? = some o/\Ar .any ops listed j=true/\VF tab wr n ops.toList S o=some S':=λh=>by
   obtain⟨h1,h2⟩:=Ia h;exact⟨aM _ h1,h2⟩
  grind [Fv]
theorem vk{tab:Γ TI}{all:Γ Oper}{S S':St}(h:VF tab wr n all S o=some S')(hc:gZ S'.cs):gZ S.cs:=by
 unfold VF at h;split at h
 ·lia
 ·have hcs:=jS h
  grind [Bw]
 ·rename_i S1 hg;refine Bw hg ?_;split at h
  ·split at h
   ·have hcs:=jS h
    grind [qT]
   lia
  ·split at h
   ·lia
   ·split at h
    ·have hcs:=jS h
     grind [dP]
    lia
theorem vl{tab:Γ TI}(hT:kW P tab){S S':St}(hR:bQ n K w0 G w a S.E S.L V own)(hd:jV q a S)
  (h:VF tab wr n ops.toList S o=some S') (hc:gZ S'.cs) :
  ∃v,qS P ops o v a/\bQ n K w0 G w (a.put o.dst v) S'.E S'.L V own/\jV q (a.put o.dst v) S':=by
 unfold VF at h;split at h
 ·lia
 ·rename_i S1 hg;have hcs:=jS h;rw[hcs]at hc;obtain⟨h1,h2,h3,h4,h5⟩:=nD hR hd hg (dP.1 hc).1;have hR1:bQ n K w0 G w a S1.E S1.L V own:=by lia
  obtain⟨g1,g2,_⟩:=rS (v:=undef) h hR1 h4 ⟨rfl,trivial⟩;exact⟨undef,.inr ⟨h1,rfl⟩,g1,g2⟩
 ·rename_i S1 hg;have hc1:gZ S1.cs:=by
   split at h
   ·split at h
    ·have hcs:=jS h
     grind [qT]
    lia
   ·split at h
    ·lia
    ·split at h
     ·have hcs:=jS h
      grind [dP]
     lia
  obtain⟨h1,h2,h3,h4,h5⟩:=nD hR hd hg hc1;have hR1:bQ n K w0 G w a S1.E S1.L V own:=by lia
  split at h
  ·rename_i c x y ho;split at h
   ·rename_i d S2 hdec;have hcs:=jS h;rw[hcs]at hc;obtain⟨k1,k2,k3,k4,k5⟩:=uF hR1 h4 hdec (dP.1 hc).1;have hR2:bQ n K w0 G w a S2.E S2.L V own:=by lia
    have hv:mK w0 G S2.L V (cond d (opnd S2.E x) (opnd S2.E y)) (if d then a.eval x else a.eval y):=by
     cases d
     ·exact hR2.opnd y
     ·exact hR2.opnd x
    obtain⟨g1,g2,_⟩:=rS h hR2 k4 hv;exact⟨_,.inl ⟨h1,λw'=>VK ho k1 w'⟩,g1,g2⟩
   lia
  ·split at h
   ·lia
   ·split at h
    ·rename_i cs pv hop;have hcs:=jS h;rw[hcs]at hc;obtain⟨v,hv,hq⟩:=Zj hT hR1 hop (dP.1 hc).2;obtain⟨g1,g2,_⟩:=rS h hR1 h4 hv;exact⟨v,.inl ⟨h1,λw'=>hq w' λhl=>by lia⟩,g1,g2⟩
    lia
def aIr(n:Nat)(K:fG)(q:Nat->Value)(Q:Act->World->Prop)(S:St):Prop:=gZ S.cs/\∀a' w0' G' w' V' own',bQ n K w0' G' w' a' S.E S.L V' own'->jV q a' S->Q a' w'
theorem VO{Q:Act->World->Prop}{L:Nat}{f:Nat->Option St}{S':St}:∀ {r:Γ Nat} {A:St},am n L f r A=some S'->aIr n K q Q S'->aIr n K q Q A/\∀j∈r,∃B,f j=some B/\aIr n K q Q B
 | [],A,h,hS=>by
  cases h
  grind
 | j::r,A,h,hS=>by
  simp[am]at h;split at h
  case h_2=>lia
  rename_i B hB;split at h
  case h_2=>lia
  rename_i B' hnB;obtain⟨nb1,nb2,nb3⟩:=VN hnB;split at h
  case h_2=>lia
  rename_i hpn;have hpn:=Qp hpn;obtain⟨⟨hc,hK⟩,hr⟩:=VO h hS;have hcA:gZ A.cs:=(dP.1 hc).1;have hcB:gZ B.cs:=by rw[<- nb1];exact(dP.1 (dP.1 hc).2).1
  have heq:(Do A.E n [],A.L)=(Do B'.E n [],B'.L):=(dP.1 (dP.1 hc).2).2.1;refine⟨⟨hcA,λa' w0' G' w' V' own' hr' hd'=>hK a' w0' G' w' V' own' hr'.tab ⟨λt d hl=>(by cases hl),hd'.2⟩⟩,λk hk=>?_⟩;rcases bA.1 hk with rfl | hk
  ·refine⟨B,hB,hcB,λa' w0' G' w' V' own' hr' hd'=>?_⟩;obtain⟨V2,own2,hr2⟩:=nb3 hr';refine hK a' w0' G' w' V2 own2 ?_ ⟨λt d hl=>(by cases hl),?_⟩
   ·have k1:Do A.E n []=Do B'.E n []:=congrArg eE heq;have k2:A.L=B'.L:=congrArg tZ heq;show bQ n K w0' G' w' a' (Do A.E n []) A.L V2 own2;rw[k1,k2];exact hr2.tab
   ·show ∀t∈A.pins,a'.tmps.getD t undef=q t;rw[hpn,nb2];exact hd'.2
  grind
theorem vm{L:Nat}{f:Nat->Option St}{S':St}:∀ {r:Γ Nat} {A:St},am n L f r A=some S'->gZ S'.cs->gZ A.cs
 | [],A,h,hc=>by cases h;lia
 | j::r,A,h,hc=>by
  simp[am]at h;split at h
  case h_2=>cases h
  split at h
  case h_2=>cases h
  split at h
  case h_2=>cases h
  exact(dP.1 (vm h hc)).1
theorem Bx{tab:Γ TI}{ext:Aw}{wr:Bool}{ops:Array Oper}{S':St}:∀ {m:Nat} {listed:Array Bool} {S:St},CL tab ext wr n ops m listed S=some S'->gZ S'.cs->gZ S.cs
 | 0,listed,S,h,hc=>by
  grind [CL]
 | m+1,listed,S,h,hc=>by
  simp[CL]at h;split at h
  ·lia
  ·split at h
   ·lia
   ·rename_i S1 hdec;refine Of hdec ?_;split at h
    ·rename_i j S2 hq;obtain⟨_,o,_,_,hst⟩:=Ia hq;exact vk hst (Bx h hc)
    ·split at h
     case h_2=>cases h
     split at h
     case h_2=>cases h
     rename_i S2 hB;split at h
     case h_2=>cases h
     rename_i A hA;exact xT hB (Bx hA (vm h hc))
theorem Ib{tab:Γ TI}{ext:Aw}(hT:kW P tab)(hX:rM P ext){wr:Bool}{ops:Array Oper}{Q:Exit->Act->World->Prop}(hs:BR ops=true)(hQ:∀c a w,¬Q (.panic c) a w):∀ {S':St} {w0:World} {G:Nat->Prop} {m:Nat} {listed:Array Bool} {S:St} {a:Act} {w:World} {V:Nat->Value} {own:Nat->Γ Nat},
  aIr n K q (Q .normal) S'->bQ n K w0 G w a S.E S.L V own->jV q a S->LO ops listed->CL tab ext wr n ops m listed S=some S'->wpAny P .any ops Q m listed a w
 | S',w0,G,0,listed,S,a,w,V,own,hE,hR,hd,hD,h=>by
  simp[CL]at h;split at h
  ·rename_i hr;cases h;exact⟨hr,hE.2 _ _ _ _ _ _ hR hd⟩
  lia
 | S',w0,G,m+1,listed,S,a,w,V,own,hE,hR,hd,hD,h=>by
  have hc:=hE.1;simp[CL]at h;split at h
  ·cases h;exact⟨λ_=>hE.2 _ _ _ _ _ _ hR hd,λi hi=>by grind⟩
  ·rename_i i r hr;split at h
   ·lia
   ·rename_i S1 hdec;split at h
    ·rename_i j S2 hq;obtain⟨hjr,o,ho,hf,hst⟩:=Ia hq;rw[<- hr]at hjr;have hc2:gZ S2.cs:=Bx h hc;have hc1:gZ S1.cs:=vk hst hc2;obtain⟨e1,e2,e3⟩:=zS hR hd hdec hc1;have hR1:bQ n K w0 G w a S1.E S1.L V own:=by lia
     obtain⟨v,hy,g1,g2⟩:=vl (ops:=ops) hT hR1 e3 hst hc2;refine fv ho (At hs) hQ m listed a w hD (S6 ho hf) hjr hy ?_;exact Ib hT hX hs hQ hE g1 g2 (hD.set hjr) h
    ·split at h
     case h_2=>lia
     split at h
     case h_2=>lia
     rename_i S2 hB;split at h
     case h_2=>lia
     rename_i A hA;obtain⟨hEA,hEB⟩:=VO h hE;have hc2:gZ S2.cs:=Bx hA hEA.1;have hc1:gZ S1.cs:=xT hB hc2;obtain⟨e1,e2,e3⟩:=zS hR hd hdec hc1;have hR1:bQ n K w0 G w a S1.E S1.L V own:=by lia
     refine⟨λh0=>by lia,λk hk=>?_⟩;have go:∀(o:Oper) (Z S2 A:St),Z.E=S1.E->Z.L=S1.L->jV q a Z->Tb ops.toList k=some o->y8 tab ext wr n false ops.toList Z o=some S2->CL tab ext wr n ops m (listed.setIfInBounds k true) S2=some A->aIr n K q (Q .normal) A->wpOp P ops Q k (wpAny P .any ops Q m (listed.setIfInBounds k true)) a w:=λo Z S2 A z1 z2 z3 hno hB hA hE=>by
      rw[Fv]at hno;have ho:ops[k]? = some o:=by grind
      have hc2:gZ S2.cs:=Bx hA hE.1;unfold wpOp;have:=VL (Kt:=wpAny P .any ops Q m (listed.setIfInBounds k true)) (Q:=Q) (S:=Z) hT hX (by rw[z1,z2];exact hR1) z3 hB hc2 (λa' w0' G' w' V' own' hR' hd'=>Ib hT hX hs hQ hE hR' hd' (hD.set hk) hA)
      lia
     rw[hr]at hk;rcases bA.1 hk with rfl | hk'
     ·grind
     ·obtain⟨B,hfB,hEB⟩:=hEB k hk';split at hfB
      case h_2=>lia
      rename_i p hnp;split at hfB
      case h_2=>lia
      rename_i kx3.S hS3;exact go p ⟨S1.path,S1.dec,S1.E,S1.L,[],S1.pins⟩ kx3.S B rfl rfl e3 hnp hS3 hfB hEB
def Oh(tab:Γ TI)(ext:Aw)(wr:Bool)(n:Nat)(ops:Array Oper)(draw:Bool)(S:St):Option St :=
 match draw with
 | false=>Qh tab ext wr n false ops.toList ops.toList S
 | true=>match BR ops with
  | true=>match (match aZX ops with
   | true=>fy tab ext wr n ops 0 (jI ops.size false) ops.toList S
   | false=>CK tab ext wr n ops ops.size (jI ops.size false) S)with
   | some S'=>some S'
   | none=>CL tab ext wr n ops ops.size (jI ops.size false) S
  | false=>none
theorem aBu{tab:Γ TI}{ext:Aw}{draw:Bool}{S S':St}(h:Oh tab ext wr n ops draw S=some S')(hc:gZ S'.cs):gZ S.cs:=by
 unfold Oh at h
 grind [Qm,Ki,wZ,Bx]
theorem aBv{tab:Γ TI}{ext:Aw}(hT:kW P tab)(hX:rM P ext)(hm:P.follows .mixedOrders=true){id:Nat}{draw:Bool}{Q:Exit->Act->World->Prop}(hQ:∀c a w,¬Q (.panic c) a w){S S':St}
  (hR:bQ n K w0 G w a S.E S.L V own) (hd:jV q a S)
  (h:Oh tab ext wr n ops draw S=some S') (hc:gZ S'.cs) (hK:∀a' w0' G' w' V' own',bQ n K w0' G' w' a' S'.E S'.L V' own'->jV q a' S'->Q .normal a' w'):(Code.region id ops draw).wp P Q a w:=by
 unfold Oh at h;split at h
 ·grind [wp_region_list,aj]
 ·split at h
  ·rename_i hs;split at h
   ·rename_i S1 h1;cases h;refine wp_region_any hm (VE (F:=[]) _ _ _ _ ?_);split at h1
    ·rename_i hok;have:=Qr hT hX hs hQ hc hK hok (hR.ext (dI _ _).drew) hd (LO.start ops ops.size) ⟨by simp,λk hk=>by simp_all⟩ (by rfl) hok h1;simp_all
    ·exact Ad hT hX hs hQ hc hK (hR.ext (dI _ _).drew) hd (LO.start ops _) h1
   ·refine wp_region_any hm ?_;exact Ib hT hX hs hQ ⟨hc,hK⟩ (hR.ext (dI _ _).drew) hd (LO.start ops _) h
  lia
end
def zT(P:Program)(f:FuncId)(R:Ending->World->Prop)(k:Γ Item)(a:Act)(w:World):Prop :=
 ∀(b:Frame) cs,b.fn=f->b.kind = .normal->∃e w' fr,R e w'/\Comes P (lone (b.at a k) cs w) (lone fr cs w') e/\fr.fn=f/\fr.leaving P w' e
section
variable {P:Program} {f:FuncId} {R:Ending->World->Prop} {k k':Γ Item} {a a':Act} {w w':World}
theorem zT.step(h:∀(b:Frame) cs,step P (lone (b.at a k) cs w) = .next (lone (b.at a' k') cs w'))(hr:zT P f R k' a' w'):zT P f R k a w:=λb cs hb hk=>by
 obtain⟨e,w2,fr,h1,h2,h3,h4⟩:=hr b cs hb hk;exact⟨e,w2,fr,h1,Comes.of_steps (.one (h b cs)) h2,h3,h4⟩
theorem zT.of_wp{c:Code}(h:c.wp P (λe a' w'=>e = .normal/\zT P f R k a' w') a w):zT P f R (.code c::k) a w:=λb cs hb hk=>by
 obtain⟨e,a',w',⟨rfl,hr⟩,harr⟩:=h b k cs;obtain⟨e,w2,fr,h1,h2,h3,h4⟩:=hr b cs hb hk;exact⟨e,w2,fr,h1,Comes.of_steps harr h2,h3,h4⟩
def aSl(P:Program)(f:FuncId)(R:Ending->World->Prop)(a:Act)(w:World):Prop :=
 a.defers=[]/\∃fn v,P.funcs[f]? = some fn/\(results fn a.tmps).run P w = .ok v w/\R (.returned v) w
theorem zT.nil(h:aSl P f R a w):zT P f R [] a w:=λb cs hb hk=>by
 obtain⟨hd,fn,v,hf,hr,hR⟩:=h;exact⟨.returned v,w,_,hR,Steps.one step_end,hb,rfl,hd,hk,fn,by rw[show (b.at a []).fn=f from hb];lia,hr⟩
theorem zT.ret(h:aSl P f R a w):zT P f R (.code .ret::k) a w:=λb cs hb hk=>by
 obtain⟨hd,fn,v,hf,hr,hR⟩:=h;exact⟨.returned v,w,_,hR,Steps.one step_ret,hb,rfl,hd,hk,fn,by rw[show (b.at a (.code .ret::k)).fn=f from hb];lia,hr⟩
theorem ga{fn:Func}{c:Code}{args:Array Value}(hf:P.funcs[f]? = some fn)(hb:fn.body=some c)
  (h:zT P f R [.code c] { tmps:=args++jI (fn.ntmps-args.size) undef,defers:=[] } w):Calls P f args w R:=by
 intro cs
 let b:Frame:={ (default:Frame)with fn:=f,kind := .normal }
 have henter:Frame.enter P f args .normal =
   b.at { tmps:=args++jI (fn.ntmps-args.size) undef,defers:=[] } [.code c]:=by
  grind [Frame.enter,Frame.at]
 rw[henter];exact h b cs rfl rfl
end
inductive aFJ where
 | stop (k:Γ Item) (S:St)
 | fin (S:St)
def aFJ.st:aFJ->St
 | .stop _ S=>S
 | .fin S=>S
def Oi(S:St):Operand->Option (Bool×St)
 | .tmp t=>B7 S t
 | .const (.bool b)=>some (b,S)
 | _=>none
def uG(tab:Γ TI)(ext:Aw)(wr:Bool)(n:Nat)(stops:Γ Nat):Nat->Bool->Γ Item->St->Option aFJ
 | 0,_,_,_=>none
 | _+1,_,[],S=>some (.fin S)
 | m+1,first,.inBlock _::k,S=>uG tab ext wr n stops m first k S
 | m+1,first,.inLoop c::k,S=>match zN 1000007 stops with
  | true=>uG tab ext wr n stops m first (.code c :: .inLoop c::k) S
  | false=>some (.stop (.code c :: .inLoop c::k) S)
 | m+1,first,.code c::k,S=>match c with
  | .skip=>uG tab ext wr n stops m first k S
  | .label _=>uG tab ext wr n stops m first k S
  | .seq x y=>uG tab ext wr n stops m first (.code x :: .code y::k) S
  | .block id c=>uG tab ext wr n stops m first (.code c :: .inBlock id::k) S
  | .loop c=>match zN 1000007 stops with
   | true=>uG tab ext wr n stops m first (.code c :: .inLoop c::k) S
   | false=>some (.stop (.code c :: .inLoop c::k) S)
  | .exit id=>match exitTo id k with
   | some k'=>uG tab ext wr n stops m first k' S
   | none=>none
  | .ret=>some (.fin S)
  | .cond c x y=>match Oi S c with
   | some (d,S')=>uG tab ext wr n stops m false (.code (cond d x y)::k) S'
   | none=>none
  | .region id ops draw=>match !first&&zN id stops with
   | true=>some (.stop (.code (.region id ops draw)::k) S)
   | false=>match Oh tab ext wr n ops draw S with
    | some S'=>uG tab ext wr n stops m false k S'
    | none=>none
  | _=>none
 | _+1,_,_,_=>none
section
variable {P:Program} {n:Nat} {q:Nat->Value} {K:fG} {G:Nat->Prop} {w0 w:World} {a:Act} {V:Nat->Value} {own:Nat->Γ Nat} {f:FuncId} {R:Ending->World->Prop}
def tj(P:Program)(f:FuncId)(R:Ending->World->Prop)(n:Nat)(K:fG)(q:Nat->Value)(ps:Γ Nat)(k:Γ Item)(E:gH)(L:bM):Prop :=
 ∀a w w0 G V own,bQ n K w0 G w a E L V own->(∀t∈ps,a.tmps.getD t undef=q t)->zT P f R k a w
def bHu(P:Program)(f:FuncId)(R:Ending->World->Prop)(n:Nat)(K:fG)(q:Nat->Value)(ps:Γ Nat)(E:gH)(L:bM):Prop :=
 ∀a w w0 G V own,bQ n K w0 G w a E L V own->(∀t∈ps,a.tmps.getD t undef=q t)->aSl P f R a w
def aZY(P:Program)(f:FuncId)(R:Ending->World->Prop)(n:Nat)(K:fG)(q:Nat->Value):aFJ->Prop
 | .stop k S=>tj P f R n K q S.pins k S.E S.L
 | .fin S=>bHu P f R n K q S.pins S.E S.L
theorem gb{S S':St}{x:Operand}{d:Bool}(hR:bQ n K w0 G w a S.E S.L V own)(hd:jV q a S)(h:Oi S x=some (d,S'))(hc:gZ S'.cs) :
  a.eval x = .bool d/\S'.E=S.E/\S'.L=S.L/\jV q a S'/\gZ S.cs:=by
 unfold Oi at h;split at h
 ·exact uF hR hd h hc
 ·cases h;exact⟨rfl,rfl,rfl,hd,hc⟩
 lia
theorem aBw{S S':St}{x:Operand}{d:Bool}(h:Oi S x=some (d,S'))(hc:gZ S'.cs):gZ S.cs:=by
 unfold Oi at h
 grind [qT]
theorem aDE{tab:Γ TI}{ext:Aw}{wr:Bool}{stops:Γ Nat}:∀ {m:Nat} {first:Bool} {k:Γ Item} {S:St} {out:aFJ},uG tab ext wr n stops m first k S=some out->gZ out.st.cs->gZ S.cs:=by
 intro m
 induction m with
 | zero=>intro first k S out h;cases h
 | succ m ih =>
  intro first k S out h hc
  match k,h with
  | [],h=>cases h;exact hc
  | .inBlock _::k,h=>grind [uG]
  | .inLoop c::k,h =>
   simp[uG]at h;split at h
   ·grind
   ·cases h;exact hc
  | .code c::k,h =>
   cases c with
   | skip=>grind [uG]
   | label _=>grind [uG]
   | seq x y=>grind [uG]
   | block id c=>grind [uG]
   | loop c =>
    simp[uG]at h;split at h
    ·grind
    ·cases h;exact hc
   | exit id =>
    grind [uG]
   | ret=>cases h;exact hc
   | cond c x y =>
    grind [uG,aBw]
   | region id ops draw =>
    simp[uG]at h;split at h
    ·cases h;exact hc
    grind [aBu]
   | _=>cases h
def vn{tab:Γ TI}{ext:Aw}(hT:kW P tab)(hX:rM P ext)(hm:P.follows .mixedOrders=true){wr:Bool}{stops:Γ Nat}:∀ {w0:World} {G:Nat->Prop} {m:Nat} {first:Bool} {k:Γ Item} {S:St} {out:aFJ} {a:Act} {w:World} {V:Nat->Value} {own:Nat->Γ Nat},
  uG tab ext wr n stops m first k S=some out->gZ out.st.cs->bQ n K w0 G w a S.E S.L V own->jV q a S->aZY P f R n K q out->zT P f R k a w:=by
 intro w0 G m
 induction m generalizing w0 G with
 | zero=>intro first k S out a w V own h;cases h
 | succ m ih =>
  intro first k S out a w V own h hc hR hd ho
  match k,h with
  | [],h=>cases h;exact zT.nil (ho _ _ _ _ _ _ hR hd.2)
  | .inBlock _::k,h=>grind [uG,zT.step,step_inBlock]
  | .inLoop c::k,h =>
   simp only[uG]at h;split at h
   ·grind [zT.step,step_inLoop]
   ·cases h;exact zT.step (λb cs=>step_inLoop) (ho _ _ _ _ _ _ hR hd.2)
  | .code c::k,h =>
   cases c with
   | skip=>grind [uG,zT.step,step_skip]
   | label _=>grind [uG,zT.step,step_label]
   | seq x y=>grind [uG,zT.step,step_seq]
   | block id c=>grind [uG,zT.step,step_block]
   | loop c =>
    simp only[uG]at h;split at h
    ·grind [zT.step,step_loop]
    ·cases h;exact zT.step (λb cs=>step_loop) (ho _ _ _ _ _ _ hR hd.2)
   | exit id =>
    grind [uG,zT.step,step_exit]
   | ret=>cases h;exact zT.ret (ho _ _ _ _ _ _ hR hd.2)
   | cond c x y =>
    simp only[uG]at h;split at h
    ·rename_i d S' hdec;obtain⟨h1,h2,h3,h4,h5⟩:=gb hR hd hdec (aDE h hc)
     grind [zT.step,step_cond]
    lia
   | region id ops draw =>
    simp only[uG]at h;split at h
    ·cases h;exact ho _ _ _ _ _ _ hR hd.2
    ·split at h
     ·rename_i S' hr;refine zT.of_wp (aBv hT hX hm (λc a w hh=>by lia) hR hd hr (aDE h hc) λa' w0' G' w' V' own' hR' hd'=>⟨rfl,ih h hc hR' hd' ho⟩)
     lia
   | _=>cases h
end
def aDF:(caps:Γ (Bool×Ty))->vL caps->Γ c7
 | [],_=>[]
 | (true,t)::r,x => .ptr t x.1::aDF r x.2
 | (false,t)::r,x=>jY t x.1::aDF r x.2
def Ic(k:Nat):(a:AT)->a.den->PV×bM
 | .v t,x=>(.a (jY t x),[])
 | .p t,x=>(.a (.ptr t x),[])
 | .own t,xs=>(.a (.osl k none),[some ⟨t,xs,false,none,none⟩])
 | .po t,x=>match sP k t x with
  | (ls,es)=>(.a (.bptr (k+es.length) 0 t),es++[some ⟨t,[],false,some ls,none⟩])
 | .sv t,x=>match sP k t x with
  | (ls,es)=>(.a (.rcd t ls),es)
 | .fn f caps,x=>(.fn f (aDF caps x),[])
def LP:Nat->Nat->(sig:Γ AT)->eF sig->gH
 | _,_,[],_=>[]
 | i,k,a::r,x=>match Ic k a x.1 with
  | (p,es)=>(i,p)::LP (i+1) (k+es.length) r x.2
def gd:Nat->(sig:Γ AT)->eF sig->bM
 | _,[],_=>[]
 | k,a::r,x=>match Ic k a x.1 with
  | (_,es)=>es++gd (k+es.length) r x.2
def Te(sig:Γ AT)(x:eF sig):bM:=gd 0 sig x
def lS:Nat->Γ AT->Γ Nat
 | _,[]=>[]
 | i,a::r=>match O6 a with
  | true=>i::lS (i+1) r
  | false=>lS (i+1) r
def aBx:(caps:Γ (Bool×Ty))->vL caps->Prop
 | [],_=>True
 | (_,t)::r,x=>Wf t x.1/\aBx r x.2
def wfA:(a:AT)->a.den->Prop
 | .v t,x=>Wf t x
 | .p t,x=>Wf t x
 | .own t,xs=>Wf (.sl t) xs
 | .po t,x=>Wf t x
 | .sv t,x=>Wf t x
 | .fn _ caps,x=>aBx caps x
def Ie:(sig:Γ AT)->eF sig->Prop
 | [],_=>True
 | a::r,x=>wfA a x.1/\Ie r x.2
def aDG:Γ AT->Bool
 | []=>true
 | a::r => !O6 a&&aDG r
section
variable {P:Program} {n:Nat} {K:fG} {G:Nat->Prop} {w0 w:World} {a:Act} {V:Nat->Value} {own:Nat->Γ Nat} {f:FuncId} {R:Ending->World->Prop} {E:gH} {L:bM}
variable {t:Ty} {v:Value}
theorem aDH{G:Nat->Prop}{x:t.den}(h:yZ w G (jY t x) v):Wf t x:=by
 cases t with
 | int k=>exact h.2
 | bool=>trivial
 | fn=>trivial
 | str=>exact h.2
 | sl e=>exact dw (λ_ _=>fI.wf) h
 | unit=>trivial
 | cons a b=>obtain⟨cs,_,h⟩:=h;exact h.wf
theorem aIs{G:Nat->Prop}{x:t.den}(h:IG w G t x v):Wf t x:=by
 obtain⟨_,_,_,_,_,_,h⟩:=h;exact h.wf
theorem gf{G:Nat->Prop}:∀ {caps:Γ (Bool×Ty)} {x:vL caps} {vs:Γ Value},B4 w G caps x vs->aBx caps x
 | [],_,_,_=>trivial
 | (true,t)::r,x,vs,⟨_,_,_,h,h2⟩=>⟨aIs h,gf h2⟩
 | (false,t)::r,x,vs,⟨_,_,_,h,h2⟩=>⟨aDH h,gf h2⟩
theorem Oj{G G0:Nat->Prop}:∀ {sig:Γ AT} {x:eF sig} {vs:Γ Value} {bss:Γ (Γ Nat)},IH w G G0 sig x vs bss->Ie sig x
 | [],_,_,_,_=>trivial
 | a::r,x,vs,bss,⟨_,_,_,_,_,_,h,h2⟩=>by
  refine⟨?_,Oj h2⟩;cases a with
  | v t=>exact aDH h.2
  | p t=>exact aIs h.2
  | own t=>exact iH.wf h
  | po t=>obtain⟨b,off,_,h⟩:=h;exact(tn (λ_ _ _=>iH.wf) h).2 _ (dG.2 rfl)
  | sv t=>obtain⟨cs,_,h⟩:=h;exact h.wf
  | fn g caps=>obtain⟨_,_,_,h⟩:=h;exact gf h
def aDI{G:Nat->Prop}{sig:Γ AT}{x:eF sig}{vs:Γ Value}{bss:Γ (Γ Nat)}(h:DM w G sig x vs bss):Ie sig x:=Oj h
theorem VP:∀ {caps:Γ (Bool×Ty)} {x:vL caps} {vs:Γ Value},B4 w0 G caps x vs->uS w0 G L V (aDF caps x) vs
 | [],_,_,h=>h
 | (true,t)::r,x,vs,⟨v,s,h1,h,h2⟩=>⟨v,s,h1,h,VP h2⟩
 | (false,t)::r,x,vs,⟨v,s,h1,h,h2⟩=>⟨v,s,h1,Ab h,VP h2⟩
theorem aIt(hR:bQ n K w G w a E L V own){o:AT}{x:o.den}{bs:Γ Nat}(h:aHK w G K.G0 o x v bs)(hn:bs.Nodup)(hg:∀b∈bs,Out K G b)(hd:∀r A,bZ L r=some A->∀b∈own r,b ∉ bs) :
  ∃V' own',bQ n K w G w a E (L++(Ic L.length o x).2) V' own'/\qF L (Ic L.length o x).2 V V' own own' bs/\mK w G (L++(Ic L.length o x).2) V' (Ic L.length o x).1 v:=by
 cases o with
 | v t =>
  exact⟨V,own,by grind [Ic],qF.refl _ _ _,Ab h.2⟩
 | p t =>
  exact⟨V,own,by grind [Ic],qF.refl _ _ _,h.2⟩
 | fn f caps =>
  obtain⟨_,vs,hv,hh⟩:=h;exact⟨V,own,by grind [Ic],qF.refl _ _ _,vs,hv,VP hh⟩
 | own t =>
  have hE:iI w G w ⟨t,x,false,none,none⟩ v bs:=iI.own.2 h;obtain⟨h1,h2⟩:=O3 hR hE hn hg hd;exact⟨_,_,h1,h2,vB (w0:=w) (G:=G) (u:=w) (G':=G) hE⟩
 | po t =>
  obtain⟨b,off,rfl,hO⟩:=h;rcases hO.2 with ⟨_,h1,_,_⟩ | ⟨b2,off2,cap,cur,ty,fz,bss,h1,h2,h3,h4,h5,h6,h7,h8,h9⟩
  ·lia
  ·simp only[Value.slice.injEq,Option.some.injEq,Addr.mk.injEq]at h1;obtain⟨⟨q1,q2,_⟩,_,q3⟩:=h1;subst q1 q2 q3;obtain⟨bi,rfl⟩:∃bi,bss=[bi]:=by
    match bss,h7 with
    | [bi],_=>lia
   obtain⟨cs,g1,g2,g3⟩:=h9 0 x bi rfl rfl;have hcells:kZ w b off cs:=λj c hj=>by
    grind [iK]
   have h8:bs=b::bi:=by grind
   subst h8;obtain⟨hb,hni⟩:=jH.1 hn;obtain⟨V1,own1,r1,k1,l1,n1⟩:=Bu hR g3 hni (λc hc=>hg c (aM _ hc)) (λr A hA c hc hm=>hd r A hA c hc (aM _ hm));have hE:iI w G w ⟨t,[],false,some (sP L.length t x).1,none⟩ (.slice (some ⟨b,off,none⟩) 0 1) [b] :=
    ⟨by simp,.inr ⟨b,off,1,cur,ty,fz,[],rfl,Nat.zero_le _,h3,h4,h5,h6,rfl,rfl,λi y bi hy=>by simp⟩⟩
   have hap:=k1.apart (rest:=[b]) (λr A hA c hc hm=>hd r A hA c hc (by grind)) (λc hc hm=>hb (by grind));obtain⟨h10,h11⟩:=O3 r1 hE (by simp) (λc hc=>by grind) hap (hbox:=λl hl=>by cases hl;exact⟨b,off,cs,rfl,g1,n1,hcells,l1⟩);have e2:(Ic L.length (.po t) x).2=(sP L.length t x).2++[some ⟨t,[],false,some (sP L.length t x).1,none⟩]:=rfl;have e1:(Ic L.length (.po t) x).1 = .a (.bptr (L.length+(sP L.length t x).2.length) 0 t):=rfl;rw[e1,e2, <- cK];have hlen:(L++(sP L.length t x).2).length=L.length+(sP L.length t x).2.length:=by simp
   refine⟨_,_,h10,k1.trans h11 (λc hc=>aM _ hc) (λc hc=>by grind),?_⟩;rw[<- hlen];exact⟨_,_,b,off,Up _ _,rfl,eX _ _ _,rfl,by lia⟩
 | sv t =>
  obtain⟨cs,rfl,ho⟩:=h;obtain⟨V1,own1,r1,k1,l1,n1⟩:=Bu hR ho hn hg hd;exact⟨V1,own1,r1,k1,cs,rfl,n1,l1⟩
theorem vp:∀ {sig:Γ AT} {x:eF sig} {vs:Γ Value} {bss:Γ (Γ Nat)} {L:bM} {V:Nat->Value} {own:Nat->Γ Nat} {i:Nat},bQ n K w G w a E L V own->IH w G K.G0 sig x vs bss->bss.flatten.Nodup->(∀b∈bss.flatten,Out K G b)->(∀r A,bZ L r=some A->∀b∈own r,b ∉ bss.flatten) ->
  (∀j v,vs[j]? = some v->a.tmps.getD (i+j) undef=v) ->
  ∃V' own',bQ n K w G w a E (L++gd L.length sig x) V' own'/\(∀r,(∃B,bZ L r=some B)->n9 L V (L++gd L.length sig x) V' r)/\∀j,mK w G (L++gd L.length sig x) V' ((LP i L.length sig x).get j) (a.tmps.getD j undef)
 | [],x,vs,bss,L,V,own,i,hR,_,_,_,_,_=>⟨V,own,by grind [gd],λr _=>n9.of_same rfl (by simp[gd]),λj=>trivial⟩
 | o::sig,x,vs,bss,L,V,own,i,hR,⟨v,s,b,bs,h1,h2,h,h3⟩,hn,hg,hd,ht=>by
  subst h1 h2;obtain⟨hn1,hn2,hn3⟩:=CG hn;obtain⟨V1,own1,r1,g1,p1⟩:=aIt hR h hn1 (λc hc=>hg c (by grind)) (λr A hA c hc hm=>hd r A hA c hc (by grind));have hlen:(L++(Ic L.length o x.1).2).length=L.length+(Ic L.length o x.1).2.length:=by simp
  obtain⟨V2,own2,r2,a2,p2⟩:=vp (i:=i+1) r1 h3 hn2 (λc hc=>hg c (by grind)) (g1.apart (λr A hA c hc hm=>hd r A hA c hc (by grind)) hn3) (λj u hj=>by
   have:=ht (j+1) u (by grind)
   lia)
  rw[hlen]at r2 a2 p2;have e1:gd L.length (o::sig) x=(Ic L.length o x.1).2++gd (L.length+(Ic L.length o x.1).2.length) sig x.2:=rfl;have e2:LP i L.length (o::sig) x=(i,(Ic L.length o x.1).1)::LP (i+1) (L.length+(Ic L.length o x.1).2.length) sig x.2:=rfl;rw[e1,e2, <- cK];refine⟨V2,own2,r2,λr hr=>?_,λj=>?_⟩
  ·have a1:=g1.agree r hr;obtain⟨B,hB⟩:=hr;obtain⟨B',hB',_⟩:=a1.2 B hB;exact a1.trans (a2 r ⟨B',hB'⟩)
  ·simp only[pI];cases hij:cE i j with
   | true =>
    obtain rfl:=aZ hij;have:=ht 0 v rfl
    grind [sU,Zp]
   | false =>
    grind
theorem vq{G G0:Nat->Prop}:∀ {sig:Γ AT} {x:eF sig} {vs:Γ Value} {bss:Γ (Γ Nat)} {i:Nat} {q:Nat->Value},IH w G G0 sig x vs bss->(∀j v,vs[j]? = some v->q (i+j)=v)->kO sig vs=(lS i sig).map q
 | [],x,vs,bss,i,q,h,_=>by rfl
 | a::r,x,vs,bss,i,q,⟨v,s,b,bs,h1,h2,h,h3⟩,hq=>by
  subst h1 h2;have h0:q i=v:=by have:=hq 0 v rfl;lia
  have ih:=vq (i:=i+1) (q:=q) h3 (λj u hj=>by have:=hq (j+1) u (by grind);lia);cases a with
  | v t=>exact ih
  | p t=>exact ih
  | fn g caps=>exact ih
  | own t=>simp[kO,lS,O6,h0,ih]
  | po t=>simp[kO,lS,O6,h0,ih]
  | sv t=>simp[kO,lS,O6,h0,ih]
def Ok(kds:Γ RK)(oks:Γ AT)(ds:Γ aS)(us:Γ (Option jD))(pins:Γ Nat)(q:Nat->Value)(K:fG)(e:Ending)(w':World):Prop :=
 aHL K.w0 K.O K.Ga K.G0 kds ds oks us (pins.map q) e w'
theorem vr{fn:Func}{c:Code}{S:Spec}(hf:P.funcs[f]? = some fn)(hb:fn.body=some c)(hl:S.sig.length<=fn.ntmps)
  (h:∀x,S.pre x->Ie S.sig x->∀K q,tj P f (Ok S.kds (CA S.sig) (S.res x) (S.upd x) (lS 0 S.sig) q K) fn.ntmps K q (lS 0 S.sig) [.code c] (LP 0 0 S.sig x) (Te S.sig x)):jZ P f S:=by
 intro w G G0 x vs bss hgo hG hG0 hpre hargs hnd;have hlen:=U5 hargs;have hget0:∀j v,vs[j]? = some v->(vs.toArray++jI (fn.ntmps-vs.toArray.size) undef).getD j undef=v:=λj v hj=>by
  rw[iD]
  grind
 let q:Nat->Value:=λi=>(vs.toArray++jI (fn.ntmps-vs.toArray.size) undef).getD i undef
 let K:fG:=⟨w,bss.flatten,G0,G⟩
 let a0:Act:={ tmps:=vs.toArray++jI (fn.ntmps-vs.toArray.size) undef,defers:=[] }
 have hov:kO S.sig vs=(lS 0 S.sig).map q:=vq hargs (λj v hj=>by grind);have h0:bQ fn.ntmps K w G w a0 [] [] (λ_=>undef) (λ_=>[]):=by
  refine⟨hgo,dI _ _,?_,rfl,λb hb=>(hG b hb).1,λ_ _=>rfl,hG0,λb hb=>hG b (hG0 b hb),λb hb => .inl hb,(λr A hr=>by cases hr),(λr A hr=>by simp),(λr A hr=>by simp),(λr s A B hr=>by simp),(λr A ls hr=>by cases hr),(λr A q hr=>by cases hr),λi=>trivial⟩
  grind
 obtain⟨V,own,h1,_,h2⟩:=vp (i:=0) h0 hargs hnd (λb hb=>⟨λh=>h.2 hb,λh=>(hG b h).2 hb⟩) (λr A hr=>by simp) (λj v hj=>by grind);have h3:bQ fn.ntmps K w G w a0 (LP 0 0 S.sig x) (Te S.sig x) V own:={ h1 with env:=λi=>h2 i };refine(ga hf hb (h x hpre (Oj hargs) K q a0 w w G V own h3 (λt ht=>rfl))).mono ?_;intro e w' hp;rw[hov];exact hp
def aBy(L:bM):AT->PV->Option (jD×Γ Nat)
 | .own t,.a (.osl k none)=>match bZ L k with
  | some A=>match A.bor with
   | false=>some (⟨A.t,A.xs⟩,[k])
   | true=>none
  | none=>none
 | .po t,.a A=>match aD0 L t A with
  | some (x,us)=>some (⟨t,[x]⟩,us)
  | none=>none
 | .sv t,.a A=>match aD1 L t A with
  | some (x,us)=>some (⟨t,[x]⟩,us)
  | none=>none
 | _,_=>none
def Qt(E:gH)(L:bM)(gone:Γ Nat):Γ Nat->Γ AT->Γ (Option jD)×Γ Nat
 | i::r,o::os=>match Qt E L gone r os with
  | (us,rs)=>match aBy L o (E.get i)with
   | some (A,ks)=>match uc ks gone with
    | true=>(some A::us,ks++rs)
    | false=>(none::us,rs)
   | none=>(none::us,rs)
 | _::r,[]=>(none::(Qt E L gone r []).1,[])
 | [],_=>([],[])
theorem vt(hR:bQ n K w0 G w a E L V own){o:AT}{p:PV}{A:jD}{ks:Γ Nat}(hp:mK w0 G L V p v)(h:aBy L o p=some (A,ks)):aAV w K.G0 o A v (ks.map own).flatten/\∀r∈ks,∃B,bZ L r=some B:=by
 unfold aBy at h;split at h
 ·rename_i t k;split at h
  ·rename_i B hB;split at h
   ·rename_i hbor;cases h;obtain⟨B',hB',h1,_⟩:=hp;have hE:=hR.heap k B hB;obtain⟨tB,xB,bB,lB,sB⟩:=B;subst hbor;refine⟨?_,λr hr=>by grind⟩;rw[h1 rfl];simp;exact iI.own.1 hE
   lia
  lia
 ·split at h
  ·rename_i x us hpo;cases h;obtain⟨h1,h2,_⟩:=Kc hR (dI _ _) hp hpo;exact⟨⟨x,rfl,h1⟩,h2⟩
  lia
 ·split at h
  ·rename_i x us hsv;cases h;obtain⟨h1,h2⟩:=Q5 hR (dI _ _) hp hsv;exact⟨⟨x,rfl,h1⟩,h2⟩
  lia
 lia
theorem an{q:Nat->Value}{gone:Γ Nat}(hR:bQ n K w0 G w a E L V own):∀ {ps:Γ Nat} {os:Γ AT},ps.length<=os.length->(∀t∈ps,a.tmps.getD t undef=q t) ->
  ∃ubs,T9 w K.G0 os (Qt E L gone ps os).1 (ps.map q) ubs/\ubs.flatten=((Qt E L gone ps os).2.map own).flatten/\∀r∈(Qt E L gone ps os).2,∃B,bZ L r=some B
 | [],os,_,_=>⟨[],by cases os <;> exact⟨rfl,rfl⟩,by rfl,λr hr=>by cases os <;> cases hr⟩
 | i::ps,[],hl,_=>by grind
 | i::ps,o::os,hl,hq=>by
  obtain⟨ubs,h1,h2,h3⟩:=an hR (ps:=ps) (os:=os) (by grind) (λt ht=>hq t (aM _ ht));simp[Qt];have skip:∃ubs,T9 w K.G0 (o::os) (none::(Qt E L gone ps os).1) ((i::ps).map q) ubs/\ubs.flatten=((Qt E L gone ps os).2.map own).flatten/\∀r∈(Qt E L gone ps os).2,∃B,bZ L r=some B :=
   ⟨[]::ubs,⟨_,_,_,rfl,rfl,h1⟩,by grind,h3⟩
  split
  ·rename_i A ks hk;split
   ·have hv:=hR.env i;rw[hq i (aR ..)]at hv;obtain⟨g1,g2⟩:=vt hR hv hk;refine⟨(ks.map own).flatten::ubs,⟨_,_,_,_,rfl,rfl,g1,h1⟩,by grind,λr hr=>?_⟩
    grind
   grind
  grind
def aSm(L:bM):(t:Ty)->c7->Option (t.den×Γ Nat)
 | .sl e,.osl r none=>match bZ L r with
  | some A=>match A.bor with
   | true=>none
   | false=>if h:A.t=e then some (qE h A.xs,[r])else none
  | none=>none
 | .sl e,.osl r (some (lo,hi))=>match bZ L r with
  | some A=>match e.flat && !A.bor with
   | true=>if h:A.t=e then some (BU (some (lo,hi)) (qE h A.xs),[r])else none
   | false=>none
  | none=>none
 | .sl e,.val (.slice none _ _)=>some ([],[])
 | t,.rcd t' ls=>match decide (t'=t),t.agg with
  | true,true=>sS L t ls
  | _,_=>none
 | t,A=>match t.flat with
  | true=>match DG t A with
   | some x=>some (x,[])
   | none=>none
  | false=>none
def aMN(L:bM):RK->(t:Ty)->c7->Option (t.den×Γ Nat)
 | .own,t,A=>aSm L t A
 | .frz,t,A=>match DG t (fu A)with
  | some x=>some (x,[])
  | none=>none
def aIu(tab:Γ TI)(L:bM)(T:TypeId)(A:c7):Option c7 :=
 match (jO tab T).ty with
 | some t=>aDy L t A
 | none=>none
def aFK(tab:Γ TI)(E:gH)(L:bM):Γ RK->Γ Ty->Γ ResultVar->Option (Γ aS×Γ Nat)
 | _,[],[]=>some ([],[])
 | ks,t::ts,.tmp i::r=>match E.get i with
  | .a A=>match aMN L (RK.hd ks) t A,aFK tab E L ks.tail ts r with
   | some (x,us),some (ds,vs)=>some (⟨t,x⟩::ds,us++vs)
   | _,_=>none
  | _=>none
 | ks,t::ts,.cell i T::r=>match E.get i with
  | .a A=>match aIu tab L T A with
   | some B=>match aMN L (RK.hd ks) t B,aFK tab E L ks.tail ts r with
    | some (x,us),some (ds,vs)=>some (⟨t,x⟩::ds,us++vs)
    | _,_=>none
   | none=>none
  | _=>none
 | _,_,_=>none
def aIv(tab:Γ TI)(E:gH)(L:bM):Γ RK->Γ ResultVar->Γ Nat
 | .frz::ks,.tmp i::r=>(match E.get i with
  | .a A=>vA A
  | _=>[])++aIv tab E L ks r
 | .frz::ks,.cell i T::r=>(match E.get i with
  | .a A=>match aIu tab L T A with
   | some B=>vA B
   | none=>[]
  | _=>[])++aIv tab E L ks r
 | _::ks,_::r=>aIv tab E L ks r
 | _,_=>[]
theorem VQ{cs:Γ Value}(hl:cs.length=t.size):H8 t cs (gY t cs):=by
 cases t <;> simp[H8,gY,hZ]
 all_goals (match cs,hl with | [c],_=>rfl)
theorem aIw{T:TypeId}{u v:Value}(h:(Bf T u).run P w = .ok v w):(do loadVar T (<- asAddr u):Sem Value).run P w = .ok v w:=by
 cases u with
 | pointer a =>
  cases a with
  | none=>simp[Bf,tX]at h
  | some a=>grind [Bf,tX,asAddr]
 | _=>simp[Bf,tX]at h
theorem aFL(hR:bQ n K w0 G w a E L V own){A:c7}{x:t.den}{us:Γ Nat}(hv:nE w0 G L V A v)(h:(match t.flat with | true=>(match DG t A with | some x=>some (x,([]:Γ Nat)) | none=>none) | false=>none)=some (x,us)) :
  us=[]/\∃cs,iH w t x cs []/\H8 t cs v:=by
 split at h
 ·rename_i hf;split at h
  ·rename_i y hd;cases h;obtain⟨cs,hv,_,_,hent⟩:=Fo (qP hv hd) hd false (λ_=>hf);exact⟨rfl,cs,hent w,by grind [VQ]⟩
  lia
 lia
theorem aFM(hR:bQ n K w0 G w a E L V own){A:c7}{x:t.den}{us:Γ Nat}(hv:nE w0 G L V A v)(h:aSm L t A=some (x,us)) :
  (∃cs,iH w t x cs (us.map own).flatten/\H8 t cs v)/\∀r∈us,∃B,bZ L r=some B:=by
 unfold aSm at h;split at h
 ·rename_i e r;have h':slW L e (.osl r none)=some (x,us):=h;obtain⟨h1,h2⟩:=fc hR (l := .osl r none) (v:=v) hv h';exact⟨⟨[v],h1,rfl⟩,h2⟩
 ·rename_i e r lo hi;have h':slW L e (.osl r (some (lo,hi)))=some (x,us):=h;obtain⟨h1,h2⟩:=fc hR (l := .osl r (some (lo,hi))) (v:=v) hv h';exact⟨⟨[v],h1,rfl⟩,h2⟩
 ·cases h;obtain⟨rfl,hn,hc⟩:=hv;subst hn hc;exact⟨⟨_,⟨_,rfl,by simp,.inl ⟨_,rfl,rfl,rfl⟩⟩,rfl⟩,λr hr=>by grind⟩
 ·split at h
  ·rename_i ht ha;obtain⟨cs,rfl,hl,hr⟩:=hv;obtain⟨h1,h2⟩:=Ez hR hr h;refine⟨⟨cs,h1,?_⟩,h2⟩;have:=VQ h1.length
   rwa [gY,π ha]at this
  lia
 ·obtain⟨rfl,cs,h1,h2⟩:=aFL hR hv h
  grind
def aMO(K:fG)(G:Nat->Prop)(b:Nat):Prop:=G b/\¬Good K.w0 K.O b
theorem aq(hR:bQ n K w0 G w a E L V own){k:RK}{A:c7}{x:t.den}{us:Γ Nat}(hv:nE w0 G L V A v)(h:aMN L k t A=some (x,us)) :
  U4 w K.Ga (aMO K G) k ⟨t,x⟩ v (us.map own).flatten/\∀r∈us,∃B,bZ L r=some B:=by
 have hup:∀b,G b->K.Ga b\/aMO K G b:=λb hb=>(hR.gup b hb).imp_right λh=>⟨hb,h⟩;cases k with
 | own=>exact aFM hR hv h
 | frz =>
  simp[aMN]at h;split at h
  ·rename_i y hd;cases h;obtain⟨cs,hr,hvv⟩:=Bt (qP (VB hv) hd) hd;refine⟨⟨rfl,cs,hr.keep hup hR.gref,?_⟩,λr hr=>by grind⟩;rw[hvv];exact VQ hr.length
  lia
theorem Qu{tab:Γ TI}(hT:kW P tab)(hR:bQ n K w0 G w a E L V own):∀ {ks:Γ RK} {ts:Γ Ty} {rv:Γ ResultVar} {ds:Γ aS} {us:Γ Nat},aFK tab E L ks ts rv=some (ds,us) ->
  ∃rs bss,(rv.mapM λx=>(match x with | .tmp t=>pure (a.tmps.getD t undef) | .cell b t=>do loadVar t (<- asAddr (a.tmps.getD b undef)):Sem Value)).run P w = .ok rs w/\rs.length=rv.length/\Yo w K.Ga (aMO K G) ks ds rs bss/\bss.flatten=(us.map own).flatten/\∀r∈us,∃B,bZ L r=some B
 | ks,[],[],ds,us,h=>by
  have h':ds=[]/\us=[]:=by cases ks <;> (cases h;lia)
  obtain⟨rfl,rfl⟩:=h';exact⟨[],[],by rfl,rfl,by cases ks <;> exact⟨rfl,rfl⟩,rfl,λr hr=>by grind⟩
 | ks,t::ts,.tmp i::rv,ds,us,h=>by
  simp only[aFK]at h;split at h
  ·rename_i A hA;split at h
   ·rename_i x u ds' vs hd hf;cases h;have hv:nE w0 G L V A (a.tmps.getD i undef):=by
     have:=hR.env i;rw[hA]at this;exact this
    obtain⟨h1,h3⟩:=aq hR hv hd;obtain⟨rs,bss,g1,g2,g3,g4,g5⟩:=Qu hT hR hf;refine⟨a.tmps.getD i undef::rs,(u.map own).flatten::bss,?_,by grind,by cases ks <;> exact⟨_,_,_,_,rfl,rfl,h1,g3⟩,?_,?_⟩
    ·rw[Y4];simp only[dV,fP,cJ];rw[g1];rfl
    ·simp[g4]
    ·intro r hr;rcases dC.1 hr with hr | hr
     ·exact h3 r hr
     ·exact g5 r hr
   lia
  lia
 | ks,t::ts,.cell i T::rv,ds,us,h=>by
  simp only[aFK]at h;split at h
  ·rename_i A hA;split at h
   ·rename_i B hB;split at h
    ·rename_i x u ds' vs hd hf;cases h;have hv:nE w0 G L V A (a.tmps.getD i undef):=by
      have:=hR.env i;rw[hA]at this;exact this
     unfold aIu at hB;split at hB
     ·rename_i t0 ht0;obtain⟨v,hv',hrun⟩:=Ue (P:=P) hR (TI.ty_ok (hT T) ht0) hv hB;obtain⟨h1,h3⟩:=aq hR hv' hd;obtain⟨rs,bss,g1,g2,g3,g4,g5⟩:=Qu hT hR hf;refine⟨v::rs,(u.map own).flatten::bss,?_,by grind,by cases ks <;> exact⟨_,_,_,_,rfl,rfl,h1,g3⟩,?_,?_⟩
      ·have hc:=aIw (hrun w (dI _ _));rw[Y4,dV];simp_all
      all_goals grind
     lia
    lia
   lia
  lia
 | ks,[],_::_,_,_,h=>by cases ks <;> cases h
 | ks,_::_,[],_,_,h=>by cases ks <;> cases h
def Ol(tab:Γ TI)(ext:Aw)(wr:Bool)(n:Nat)(stops:Γ Nat)(m:Nat)(pins:Γ Nat)(oks:Γ AT)(kds:Γ RK)(ts:Γ Ty)(rv:Array ResultVar)(path:Γ Bool)(k:Γ Item)(E:gH)(L:bM):Option (Γ aS×Γ (Option jD)×Γ Prop) :=
 match uG tab ext wr n stops m true k ⟨path,[],E,L,[],pins⟩ with
 | some (.fin S)=>match MI (aIv tab S.E S.L kds rv.toList) (S.E,S.L)with
  | (E1,L1)=>match aFK tab E1 L1 kds ts rv.toList with
   | some (ds,us)=>match CD ((Qt E1 L1 us pins oks).2++us)&&decide (S.pins=pins)&&pJ pins.length oks.length with
    | true=>some (ds,(Qt E1 L1 us pins oks).1,S.cs)
    | false=>none
   | none=>none
 | _=>none
def vu:Γ (Option jD)->Γ (Option jD)->Prop
 | [],[]=>True
 | u::r,u'::r'=>(u'=u\/u'=none)/\vu r r'
 | _,_=>False
variable {q:Nat->Value}
theorem Ok.weak{kds:Γ RK}{oks:Γ AT}{ds:Γ aS}{us us':Γ (Option jD)}{pins:Γ Nat}{K:fG}{e:Ending}{w':World}(h:Ok kds oks ds us pins q K e w')(hw:vu us us'):Ok kds oks ds us' pins q K e w':=by
 obtain⟨rs,ubs,rbs,F,h1,h2,h3,h4,h5,h6,h7⟩:=h;have key:∀(us us':Γ (Option jD)) (os:Γ AT) (vs:Γ Value) (ubs:Γ (Γ Nat)),vu us us'->T9 w' K.G0 os us vs ubs->∃nbs:Γ (Γ Nat),T9 w' K.G0 os us' vs nbs/\nbs.flatten.Sublist ubs.flatten:=by
  intro us
  induction us with
  | nil =>
   intro us' os vs ubs hw h;cases us' with
   | nil=>grind
   | cons _ _=>cases hw
  | cons u r ih =>
   intro us' os vs ubs hw h;cases us' with
   | nil=>cases hw
   | cons u' r' =>
    obtain⟨hu,hw⟩:=hw;cases os with
    | nil=>cases u <;> exact h.elim
    | cons o os =>
     cases u with
     | none =>
      obtain⟨v,s,bs,rfl,rfl,h⟩:=h;obtain⟨nbs,g1,g2⟩:=ih _ _ _ _ hw h;have:u'=none:=by lia
      subst this;exact⟨[]::nbs,⟨_,_,_,rfl,rfl,g1⟩,by grind⟩
     | some A =>
      obtain⟨v,s,b,bs,rfl,rfl,h0,h⟩:=h;obtain⟨nbs,g1,g2⟩:=ih _ _ _ _ hw h;rcases hu with rfl | rfl
      ·exact⟨b::nbs,⟨_,_,_,_,rfl,rfl,h0,g1⟩,by grind⟩
      ·exact⟨[]::nbs,⟨_,_,_,rfl,rfl,g1⟩,by grind⟩
 obtain⟨nbs,g1,g2⟩:=key _ _ _ _ _ hw h4;have g3:(nbs.flatten++rbs.flatten).Sublist (ubs.flatten++rbs.flatten):=g2.append_right _;refine⟨rs,nbs,rbs,F,h1,h2,h3,g1,h5.sublist g3,λb hb=>h6 b (g3.subset hb),λb hb=>?_⟩
 grind
theorem tj.mono{R':Ending->World->Prop}{ps:Γ Nat}{k:Γ Item}(h:tj P f R n K q ps k E L)(hm:∀e w,R e w->R' e w):tj P f R' n K q ps k E L:=by
 intro a w w0 G V own hR hq b cs hb hk;obtain⟨e,w',fr,h1,h2⟩:=h a w w0 G V own hR hq b cs hb hk
 grind
theorem tj.weak{kds:Γ RK}{oks:Γ AT}{ds:Γ aS}{us us':Γ (Option jD)}{q:Nat->Value}{pins ps:Γ Nat}{k:Γ Item}(h:tj P f (Ok kds oks ds us pins q K) n K q ps k E L)(hw:vu us us'):tj P f (Ok kds oks ds us' pins q K) n K q ps k E L :=
 h.mono λ_ _ h=>h.weak hw
theorem tj.fin{fn:Func}(hf:P.funcs[f]? = some fn){tab:Γ TI}{ext:Aw}(hT:kW P tab)(hX:rM P ext)(hm:P.follows .mixedOrders=true){pins:Γ Nat}{oks:Γ AT}{kds:Γ RK}{wr:Bool}{stops:Γ Nat}{m:Nat}{ts:Γ Ty}{path:Γ Bool}{k:Γ Item}{ds:Γ aS}{us:Γ (Option jD)}{cs:Γ Prop}
  (h:Ol tab ext wr n stops m pins oks kds ts fn.results path k E L=some (ds,us,cs)) (hc:gZ cs):tj P f (Ok kds oks ds us pins q K) n K q pins k E L:=by
 intro a w w0 G V own hR hq;unfold Ol at h;split at h
 ·rename_i S hr;split at h;rename_i E1 L1 hfrz;split at h
  ·rename_i ds' us' hfin;split at h
   ·rename_i hnd;simp at hnd;obtain⟨⟨hnd,hp⟩,hpl⟩:=hnd;cases h;refine vn hT hX hm hr hc hR ⟨λt d ht=>by grind [I2],hq⟩ ?_;intro a' w' w1 G1 V' own' hR1 hq';rw[hp]at hq';obtain⟨w2,G2,hR'⟩:=I1 (rs:=aIv tab S.E S.L kds fn.results.toList) hR1;rw[hfrz]at hR';obtain⟨rs,bss,g1,g2,g3,g4,g5⟩:=Qu (P:=P) hT hR' hfin;obtain⟨ubs,k1,k2,k3⟩:=an (gone:=us') hR' hpl hq';have hall:ubs.flatten++bss.flatten=(((Qt E1 L1 us' pins oks).2++us').map own').flatten:=by grind
    have hlive:∀r∈(Qt E1 L1 us' pins oks).2++us',∃B,bZ L1 r=some B:=λr hr=>by
     grind
    have hout:∀b∈ubs.flatten++bss.flatten,Am.Out K G2 b:=by
     intro b hb;rw[hall]at hb;obtain⟨l,hl,hb⟩:=kU.1 hb;obtain⟨r,hr,rfl⟩:=cW.1 hl;obtain⟨B,hB⟩:=hlive r hr;exact hR'.good r B hB b hb
    refine⟨hR'.defers,fn,II rs,hf,?_,rs,ubs,bss,aMO K G2,rfl,hR'.kept,g3,k1,?_,λb hb=>(hout b hb).1,λb hb=>⟨hR'.glt b hb.1,hb.2,λhm=>(hout b hm).2 hb.1⟩⟩
    ·unfold results;have hm':(fn.results.mapM λx=>(match x with | .tmp t=>pure (a'.tmps.getD t undef) | .cell b t=>do loadVar t (<- asAddr (a'.tmps.getD b undef)):Sem Value)).run P w' = .ok rs.toArray w':=by
      rw[List.mapM_toArray];simp_all
     simp only[dV];refine(congrArg (λr=>Result.andThen r _) hm').trans ?_
     match rs with
     | []=>rfl
     | [v]=>rfl
     | _::_::_=>rfl
    grind [Qe,IQ]
   lia
  lia
 lia
end
end Go.Am
namespace Go.Am
open Go.ChangeShapes Go.WideShapes Go.ChangeAt Go.RowKit
def pE(P:Program)(agg:Bool)(T:TypeId)(k:TypeId ⊕ (Γ Field×Nat)->Bool):Bool :=
 match agg with
 | true=>match P.underlying T with
  | some (.struct fs)=>k (.inr (fs.toList,0))
  | _=>false
 | false=>k (.inl T)
def j5(P:Program):Ty->TypeId ⊕ (Γ Field×Nat)->Bool
 | .int k,.inl T=>dy k (P.underlying T)
 | .bool,.inl T=>Tx (P.underlying T)
 | .str,.inl T=>dz (P.underlying T)
 | .unit,.inr ([],_)=>true
 | .cons a b,.inr (f::fs,o)=>cE f.offset o&&(cE (P.cellsOf f.type) a.size&&(pE P a.agg f.type (j5 P a)&&j5 P b (.inr (fs,o+a.size))))
 | _,_=>false
def MO(P:Program)(t:Ty)(T:TypeId):Bool:=cE (P.cellsOf T) t.size&&pE P t.agg T (j5 P t)
section
variable {H:Type} {enc:TypeId×Value->H} {P:Program} {w:World} {base:Nat} {spare:Nat->Bool} {held:Bool} {G:Nat->Prop}
def Fx(enc:TypeId×Value->H)(P:Program)(w:World)(base:Nat)(spare:Nat->Bool)(held:Bool)(cs:Γ Value)(f:Field):Prop :=
 ∃n x,HS enc P w base spare held n f.type ((cs.drop f.offset).take (P.cellsOf f.type))=some x
variable {T:TypeId} {cs:Γ Value}
theorem DV{fs:Array Field}{fuel:Nat}{x:DataW H×Γ MemPlace}(ht:P.underlying T=some (.struct fs))(h:HS enc P w base spare held fuel T cs=some x) :
  cs.length=P.cellsOf T/\∀f∈fs.toList,Fx enc P w base spare held cs f:=by
 obtain⟨xs,n,_,_,hl,hx,hf⟩:=DataW.trod_struct ht h;refine⟨hl,λf hf'=>?_⟩;obtain⟨i,hi⟩:=iL hf';rw[eK]at hi;have hlt:i<fs.size:=(kH.1 hi).1;exact⟨n,xs[i]'(by lia),by grind⟩
theorem CM:∀(t:Ty),
  (∀T fuel cs x,pE P t.agg T (j5 P t)=true->P.cellsOf T=t.size->HS enc P w base spare held fuel T cs=some x->∃y,fI w G t y cs) /\
  (∀fs o cs,j5 P t (.inr (fs,o))=true->(∀f∈fs,Fx enc P w base spare held cs f)->cs.length=o+t.size->∃y,fI w G t y (cs.drop o))
 | .int k=>by
  refine⟨λT fuel cs x h _ ht=>?_,λfs o cs h=>by grind [j5]⟩;have hu:=QX (by simpa [pE,hZ,j5] using h);obtain⟨n,rfl,_,hw⟩:=DataW.trod_int hu ht;exact⟨n,rfl,by grind [Lit.wf,aX]⟩
 | .bool=>by
  refine⟨λT fuel cs x h _ ht=>?_,λfs o cs h=>by grind [j5]⟩;have hu:=Lv (by simpa [pE,hZ,j5] using h);obtain⟨b,rfl,_⟩:=DataW.trod_bool hu ht;exact⟨b,rfl⟩
 | .fn=>⟨λT fuel cs x h=>by grind [pE,hZ,j5],λfs o cs h=>by grind [j5]⟩
 | .str=>by
  refine⟨λT fuel cs x h _ ht=>?_,λfs o cs h=>by grind [j5]⟩;have hu:=QY (by simpa [pE,hZ,j5] using h);obtain⟨s,rfl,_,hs⟩:=DataW.trod_string hu ht;exact⟨s,rfl,hs⟩
 | .sl e=>by
  simp[pE,hZ,j5]
 | .unit=>by
  have hB:∀fs o cs,j5 P .unit (.inr (fs,o))=true->(∀f∈fs,Fx enc P w base spare held cs f)->cs.length=o+LL.size->∃y,fI w G .unit y (cs.drop o):=by
   intro fs o cs h _ hl;refine⟨(),?_⟩;show cs.drop o=[]
   grind [Au,uM]
  refine⟨λT fuel cs x h hc ht=>?_,hB⟩;simp only[pE,hZ]at h;split at h
  ·rename_i fs hu;obtain⟨h1,h2⟩:=DV hu ht
   grind
  lia
 | .cons a b=>by
  obtain⟨ha,_⟩:=CM a;obtain⟨_,hb⟩:=CM b;have hB:∀fs o cs,j5 P (.cons a b) (.inr (fs,o))=true->(∀f∈fs,Fx enc P w base spare held cs f)->cs.length=o+(lQ a b).size->∃y,fI w G (.cons a b) y (cs.drop o):=by
   intro fs o cs h hf hl
   match fs,h with
   | [],h=>grind [j5]
   | f::fs,h =>
    simp only[j5,aT]at h;obtain⟨h1,h2,h3,h4⟩:=h;have h1:=aZ h1;have h2:=aZ h2;simp only[uM]at hl;obtain⟨n,x,hx⟩:=hf f (aR ..);obtain⟨y1,hy1⟩:=ha _ _ _ _ h3 h2 hx;obtain⟨y2,hy2⟩:=hb fs (o+a.size) cs h4 (λg hg=>hf g (aM _ hg)) (by lia);refine⟨(y1,y2),_,_,?_,hy1,hy2⟩
    grind [pY,fD]
  refine⟨λT fuel cs x h hc ht=>?_,hB⟩;simp only[pE,hZ]at h;split at h
  ·rename_i fs hu;obtain⟨h1,h2⟩:=DV hu ht
   grind
  lia
theorem aBz{a:Addr}{n:Nat}(h:w.cells? base a n=some cs):cs.length=n/\∀j c,cs[j]? = some c->w.cell? (a.add j)=some c:=by
 unfold World.cells? at h;split at h
 ·have key:∀(l:Γ Nat) (cs:Γ Value),(l.mapM λi=>w.cell? (a.add i))=some cs->cs.length=l.length/\∀(j:Nat) (c:Value) (i:Nat),cs[j]? = some c->l[j]? = some i->w.cell? (a.add i)=some c:=by
   intro l
   induction l with
   | nil=>simp
   | cons i l ih =>
    cases hc:w.cell? (a.add i)with
    | none=>grind
    | some c =>
     cases hr:l.mapM λi=>w.cell? (a.add i)with
     | none=>grind
     | some r =>
      grind
  obtain⟨h1,h2⟩:=key _ _ h;refine⟨by grind,λj c hj=>h2 j c j hj ?_⟩
  grind
 lia
def aB0(w:World)(v:Value):Prop:=∀a len cap,v = .slice (some a) len cap->a.spot=none/\a.block<w.heap.size
variable {r:Reach} {b0:Nat}
theorem aMP{a:Addr}{e:TypeId}{n:Nat}(h:w.has P r b0 a e n):a.spot=none/\a.block<w.heap.size:=by
 obtain⟨_,hs,row,cells,hsh,_⟩:=h
 grind [Bg]
variable {v:Value}
theorem aIx{u:TypeId}(h:Cell.okWide P w r b0 u v):aB0 w v:=by
 rintro a len cap rfl;unfold Cell.okWide at h;unfold Cell.ok at h
 grind [aMP]
theorem aMQ{cs:Array Value}(h:Row.okWide P w r b0 T cs):∀v∈cs.toList,aB0 w v:=by
 obtain⟨ts,_,_,h⟩:=h;intro v hv;obtain⟨i,hi⟩:=iL hv;rw[eK]at hi;obtain⟨u,_,hu⟩:=h i v hi;exact aIx hu
theorem If{e:Ty}{E T:TypeId}{fuel:Nat}{x:DataW H×Γ MemPlace}(hu:P.underlying T=some (.slice E))(hr:MO P e E=true)(hz:e.size≠0)(hf:∀v∈cs,aB0 w v)
  (h:HS enc P w base spare held fuel T cs=some x):∃(v:Value) (ys:Γ e.den),cs=[v]/\oA w (Good w []) (fI w (Good w []) e) e.size ys v:=by
 simp only[MO,aT]at hr;obtain⟨hc,hr⟩:=hr;have hc:=aZ hc;rcases DataW.trod_slice hu h with ⟨h1,_⟩ | ⟨a,len,cap,elems,rest,n,_,h1,_,_,hl,hm,hlen,hel,_⟩
 ·exact⟨_,[],h1,by simp,.inl ⟨_,rfl,rfl⟩⟩
 ·subst h1;obtain⟨hs,hb⟩:=hf _ (dG.2 rfl) _ _ _ rfl;obtain⟨b,off,spot⟩:=a;have each:∀i,i<len->∃y cs,cs.length=e.size/\(∀j c,cs[j]? = some c->w.cell? ⟨b,off+i*e.size+j,none⟩=some c)/\fI w (Good w []) e y cs:=by
   intro i hi;have hx:=hel i hi;rw[List.getElem?_eq_getElem (by lia)]at hx;simp[Option.bind_eq_some_iff]at hx;obtain⟨cs,g1,g2⟩:=hx;obtain⟨k1,k2⟩:=aBz g1;obtain⟨y,hy⟩:=(CM (G:=Good w []) e).1 E _ _ _ hr hc g2
   grind [fX]
  have build:∀k,k<=len->∃ys:Γ e.den,ys.length=k/\∀i y,ys[i]? = some y->∃cs,cs.length=e.size/\(∀j c,cs[j]? = some c->w.cell? ⟨b,off+i*e.size+j,none⟩=some c)/\fI w (Good w []) e y cs:=by
   intro k
   induction k with
   | zero=>simp
   | succ k ih =>
    intro hk;obtain⟨ys,h1,h2⟩:=ih (by lia);obtain⟨y,cs,g1,g2,g3⟩:=each k (by lia);refine⟨ys++[y],by grind,λi z hz=>?_⟩
    grind
  obtain⟨ys,h1,h2⟩:=build len (aU _);exact⟨_,ys,rfl,by lia,.inr ⟨b,off,cap,by lia,by lia,by lia,⟨hb,by simp⟩,h2⟩⟩
def qU(P:Program):Ty->TypeId ⊕ (Γ Field×Nat)->Bool
 | .sl e,.inl T=>match P.underlying T with
  | some (.slice E)=>MO P e E && !cE e.size 0
  | _=>false
 | .unit,.inr ([],_)=>true
 | .cons a b,.inr (f::fs,o)=>cE f.offset o&&(cE (P.cellsOf f.type) a.size&&(pE P a.agg f.type (qU P a)&&qU P b (.inr (fs,o+a.size))))
 | .int k,x=>j5 P (.int k) x
 | .bool,x=>j5 P .bool x
 | .str,x=>j5 P .str x
 | _,_=>false
theorem Qv:∀(t:Ty),
  (∀T fuel cs x,pE P t.agg T (qU P t)=true->P.cellsOf T=t.size->(∀v∈cs,aB0 w v)->HS enc P w base spare held fuel T cs=some x->∃y,fI w (Good w []) t y cs) /\
  (∀fs o cs,qU P t (.inr (fs,o))=true->(∀f∈fs,Fx enc P w base spare held cs f)->(∀v∈cs,aB0 w v)->cs.length=o+t.size->∃y,fI w (Good w []) t y (cs.drop o))
 | .int k=>by
  refine⟨λT fuel cs x h hc _ ht=>(CM (.int k)).1 T fuel cs x ?_ hc ht,λfs o cs h=>by grind [qU,j5]⟩
  grind [pE,hZ,qU]
 | .bool=>by
  refine⟨λT fuel cs x h hc _ ht=>(CM .bool).1 T fuel cs x ?_ hc ht,λfs o cs h=>by grind [qU,j5]⟩
  grind [pE,hZ,qU]
 | .fn=>⟨λT fuel cs x h=>by grind [pE,hZ,qU],λfs o cs h=>by grind [qU]⟩
 | .str=>by
  refine⟨λT fuel cs x h hc _ ht=>(CM .str).1 T fuel cs x ?_ hc ht,λfs o cs h=>by grind [qU,j5]⟩
  grind [pE,hZ,qU]
 | .sl e=>by
  refine⟨λT fuel cs x h hc hf ht=>?_,λfs o cs h=>by grind [qU]⟩;simp only[pE,hZ,qU]at h;split at h
  ·rename_i E hu;simp at h;obtain⟨v,ys,h1,h2⟩:=If hu h.1 (λhz=>by simp_all) hf ht;exact⟨ys,v,h1,h2⟩
  lia
 | .unit=>by
  have hB:∀fs o cs,qU P .unit (.inr (fs,o))=true->(∀f∈fs,Fx enc P w base spare held cs f)->cs.length=o+LL.size->∃y,fI w (Good w []) .unit y (cs.drop o):=by
   intro fs o cs h _ hl;refine⟨(),?_⟩;show cs.drop o=[]
   grind [Au,uM]
  refine⟨λT fuel cs x h hc _ ht=>?_,λfs o cs h1 h2 _ h3=>hB fs o cs h1 h2 h3⟩;simp only[pE,hZ]at h;split at h
  ·rename_i fs hu;obtain⟨h1,h2⟩:=DV hu ht
   grind
  lia
 | .cons a b=>by
  obtain⟨ha,_⟩:=Qv a;obtain⟨_,hb⟩:=Qv b;have hB:∀fs o cs,qU P (.cons a b) (.inr (fs,o))=true->(∀f∈fs,Fx enc P w base spare held cs f)->(∀v∈cs,aB0 w v)->cs.length=o+(lQ a b).size->∃y,fI w (Good w []) (.cons a b) y (cs.drop o):=by
   intro fs o cs h hf hfit hl
   match fs,h with
   | [],h=>grind [qU]
   | f::fs,h =>
    simp only[qU,aT]at h;obtain⟨h1,h2,h3,h4⟩:=h;have h1:=aZ h1;have h2:=aZ h2;simp only[uM]at hl;obtain⟨n,x,hx⟩:=hf f (aR ..);obtain⟨y1,hy1⟩:=ha _ _ _ _ h3 h2 (λv hv=>hfit v (iO (iN hv))) hx;obtain⟨y2,hy2⟩:=hb fs (o+a.size) cs h4 (λg hg=>hf g (aM _ hg)) hfit (by lia);refine⟨(y1,y2),_,_,?_,hy1,hy2⟩
    grind [pY,fD]
  refine⟨λT fuel cs x h hc hfit ht=>?_,hB⟩;simp only[pE,hZ]at h;split at h
  ·rename_i fs hu;obtain⟨h1,h2⟩:=DV hu ht
   grind
  lia
def aIy(P:Program):Ty->TypeId->Bool
 | .sl e,T=>match P.underlying T with
  | some (.slice E)=>MO P e E && !cE e.size 0
  | _=>false
 | t,T=>MO P t T||(t.agg&&(cE (P.cellsOf T) t.size&&pE P true T (qU P t)))
theorem VR{fs:Array Field}(hu:P.underlying T=some (.struct fs))(h:oL P w r b0 T v):∃cs,v = .agg cs:=by
 grind [oL]
theorem Yw{t:Ty}{d:DataW H}{ps:Γ MemPlace}(hB:MO P t T=true)(hv:oL P w r b0 T v)(h:aDr enc P w base spare held T v d ps) :
  ∃x:t.den,yZ w G (jY t x) v:=by
 simp only[MO,aT]at hB;obtain⟨hc,hB⟩:=hB;have hc:=aZ hc;obtain⟨fuel,hf⟩:=h;obtain⟨y,hy⟩:=(CM (G:=G) t).1 T fuel _ _ hB hc hf;refine⟨y,?_⟩;cases t with
 | int k =>
  have hu:=QX (by simpa [pE,hZ,j5] using hB);obtain⟨n,rfl⟩:=okWide_int hu hv;obtain⟨h1,h2⟩:=hy;simp[xD]at h1;subst h1;exact⟨rfl,h2⟩
 | bool =>
  have hu:=Lv (by simpa [pE,hZ,j5] using hB);obtain⟨b,rfl⟩:=okWide_bool hu hv;have h1:([.bool b]:Γ Value)=[.bool y]:=hy;cases h1;exact⟨rfl,trivial⟩
 | fn=>grind [pE,hZ,j5]
 | str =>
  have hu:=QY (by simpa [pE,hZ,j5] using hB);obtain⟨s,rfl⟩:=okWide_string hu hv;obtain⟨h1,h2⟩:=hy;simp[xD]at h1;subst h1;exact⟨rfl,h2⟩
 | sl e=>grind [pE,hZ,j5]
 | unit =>
  simp[pE,hZ]at hB;split at hB
  ·rename_i fs hu;obtain⟨cs,rfl⟩:=VR hu hv;exact⟨cs.toList,by lia,hy⟩
  lia
 | cons a b =>
  simp[pE,hZ]at hB;split at hB
  ·rename_i fs hu;obtain⟨cs,rfl⟩:=VR hu hv;exact⟨cs.toList,by lia,hy⟩
  lia
theorem aIz{T E:TypeId}{a:Addr}{len cap:Nat}(hu:P.underlying T=some (.slice E))(hv:oL P w r b0 T (.slice (some a) len cap)):a.spot=none/\a.block<w.heap.size:=by
 simp[oL,hu,Cell.okWide,Cell.ok]at hv;obtain⟨_,_,hh⟩:=hv;obtain⟨_,hs,row,cells,hsh,_⟩:=hh
 grind [Bg]
theorem aI0{t:Ty}{d:DataW H}{ps:Γ MemPlace}(hB:aIy P t T=true)(hv:oL P w r b0 T v)(h:aDr enc P w base spare held T v d ps) :
  ∃x:t.den,yZ w (Good w []) (jY t x) v:=by
 unfold aIy at hB;split at hB
 ·split at hB
  ·rename_i E hu;simp at hB;obtain⟨a0,len,cap,rfl⟩:=okWide_slice hu hv;obtain⟨fuel,hf⟩:=h;have hfit:∀u∈(Value.slice a0 len cap).cells.toList,aB0 w u:=λu hu'=>by
    simp[xD]at hu';rintro a l c he
    grind [aIz]
   obtain⟨u,ys,h1,h2⟩:=If hu hB.1 (λhz=>by simp_all) hfit hf;simp[xD]at h1;subst h1;exact⟨ys,h2⟩
  lia
 ·rw[BQ]at hB;rcases hB with hB | hB
  ·exact Yw hB hv h
  ·simp only[aT]at hB;obtain⟨ha,hc,hB⟩:=hB;have hc:=aZ hc;obtain⟨fuel,hf⟩:=h;have hB':=hB;unfold pE at hB;simp at hB;split at hB
   ·rename_i fs hu;simp[oL,hu]at hv;obtain⟨cs,rfl,_,hrow⟩:=hv;obtain⟨y,hy⟩:=(Qv t).1 T fuel _ _ (by lia) hc (aMQ hrow) (by simpa [xD] using hf);refine⟨y,?_⟩;cases t with
    | cons a b=>exact⟨cs.toList,by lia,hy⟩
    | unit=>exact⟨cs.toList,by lia,hy⟩
    | _=>cases ha
   lia
theorem ar{r:Reach}{b0:Nat}:∀ {ts:Γ Ty} {Ts:Γ TypeId} {vs:Γ Value} {ds:Γ (DataW H)} {ps:Γ MemPlace},ts.length=Ts.length->(∀(i:Nat) (t:Ty) (T:TypeId),ts[i]? = some t->Ts[i]? = some T->aIy P t T=true) ->
  (∀(j:Nat) T v,Ts[j]? = some T->vs[j]? = some v->oL P w r b0 T v)->Eh enc P w base spare held Ts vs ds ps ->
  ∃(x:eF (ts.map nV)) (bss:Γ (Γ Nat)),bss.flatten=[]/\DM w (Good w []) (ts.map nV) x vs bss
 | [],[],[],[],_,_,_,_,_=>⟨(),[],rfl,rfl,rfl⟩
 | t::ts,T::Ts,v::vs,d::ds,ps,hl,hB,hv,h=>by
  obtain⟨p,q,h1,h2,_⟩:=h;obtain⟨x,hx⟩:=aI0 (hB 0 t T rfl rfl) (hv 0 T v rfl rfl) h1;obtain⟨y,bss,hb,hy⟩:=ar (by simpa using hl) (λi t T h1 h2=>hB (i+1) t T (by grind) (by grind)) (λj T v h1 h2=>hv (j+1) T v (by grind) (by grind)) h2;exact⟨(x,y),[]::bss,by grind,v,vs,[],bss,rfl,rfl,⟨rfl,hx⟩,hy⟩
 | [],_::_,_,_,_,hl,_,_,_=>by grind
 | _::_,[],_,_,_,hl,_,_,_=>by grind
end
section
variable {H:Type} {enc:TypeId×Value->H} {P:Program} {W W':World}
theorem L6(hl:laidOutB P=true)(hb:Below W.heap.size W W'):∀ {ts:Γ TypeId} {vs:Γ Value} {ds:Γ (DataW H)} {ps:Γ MemPlace},(∀t∈ts,P.readableRec t=true/\t<P.types.size) ->
  Eh enc P W 0 (λ_=>true) true ts vs ds ps->(∀x∈ps,x.block<W.heap.size)->Eh enc P W' 0 (λb=>decide (b<W.heap.size)) true ts vs ds ps
 | [],[],[],_,_,h,_=>h
 | t::ts,v::vs,d::ds,ps,hr,⟨p,q,h1,h2,e⟩,hlt=>by
  obtain⟨r1,r2⟩:=hr t (aR ..);refine⟨p,q,Below.trod hl r1 r2 h1 hb (λx hx=>hlt x (by grind)),L6 hl hb (λt ht=>hr t (aM _ ht)) h2 (λx hx=>hlt x (by grind)),e⟩
 | [],[],_::_,_,_,h,_=>h.elim
 | [],_::_,_,_,_,h,_=>h.elim
 | _::_,[],_,_,_,h,_=>h.elim
 | _::_,_::_,[],_,_,h,_=>h.elim
theorem Sy{base:Nat}{sp:Nat->Bool}{held:Bool}:∀ {ts:Γ TypeId} {vs:Γ Value} {ds:Γ (DataW H)} {ps:Γ MemPlace},Eh enc P W base sp held ts vs ds ps->ds.length=ts.length/\vs.length=ts.length
 | [],[],[],_,h=>⟨rfl,rfl⟩
 | t::ts,v::vs,d::ds,ps,⟨p,q,h1,h2,e⟩=>by obtain⟨a,b⟩:=Sy h2;exact⟨by simp[a],by simp[b]⟩
 | [],[],_::_,_,h=>h.elim
 | [],_::_,_,_,h=>h.elim
 | _::_,[],_,_,h=>h.elim
 | _::_,_::_,[],_,h=>h.elim
end
def vv(P:Program):Γ Ty->Γ TypeId->Bool
 | [],[]=>true
 | t::ts,T::Ts=>aIy P t T&&vv P ts Ts
 | _,_=>false
theorem VS{P:Program}:∀ {ts:Γ Ty} {Ts:Γ TypeId},vv P ts Ts=true->ts.length=Ts.length/\∀(i:Nat) (t:Ty) (T:TypeId),ts[i]? = some t->Ts[i]? = some T->aIy P t T=true
 | [],[],_=>⟨rfl,λi t T h=>by simp⟩
 | t::ts,T::Ts,h=>by
  simp[vv]at h;obtain⟨h1,h2⟩:=VS h.2;refine⟨by simp[h1],λi u U hu hU=>?_⟩;cases i with
  | zero=>simp at hu hU;subst hu hU;exact h.1
  | succ i=>exact h2 i u U (by simpa using hu) (by simpa using hU)
 | [],_::_,h=>by cases h
 | _::_,[],h=>by cases h
def gg(ts:Γ Ty):Spec:={ sig:=ts.map nV,pre:=λ_=>True,res:=λ_=>[⟨.bool,true⟩] }
def aFN{H:Type}{enc:TypeId×Value->H}{C:Checked}{f:FuncId}{fn:Func}{s:ChangeSpec}{apart fresh handsOn:Bool}
  (hl:laidOutB C.prog=true) (hr:(fn.params.toList.all λt=>C.prog.readableRec t&&kv t C.prog.types.size)=true)
  (ts:Γ Ty) (hts:vv C.prog ts fn.params.toList=true) {tb:TypeId} (hres:fn.resultTypes = #[tb]) (htb:C.prog.underlying tb=some .bool) (hvars:s.vars=[])
  (hs:∀ds:Γ (DataW H),ds.length=fn.params.toList.length->(s.fn H (ds++[])).results=[.lit (.bool true)]/\(s.fn H (ds++[])).args=ds/\(s.fn H (ds++[])).vars=[])
  (hcon:jZ C.prog f (gg ts)) {W:World} (hg:Eu W) {base:Nat} {args:Array Value} {ds gs:Γ (DataW H)} {before:Γ MemPlace}
  (hval:∀(j:Nat) t v,fn.params[j]? = some t->args[j]? = some v->oL C.prog W .any base t v)
  (hW:DataW.Whole enc C.prog fn.params.toList s.vars apart W args.toList ds gs before) :
  Calls C.prog f args W λe W'=>∃v,e = .returned v/\s.post enc C.prog fn apart fresh handsOn false W args v W':=by
 have hW':=hW;obtain⟨p,q,hA,hV,hbef,hfz,hnd⟩:=hW;rw[hvars]at hV;obtain⟨rfl,rfl⟩:=trodVars_none hV;obtain⟨hlen,hall⟩:=VS hts;obtain⟨x,bss,hb0,hx⟩:=ar (r := .any) (b0:=base) hlen hall (λj T v h1 h2=>hval j T v (by grind) (by grind)) hA;have hcall:=hcon W (Good W []) (Good W []) x args.toList bss (by exact⟨hg,hg.size,λb hb=>by grind⟩) (by lia) (λb hb=>hb) trivial hx (by grind);rw[hb0]at hcall;refine hcall.mono ?_;rintro e W' ⟨rs,ubs,rbs,F,rfl,hk,hrr,_⟩;have hrs:rs=[.bool true]:=by
  obtain⟨v,s',b,bs,h1,h2,⟨cs,h3,h4⟩,h5⟩:=hrr;obtain⟨h3,_⟩:=h3;rw[h3]at h4;cases h4;rw[h1,h5.1]
 subst hrs;have hbel:=hk.below;obtain⟨g1,g2,g3⟩:=hs ds (Sy hA).1;have hlt:∀y∈p,y.block<W.heap.size:=λy hy=>hW'.lt y (by grind);have hr':∀t∈fn.params.toList,C.prog.readableRec t=true/\t<C.prog.types.size:=λt ht=>by
  have:=List.all_eq_true.1 hr t ht;simp_all
 refine⟨.bool true,rfl,ds,[],before,[],p,[],hW',?_,?_,?_,hbel.frame _,λh=>by lia⟩
 ·rw[hres,g1];exact trodAll_mk1 (shut_bool htb true)
 ·grind [L6]
 ·rw[hvars,g3];rfl
def Tf{H:Type}{enc:TypeId×Value->H}{a:Assume}{C:Checked}{os:Os}{f:FuncId}{fn:Func}{s:ChangeSpec}{conds:Γ PathCond}{apart fresh handsOn:Bool}{laid:Γ (String×DataW Unit)}
  (own:ownKnob C.prog.godebug=none) (started:os.Started) (noInit:C.prog.inits.idxOf? f=none) (hfn:C.prog.funcs[f]? = some fn)
  (witness:∃(w:World) (tape:Tape) (i:Input),w.os=os/\(w.forCall tape i).Shaped C.prog/\i.vars=[]/\Input.okWide C.prog (w.forCall tape i) .any w.heap.size f i /\
   ((s.pre enc C.prog fn conds apart (w.forCall tape i).memory i.args/\laidMetH C.prog laid (w.forCall tape i).memory)/\sizedMet enc C.prog fn (OpenSpec.ofChange s) apart (w.forCall tape i).memory i.args)/\a.holds C.prog (lone (Frame.enter C.prog f i.args .normal) [] (w.forCall tape i)))
  (hl:laidOutB C.prog=true) (hr:(fn.params.toList.all λt=>C.prog.readableRec t&&kv t C.prog.types.size)=true)
  (ts:Γ Ty) (hts:vv C.prog ts fn.params.toList=true) {tb:TypeId} (hres:fn.resultTypes = #[tb]) (htb:C.prog.underlying tb=some .bool) (hvars:s.vars=[])
  (hs:∀ds:Γ (DataW H),ds.length=fn.params.toList.length->(s.fn H (ds++[])).results=[.lit (.bool true)]/\(s.fn H (ds++[])).args=ds/\(s.fn H (ds++[])).vars=[])
  (hg:∀W:World,W.ShapedOpen C.prog->laidMetH C.prog laid W->Eu W) (hcon:jZ C.prog f (gg ts)) :
  ReturnsInHanded a C os f .any (λw args=>(s.pre enc C.prog fn conds apart w args/\laidMetH C.prog laid w)/\sizedMet enc C.prog fn (OpenSpec.ofChange s) apart w args) (s.post enc C.prog fn apart fresh handsOn false):=by
 refine returnsInHanded_of_calls own started noInit witness ?_;intro w tape i _ hsh _ hok hpre hholds;obtain⟨_,_,_,fn',hfn',_,_,_,_,hval⟩:=hok;have e:fn'=fn:=Option.some.inj (hfn'.symm.trans hfn);subst e;obtain⟨⟨⟨ds,gs,before,hw,hc⟩,hx⟩,hz⟩:=hpre;have hw':=DataW.Whole.of_heap (w':=w.forCall tape i) (by rfl) hw;have hx':laidMetH C.prog laid (w.forCall tape i):=hx.of_heap (by rfl);refine(aFN (fresh:=fresh) (handsOn:=handsOn) hl hr ts hts hres htb hvars hs hcon (hg _ hsh hx') hval hw').mono λe W' ⟨v,he,hp⟩=>?_
 grind [ChangeSpec.post_blind]
end Go.Am
namespace Go.Am
def zU(f:Func):Code:=match f.body with | some c=>c | none => .skip
def Ae:Code->Nat
 | .region id _ _=>id
 | .seq x _=>Ae x
 | .block _ c=>Ae c
 | .loop c=>Ae c
 | .scope c=>Ae c
 | _=>999999
def orL:Option (Γ Item)->Option (Γ Item)->Option (Γ Item)
 | some k,_=>some k
 | none,x=>x
def VT(id:Nat):Code->Γ Item->Option (Γ Item)
 | .seq x y,k=>orL (VT id x (.code y::k)) (VT id y k)
 | .block b c,k=>VT id c (.inBlock b::k)
 | .loop c,k=>match cE (Ae c) id with
  | true=>some (.code c :: .inLoop c::k)
  | false=>VT id c (.inLoop c::k)
 | .cond _ x y,k=>orL (VT id x k) (VT id y k)
 | .region r ops d,k=>match cE r id with
  | true=>some (.code (.region r ops d)::k)
  | false=>none
 | _,_=>none
def aZZ(c:Code)(id:Nat):Γ Item:=match VT id c [] with | some k=>k | none=>[]
def Om(r i:Nat)(ty:Ty)(EL:gH×bM):gH×bM :=
 match bZ EL.2 r with
 | some A=>match A.ls with
  | some ls=>match ls[i]? with
   | some (.val (.slice none _ _))=>(EL.1,jT (EL.2++[some ⟨ty,[], !ty.flat,none,none⟩]) r (some ⟨A.t,A.xs,A.bor,some (ls.set i (.osl EL.2.length none)),A.sm⟩))
   | _=>EL
  | none=>EL
 | none=>EL
def aPT(t:Nat)(ty:Ty)(EL:gH×bM):gH×bM :=
 match EL.1.get t with
 | .a (.val (.slice none _ _))=>(EL.1.set t (.a (.osl EL.2.length none)),EL.2++[some ⟨ty,[], !ty.flat,none,none⟩])
 | _=>EL
def aFO(t:Nat)(ty:Ty)(EL:gH×bM):gH×bM :=
 match pJ 1000000 t with
 | true=>match EL.1.get (t%1000000)with
  | .a (.bptr r _ _)=>Om r (t/1000000-1) ty EL
  | .a (.optr r _ _)=>Om r (t/1000000-1) ty EL
  | _=>EL
 | false=>aPT t ty EL
def au:Γ (Nat×Ty)->gH×bM->gH×bM
 | [],EL=>EL
 | (t,ty)::r,EL=>au r (aFO t ty EL)
def Dp(A:iE):iE :=
 match A.t.flat,A.bor with
 | false,false=>match A.ls,A.sm with
  | none,none=>match A.xs.isEmpty with
   | true=>⟨A.t,A.xs,true,none,none⟩
   | false=>A
  | _,_=>A
 | _,_=>A
def borUp(L:bM):bM:=L.map λo=>match o with | some A=>some (Dp A) | none=>none
theorem MP:∀(L:bM) (s:Nat),bZ (borUp L) s=(bZ L s).map Dp
 | [],_=>rfl
 | some B::L,0=>rfl
 | none::L,0=>rfl
 | o::L,s+1=>MP L s
theorem xV(A:iE):Dp A=A\/(A.xs=[]/\A.ls=none/\A.sm=none/\Dp A=⟨A.t,A.xs,true,none,none⟩):=by
 unfold Dp
 grind
section
variable {P:Program} {n:Nat} {K:fG} {G:Nat->Prop} {w0 w:World} {a:Act} {V:Nat->Value} {own:Nat->Γ Nat} {f:FuncId} {R:Ending->World->Prop} {E:gH} {L:bM}
theorem bQ.reset(hR:bQ n K w0 G w a E L V own){t:Nat}{p:PV}(hp:mK w0 G L V p (a.tmps.getD t undef)):bQ n K w0 G w a (E.set t p) L V own :=
 ⟨hR.glob,hR.kept,hR.size,hR.defers,hR.glt,hR.gref,hR.gsub,hR.gold,hR.gup,hR.heap,hR.good,hR.nodup,hR.apart,hR.boxs,hR.small,λi=>by
  rw[gH.get_set];split
  ·lia
  ·exact hR.env i⟩
theorem av{V':Nat->Value}{L':bM}{x:gB}{u:Value}(hx:U3 w0 G L' V' x u):∀ {ls:Γ gB} {cs:Γ Value} {i:Nat},iG w0 G L' V' ls cs->cs[i]? = some u->iG w0 G L' V' (ls.set i x) cs
 | [],cs,i,h,hi=>h
 | y::ls,cs,0,⟨v,r,h1,h2,h3⟩,hi=>by
  subst h1;simp at hi;subst hi;exact⟨v,r,rfl,hx,h3⟩
 | y::ls,cs,i+1,⟨v,r,h1,h2,h3⟩,hi=>by
  subst h1;exact⟨v,r,rfl,h2,av hx h3 (by grind)⟩
theorem vw{V':Nat->Value}{L':bM}{x:gB}:∀ {ls:Γ gB} {cs:Γ Value} {i:Nat},iG w0 G L' V' ls cs->ls[i]? = some x->∃u,cs[i]? = some u/\U3 w0 G L' V' x u
 | [],cs,i,h,hi=>by grind
 | y::ls,cs,0,⟨v,r,h1,h2,h3⟩,hi=>by
  grind
 | y::ls,cs,i+1,⟨v,r,h1,h2,h3⟩,hi=>by
  subst h1;obtain⟨u,h4,h5⟩:=vw h3 (by simpa using hi);exact⟨u,by simpa using h4,h5⟩
theorem On(hR:bQ n K w0 G w a E L V own)(r i:Nat)(ty:Ty):∃V' own',bQ n K w0 G w a (Om r i ty (E,L)).1 (Om r i ty (E,L)).2 V' own':=by
 unfold Om;split
 ·rename_i A hA;split
  ·rename_i ls hls;split
   ·rename_i m c hi;have hE:iI w0 G w ⟨ty,[], !ty.flat,none,none⟩ (.slice none 0 0) []:=⟨by simp,.inl ⟨_,rfl,rfl,rfl⟩⟩;have hR':=hR.grow hE kE (λb hb=>by grind) (λr A hA b hb hm=>by grind);have hrl:r<L.length:=xL hA;have hA':bZ (L++[some ⟨ty,[], !ty.flat,none,none⟩]) r=some A:=by
     rw[nC]
     lia
    obtain⟨b,off,cs,h1,h2,h3,h4,h5⟩:=hR'.boxs r A ls hA' hls;obtain⟨u,hu,hv⟩:=vw h5 hi;obtain⟨hv,h0,h6⟩:=hv;obtain⟨h7,h8⟩:=h0;subst h7 h8;subst hv;refine⟨_,_,hR'.setLs hA' hls ⟨b,off,cs,h1,h2,by grind,h4,av ?_ h5 hu⟩⟩;exact vB (w0:=w0) (G:=G) (u:=w0) (G':=G) (w:=w) hE
   grind
  grind
 grind
theorem aFP(hR:bQ n K w0 G w a E L V own)(t:Nat)(ty:Ty):∃V' own',bQ n K w0 G w a (aFO t ty (E,L)).1 (aFO t ty (E,L)).2 V' own':=by
 unfold aFO;split
 ·split
  ·exact On hR _ _ ty
  ·exact On hR _ _ ty
  grind
 unfold aPT;split
 ·rename_i m c hg;have hv:=hR.env t;rw[hg]at hv;obtain⟨hv,h0,h1⟩:=hv;subst h0 h1;have hE:iI w0 G w ⟨ty,[], !ty.flat,none,none⟩ (.slice none 0 0) []:=⟨by simp,.inl ⟨_,rfl,rfl,rfl⟩⟩;have hR':=hR.grow hE kE (λb hb=>by grind) (λr A hA b hb hm=>by grind);refine⟨_,_,hR'.reset ?_⟩;rw[hv];exact vB (w0:=w0) (G:=G) (u:=w0) (G':=G) (w:=w) hE
 grind
theorem VU:∀ {l:Γ (Nat×Ty)} {E:gH} {L:bM} {V:Nat->Value} {own:Nat->Γ Nat},bQ n K w0 G w a E L V own->∃V' own',bQ n K w0 G w a (au l (E,L)).1 (au l (E,L)).2 V' own'
 | [],E,L,V,own,hR=>⟨V,own,hR⟩
 | (t,ty)::r,E,L,V,own,hR=>by
  obtain⟨V',own',h⟩:=aFP hR t ty;show ∃V' own',bQ n K w0 G w a (au r (aFO t ty (E,L))).1 (au r (aFO t ty (E,L))).2 V' own';exact VU h
theorem bQ.borUp(hR:bQ n K w0 G w a E L V own):bQ n K w0 G w a E (Am.borUp L) V own:=by
 have hback:∀s B,bZ (Am.borUp L) s=some B->∃C,bZ L s=some C/\B=Dp C:=λs B h=>by
  rw[MP]at h;cases hC:bZ L s with
  | none=>grind
  | some C=>grind
 have ht:∀C,(Dp C).t=C.t:=λC=>by grind [xV]
 have hl:∀C,(Dp C).xs.length=C.xs.length:=λC=>by grind [xV]
 have hls:∀C,(Dp C).ls=C.ls:=λC=>by grind [xV]
 have hag:∀s,n9 L V (Am.borUp L) V s:=λs=>⟨rfl,λA hA=>⟨Dp A,by grind [MP],ht A,hl A,λls h=>⟨ls,by grind⟩⟩⟩;refine⟨hR.glob,hR.kept,hR.size,hR.defers,hR.glt,hR.gref,hR.gsub,hR.gold,hR.gup,?_,?_,?_,?_,?_,?_,λi=>?_⟩
 ·intro s B hs;obtain⟨C,h2,rfl⟩:=hback s B hs;have h:=hR.heap s C h2;rcases xV C with e | ⟨e1,e2,e3,e⟩
  ·lia
  ·rw[e];refine⟨h.1,?_⟩;rcases h.2 with h | ⟨b,off,cap,cur,ty,fz,bss,h1,h2,h3,h4,h5,h6,h7,h8,h9⟩
   ·grind
   ·exact .inr ⟨b,off,cap,cur,ty,fz,bss,h1,h2,h3,h4,h5,h6,h7,h8,λi x bi hx _=>by grind⟩
 ·intro s B hs;obtain⟨C,h2,rfl⟩:=hback s B hs;exact hR.good s C h2
 ·intro s B hs;obtain⟨C,h2,rfl⟩:=hback s B hs;exact hR.nodup s C h2
 ·intro s u B D hs hu hsu;obtain⟨C,h2,rfl⟩:=hback s B hs;obtain⟨F,h4,rfl⟩:=hback u D hu;exact hR.apart s u C F h2 h4 hsu
 ·intro s B ls hs hl';obtain⟨C,h2,rfl⟩:=hback s B hs;rw[hls]at hl';rw[ht];exact(hR.boxs s C ls h2 hl').agree λu _=>hag u
 ·intro s B q hs hq;obtain⟨C,h2,rfl⟩:=hback s B hs;rcases xV C with e | ⟨_,_,_,e⟩
  ·rw[e]at hq ⊢;exact hR.small s C q h2 hq
  lia
 ·exact sU (hR.env i) λu _=>hag u
end
instance (k:IntKind) (n:Int):Decidable (aX k n):=inferInstanceAs (Decidable (k.min<=n/\n<=k.max))
theorem DM.wf{w:World}{G:Nat->Prop}{sig:Γ AT}{x:eF sig}{vs:Γ Value}{bss:Γ (Γ Nat)}(h:DM w G sig x vs bss):Ie sig x:=aDI h
def jZ.says{P:Program}{f:FuncId}{sig:Γ AT}{pre pre':eF sig->Prop}{upd:eF sig->Γ (Option jD)}{res res':eF sig->Γ aS}{kds:Γ RK}
  (hc:jZ P f { sig:=sig,pre:=pre,upd:=upd,res:=res,kds:=kds }) (h:∀x,pre' x->Ie sig x->pre x/\res x=res' x):jZ P f { sig:=sig,pre:=pre',upd:=upd,res:=res',kds:=kds }:=by
 intro w G G0 x vs bss hgo hG hG0 hp ha hn;obtain⟨h1,h2⟩:=h x hp (Oj ha);have:=hc w G G0 x vs bss hgo hG hG0 h1 ha hn
 lia
theorem bC(a b:Δ):(aB a==aB b)=true↔a=b:=by
 rw[<- beq_toListBytes];obtain⟨⟨x⟩⟩:=a;obtain⟨⟨y⟩⟩:=b;show ((⟨x⟩:Array UInt8)==⟨y⟩)=true↔_
 lia
theorem Af(a b:Δ):(aB a==aB b)=false↔a≠b:=by
 rw[ne_eq, <- bC,Bool.not_eq_true]
variable {α:Type}
theorem oG(xs:Γ α)(i:Nat)(d:α)(h:i<xs.length):xs.getD i d=xs[i]:=by
 grind
theorem dQ(xs:Γ α)(i:Nat)(d:α)(h:i<xs.length):xs.drop i=xs.getD i d::xs.drop (i+1):=by
 simp_all
theorem sV(xs:Γ α)(i:Nat)(h:xs.length<=i):xs.drop i=[]:=Au.2 h
def iJ{xs:Γ α}(h:xs.length<=maxLen){i:Nat}(hi:i<xs.length):aX .i64 ((i:Int)+1):=by
 have e1:(IntKind.i64).min = -9223372036854775808:=by rfl
 have e2:(IntKind.i64).max=9223372036854775807:=by rfl
 grind [maxLen,aX]
theorem aJ(n:Int):aX .i64 n ↔ -9223372036854775808<=n/\n<=9223372036854775807:=by
 rfl
theorem MQ(n:Int):aX .u8 n↔0<=n/\n<=255:=by
 rfl
theorem aI1(x0:Γ α)(d:α)(i:Nat)(h:i<x0.length)(l:Nat)(hl:l=x0.length-i):(x0.take i++aP l d).set i (x0.getD i d)=x0.take (i+1)++aP (l-1) d:=by
 have e:(x0.take i).length=i:=by grind
 obtain⟨l,rfl⟩:∃m,l=m+1:=⟨l-1,by lia⟩;rw[Hy _ _ (by lia),e,yL,oG _ _ _ h,List.take_succ_eq_append_getElem h,cK];rfl
theorem sW(s:Δ):(cD s).length=s.size:=by simp[cD]
theorem Ig(s:Δ)(i:Nat):((aD (Array.toList (bO s)) i 0).toNat:Int)=(cD s).getD i 0:=by
 unfold cD;rw[bW,bW,sJ];cases h:s.data.toList[i]? with
 | none=>rfl
 | some b=>rfl
theorem vx{s t:Δ}(h:cD s=cD t):s=t:=by
 obtain⟨⟨x⟩⟩:=s;obtain⟨⟨y⟩⟩:=t
 congr 2
 unfold cD at h
 induction x generalizing y with
 | nil=>simp_all
 | cons a r ih=>cases y with
  | nil=>grind
  | cons b s =>
   simp at h;have h1:a=b:=by
    exact jJ.1 (by omega)
   rw[h1,ih s h.2]
def goL{α β δ:Type}(f:β->α->Except δ β)(fin:β->δ):β->Γ α->δ
 | b,[]=>fin b
 | b,x::r=>match f b x with
  | .ok b'=>goL f fin b' r
  | .error d=>d
def aFQ{α β δ:Type}(xs:Γ α)(d:α)(f:β->α->Except δ β)(fin:β->δ)(Inv:Nat->β->Prop)(R:Nat->Int->β->δ->Prop)
  (hend:∀n b,Inv xs.length b->R (n+1) xs.length b (fin b))
  (hstep:∀n (i:Nat) b,i<xs.length->Inv i b->match f b (xs.getD i d)with
   | .ok b'=>Inv (i+1) b'/\∀ds,R n (((i:Nat):Int)+1) b' ds->R (n+1) (i:Int) b ds
   | .error ds=>R (n+1) (i:Int) b ds) :
  ∀(k i:Nat) b,i+k=xs.length->Inv i b->R (k+1) (i:Int) b (goL f fin b (xs.drop i)):=by
 intro k
 induction k with
 | zero =>
  intro i b hi hinv;have:i=xs.length:=by lia
  subst this;rw[sV xs _ (aU _)];exact hend 0 b hinv
 | succ k ih =>
  grind [dQ,goL]
def vy{α β δ:Type}(xs:Γ α)(d:α)(f:β->α->Except δ β)(fin:β->δ)(Inv:Nat->β->Prop)(R:Nat->Int->β->δ->Prop){b:β}(h0:Inv 0 b)
  (hend:∀n b,Inv xs.length b->R (n+1) xs.length b (fin b))
  (hstep:∀n (i:Nat) b,i<xs.length->Inv i b->match f b (xs.getD i d)with
   | .ok b'=>Inv (i+1) b'/\∀ds,R n (((i:Nat):Int)+1) b' ds->R (n+1) (i:Int) b ds
   | .error ds=>R (n+1) (i:Int) b ds):R (xs.length+1) 0 b (goL f fin b xs):=by
 have:=aFQ xs d f fin Inv R hend hstep xs.length 0 b (by lia) h0
 grind
theorem aDJ{α δ:Type}(q:α->Bool)(no yes:δ):∀(l:Γ α) (f:Unit->α->Except δ Unit) (fin:Unit->δ),(∀x,f () x=if q x=true then .ok ()else .error no)->fin ()=yes->goL f fin () l=if l.all q=true then yes else no
 | [],f,fin,hf,hfin=>by grind [goL]
 | x::r,f,fin,hf,hfin=>by
  simp[goL,hf];cases h:q x with
  | true=>simp;rw[aDJ q no yes r f fin hf hfin];grind
  | false=>grind
def uH{α δ:Type}(xs:Γ α)(d:α)(q:α->Bool)(no yes:δ)(R:Nat->Int->δ->Prop)(hend:∀n,R (n+1) xs.length yes)
  (hok:∀n (i:Nat),i<xs.length->q (xs.getD i d)=true->∀ds,R n (((i:Nat):Int)+1) ds->R (n+1) (i:Int) ds)
  (hno:∀n (i:Nat),i<xs.length->q (xs.getD i d)=false->R (n+1) (i:Int) no):R (xs.length+1) 0 (if xs.all q=true then yes else no):=by
 have key:=vy (b:=()) xs d (λ(_:Unit) x=>if q x=true then .ok ()else .error no) (λ_=>yes) (λ_ _=>True) (λn i _ ds=>R n i ds) trivial (λn _ _=>hend n) (λn i _ hi _=>by
  grind)
 rw[aDJ q no yes _ _ _ (λ_=>rfl) rfl]at key
 lia
def nF{α:Type}(q:Nat->α->Bool):Nat->Γ α->Bool
 | _,[]=>true
 | i,x::r=>q i x&&nF q (i+1) r
def zV{α δ:Type}(xs:Γ α)(d:α)(q:Nat->α->Bool)(no yes:δ)(R:Nat->Int->δ->Prop)(hend:∀n,R (n+1) xs.length yes)
  (hok:∀n (i:Nat),i<xs.length->q i (xs.getD i d)=true->∀ds,R n (((i:Nat):Int)+1) ds->R (n+1) (i:Int) ds)
  (hno:∀n (i:Nat),i<xs.length->q i (xs.getD i d)=false->R (n+1) (i:Int) no):R (xs.length+1) 0 (if nF q 0 xs=true then yes else no):=by
 have key:∀(k i:Nat),i+k=xs.length->R (k+1) (i:Int) (if nF q i (xs.drop i)=true then yes else no):=by
  intro k
  induction k with
  | zero =>
   grind [nF]
  | succ k ih =>
   intro i hi;rw[dQ xs i d (by lia)];by_cases h:q i (xs.getD i d)=true
   ·have h2:=hok (k+1) i (by lia) h _ (by have:=ih (i+1) (by lia);rwa [show ((i+1:Nat):Int)=(i:Int)+1 from by lia]at this);simp only[nF]
    lia
   ·simp[nF]
    grind
 have:=key xs.length 0 (by lia)
 grind
theorem VV{α:Type}(q:α->Bool):∀(l:Γ α) (i:Nat),nF (λ_ x=>q x) i l=l.all q
 | [],_=>rfl
 | x::r,i=>by simp[nF,VV]
theorem vW{α:Type}{p q:Nat->α->Bool}:∀(l:Γ α) (i:Nat),(∀j x,i<=j->p j x=q j x)->nF p i l=nF q i l
 | [],_,_=>rfl
 | x::r,i,h=>by
  simp[nF];rw[h i x (aU _),vW r (i+1) (λj x hj=>h j x (by lia))]
def FE{α δ:Type}(xs:Γ α)(d:α)(q:α->Bool)(none':δ)(some':Int->δ)(R:Nat->Int->δ->Prop)(hend:∀n,R (n+1) xs.length none')
  (hgo:∀n (i:Nat),i<xs.length->q (xs.getD i d)=false->∀ds,R n (((i:Nat):Int)+1) ds->R (n+1) (i:Int) ds)
  (hhit:∀n (i:Nat),i<xs.length->q (xs.getD i d)=true->R (n+1) (i:Int) (some' i)):R (xs.length+1) 0 (match xs.findIdx? q with | some k=>some' (k:Nat) | none=>none'):=by
 have key:∀(k i:Nat),i+k=xs.length->R (k+1) (i:Int) (match (xs.drop i).findIdx? q with | some j=>some' ((i+j:Nat):Int) | none=>none'):=by
  intro k
  induction k with
  | zero =>
   grind
  | succ k ih =>
   intro i hi;rw[dQ xs i d (by lia)];cases h:q (xs.getD i d)with
   | true=>grind
   | false =>
    cases hf:List.findIdx? q (List.drop (i+1) xs)with
    | none=>grind
    | some j =>
     grind
 have:=key xs.length 0 (by lia)
 grind
def idx:Option Nat->Int
 | some k=>(k:Nat)
 | none => -1
def DW(q:α->Bool):∀(l:Γ α),idx (l.findIdx? q)>=0↔l.any q=true:=by
 intro l;have h:=List.findIdx?_isSome (xs:=l) (p:=q);rw[<- h];cases l.findIdx? q with
 | none=>simp[idx]
 | some k=>simp[idx]
def cF(xs:Γ α)(i:Nat)(d:α)(h:i<xs.length):xs.getD i d∈xs:=by
 grind
end Go.Am
namespace Go.Am
open Go.RowKit (Below)
theorem Fy{w:World}{G:Nat->Prop}:∀ {sig:Γ AT} {x:eF sig} {vs:Γ Value} {bss:Γ (Γ Nat)},aDG sig=true->DM w G sig x vs bss->bss.flatten=[]/\kO sig vs=[]
 | [],_,vs,bss,_,⟨h1,h2⟩=>by subst h1 h2;exact⟨rfl,rfl⟩
 | .v t::r,x,vs,bss,h,⟨v,s,b,bs,h1,h2,h3,h4⟩=>by
  subst h1 h2;obtain⟨e1,e2⟩:=Fy (sig:=r) h h4;exact⟨by rw[gR,h3.1,e1];rfl,e2⟩
 | .p t::r,x,vs,bss,h,⟨v,s,b,bs,h1,h2,h3,h4⟩=>by
  subst h1 h2;obtain⟨e1,e2⟩:=Fy (sig:=r) h h4;exact⟨by rw[gR,h3.1,e1];rfl,e2⟩
 | .fn f c::r,x,vs,bss,h,⟨v,s,b,bs,h1,h2,h3,h4⟩=>by
  subst h1 h2;obtain⟨e1,e2⟩:=Fy (sig:=r) h h4;exact⟨by rw[gR,h3.1,e1];rfl,e2⟩
 | .own t::r,_,_,_,h,_=>by cases h
 | .po t::r,_,_,_,h,_=>by cases h
 | .sv t::r,_,_,_,h,_=>by cases h
theorem DX:∀ {sig:Γ AT},aDG sig=true->Ev sig=true
 | [],_=>rfl
 | .v t::r,h=>DX (sig:=r) h
 | .p t::r,h=>DX (sig:=r) h
 | .fn f c::r,h=>DX (sig:=r) h
 | .own t::r,h=>by cases h
 | .po t::r,h=>by cases h
 | .sv t::r,h=>by cases h
theorem Kj{w:World}:∀ {t:Ty} {x:t.den},t.flat=true->Wf t x->iH w t x (qQ t x) []
 | .int _,_,_,h=>⟨rfl,h,rfl⟩
 | .bool,_,_,_=>⟨rfl,rfl⟩
 | .fn,_,_,_=>⟨rfl,rfl⟩
 | .str,_,_,h=>⟨rfl,h,rfl⟩
 | .unit,_,_,_=>⟨rfl,rfl⟩
 | .cons a b,x,hf,h=>by
  simp only[Pm,aT]at hf;exact⟨_,_,[],[],rfl,rfl,Kj hf.1 h.1,Kj hf.2 h.2⟩
 | .sl _,_,h,_=>by cases h
def vz{w:World}{t:Ty}{x:t.den}{cs:Γ Value}{bs:Γ Nat}(h:iH w t x cs bs):H8 t cs (gY t cs):=by
 have hl:=h.length;cases t <;> simp only[H8,gY,hZ,if_true,if_false,gE]
 all_goals (match cs,hl with | [c],_=>rfl)
theorem Sz{w:World}:∀ {ds:Γ aS},(∀d∈ds,d.t.flat=true/\Wf d.t d.x)->Dl w ds (ds.map λd=>gY d.t (qQ d.t d.x)) (ds.map λ_=>[])
 | [],_=>⟨rfl,rfl⟩
 | d::r,h=>by
  obtain⟨h1,h2⟩:=h d (aR ..);have ho:=Kj (w:=w) h1 h2;exact⟨_,_,_,_,_,rfl,rfl,ho,vz ho,Sz λd hd=>h d (aM _ hd)⟩
theorem aw(ds:Γ aS):(ds.map λ_=>([]:Γ Nat)).flatten=[]:=by
 induction ds with
 | nil=>rfl
 | cons d r ih=>simp
def oU{P:Program}{f:FuncId}{sig:Γ AT}{pre:eF sig->Prop}{res:eF sig->Γ aS}(hno:aDG sig=true)
  (h:∀(w:World) (x:eF sig) (vs:Γ Value) (bss:Γ (Γ Nat)),Eu w->pre x->Ie sig x->DM w (Good w []) sig x vs bss ->
   (∀d∈res x,d.t.flat=true/\Wf d.t d.x)/\Calls P f vs.toArray w λe w'=>e = .returned (II ((res x).map λd=>gY d.t (qQ d.t d.x)))/\dD [] w w') :
  jZ P f { sig:=sig,pre:=pre,res:=res }:=by
 refine Br.up (DX hno) rfl ?_;intro w x vs bss hgo hp ha hn;obtain⟨e1,e2⟩:=Fy hno ha;have ha':=ha;rw[e1]at ha';obtain⟨h1,h2⟩:=h w x vs bss hgo.inv hp (aDI ha) ha';refine h2.mono ?_;rintro e w' ⟨rfl,hk⟩;refine⟨_,[],_,rfl,by rw[e1];exact hk,Sz h1,by rw[e2];exact⟨rfl,rfl⟩,?_,?_⟩
 ·simp only[aw,F2,dN];exact kE
 ·simp only[aw,F2,dN];intro b hb;cases hb
theorem Yo.toRep{w:World}{G F:Nat->Prop}:∀ {ds:Γ aS} {rs:Γ Value} {rbs:Γ (Γ Nat)},Yo w G F [] ds rs rbs->Dl w ds rs rbs
 | [],_,_,h=>h
 | d::r,_,_,⟨v,s,b,bs,h1,h2,⟨cs,h3,h4⟩,h5⟩=>⟨v,s,b,bs,cs,h1,h2,h3,h4,h5.toRep⟩
def jZ.down{P:Program}{f:FuncId}{S:Spec}(hk:S.kds=[])(h:jZ P f S)(w:World)(x:eF S.sig)(vs:Γ Value)(bss:Γ (Γ Nat))(hg:Ym w bss.flatten)(hp:S.pre x)
  (ha:DM w (Good w bss.flatten) S.sig x vs bss) (hn:bss.flatten.Nodup) :
  Calls P f vs.toArray w λe w'=>∃(rs:Γ Value) (ubs rbs:Γ (Γ Nat)),e = .returned (II rs)/\dD bss.flatten w w'/\Dl w' (S.res x) rs rbs/\True:=by
 refine(h w (Good w bss.flatten) (Good w bss.flatten) x vs bss hg (λ_ h=>h) (λ_ h=>h) hp ha hn).mono ?_;rintro e w' ⟨rs,ubs,rbs,F,h1,h2,h3,_⟩;rw[hk]at h3;exact⟨rs,ubs,rbs,h1,h2,h3.toRep,trivial⟩
end Go.Am
namespace Go.Am
theorem wa{α β δ:Type}(f:β->α->Except δ β)(g:β->α->β)(fin:β->δ)(hf:∀b x,f b x = .ok (g b x)):∀(l:Γ α) (b:β),goL f fin b l=fin (l.foldl g b)
 | [],_=>rfl
 | x::r,b=>by
  simp only[goL,hf,iQ];exact wa f g fin hf r _
def ax{α β δ:Type}(xs:Γ α)(d:α)(g:β->α->β)(fin:β->δ)(Inv:Nat->β->Prop)(R:Nat->Int->β->δ->Prop){b:β}(h0:Inv 0 b)
  (hend:∀n b,Inv xs.length b->R (n+1) xs.length b (fin b))
  (hstep:∀n (i:Nat) b,i<xs.length->Inv i b->Inv (i+1) (g b (xs.getD i d))/\∀ds,R n (((i:Nat):Int)+1) (g b (xs.getD i d)) ds->R (n+1) (i:Int) b ds):R (xs.length+1) 0 b (fin (xs.foldl g b)):=by
 have key:=vy xs d (λb x => .ok (g b x)) fin Inv R h0 hend (λn i b hi hb=>hstep n i b hi hb)
 rwa [wa _ g _ (λ_ _=>rfl)]at key
theorem MR{α γ:Type}(m:α->γ):∀(l:Γ α) (b:Γ γ),l.foldl (λh x=>h++[m x]) b=b++l.map m
 | [],b=>by simp
 | x::r,b=>by rw[iQ,MR m r];simp
def aI2{α:Type}{h:Γ α}{x:α}{i:Nat}(hl:h.length<=i):(h++[x]).length<=i+1:=by simp;omega
theorem aMS{α:Type}(A:Γ α)(c y:α)(r:Γ α)(i:Nat)(h:A.length=i):(A++c::r).set i y=A++y::r:=by
 rw[Hy _ _ (by omega),h,yL,List.set_cons_zero]
theorem aMT{α:Type}(A:Γ α)(c d:α)(r:Γ α)(i:Nat)(h:A.length=i):(A++c::r).getD i d=c:=by
 rw[bW,cY (by omega),h,yL];rfl
theorem Kk:∀x:Γ UInt8,bL x x=false
 | []=>rfl
 | a::x=>by simp[bL,Kk x]
theorem gi(a b:UInt8)(x y:Γ UInt8):bL (a::x) (b::y)=true↔a.toNat<b.toNat\/(a.toNat=b.toNat/\bL x y=true):=by
 simp only[bL,BQ,ε,aT,beq_iff_eq,UInt8.lt_iff_toNat_lt,jJ]
theorem VW:∀x y z:Γ UInt8,bL x y=true->bL y z=true->bL x z=true
 | x,y,[],_,h=>by cases y <;> cases h
 | [],y,c::z,_,_=>rfl
 | a::x,[],c::z,h,_=>by cases h
 | a::x,b::y,c::z,h1,h2=>by
  rw[gi]at *;rcases h1 with h1 | ⟨e1,h1⟩
  ·rcases h2 with h2 | ⟨e2,h2⟩
   ·exact .inl (by omega)
   ·exact .inl (by omega)
  ·rcases h2 with h2 | ⟨e2,h2⟩
   ·exact .inl (by omega)
   ·exact .inr ⟨by omega,VW x y z h1 h2⟩
theorem aB1:∀x y:Γ UInt8,bL x y=false->bL y x=false->x=y
 | [],[],_,_=>rfl
 | [],b::y,h,_=>by cases h
 | a::x,[],_,h=>by cases h
 | a::x,b::y,h1,h2=>by
  have n1:=mt (gi a b x y).2 (by rw[h1];simp);have n2:=mt (gi b a y x).2 (by rw[h2];simp);have e:a.toNat=b.toNat:=by omega
  have e':=jJ.1 e;have l1:bL x y=false:=bV.2 λh=>n1 (.inr ⟨e,h⟩);have l2:bL y x=false:=bV.2 λh=>n2 (.inr ⟨e.symm,h⟩);rw[e',aB1 x y l1 l2]
def toList_inj{a b:Δ}(h:aB a=aB b):a=b:=(bC a b).1 (by rw[h];simp)
def iA(p:Nat->Bool):Nat->Nat->Nat->Nat
 | 0,i,_=>i
 | m+1,i,j=>if i<j then(if p ((i+j)/2)=true then iA p m ((i+j)/2+1) j else iA p m i ((i+j)/2))else i
def repB(c:UInt8)(n:Nat):Δ:=⟨(Lib.repeatL [c] n).toArray⟩
end Go.Am
namespace Go.Am
open Go.RowKit (Below)
theorem Oo{w:World}{t:Ty}(hf:t.flat=true):∀ {xs:Γ t.den},(∀x∈xs,Wf t x)->AZ (iH w t) t.size xs (xs.map (qQ t)) (xs.map λ_=>[])
 | [],_=>⟨rfl,rfl⟩
 | x::r,h=>by
  have ho:=Kj (w:=w) hf (h x (aR ..));exact⟨_,_,_,_,rfl,rfl,ho.length,ho,Oo hf λy hy=>h y (aM _ hy)⟩
theorem Oq{α:Type}(xs:Γ α):(xs.map λ_=>([]:Γ Nat)).flatten=[]:=by
 induction xs with
 | nil=>rfl
 | cons x r ih=>simp
def VX{w:World}{t:Ty}(hf:t.flat=true){base:Nat}{e:TypeId}{v:Value}{xs:Γ t.den}(hw:∀x∈xs,Wf t x)(hm:xs.length<=maxLen)
  (h:w.ownsRow base e t.size v xs.length (xs.map (qQ t)).flatten):∃bs,iH w (.sl t) xs [v] bs/\bs.Nodup/\∀b∈bs,base<=b:=by
 rcases h.2 with ⟨rfl,hn⟩ | ⟨g,cap,cur,rfl,hb,hh,h1,h2,h3,h4⟩
 ·have:xs=[]:=List.eq_nil_of_length_eq_zero hn;subst this;exact⟨[],⟨_,rfl,by simp,.inl ⟨_,rfl,rfl,rfl⟩⟩,kE,λb hb=>by cases hb⟩
 ·have hrow:=Oo (w:=w) hf hw;have ho:=uE hrow (b:=g) (off:=0) (cap:=cap) (cur:=cur) (ty:=e) (fz:=(0,0)) hm h1 h2 (by rw[cO,h3];exact aU _) hh (CH _ _) (λj c hj=>by
   rw[cO, <- eK];have hl:j<xs.length*t.size:=by
    have:=(eH.1 hj).1;rw[hrow.len.2.2]at this;exact this
   rw[<- h4,List.getElem?_take,π hl]at hj;exact hj)
  rw[Oq]at ho;exact⟨[g],⟨_,rfl,ho⟩,by simp,λb hb'=>by simp at hb';omega⟩
def bls(xs:Γ Δ):Γ (Γ UInt8):=xs.map λs=>s.data.toList
end Go.Am
namespace Go.Am
end Go.Am
namespace Go.Am
open Go.Sort (grow)
def lD(n:Int):Δ:=⟨(Cq n).toArray⟩
def w5(n:Int)(h0 : -9223372036854775808<=n)(h1:n<=9223372036854775807):(lD n).size<=21:=by
 show (Cq n).toArray.size<=21;rw[List.size_toArray];exact Lib.itoa_length_le n h0 h1
def aFR(w:World)(n:Nat)(os:Array Obj):dD [] w (grow (w.drewN n) os) where
 os:=rfl
 tape:=rfl
 output:=rfl
 size:=by show w.heap.size<=(w.heap++os).size;rw[sK];omega
 block:=λk hk _=>by
  show (w.heap++os)[k]? = w.heap[k]?;exact Array.getElem?_append_left hk
theorem sX(sep:Δ)(save:Nat):∀(k:Nat) (s y:Δ),y∈Cs sep save k s->y.size<=s.size
 | 0,s,y,h=>by rw[Lib.splitB_zero,dG]at h;rw[h];exact aU _
 | k+1,s,y,h=>by
  unfold Cs at h;split at h
  ·rw[dG]at h;rw[h];exact aU _
  ·rcases bA.1 h with rfl | h
   ·rw[mW];omega
   ·have:=sX sep save k _ y h;rw[mW]at this;omega
def dB(c:UInt8):Γ UInt8->Γ (Γ UInt8)
 | []=>[[]]
 | b::r=>if b=c then []::dB c r else match dB c r with
  | []=>[[b]]
  | p::ps=>(b::p)::ps
theorem By(c:UInt8):∀l,dB c l≠[]
 | []=>by simp[dB]
 | b::r=>by
  unfold dB;split
  ·simp
  ·split <;> simp
theorem lE(c:UInt8):∀ {p:Γ UInt8},c ∉ p->dB c p=[p]
 | [],_=>rfl
 | b::r,h=>by
  have h1:b≠c:=λe=>h (by rw[e];exact aR ..);have h2:c ∉ r:=λe=>h (aM _ e);unfold dB;rw[ν h1,lE c h2]
theorem nJ(c:UInt8):∀ {p:Γ UInt8} (r:Γ UInt8),c ∉ p->dB c (p++c::r)=p::dB c r
 | [],r,_=>by simp[dB]
 | b::q,r,h=>by
  have h1:b≠c:=λe=>h (by rw[e];exact aR ..);have h2:c ∉ q:=λe=>h (aM _ e);rw[AV,dB,ν h1,nJ c r h2]
theorem vM(c:UInt8):∀(l p:Γ UInt8),p∈dB c l->c ∉ p
 | [],p,h=>by simp[dB]at h;simp[h]
 | b::r,p,h=>by
  unfold dB at h;split at h
  ·rcases bA.1 h with rfl | h
   ·simp
   ·exact vM c r p h
  ·rename_i hb;split at h
   ·rename_i e;exact absurd e (By c r)
   ·rename_i q qs e;rcases bA.1 h with rfl | h
    ·have:=vM c r q (by rw[e];exact aR ..);intro hm;rcases bA.1 hm with rfl | hm
     ·exact hb rfl
     ·exact this hm
    ·exact vM c r p (by rw[e];exact aM _ h)
theorem oV(c:UInt8):∀l,(dB c l).length=l.count c+1
 | []=>rfl
 | b::r=>by
  unfold dB;split
  ·rename_i h;subst h;rw[cH,oV];simp
  ·rename_i h;have:=oV c r;rw[List.count_cons_of_ne (by simpa using h)];split
   ·rename_i e;exact absurd e (By c r)
   ·rename_i q qs e;rw[e]at this;simpa using this
theorem Ag(c:UInt8):∀l,[c].intercalate (dB c l)=l
 | []=>by simp[dB,List.intercalate]
 | b::r=>by
  have ih:=Ag c r;unfold dB;split
  ·rename_i h;subst h;cases e:dB b r with
   | nil=>exact absurd e (By b r)
   | cons q qs =>
    rw[e]at ih;show uC ([]::q::qs) [b]=b::r;rw[pD];have:uC (q::qs) [b]=r:=ih;rw[pD]at this;simp only[Lib.joinTail,dY,gR,fV]at this ⊢;rw[<- this];simp
  ·split
   ·rename_i e;exact absurd e (By c r)
   ·rename_i q qs e;rw[e]at ih;have h1:uC (q::qs) [c]=r:=ih;show uC ((b::q)::qs) [c]=b::r;rw[pD]at h1 ⊢;rw[<- h1];rfl
theorem CN(c:UInt8):∀ {l:Γ UInt8},c ∉ l->F6 l [c] = -1
 | [],_=>by simp[F6]
 | b::r,h=>by
  have h1:b≠c:=λe=>h (by rw[e];exact aR ..);have h2:c ∉ r:=λe=>h (aM _ e);rw[F6,CN c h2];simp[Hn,kQ h1]
theorem Dq(c:UInt8):∀ {p:Γ UInt8} (r:Γ UInt8),c ∉ p->F6 (p++c::r) [c]=(p.length:Int)
 | [],r,_=>by simp[F6,Hn]
 | b::q,r,h=>by
  have h1:b≠c:=λe=>h (by rw[e];exact aR ..);have h2:c ∉ q:=λe=>h (aM _ e);rw[AV,F6,Dq c r h2];have:¬((q.length:Int) == -1)=true:=λe=>by have:=beq_iff_eq.1 e;omega
  have h3:([c]:Γ UInt8).isPrefixOf (b::(q++c::r))=false:=by simp[Hn,kQ h1]
  rw[h3,ν (by simp),ν this];simp
theorem Ot(c:UInt8):∀(l:Γ UInt8),c ∉ l\/∃p r,l=p++c::r/\c ∉ p
 | [] => .inl (by simp)
 | b::l=>by
  by_cases h:b=c
  ·exact .inr ⟨[],l,by rw[h];rfl,by simp⟩
  ·rcases Ot c l with h1 | ⟨p,r,rfl,h2⟩
   ·exact .inl (λhm=>by rcases bA.1 hm with rfl | hm;exact h rfl;exact h1 hm)
   ·exact .inr ⟨b::p,r,rfl,λhm=>by rcases bA.1 hm with rfl | hm;exact h rfl;exact h2 hm⟩
theorem VY(c:UInt8):∀(k:Nat) (l:Γ UInt8),l.count c<=k->Nz [c] 0 k l=dB c l
 | 0,l,h=>by
  have hn:c ∉ l:=λhm=>by have:=List.count_pos_iff.2 hm;omega
  rw[lE c hn];rfl
 | k+1,l,h=>by
  rcases Ot c l with hn | ⟨p,r,rfl,hn⟩
  ·rw[lE c hn,Nz,CN c hn,π (by rfl)]
  ·have hc:r.count c<=k:=by
    rw[List.count_append,List.count_cons_self]at h;omega
   rw[nJ c r hn,Nz,Dq c r hn,ν (λe=>by have:=beq_iff_eq.1 e;omega)]
   congr 1
   ·simp
   ·have e:(p++c::r).drop (((p.length:Int)).toNat+[c].length)=r:=by
     simp only[aK,jE];rw[List.drop_append,List.drop_of_length_le (by omega),lP];rfl
    rw[e];exact VY c k r hc
def bss(ls:Γ (Γ UInt8)):Γ Δ:=ls.map λl=>⟨l.toArray⟩
theorem aI3(xs:Γ Δ):bss (xs.map λx=>x.data.toList)=xs:=by
 unfold bss;rw[List.map_map]
 conv=>rhs;rw[<- List.map_id xs]
 rfl
theorem zW(c:UInt8)(s:Δ):Cs ⟨#[c]⟩ 0 (gX s ⟨#[c]⟩) s=bss (dB c s.data.toList):=by
 have h:=Lib.splitB_data ⟨#[c]⟩ 0 (gX s ⟨#[c]⟩) s;have e:gX s ⟨#[c]⟩=s.data.toList.count c:=by
  show Lib.count s.data.toList [c]=_;exact Lib.count_one c _
 have h2:=VY c (gX s ⟨#[c]⟩) s.data.toList (by rw[e];exact aU _);rw[<- aI3 (Cs ⟨#[c]⟩ 0 (gX s ⟨#[c]⟩) s),h];show bss (Nz [c] 0 _ _)=_;rw[h2]
def VZ(c:UInt8){l:Γ UInt8}(h:c ∉ l):lC l [c]=(l,[],false):=by
 unfold lC;rw[CN c h,ν (by decide)]
theorem UC(c:UInt8){p:Γ UInt8}(r:Γ UInt8)(h:c ∉ p):lC (p++c::r) [c]=(p,r,true):=by
 unfold lC;rw[Dq c r h,π (by omega)];simp
end Go.Am
namespace Go.Am
def wc(w:World):Γ (Nat×Γ Value)->World
 | []=>w
 | (g,cs)::r=>wc { w with heap:=w.heap.modify g fun
   | .cells _ t fz => .cells cs.toArray t fz
   | o=>o } r
def aI4:DataW Unit->Γ Value
 | .agg ps=>ps.filterMap fun
  | .lit (.int k z)=>some (.int k z)
  | _=>none
 | _=>[]
theorem Qw{P:Program}{W:World}:∀ {l:Γ (String×DataW Unit)} {i:Nat} {x:String×DataW Unit},laidMet P l W->l[i]? = some x->∃r,laidMet P (x::r) W
 | [],i,x,_,h=>by simp at h
 | y::l,0,x,h,hi=>by simp at hi;subst hi;exact⟨l,h⟩
 | y::l,i+1,x,h,hi=>Qw (l:=l) (i:=i) h.tail (by simpa using hi)
variable {l:Γ (String×DataW Unit)}
def we{P:Program}{W:World}{i:Nat}{name:String}{k:IntKind}{zs:Γ Int}{g n:Nat}{t e:TypeId}(h:laidMet P l W)(hi:l[i]? = some (name,Lib.tabData k zs))
  (hg:P.globalNamed name=some g) (hty:(P.globals[g]?).map (·.type)=some t) (ht:P.underlying t=some (.array n e)) (he:P.underlying e=some (.int k)) (hce:P.cellsOf e=1) (hct:P.cellsOf t=n):Lib.TabIs P W name k zs:=by
 obtain⟨r,h⟩:=Qw h hi;exact Lib.tabIs_of_head hg hty ht he hce hct h
def TA{P:Program}{W:World}{i:Nat}{name nm:String}{text:Γ UInt8}{g:Nat}{ti tp te ts:TypeId}{ms:Array (String×TypeId)}{f:Field}(h:laidMet P l W)(hi:l[i]? = some (name,.iface nm (.ptr (.agg [.lit (.string text)]))))
  (hg:P.globalNamed name=some g) (ht:(P.globals[g]?).map (·.type)=some ti) (hint:P.underlying ti=some (.interface ms)) (hrow:∀u,P.typeName? 3 u=some nm->u=tp)
  (hp:P.underlying tp=some (.pointer te)) (he:P.underlying te=some (.struct #[f])) (hft:f.type=ts) (hfo:f.offset=0) (hs:P.underlying ts=some .string) (hc:P.cellsOf te=1) (hcs:P.cellsOf ts=1):zH W g .ifc:=by
 obtain⟨r,h⟩:=Qw h hi;obtain⟨a,s,hv,_⟩:=laid_sentinel h hg ht hint hrow hp he hft hfo hs hc hcs;unfold World.var? at hv;rw[hg]at hv;have hv:(match W.heap[g]? with | some (.cells cs _ _)=>some cs | _=>none)=some #[Value.iface tp (.pointer (some a))]:=hv;split at hv
 ·rename_i cs t fz he;cases hv;exact⟨t,fz,_,_,he⟩
 ·cases hv
theorem zH.ifc_cell{W:World}{g:Nat}(h:zH W g .ifc):∃ev,W.cell? ⟨g,0,none⟩=some ev/\(ev = .nilIface\/∃te pe,ev = .iface te pe):=by
 obtain⟨t,fz,u,v,h⟩:=h;exact⟨.iface u v,by simp[iK, h],.inr ⟨u,v,rfl⟩⟩
end Go.Am
namespace Go.Am
open Go.RowKit (Below)
theorem Fz:∀ {t:Ty} {x:t.den},t.flat=true->∀u∈qQ t x,u.oneCell'=true
 | .int _,_,_,u,hu=>by simp[qQ]at hu;subst hu;rfl
 | .bool,_,_,u,hu=>by simp[qQ]at hu;subst hu;rfl
 | .fn,x,_,u,hu=>by simp[qQ]at hu;subst hu;exact Tw x
 | .str,_,_,u,hu=>by simp[qQ]at hu;subst hu;rfl
 | .sl _,_,h,_,_=>by cases h
 | .unit,_,_,u,hu=>by simp[qQ]at hu
 | .cons a b,x,hf,u,hu=>by
  simp only[Pm,aT]at hf;simp only[qQ,dC]at hu;rcases hu with hu | hu
  ·exact Fz hf.1 u hu
  ·exact Fz hf.2 u hu
def rN(t:Ty)(xs:Γ t.den):Γ Value:=(xs.map (qQ t)).flatten
theorem MS{w:World}{t:Ty}(hf:t.flat=true):∀ {xs:Γ t.den} {css:Γ (Γ Value)} {bss:Γ (Γ Nat)},AZ (iH w t) t.size xs css bss->css=xs.map (qQ t)/\bss.flatten=[]/\∀x∈xs,Wf t x
 | [],css,bss,⟨h1,h2⟩=>by subst h1 h2;exact⟨rfl,rfl,λx h=>by cases h⟩
 | x::r,css,bss,⟨c,cs,b,bs,h1,h2,h3,h4,h5⟩=>by
  subst h1 h2;obtain⟨e1,e2,e3⟩:=MS hf h5;have e4:b=[]:=(h4.flat (w':=w) (G:=λ_=>True) hf).2;refine⟨by rw[e1,Fs hf h4];rfl,by simp[e2,e4],λy hy=>?_⟩;rcases bA.1 hy with rfl | hy
  ·exact h4.wf
  ·exact e3 y hy
variable {t:Ty}
theorem nK(hf:t.flat=true){xs:Γ t.den}(hw:∀x∈xs,Wf t x):(rN t xs).length=xs.length*t.size :=
 (Oo (w:=default) hf hw).len.2.2
def Qx{w:World}{G:Nat->Prop}(hf:t.flat=true){xs:Γ t.den}{v:Value}(h:oA w G (fI w G t) t.size xs v) :
  (∀x∈xs,Wf t x)/\xs.length<=maxLen/\((∃ad,v = .slice ad 0 0/\xs=[]) \/
   ∃b off cap,v = .slice (some ⟨b,off,none⟩) xs.length cap/\xs.length<=cap/\cap<=maxLen/\G b/\∀j u,(rN t xs)[j]? = some u->w.cell? ⟨b,off+j,none⟩=some u):=by
 refine⟨(dw (λ_ _=>fI.wf) h).2,h.1,?_⟩;have hl:=h.2;obtain⟨css,bss,hrow,hflat,hcase⟩:=oA.row h;rcases hcase with ⟨ad,rfl,rfl⟩ | ⟨b',off,cap,rfl,hG,hcells⟩
 ·exact .inl ⟨ad,rfl,rfl⟩
 ·rcases hl with ⟨ad,e,rfl⟩ | ⟨b2,off2,cap2,e,h2,h3,h4,_⟩
  ·simp only[Value.slice.injEq]at e;obtain⟨e1,e2,e3⟩:=e;exact .inl ⟨some ⟨b',off,none⟩,by rw[e3];rfl,rfl⟩
  ·cases e;refine .inr ⟨b',off,cap,rfl,h2,h3,hG,λj u hj=>hcells j u ?_⟩;have hr:AZ (iH w t) t.size xs css bss:=hrow.mono λy c b _ hh=>by
    obtain⟨g1,g2⟩:=hh;subst g2;exact g1.own hf
   rw[(MS hf hr).1];exact hj
def wg{w:World}(hf:t.flat=true){xs:Γ t.den}{v:Value}{bs:Γ Nat}(h:iH w (.sl t) xs [v] bs) :
  (∀x∈xs,Wf t x)/\xs.length<=maxLen/\((∃ad,v = .slice ad 0 0/\xs=[]/\bs=[]) \/
  ∃b off cap cur ty fz,v = .slice (some ⟨b,off,none⟩) xs.length cap/\xs.length<=cap/\cap<=maxLen/\off+cap*t.size<=cur.size/\w.heap[b]? = some (.cells cur ty fz)/\OV t.size fz cur.size/\bs=[b] /\
   ∀j u,(rN t xs)[j]? = some u->cur[off+j]? = some u):=by
 obtain⟨v',hv,h⟩:=h;cases hv;have hm:=h.1;obtain⟨css,bss,hrow,hcase⟩:=Aa.row h;obtain⟨e1,e2,e3⟩:=MS hf hrow;refine⟨e3,hm,?_⟩;rcases hcase with ⟨ad,h1,h2,h3⟩ | ⟨b,off,cap,cur,ty,fz,h1,h2,h3,h4,h5,h6,h7,h8⟩
 ·exact .inl ⟨ad,h1,h2,h3⟩
 ·exact .inr ⟨b,off,cap,cur,ty,fz,h1,h2,h3,h4,h5,h6,by rw[h7,e2],λj u hj=>h8 j u (by rw[e1];exact hj)⟩
def TB{w:World}(hf:t.flat=true){xs:Γ t.den}(hw:∀x∈xs,Wf t x){n b off cap:Nat}{cur:Array Value}{ty:TypeId}{fz:Nat×Nat}(hn:n=xs.length)(h2:xs.length<=cap)(h3:cap<=maxLen)(h4:off+cap*t.size<=cur.size)
  (h5:w.heap[b]? = some (.cells cur ty fz)) (h6:OV t.size fz cur.size) (h8:∀j u,(rN t xs)[j]? = some u->cur[off+j]? = some u):iH w (.sl t) xs [.slice (some ⟨b,off,none⟩) n cap] [b]:=by
 subst hn;have hrow:=Oo (w:=w) hf hw;have ho:=uE hrow (b:=b) (off:=off) (cap:=cap) (cur:=cur) (ty:=ty) (fz:=fz) (Nat.le_trans h2 h3) h2 h3 h4 h5 h6 h8;rw[Oq]at ho;exact⟨_,rfl,ho⟩
def ay(t:Ty):Spec:={ sig:=[nV (.sl t)],pre:=λ⟨x0,_⟩=>x0.length<=1048576,res:=λ⟨x0,_⟩=>[⟨.sl t,x0⟩] }
def V0{P:Program}{f:FuncId}{e:TypeId}(hf:t.flat=true)
  (hnil:∀w:World,Calls P f #[.slice none 0 0] w λe w'=>e = .returned (.slice none 0 0)/\w'=w)
  (hsome:∀(w:World) (a:Addr) (n c:Nat) (news:Γ Value),news.length=n*t.size->n<=1048576->(∀j u,news[j]? = some u->w.cell? (a.add j)=some u)->(∀u∈news,u.oneCell'=true) ->
   Calls P f #[.slice (some a) n c] w λr w'=>∃v',r = .returned v'/\w'.ownsRow w.heap.size e t.size v' n news/\Below w.heap.size w w') :
  jZ P f (ay t):=by
 refine Br.up rfl rfl ?_;rintro w ⟨x0,u⟩ vs bss hgo hp ⟨v,s,b,bs,rfl,rfl,⟨rfl,ho⟩,rfl,rfl⟩ hn;have hp:x0.length<=1048576:=hp;have hm:x0.length<=maxLen:=by unfold maxLen;omega
 obtain⟨hw,_,hcase⟩:=Qx hf ho;have hfin:∀(v':Value) (w':World),w'.ownsRow w.heap.size e t.size v' x0.length (rN t x0)->Below w.heap.size w w' ->
   ∃rs ubs rbs,Ho v' = .returned (II rs)/\dD ([[]]:Γ (Γ Nat)).flatten w w'/\Dl w' [⟨.sl t,x0⟩] rs rbs/\zK w' [] (kO [nV (.sl t)] [v]) ubs/\(ubs.flatten++rbs.flatten).Nodup/\∀b∈ubs.flatten++rbs.flatten,¬Am.Good w ([[]]:Γ (Γ Nat)).flatten b:=λv' w' h1 h2=>by
  obtain⟨bs,g1,g2,g3⟩:=VX hf hw hm h1;refine⟨[v'],[],[bs],rfl,iR h2,⟨_,_,_,_,_,rfl,rfl,g1,rfl,rfl,rfl⟩,⟨rfl,rfl⟩,by simpa using g2,λb hb hg=>?_⟩;simp at hb;have:=g3 b hb;have:=hg.1;omega
 rcases hcase with ⟨ad,rfl,rfl⟩ | ⟨b',off,cap,rfl,h2,h3,hG,hcells⟩
 ·cases ad with
  | none =>
   refine(hnil w).mono ?_;rintro r w' ⟨rfl,rfl⟩;exact hfin _ _ ⟨by simp[rN],.inl ⟨rfl,rfl⟩⟩ (Below.refl _ _)
  | some a =>
   refine(hsome w a 0 0 [] (by simp) (by omega) (λj u h=>by simp at h) (λu h=>by cases h)).mono ?_;rintro r w' ⟨v',rfl,h1,h2⟩;exact hfin _ _ h1 h2
 ·refine(hsome w ⟨b',off,none⟩ x0.length cap (rN t x0) (nK hf hw) hp (λj u hj=>by rw[fX];exact hcells j u hj) (λu hu=>?_)).mono ?_
  ·obtain⟨l,hl,hu⟩:=kU.1 hu;obtain⟨x,_,rfl⟩:=cW.1 hl;exact Fz hf u hu
  ·rintro r w' ⟨v',rfl,h1,h2⟩;exact hfin _ _ h1 h2
section
variable {P:Program}
theorem GA(w:World)(dT sT ty elem:TypeId)(k b o dLen dCap:Nat)(a:Addr)(sLen sCap:Nat)(cs:Γ Value)
  (hu:P.underlying dT=some (.slice elem)) (hs:(P.info? elem).map (·.size)=some k) (hn:cs.length=HV sLen dLen*k)
  (hsrc:∀j v,cs[j]? = some v->w.cell? (a.add j)=some v) (hc:∀j,j<cs.length->(w.cell? ⟨b,o+j,none⟩).isSome=true) (hf:∀j,j<cs.length->w.frozen? ⟨b,o+j,none⟩=false) (h1:∀v∈cs,v.oneCell'=true) :
  (jX #[dT,sT] ty #[.slice (some ⟨b,o,none⟩) dLen dCap,.slice (some a) sLen sCap]).run P w = .ok (goInt (HV sLen dLen)) (w.setCells b o cs):=by
 have hl:=run_loadCells_list (P:=P) w a cs hsrc;have hst:=run_storeCells_cells (P:=P) b o cs 0 w (by simpa using hc) (by simpa using hf) h1;cases hq:P.info? elem with
 | none=>simp[hq]at hs
 | some i =>
  have hi:i.size=k:=by simpa [hq] using hs
  simp[jX,run_underlying hu,rU,eQ,sizeOf,typeInfo,hq,hi, <- hn,hl,hst]
theorem TC(t:Ty)(n:Nat):(gS (fN t).toArray n).toList=(aP n (fN t)).flatten:=by
 have:=Uw (fN t).toArray n;unfold gS;rw[this]
end
theorem MT(b:Nat):∀(vs:Γ Value) (o:Nat) (w:World) (x:Addr),(w.cell? x).isSome=true->((w.setCells b o vs).cell? x).isSome=true
 | [],_,_,_,h=>h
 | v::r,o,w,x,h=>by
  refine MT b r (o+1) _ x ?_;obtain⟨u,hu⟩:=Option.isSome_iff_exists.1 h;by_cases e:(⟨b,o,none⟩:Addr)=x
  ·subst e;rw[World.cell?_setCell_same _ _ _ hu];rfl
  ·rw[World.cell?_setCell_other _ _ _ _ e,hu];rfl
variable {w:World} {cur:Array Value} {fz:Nat×Nat}
theorem Yx{b o:Nat}{v:Value}{ty:TypeId}(h:w.heap[b]? = some (.cells cur ty fz)):(w.setCell ⟨b,o,none⟩ v).heap[b]? = some (.cells (cur.setIfInBounds o v) ty fz)/\(∀k,k≠b->(w.setCell ⟨b,o,none⟩ v).heap[k]? = w.heap[k]?)/\(w.setCell ⟨b,o,none⟩ v).heap.size=w.heap.size:=by
 refine⟨?_,λk hk=>?_,?_⟩
 ·simp[Ef,n7,h]
 ·simp[Ef,n7,kQ hk]
 ·simp[Ef]
theorem nL:∀(vs:Γ Value) {w:World} {b o:Nat} {cur:Array Value} {ty:TypeId} {fz:Nat×Nat},w.heap[b]? = some (.cells cur ty fz)->o+vs.length<=cur.size ->
  ∃cur',(w.setCells b o vs).heap[b]? = some (.cells cur' ty fz)/\cur'.size=cur.size/\(∀j u,vs[j]? = some u->cur'[o+j]? = some u)/\(∀j,j<o\/o+vs.length<=j->cur'[j]? = cur[j]?) /\
   (∀k,k≠b->(w.setCells b o vs).heap[k]? = w.heap[k]?)/\(w.setCells b o vs).heap.size=w.heap.size
 | [],w,b,o,cur,ty,fz,h,_=>⟨cur,h,rfl,λj u hj=>by simp at hj,λ_ _=>rfl,λ_ _=>rfl,rfl⟩
 | v::r,w,b,o,cur,ty,fz,h,hl=>by
  simp only[cH]at hl;obtain⟨e1,e2,e3⟩:=Yx (o:=o) (v:=v) h;obtain⟨cur',g1,g2,g3,g4,g5,g6⟩:=nL r (o:=o+1) e1 (by simp;omega);refine⟨cur',g1,by rw[g2];simp,λj u hj=>?_,λj hj=>?_,λk hk=>by rw[Y5,g5 k hk,e2 k hk],by rw[Y5,g6,e3]⟩
  ·cases j with
   | zero =>
    simp at hj;subst hj;rw[Nat.add_zero,g4 o (.inl (by omega)),Array.getElem?_setIfInBounds_self_of_lt (by omega)]
   | succ j =>
    have:=g3 j u (by simpa using hj)
    rwa [show o+(j+1)=o+1+j by omega]
  ·simp only[cH]at hj;rw[g4 j (by omega),Array.getElem?_setIfInBounds_ne (by omega)]
theorem vD(vs:Γ Value){b o:Nat}{ty:TypeId}(h:w.heap[b]? = some (.cells cur ty fz))(hl:o+vs.length<=cur.size):dD [b] w (w.setCells b o vs):=by
 obtain⟨_,_,_,_,_,g5,g6⟩:=nL vs h hl;have hw:∀(vs:Γ Value) (o:Nat) (w:World),(w.setCells b o vs).os=w.os/\(w.setCells b o vs).tape=w.tape/\(w.setCells b o vs).output=w.output:=by
  intro vs
  induction vs with
  | nil=>intro o w;exact⟨rfl,rfl,rfl⟩
  | cons v r ih =>
   intro o w;obtain⟨h1,h2,h3⟩:=ih (o+1) (w.setCell ⟨b,o,none⟩ v);exact⟨h1,h2,h3⟩
 obtain⟨h1,h2,h3⟩:=hw vs o w;exact⟨h1,h2,h3,by rw[g6];exact aU _,λk hk hkb=>g5 k (by simpa using hkb)⟩
theorem sY(t:Ty)(xs ys:Γ t.den):rN t (xs++ys)=rN t xs++rN t ys:=by simp[rN]
structure y9 (w:World) (t:Ty) (xs:Γ t.den) (b off cap:Nat) (cur:Array Value) (ty:TypeId) (fz:Nat×Nat):Prop where
 wf:∀x∈xs,Wf t x
 len:xs.length<=cap
 capm:cap<=maxLen
 fit:off+cap*t.size<=cur.size
 blk:w.heap[b]? = some (.cells cur ty fz)
 free:OV t.size fz cur.size
 has:∀j u,(rN t xs)[j]? = some u->cur[off+j]? = some u
theorem y9.cell{w:World}{t:Ty}{xs:Γ t.den}{b off cap:Nat}{cur:Array Value}{ty:TypeId}{fz:Nat×Nat}(h:y9 w t xs b off cap cur ty fz):∀j u,(rN t xs)[j]? = some u->w.cell? ⟨b,off+j,none⟩=some u:=λj u hj=>by
 simp only[iK, h.blk];exact h.has j u hj
variable {t:Ty}
def y9.some'{xs:Γ t.den}{b off cap:Nat}{ty:TypeId}(h:y9 w t xs b off cap cur ty fz):∀j,j<cap*t.size->(w.cell? ⟨b,off+j,none⟩).isSome=true:=λj hj=>by
 have:=h.fit;simp only[iK, h.blk];rw[uV (by omega)];rfl
theorem y9.unfrozen{xs:Γ t.den}{b off cap:Nat}{ty:TypeId}(h:y9 w t xs b off cap cur ty fz):∀j,j<cap*t.size->w.frozen? ⟨b,off+j,none⟩=false:=λj hj=>by
 have h1:=h.fit;have h2:=h.free.1 (off+j) (by omega);simp only[World.frozen?, h.blk];rw[bV];intro hh;simp only[aT,ε]at hh;exact h2 hh
def y9.lt{xs:Γ t.den}{b off cap:Nat}{ty:TypeId}(h:y9 w t xs b off cap cur ty fz):b<w.heap.size:=by
 rcases mS b w.heap.size with h' | h'
 ·exact h'
 ·have:=h.blk;rw[kD h']at this;cases this
def aI5(hf:t.flat=true){xs:Γ t.den}{v:Value}{bs:Γ Nat}(h:iH w (.sl t) xs [v] bs)(hne:xs≠[]) :
  ∃b off cap cur ty fz,v = .slice (some ⟨b,off,none⟩) xs.length cap/\bs=[b]/\y9 w t xs b off cap cur ty fz:=by
 obtain⟨hw,hm,hcase⟩:=wg hf h;rcases hcase with ⟨ad,rfl,h1,_⟩ | ⟨b,off,cap,cur,ty,fz,h1,h2,h3,h4,h5,h6,h7,h8⟩
 ·exact absurd h1 hne
 ·exact⟨b,off,cap,cur,ty,fz,h1,h7,hw,h2,h3,h4,h5,h6,h8⟩
theorem Ih(hf:t.flat=true)(xs:Γ t.den):∀u∈rN t xs,u.oneCell'=true:=λu hu=>by
 obtain⟨l,hl,hu⟩:=kU.1 hu;obtain⟨x,_,rfl⟩:=cW.1 hl;exact Fz hf u hu
theorem wh(hf:t.flat=true){xs:Γ t.den}(hw:∀x∈xs,Wf t x)(j:Nat)(hj:j<=xs.length):∀(k:Nat) (u:Value),(rN t (xs.drop j))[k]? = some u->(rN t xs)[j*t.size+k]? = some u:=λk u hk=>by
 have h1:rN t xs=rN t (xs.take j)++rN t (xs.drop j):=by rw[<- sY,fD]
 have h2:(rN t (xs.take j)).length=j*t.size:=by rw[nK hf (λx hx=>hw x (iN hx)),fL,Hp hj]
 rw[h1,cY (by omega),h2,lP];exact hk
theorem wj(hf:t.flat=true){xs:Γ t.den}(hw:∀x∈xs,Wf t x)(j:Nat):∀(k:Nat) (u:Value),(rN t (xs.take j))[k]? = some u->(rN t xs)[k]? = some u:=λk u hk=>by
 have h1:rN t xs=rN t (xs.take j)++rN t (xs.drop j):=by rw[<- sY,fD]
 rw[h1,c6 (eH.1 hk).1];exact hk
def V4(t:Ty):Spec:={ sig:=[rE t,nV (.int .i64),rE t],pre:=λ⟨x0,x1,x2,_⟩=>0<=x1/\x1<=x0.length/\x2.length=1/\x0.length<=1048576,upd:=λ_=>[none,none],res:=λ⟨x0,x1,x2,_⟩=>[⟨.sl t,x0.take x1.toNat++(x2++x0.drop x1.toNat)⟩] }
def aI6(P:Program)(f:FuncId)(t:Ty):Prop:=∀(w:World) (xs ys:Γ t.den) (b off cap:Nat) (cur:Array Value) (ty:TypeId) (fz:Nat×Nat) (vb voff vcap:Nat) (vcur:Array Value) (vty:TypeId) (vfz:Nat×Nat) (i:Nat),y9 w t xs b off cap cur ty fz->y9 w t ys vb voff vcap vcur vty vfz->ys.length=1->vb≠b->i<xs.length->xs.length+1<=cap ->
   Calls P f #[.slice (some ⟨b,off,none⟩) xs.length cap,.int .i64 i,.slice (some ⟨vb,voff,none⟩) 1 vcap] w λr w'=>r = .returned (.slice (some ⟨b,off,none⟩) (xs.length+1) cap) /\
    ∃q,w'=((w.drewN q).setCells b (off+(i+1)*t.size) (rN t (xs.drop i))).setCells b (off+i*t.size) (rN t ys)
def aPU(P:Program)(f:FuncId)(t:Ty)(e:TypeId):Prop:=∀(w:World) (xs ys:Γ t.den) (b off cap:Nat) (cur:Array Value) (ty:TypeId) (fz:Nat×Nat) (vb voff vcap:Nat) (vcur:Array Value) (vty:TypeId) (vfz:Nat×Nat) (i:Nat),y9 w t xs b off cap cur ty fz->y9 w t ys vb voff vcap vcur vty vfz->ys.length=1->vb≠b->i<xs.length->cap<xs.length+1->xs.length<=1048576 ->
   Calls P f #[.slice (some ⟨b,off,none⟩) xs.length cap,.int .i64 i,.slice (some ⟨vb,voff,none⟩) 1 vcap] w λr w'=>∃v',r = .returned v'/\w'.ownsRow w.heap.size e t.size v' (xs.length+1) (rN t (xs.take i++(ys++xs.drop i)))/\Below w.heap.size w w'
def bAa(P:Program)(f:FuncId)(t:Ty):Prop:=∀(w:World) (xs ys:Γ t.den) (b off cap:Nat) (cur:Array Value) (ty:TypeId) (fz:Nat×Nat) (vb voff vcap:Nat) (vcur:Array Value) (vty:TypeId) (vfz:Nat×Nat),y9 w t xs b off cap cur ty fz->y9 w t ys vb voff vcap vcur vty vfz->ys.length=1->vb≠b->xs.length+1<=cap ->
   Calls P f #[.slice (some ⟨b,off,none⟩) xs.length cap,.int .i64 xs.length,.slice (some ⟨vb,voff,none⟩) 1 vcap] w λr w'=>r = .returned (.slice (some ⟨b,off,none⟩) (xs.length+1) cap) /\
    ∃q,w'=(w.drewN q).setCells b (off+xs.length*t.size) (rN t ys)
def aPV(P:Program)(f:FuncId)(t:Ty)(e:TypeId):Prop:=∀(w:World) (xs ys:Γ t.den) (ad:Option Addr) (cap:Nat) (vb voff vcap:Nat) (vcur:Array Value) (vty:TypeId) (vfz:Nat×Nat),(∀x∈xs,Wf t x)->xs.length<=cap->(ad=none->xs=[])->(∀a,ad=some a->∀j u,(rN t xs)[j]? = some u->w.cell? (a.add j)=some u)->y9 w t ys vb voff vcap vcur vty vfz->ys.length=1->cap<xs.length+1->xs.length<=1048576 ->
   Calls P f #[.slice ad xs.length cap,.int .i64 xs.length,.slice (some ⟨vb,voff,none⟩) 1 vcap] w λr w'=>∃v',r = .returned v'/\w'.ownsRow w.heap.size e t.size v' (xs.length+1) (rN t (xs++ys))/\Below w.heap.size w w'
theorem Tg{P:Program}{f:FuncId}{e:TypeId}(hf:t.flat=true)(hshift:aI6 P f t)(hgrow:aPU P f t e)(hend:bAa P f t)(hlast:aPV P f t e) :
  jZ P f (V4 t):=by
 refine Br.up rfl rfl ?_;rintro w ⟨z0,z1,z2,u⟩ vs bss hgo hp ⟨v,s,b0,bs0,rfl,rfl,ho,v1,s1,b1,bs1,rfl,rfl,⟨rfl,rfl,_⟩,v2,s2,b2,bs2,rfl,rfl,ho2,rfl,rfl⟩ hn;obtain⟨x0,rfl⟩:∃y:Γ t.den,y=z0:=⟨z0,rfl⟩;obtain⟨x1,rfl⟩:∃y:Int,y=z1:=⟨z1,rfl⟩;obtain⟨x2,rfl⟩:∃y:Γ t.den,y=z2:=⟨z2,rfl⟩
 dsimp only
 obtain⟨p0,p1,p2,p3⟩:0<=x1/\x1<=x0.length/\x2.length=1/\x0.length<=1048576:=hp;obtain⟨i,rfl⟩:∃i:Nat,x1=i:=⟨x1.toNat,by omega⟩;have hi:i<=x0.length:=by omega
 have ho':iH w (.sl t) x0 [v] b0:=ho;have ho2':iH w (.sl t) x2 [v2] b2:=ho2;obtain⟨vb,voff,vcap,vcur,vty,vfz,rfl,rfl,hB⟩:=aI5 hf ho2' (by intro e;rw[e]at p2;simp at p2);rw[p2];have hwf2:=hB.wf
 -- a row of one's own
 have fresh:∀(ys:Γ t.den) (v':Value) (w':World),ys.length=x0.length+1->(∀y∈ys,Wf t y)->w'.ownsRow w.heap.size e t.size v' (x0.length+1) (rN t ys)->Below w.heap.size w w' ->
   ∃rs ubs rbs,Ho v' = .returned (II rs)/\dD [b0,[],[vb]].flatten w w'/\Dl w' [⟨.sl t,ys⟩] rs rbs/\zK w' [none,none] (kO [rE t,nV (.int .i64),rE t] [v,.int .i64 i,.slice (some ⟨vb,voff,none⟩) 1 vcap]) ubs /\
    (ubs.flatten++rbs.flatten).Nodup/\∀d∈ubs.flatten++rbs.flatten,¬Am.Good w [b0,[],[vb]].flatten d:=λys v' w' hl hw h1 h2=>by
  rw[<- hl]at h1;obtain⟨bs,g1,g2,g3⟩:=VX hf hw (by rw[hl];unfold maxLen;omega) h1;refine⟨[v'],[[],[]],[bs],rfl,(iR h2).of_nil,⟨_,_,_,_,_,rfl,rfl,g1,rfl,rfl,rfl⟩,⟨_,_,_,rfl,rfl,_,_,_,rfl,rfl,rfl,rfl⟩,by simpa using g2,λd hd hg=>?_⟩;simp at hd;have:=g3 d hd;have:=hg.1;omega
 -- what was there,written anew
 have wf3:∀y∈x0.take i++(x2++x0.drop i),Wf t y->True:=λ_ _ _=>trivial;obtain⟨hw0,hm0,hcase⟩:=wg hf ho';have hws:∀y∈x0.take i++(x2++x0.drop i),Wf t y:=λy hy=>by
  rcases dC.1 hy with hy | hy
  ·exact hw0 y (iN hy)
  ·rcases dC.1 hy with hy | hy
   ·exact hwf2 y hy
   ·exact hw0 y (iO hy)
 have hlens:(x0.take i++(x2++x0.drop i)).length=x0.length+1:=by
  simp only[bS,fL,p7,p2];omega
 rcases hcase with ⟨ad,rfl,rfl,rfl⟩ | ⟨b,off,cap,cur,ty,fz,rfl,h2,h3,h4,h5,h6,rfl,h8⟩
 ·have hi0:i=0:=by simpa using hi
  subst hi0;have:=hlast w [] x2 ad 0 vb voff vcap vcur vty vfz (λx h=>by cases h) (aU _) (λ_=>rfl) (λa _ j u hj=>by simp[rN]at hj) hB p2 (by simp) (by simp);refine this.mono ?_;rintro r w' ⟨v',rfl,h1,h2⟩;exact fresh _ v' w' hlens hws (by simpa using h1) h2
 ·have hA:y9 w t x0 b off cap cur ty fz:=⟨hw0,h2,h3,h4,h5,h6,h8⟩;have hvb:vb≠b:=by
   simp only[gR,F2,dN,fV,AV,jH,dG]at hn;exact λe=>hn.1 e.symm
  have place:∀(w':World) (cur':Array Value),dD [b] w w'->w'.heap[b]? = some (.cells cur' ty fz)->cur'.size=cur.size->x0.length+1<=cap->(∀j u,(rN t (x0.take i++(x2++x0.drop i)))[j]? = some u->cur'[off+j]? = some u) ->
    ∃rs ubs rbs,Ho (.slice (some ⟨b,off,none⟩) (x0.length+1) cap) = .returned (II rs)/\dD [[b],[],[vb]].flatten w w'/\Dl w' [⟨.sl t,x0.take i++(x2++x0.drop i)⟩] rs rbs/\zK w' [none,none] (kO [rE t,nV (.int .i64),rE t] [.slice (some ⟨b,off,none⟩) x0.length cap,.int .i64 i,.slice (some ⟨vb,voff,none⟩) 1 vcap]) ubs /\
     (ubs.flatten++rbs.flatten).Nodup/\∀d∈ubs.flatten++rbs.flatten,¬Am.Good w [[b],[],[vb]].flatten d:=λw' cur' hk hb hs hr hc=>by
   have hres:=TB (w:=w') hf hws (n:=x0.length+1) (b:=b) (off:=off) (cap:=cap) (cur:=cur') (ty:=ty) (fz:=fz) hlens.symm (by rw[hlens];exact hr) h3 (by rw[hs];exact h4) hb (by rw[hs];exact h6) hc;refine⟨[_],[[],[]],[[b]],rfl,hk.mono (λk hk=>by simp at hk;simp[hk]),⟨_,_,_,_,_,rfl,rfl,hres,rfl,rfl,rfl⟩,⟨_,_,_,rfl,rfl,_,_,_,rfl,rfl,rfl,rfl⟩,by simp,λd hd hg=>?_⟩;simp at hd;subst hd;exact hg.2 (by simp)
  have hdr:∀q,dD [b] w (w.drewN q):=λq=>⟨rfl,rfl,rfl,aU _,λ_ _ _=>rfl⟩;have hlen2:(rN t x2).length=t.size:=by rw[nK hf hwf2,p2,Dd]
  by_cases hroom:x0.length+1<=cap
  ·have hle:(x0.length+1)*t.size<=cap*t.size:=Nat.mul_le_mul_right _ hroom;rw[fZ,Dd]at hle;by_cases hin:i=x0.length
   ·subst hin;refine(hend w x0 x2 b off cap cur ty fz vb voff vcap vcur vty vfz hA hB p2 hvb hroom).mono ?_;rintro r w' ⟨rfl,q,rfl⟩;have l1:off+x0.length*t.size+(rN t x2).length<=cur.size:=by rw[hlen2];omega
    obtain⟨c1,g1,g2,g3,g4,g5,g6⟩:=nL (rN t x2) (show (w.drewN q).heap[b]? = some (.cells cur ty fz)from h5) l1;refine place _ c1 ((hdr q).trans (vD _ h5 l1)) g1 g2 hroom (λj u hu=>?_);rw[nG,F7,dN,sY]at hu;have hl0:=nK hf hw0;by_cases hj:j<x0.length*t.size
    ·rw[c6 (by omega)]at hu;rw[g4 _ (.inl (by omega))];exact h8 j u hu
    ·rw[cY (by omega),hl0]at hu;have:=g3 _ u hu
     rwa [show off+x0.length*t.size+(j-x0.length*t.size)=off+j by omega]at this
   ·have hlt:i<x0.length:=by omega
    refine(hshift w x0 x2 b off cap cur ty fz vb voff vcap vcur vty vfz i hA hB p2 hvb hlt hroom).mono ?_;rintro r w' ⟨rfl,q,rfl⟩;have hd:(rN t (x0.drop i)).length=(x0.length-i)*t.size:=by rw[nK hf (λx hx=>hw0 x (iO hx)),p7]
    have hti:(rN t (x0.take i)).length=i*t.size:=by rw[nK hf (λx hx=>hw0 x (iN hx)),fL,Hp (by omega)]
    have e1:(i+1)*t.size+(x0.length-i)*t.size=x0.length*t.size+t.size:=by rw[<- fZ, <- yN];congr 1;omega
    have e2:(i+1)*t.size=i*t.size+t.size:=yN _ _;have l1:off+(i+1)*t.size+(rN t (x0.drop i)).length<=cur.size:=by rw[hd];omega
    obtain⟨c1,g1,g2,g3,g4,g5,g6⟩:=nL (rN t (x0.drop i)) (show (w.drewN q).heap[b]? = some (.cells cur ty fz)from h5) l1;have l2:off+i*t.size+(rN t x2).length<=c1.size:=by rw[hlen2,g2];omega
    obtain⟨c2,k1,k2,k3,k4,k5,k6⟩:=nL (rN t x2) g1 l2;refine place _ c2 (((hdr q).trans (vD _ h5 l1)).trans (vD _ g1 l2)) k1 (by rw[k2,g2]) hroom (λj u hu=>?_);rw[sY,sY]at hu;by_cases hj:j<i*t.size
    ·rw[c6 (by omega)]at hu;rw[k4 _ (.inl (by omega)),g4 _ (.inl (by omega))];exact h8 j u (wj hf hw0 i j u hu)
    ·rw[cY (by omega),hti]at hu;by_cases hj2:j<i*t.size+t.size
     ·rw[c6 (by omega)]at hu;have:=k3 _ u hu
      rwa [show off+i*t.size+(j-i*t.size)=off+j by omega]at this
     ·rw[cY (by omega),hlen2]at hu;rw[k4 _ (.inr (by rw[hlen2];omega))];have:=g3 _ u hu
      rwa [show off+(i+1)*t.size+(j-i*t.size-t.size)=off+j by omega]at this
  ·by_cases hin:i=x0.length
   ·subst hin;have:=hlast w x0 x2 (some ⟨b,off,none⟩) cap vb voff vcap vcur vty vfz hw0 h2 (λh=>by cases h) (λa ha j u hj=>by cases ha;rw[fX];exact hA.cell j u hj) hB p2 (by omega) p3;refine this.mono ?_;rintro r w' ⟨v',rfl,h1,h2⟩;exact fresh _ v' w' hlens hws (by rw[aK,nG,F7,dN];exact h1) h2
   ·have hlt:i<x0.length:=by omega
    refine(hgrow w x0 x2 b off cap cur ty fz vb voff vcap vcur vty vfz i hA hB p2 hvb hlt (by omega) p3).mono ?_;rintro r w' ⟨v',rfl,h1,h2⟩;exact fresh _ v' w' hlens hws h1 h2
end Go.Am
namespace Go.Am
def getD_all{h:Γ Int}{n:Int}(hn:0<=n)(hc:∀c∈h,0<=c/\c<=n)(k:Nat):0<=h.getD k 0/\h.getD k 0<=n:=by
 by_cases hlt:k<h.length
 ·exact hc _ (cF h k 0 hlt)
 ·rw[bW,List.getElem?_eq_none (by omega)];exact⟨dX _,hn⟩
def bAb(o:Option (Γ aS×Γ (Option jD)×Γ Prop)):Option (Γ aS×Γ (Option jD))×Prop :=
 match o with
 | some (ds,us,cs)=>(some (ds,us),gZ cs)
 | none=>(none,True)
theorem a1{p q:Prop}(x:p)(y:q):p/\q:=⟨x,y⟩
section
variable {P:Program} {f:FuncId} {R:Ending->World->Prop} {n:Nat} {K:fG} {E:gH} {L:bM}
theorem tj.ret{fn:Func}(hf:P.funcs[f]? = some fn){tab:Γ TI}{ext:Aw}(hT:kW P tab)(hX:rM P ext)(hm:P.follows .mixedOrders=true)(wr:Bool)(stops:Γ Nat){q:Nat->Value}{pins:Γ Nat}{oks:Γ AT}{kds:Γ RK}(ts:Γ Ty)(path:Γ Bool){k:Γ Item}{ds:Γ aS}{us:Γ (Option jD)}{C:Prop}
  (hc:C) (h:bAb (Ol tab ext wr n stops 2000 pins oks kds ts fn.results path k E L)=(some (ds,us),C)):tj P f (Ok kds oks ds us pins q K) n K q pins k E L:=by
 cases hr:Ol tab ext wr n stops 2000 pins oks kds ts fn.results path k E L with
 | none=>rw[hr]at h;cases h
 | some y =>
  obtain⟨d1,u1,cs⟩:=y;rw[hr]at h;cases h;exact tj.fin hf hT hX hm hr hc
end
structure gC where
 f:FuncId
 fn:Func
 sig:Γ AT
 tys:Γ Ty
 kds:Γ RK
 ext:Aw
 wr:Bool
 stops:Γ Nat
def Con(P:Program)(f:FuncId)(S:Spec):Prop:=CC P f/\jZ P f S
structure Fok (P:Program) (tab:Γ TI) (d:gC):Prop where
 hf:P.funcs[d.f]? = some d.fn
 hT:kW P tab
 hX:rM P d.ext
 hm:P.follows .mixedOrders=true
def aI7:Γ Prop->Prop
 | []=>True
 | p::r=>aI7 r/\p
theorem aI7.all:∀ {l m:Γ Prop},aI7 l->gZ m->gZ (l.reverseAux m)
 | [],_,_,h=>h
 | p::l,m,⟨h,hp⟩,k=>show gZ (l.reverseAux (p::m))from aI7.all h ⟨hp,k⟩
def G(P:Program)(tab:Γ TI)(d:gC)(ds:Γ aS)(us:Γ (Option jD))(K:fG)(q:Nat->Value)(path:Γ Bool)(cs:Γ Prop)(k:Γ Item)(E:gH)(L:bM):Prop :=
 Fok P tab d->aI7 cs->tj P d.f (Ok d.kds (CA d.sig) ds us (lS 0 d.sig) q K) d.fn.ntmps K q (lS 0 d.sig) k E L
def bAc:PV->Γ Nat
 | .a A=>vA A
 | .tup As=>As.flatMap vA
 | .fn _ As=>As.flatMap vA
def aI8:Γ Nat->Γ Nat->Γ Nat->Γ Nat
 | r::rs,s::ss,acc=>aI8 rs ss (acc.set r s)
 | _,_,acc=>acc
def rsE(E1:gH):gH->Γ Nat->Γ Nat
 | [],acc=>acc
 | (t,p)::r,acc=>rsE E1 r (aI8 (bAc p) (bAc (E1.get t)) acc)
def rsH(L1:bM):Nat->bM->Γ Nat->Γ Nat
 | _,[],acc=>acc
 | i,some A::r,acc=>rsH L1 (i+1) r (match A.ls,bZ L1 (I5 acc i)with
  | some ls,some B=>match B.ls with
   | some ms=>aI8 (jC ls) (jC ms) acc
   | none=>acc
  | _,_=>acc)
 | i,none::r,acc=>rsH L1 (i+1) r acc
def rsJ(E':gH)(L':bM)(E1:gH)(L1:bM):Γ Nat:=rsH L1 0 L' (rsE E1 E' (aP L'.length L1.length))
def runJ(tab:Γ TI)(ext:Aw)(wr:Bool)(n:Nat)(stops:Γ Nat)(m:Nat)(pins:Γ Nat)(nils:Γ (Nat×Ty))(path:Γ Bool)(E':gH)(L':bM)(k:Γ Item)(E:gH)(L:bM):Option (Γ Item×gH×bM×Γ Prop) :=
 match uG tab ext wr n stops m true k ⟨path,[],E,L,[],pins⟩ with
 | some (.stop k' S)=>match au nils (S.E,S.L)with
  | (E1,L1)=>match CD (rsJ E' L' E1 L1)&&ai (rsJ E' L' E1 L1) (Am.keepE E1 (E'.map eE))&&Qj (rsJ E' L' E1 L1) (borUp L1) (rsJ E' L' E1 L1)&&decide (S.pins=pins)with
   | true=>some (k',aIl (rsJ E' L' E1 L1) (Am.keepE E1 (E'.map eE)),Od (rsJ E' L' E1 L1) (borUp L1),S.cs)
   | false=>none
 | _=>none
def az:Γ (Option jD)->Γ (Option jD)->Γ (Option jD)
 | none::r,b::s=>b::az r s
 | some a::r,_::s=>some a::az r s
 | _::_,[]=>[none]
 | [],_=>[]
theorem MU:∀(us vs:Γ (Option jD)),vs=az us vs->vu vs us
 | none::r,b::s,h=>⟨.inr rfl,MU r s (Lk h).2⟩
 | some a::r,b::s,h=>⟨.inl (Lk h).1.symm,MU r s (Lk h).2⟩
 | none::_,[],h=>by cases h
 | some _::_,[],h=>by cases h
 | [],[],_=>trivial
 | [],_::_,h=>by cases h
def usF(o:Option (Γ aS×Γ (Option jD)×Γ Prop)):Γ (Option jD):=match o with
 | some (_,us,_)=>us
 | none=>[]
section
variable {P:Program} {tab:Γ TI} {d:gC} {ds:Γ aS} {us:Γ (Option jD)} {K:fG} {q:Nat->Value} {path:Γ Bool} {cs:Γ Prop} {k:Γ Item} {E:gH} {L:bM}
def bR{x:Bool}{A B:Prop}(h:if x=true then A else B)(t:A->G P tab d ds us K q (true::path) ((x=true)::cs) k E L)(e:B->G P tab d ds us K q (false::path) ((x=false)::cs) k E L):G P tab d ds us K q path cs k E L:=λo c=>by
 cases x
 ·exact e h o ⟨c,rfl⟩
 ·exact t h o ⟨c,rfl⟩
theorem c1{p1 Q:Prop}(h:p1/\Q)(t:Q->G P tab d ds us K q path (p1::cs) k E L):G P tab d ds us K q path cs k E L:=λo c=>t h.2 o ⟨c,h.1⟩
def cS{p1 Q:Prop}(h:p1/\Q)(t:p1->Q->G P tab d ds us K q path (p1::cs) k E L):G P tab d ds us K q path cs k E L:=λo c=>t h.1 h.2 o ⟨c,h.1⟩
theorem c2{p1 p2 Q:Prop}(h:p1/\p2/\Q)(t:Q->G P tab d ds us K q path (p2::p1::cs) k E L):G P tab d ds us K q path cs k E L:=c1 h λh=>c1 h t
theorem c3{p1 p2 p3 Q:Prop}(h:p1/\p2/\p3/\Q)(t:Q->G P tab d ds us K q path (p3::p2::p1::cs) k E L):G P tab d ds us K q path cs k E L:=c2 h λh=>c1 h t
theorem c4{p1 p2 p3 p4 Q:Prop}(h:p1/\p2/\p3/\p4/\Q)(t:Q->G P tab d ds us K q path (p4::p3::p2::p1::cs) k E L):G P tab d ds us K q path cs k E L:=c3 h λh=>c1 h t
def c5{p1 p2 p3 p4 p5 Q:Prop}(h:p1/\p2/\p3/\p4/\p5/\Q)(t:Q->G P tab d ds us K q path (p5::p4::p3::p2::p1::cs) k E L):G P tab d ds us K q path cs k E L:=c4 h λh=>c1 h t
def tv(t:G P tab d ds us K q path (True::cs) k E L):G P tab d ds us K q path cs k E L:=λo c=>t o ⟨c,trivial⟩
def tT(t:G P tab d ds us K q (true::path) ((true=true)::cs) k E L):G P tab d ds us K q path cs k E L:=λo c=>t o ⟨c,rfl⟩
def tP{p:Prop}(h:p)(t:G P tab d ds us K q path (p::cs) k E L):G P tab d ds us K q path cs k E L:=λo c=>t o ⟨c,h⟩
def rt(r:Ol tab d.ext d.wr d.fn.ntmps d.stops 2000 (lS 0 d.sig) (CA d.sig) d.kds d.tys d.fn.results (path.reverseAux []) k E L=some (ds,az us (usF (Ol tab d.ext d.wr d.fn.ntmps d.stops 2000 (lS 0 d.sig) (CA d.sig) d.kds d.tys d.fn.results (path.reverseAux []) k E L)),cs.reverseAux []):=by kernel_rfl):G P tab d ds us K q path cs k E L:=λo c=>by
 have hu:usF (Ol tab d.ext d.wr d.fn.ntmps d.stops 2000 (lS 0 d.sig) (CA d.sig) d.kds d.tys d.fn.results (path.reverseAux []) k E L)=az us (usF (Ol tab d.ext d.wr d.fn.ntmps d.stops 2000 (lS 0 d.sig) (CA d.sig) d.kds d.tys d.fn.results (path.reverseAux []) k E L)):=congrArg usF r;exact tj.weak (tj.fin o.hf o.hT o.hX o.hm r (c.all trivial)) (by rw[<- hu];exact MU _ _ hu)
def rh{ds':Γ aS}(h:ds=ds')(r:Ol tab d.ext d.wr d.fn.ntmps d.stops 2000 (lS 0 d.sig) (CA d.sig) d.kds d.tys d.fn.results (path.reverseAux []) k E L=some (ds',us,cs.reverseAux []):=by kernel_rfl):G P tab d ds us K q path cs k E L:=λo c=>by
 subst h;exact tj.fin o.hf o.hT o.hX o.hm r (c.all trivial)
def ru{ds':Γ aS}{us':Γ (Option jD)}(h:ds=ds'/\us=us')(r:Ol tab d.ext d.wr d.fn.ntmps d.stops 2000 (lS 0 d.sig) (CA d.sig) d.kds d.tys d.fn.results (path.reverseAux []) k E L=some (ds',us',cs.reverseAux []):=by kernel_rfl):G P tab d ds us K q path cs k E L:=λo c=>by
 obtain⟨rfl,rfl⟩:=h;exact tj.fin o.hf o.hT o.hX o.hm r (c.all trivial)
def jn(nils:Γ (Nat×Ty)){k':Γ Item}{E':gH}{L':bM}(hk:G P tab d ds us K q [] [] k' E' L')(r:runJ tab d.ext d.wr d.fn.ntmps d.stops 2000 (lS 0 d.sig) nils (path.reverseAux []) E' L' k E L=some (k',E',L',cs.reverseAux []):=by kernel_rfl):G P tab d ds us K q path cs k E L:=λo hc=>by
 intro a w w0 G V own hR hq;have h:=r;unfold Am.runJ at h;split at h
 ·rename_i k1 S hr;split at h;rename_i E1 L1 hnil;split at h
  ·rename_i hb;simp only[aT,ε]at hb;obtain⟨⟨⟨hn,hb⟩,hh⟩,hp⟩:=hb;simp only[Option.some.injEq,Prod.mk.injEq]at h;obtain⟨e1,e2,e3,e4⟩:=h;subst e1;refine vn o.hT o.hX o.hm hr (show gZ S.cs by rw[e4];exact hc.all trivial) hR ⟨λt d ht=>by simp[I2]at ht,hq⟩ ?_;intro a' w' w1 G1 V' own' hR' hq';rw[hp]at hq';obtain⟨V2,own2,hR2⟩:=VU (l:=nils) hR';rw[hnil]at hR2;have h3:=(hR2.borUp.keepE (E'.map eE)).renum hn hb hh;rw[e2,e3]at h3;exact hk o trivial _ _ _ _ _ _ h3 hq'
  ·cases h
 ·cases h
def jp{k':Γ Item}{E':gH}{L':bM}(hk:G P tab d ds us K q [] [] k' E' L')(r:runJ tab d.ext d.wr d.fn.ntmps d.stops 2000 (lS 0 d.sig) [] (path.reverseAux []) E' L' k E L=some (k',E',L',cs.reverseAux []):=by kernel_rfl):G P tab d ds us K q path cs k E L:=jn [] hk r
end
section
variable {P:Program} {tab:Γ TI} {d:gC} {us:Γ (Option jD)} {K:fG} {q:Nat->Value} {path:Γ Bool} {cs:Γ Prop} {k:Γ Item} {E:gH} {L:bM} {x:Bool} {A B:Prop} {t0 t1 t2 t3 T:Ty} {p0 q0:t0.den} {p1 q1:t1.den} {p2 q2:t2.den} {p3 q3:t3.den} {y z:T.den} {ys zs:Γ T.den}
theorem e1(t:G P tab d [⟨t0,p0⟩] us K q (true::path) ((x=true)::cs) k E L)(e:G P tab d [⟨t0,q0⟩] us K q (false::path) ((x=false)::cs) k E L):G P tab d [⟨t0,if x=true then p0 else q0⟩] us K q path cs k E L:=λo c=>by
 cases x
 ·exact e o ⟨c,rfl⟩
 ·exact t o ⟨c,rfl⟩
theorem bAe(h:if x=true then A else B)(t:A->G P tab d [⟨t0,p0⟩] [some ⟨T,[y]⟩] K q (true::path) ((x=true)::cs) k E L)(e:B->G P tab d [⟨t0,q0⟩] [some ⟨T,[z]⟩] K q (false::path) ((x=false)::cs) k E L):G P tab d [⟨t0,if x=true then p0 else q0⟩] [some ⟨T,[if x=true then y else z]⟩] K q path cs k E L:=λo c=>by
 cases x
 ·exact e h o ⟨c,rfl⟩
 ·exact t h o ⟨c,rfl⟩
theorem e2(t:G P tab d [⟨t0,p0⟩,⟨t1,p1⟩] us K q (true::path) ((x=true)::cs) k E L)(e:G P tab d [⟨t0,q0⟩,⟨t1,q1⟩] us K q (false::path) ((x=false)::cs) k E L):G P tab d [⟨t0,if x=true then p0 else q0⟩,⟨t1,if x=true then p1 else q1⟩] us K q path cs k E L:=λo c=>by
 cases x
 ·exact e o ⟨c,rfl⟩
 ·exact t o ⟨c,rfl⟩
theorem e2u(t:G P tab d [⟨t0,p0⟩,⟨t1,p1⟩] [some ⟨T,[y]⟩] K q (true::path) ((x=true)::cs) k E L)(e:G P tab d [⟨t0,q0⟩,⟨t1,q1⟩] [some ⟨T,[z]⟩] K q (false::path) ((x=false)::cs) k E L):G P tab d [⟨t0,if x=true then p0 else q0⟩,⟨t1,if x=true then p1 else q1⟩] [some ⟨T,[if x=true then y else z]⟩] K q path cs k E L:=λo c=>by
 cases x
 ·exact e o ⟨c,rfl⟩
 ·exact t o ⟨c,rfl⟩
theorem Yy(h:if x=true then A else B)(t:A->G P tab d [⟨t0,p0⟩,⟨t1,p1⟩] [some ⟨T,[y]⟩] K q (true::path) ((x=true)::cs) k E L)(e:B->G P tab d [⟨t0,q0⟩,⟨t1,q1⟩] [some ⟨T,[z]⟩] K q (false::path) ((x=false)::cs) k E L):G P tab d [⟨t0,if x=true then p0 else q0⟩,⟨t1,if x=true then p1 else q1⟩] [some ⟨T,[if x=true then y else z]⟩] K q path cs k E L:=λo c=>by
 cases x
 ·exact e h o ⟨c,rfl⟩
 ·exact t h o ⟨c,rfl⟩
theorem e3(t:G P tab d [⟨t0,p0⟩,⟨t1,p1⟩,⟨t2,p2⟩] us K q (true::path) ((x=true)::cs) k E L)(e:G P tab d [⟨t0,q0⟩,⟨t1,q1⟩,⟨t2,q2⟩] us K q (false::path) ((x=false)::cs) k E L):G P tab d [⟨t0,if x=true then p0 else q0⟩,⟨t1,if x=true then p1 else q1⟩,⟨t2,if x=true then p2 else q2⟩] us K q path cs k E L:=λo c=>by
 cases x
 ·exact e o ⟨c,rfl⟩
 ·exact t o ⟨c,rfl⟩
theorem e4(t:G P tab d [⟨t0,p0⟩,⟨t1,p1⟩,⟨t2,p2⟩,⟨t3,p3⟩] us K q (true::path) ((x=true)::cs) k E L)(e:G P tab d [⟨t0,q0⟩,⟨t1,q1⟩,⟨t2,q2⟩,⟨t3,q3⟩] us K q (false::path) ((x=false)::cs) k E L):G P tab d [⟨t0,if x=true then p0 else q0⟩,⟨t1,if x=true then p1 else q1⟩,⟨t2,if x=true then p2 else q2⟩,⟨t3,if x=true then p3 else q3⟩] us K q path cs k E L:=λo c=>by
 cases x
 ·exact e o ⟨c,rfl⟩
 ·exact t o ⟨c,rfl⟩
end
def fnB(fn : Func) : Bool := !(fn.name == "runtime.NumGoroutine") && fn.body.isSome
def Ay{P:Program}{f:FuncId}{fn:Func}{S:Spec}(hf:P.funcs[f]? = some fn)(h:jZ P f S)(hc:fnB fn=true:=by kernel_rfl):Con P f S:=by
 unfold fnB at hc;simp only[aT,Bool.not_eq_true']at hc;exact⟨⟨fn,hf,hc.1,by cases hb:fn.body with | none=>rw[hb]at hc;exact absurd hc.2 (by simp) | some c=>rfl⟩,h⟩
def mkC{P:Program}{tab:Γ TI}{d:gC}{pre:eF d.sig->Prop}{upd:eF d.sig->Γ (Option jD)}{res:eF d.sig->Γ aS}(o:Fok P tab d)
  (h:∀x,pre x->Ie d.sig x->∀K q,G P tab d (res x) (upd x) K q [] [] [.code (zU d.fn)] (LP 0 0 d.sig x) (Te d.sig x)) (hc:(fnB d.fn&&pJ d.sig.length d.fn.ntmps)=true:=by kernel_rfl):Con P d.f ⟨d.sig,pre,upd,res,d.kds⟩:=by
 rw[aT]at hc;obtain⟨h1,h2⟩:=hc;have hb:d.fn.body=some (zU d.fn):=by
  unfold fnB at h1;simp only[aT]at h1;unfold zU;cases hb:d.fn.body with
  | none=>rw[hb]at h1;exact absurd h1.2 (by simp)
  | some c=>rfl
 exact Ay o.hf (vr o.hf hb (nZ h2) λx hp hw K q=>h x hp hw K q o trivial) h1
def RE{α:Type}(g:α->α->Bool)(e:α):Nat->Int->Γ α->Γ α->Γ aS->Prop
 | 0,_,_,_,_=>False
 | n+1,v,x,y,ds=>if decide (v<(x.length:Int))=true then 0<=v/\v<(x.length:Int)/\0<=v/\v<(y.length:Int)/\if(!g (aD x (aE v) e) (aD y (aE v) e))=true then ds=[aI .bool false] else aX .i64 (v+1)/\RE g e n (v+1) x y ds else ds=[aI .bool true]
variable {α:Type}
def RE0(g:α->α->Bool)(e:α):Nat->Γ α->Γ α->Γ aS->Prop
 | 0,_,_,_=>False
 | n+1,x,y,ds=>if((x.length:Int) != (y.length:Int))=true then ds=[aI .bool false] else RE g e n 0 x y ds
def gj[DecidableEq α]{g:α->α->Bool}{e:α}(hg:∀x y,g x y=true↔x=y){x y:Γ α}(hm:x.length<=maxLen):RE0 g e (x.length+1+1) x y [⟨.bool,decide (x=y)⟩]:=by
 have run:∀(k i:Nat),x.length=y.length->i+k=x.length->RE g e (k+1) (i:Int) x y [⟨.bool,decide (x.drop i=y.drop i)⟩]:=by
  intro k
  induction k with
  | zero =>
   intro i hl hi;rw[RE,ν (by simp;omega),sV x i (by omega),sV y i (by omega)];simp
  | succ k ih =>
   intro i hl hi;have h:=ih (i+1) hl (by omega);rw[RE,π (by simp;omega),dQ x i e (by omega),dQ y i e (by omega)];refine⟨by omega,by omega,by omega,by omega,?_⟩;simp only[aK];by_cases c:x.getD i e=y.getD i e
   ·rw[ν (by rw[(hg _ _).2 c];simp)];refine⟨iJ hm (by omega),?_⟩;simp only[c,oD,true_and];exact h
   ·rw[π (by rw[bV.2 λh=>c ((hg _ _).1 h)];rfl)];simp only[c,oD,false_and,decide_false]
 rw[RE0];by_cases hl:x.length=y.length
 ·rw[ν (by simp[hl])];exact run x.length 0 hl (by omega)
 ·rw[π (by simp;omega),decide_eq_false (λh=>hl (by rw[h]))]
def szG{α:Type}(g:α->Int->Int):Γ α->Int->Int
 | [],l=>l
 | x::r,l=>if g x l<0 then -1 else szG g r (g x l)
def szF(g:α->Int->Int)(x:Γ α)(l:Int):Int:=if l-x.length<0 then -1 else szG g x (l-x.length)
def RZ{α:Type}(p:α->Int->Prop)(g:α->Int->Int)(e:α):Nat->Int->Int->Γ α->Γ aS->Prop
 | 0,_,_,_,_=>False
 | n+1,w,v,x,ds=>if decide (v<(x.length:Int))=true then 0<=v/\v<(x.length:Int)/\p (aD x (aE v) e) w/\if decide (g (aD x (aE v) e) w<0)=true then ds=[aI (.int .i64) (-1)] else aX .i64 (v+1)/\RZ p g e n (g (aD x (aE v) e) w) (v+1) x ds else ds=[aI (.int .i64) w]
def RZ0(p:α->Int->Prop)(g:α->Int->Int)(e:α):Nat->Γ α->Int->Γ aS->Prop
 | 0,_,_,_=>False
 | n+1,x,l,ds=>aX .i64 (l-x.length)/\if decide (l-x.length<0)=true then ds=[aI (.int .i64) (-1)] else RZ p g e n (l-x.length) 0 x ds
def gk(p:α->Int->Prop)(g:α->Int->Int)(q:α->Prop):Prop:=∀x l,0<=l->aX .i64 l->q x->p x l /\ -1<=g x l/\g x l<=l
theorem aIA{α:Type}{p:α->Int->Prop}{g:α->Int->Int}{q:α->Prop}(hz:gk p g q):∀(x:Γ α) (l:Int),0<=l->aX .i64 l->(∀y∈x,q y)->szG g x l<=l
 | [],l,_,_,_=>dX _
 | y::r,l,h,hi,hw=>by
  obtain⟨_,_,h3⟩:=hz y l h hi (hw y (aR ..));rw[szG];rw[aJ]at hi;split
  ·omega
  ·have:=aIA hz r (g y l) (by omega) (by rw[aJ];omega) (λz hz=>hw z (aM _ hz));omega
def aSo{p:α->Int->Prop}{g:α->Int->Int}{q:α->Prop}(hz:gk p g q){x:Γ α}{l:Int}(h:0<=l)(hi:l<=9223372036854775807)(hw:∀y∈x,q y)(hg:¬szF g x l<0):szF g x l<=l-x.length:=by
 unfold szF at hg ⊢;split
 ·rename_i c;rw[π c]at hg;omega
 ·exact aIA hz x _ (by omega) (by rw[aJ];omega) hw
def aIB{p:α->Int->Prop}{g:α->Int->Int}{q:α->Prop}{e:α}(hz:gk p g q){x:Γ α}{l:Int}(h:0<=l)(hi:aX .i64 l)(hm:x.length<=maxLen)(hw:∀y∈x,q y):RZ0 p g e (x.length+1+1) x l [⟨.int .i64,szF g x l⟩]:=by
 have run:∀(k i:Nat) (w:Int),i+k=x.length->0<=w->aX .i64 w->RZ p g e (k+1) w (i:Int) x [⟨.int .i64,szG g (x.drop i) w⟩]:=by
  intro k
  induction k with
  | zero =>
   intro i w hk _ _;rw[RZ,ν (by simp;omega),sV x i (by omega)];rfl
  | succ k ih =>
   intro i w hk h0 h1;have hi:i<x.length:=by omega
   rw[RZ,π (by simp;omega),dQ x i e hi,szG];simp only[aK];obtain⟨a,b,c⟩:=hz (x.getD i e) w h0 h1 (hw _ (by rw[oG _ _ _ hi];exact List.getElem_mem _));refine⟨by omega,by omega,a,?_⟩;rw[aJ]at h1;by_cases hn:g (x.getD i e) w<0
   ·rw[π (by simpa using hn),π hn]
   ·rw[ν (by simpa using hn),ν hn];exact⟨iJ hm hi,ih (i+1) _ (by omega) (by omega) (by rw[aJ];omega)⟩
 have hm':x.length<=9223372036854775807:=hm;rw[aJ]at hi;rw[RZ0];refine⟨by rw[aJ];omega,?_⟩;unfold szF;by_cases hn:l-(x.length:Int)<0
 ·rw[π (by simpa using hn),π hn]
 ·rw[ν (by simpa using hn),ν hn];exact run x.length 0 _ (by omega) (by omega) (by rw[aJ];omega)
def RT(t:Ty)(e:t.den):Nat->Int->Γ t.den->Γ t.den->Γ aS->Prop
 | 0,_,_,_,_=>False
 | n+1,v,h,x,ds=>if decide (v<(x.length:Int))=true then 0<=v/\v<(x.length:Int)/\0<=v/\v<(h.length:Int)/\aX .i64 (v+1)/\RT t e n (v+1) (eU h (aE v) (aD x (aE v) e)) x ds else ds=[aI (.sl t) h]
def RT0(t:Ty)(e:t.den)(s:Int):Nat->Γ t.den->Γ aS->Prop
 | 0,_,_=>False
 | n+1,x,ds=>0<=(x.length:Int)/\(x.length:Int)<=(x.length:Int)/\s*(x.length:Int)<=281474976710656/\RT t e n 0 (aP (aE (x.length:Int)) e) x ds
theorem wk{t:Ty}{e:t.den}{s:Int}{x:Γ t.den}(h:s*(x.length:Int)<=281474976710656)(hm:x.length<=maxLen):RT0 t e s (x.length+1+1) x [⟨.sl t,x⟩]:=by
 have run:∀(k i:Nat),i+k=x.length->RT t e (k+1) (i:Int) (x.take i++aP k e) x [⟨.sl t,x⟩]:=by
  intro k
  induction k with
  | zero =>
   intro i hi;rw[RT,ν (by simp;omega),List.take_of_length_le (by omega)];simp
  | succ k ih =>
   intro i hi;rw[RT,π (by simp;omega)];simp only[aK];refine⟨by omega,by omega,by omega,by simp;omega,iJ hm (by omega),?_⟩;rw[aI1 x e i (by omega) (k+1) (by omega)];exact ih (i+1) (by omega)
 rw[RT0];refine⟨by omega,by omega,h,?_⟩;have:=run x.length 0 (by omega);simpa using this
def MB{α:Type}(e:α)(v:Int)(K:Int->Γ α->Prop):Γ (Int->α->α)->Int->Γ α->Prop
 | [],k,x=>K k x
 | f::r,k,x=>0<=v/\v<(x.length:Int)/\aX .i64 (k+1)/\MB e v K r (k+1) (eU x (aE v) (f k (aD x (aE v) e)))
def RM(t:Ty)(e:t.den)(fs:Γ (Int->t.den->t.den)):Nat->Int->Int->Γ t.den->Γ aS->Γ (Option jD)->Prop
 | 0,_,_,_,_,_=>False
 | n+1,v,k,x,ds,us=>if decide (v<(x.length:Int))=true then MB e v (λk x=>aX .i64 (v+1)/\RM t e fs n (v+1) k x ds us) fs k x else ds=[aI (.int .i64) k]/\us=[some (jD.mk t x)]
def RM0(t:Ty)(e:t.den)(fs:Γ (Int->t.den->t.den)):Nat->Γ t.den->Int->Γ aS->Γ (Option jD)->Prop
 | 0,_,_,_,_=>False
 | n+1,x,k,ds,us=>RM t e fs n 0 k x ds us
def MC{α:Type}:Γ (Int->α->α)->Int->α->α
 | [],_,y=>y
 | f::r,k,y=>MC r (k+1) (f k y)
def ML{α:Type}(fs:Γ (Int->α->α)):Int->Γ α->Γ α
 | _,[]=>[]
 | k,y::r=>MC fs k y::ML fs (k+fs.length) r
def gM(c:Nat)(x:Γ α)(k:Int):Int:=k+(c*x.length:Nat)
def PM(c:Nat)(x:Γ α)(k:Int):Prop:=0<=k/\gM c x k<=9223372036854775807
variable {k:Int}
def aDK{c:Nat}{y:α}{r:Γ α}:gM c (y::r) k=gM c r (k+c):=by
 unfold gM;rw[cH,Nat.mul_succ];omega
theorem vX{α:Type}{fs:Γ (Int->α->α)}:∀(x:Γ α) (k:Int),(ML fs k x).length=x.length
 | [],_=>rfl
 | y::r,k=>by rw[ML,cH,cH,vX r]
theorem bAf{α:Type}{e:α}{K:Int->Γ α->Prop}{p t:Γ α}:∀(fs:Γ (Int->α->α)) (k:Int) (y:α),0<=k->k+fs.length<=9223372036854775807->K (k+fs.length) (p++MC fs k y::t)->MB e p.length K fs k (p++y::t)
 | [],k,y,_,_,h=>by
  have e:k+(([]:Γ (Int->α->α)).length:Int)=k:=by simp
  rw[e]at h;exact h
 | f::r,k,y,h0,h1,h=>by
  rw[cH]at h1 h;refine⟨by omega,by simp;omega,by rw[aJ];omega,?_⟩;rw[aK,aMT _ _ _ _ _ rfl,aMS _ _ _ _ _ rfl];refine bAf r (k+1) (f k y) (by omega) (by omega) ?_;have e:k+1+(r.length:Int)=k+((r.length+1:Nat):Int):=by omega
  rw[e];exact h
theorem gl{t:Ty}{e:t.den}{fs:Γ (Int->t.den->t.den)}{x:Γ t.den}(h:PM fs.length x k)(hm:x.length<=maxLen):RM0 t e fs (x.length+1+1) x k [⟨.int .i64,gM fs.length x k⟩] [some ⟨t,ML fs k x⟩]:=by
 have run:∀(r p:Γ t.den) (k:Int),p.length+r.length<=maxLen->PM fs.length r k->RM t e fs (r.length+1) p.length k (p++r) [⟨.int .i64,gM fs.length r k⟩] [some ⟨t,p++ML fs k r⟩]:=by
  intro r
  induction r with
  | nil =>
   intro p k _ _;rw[Hq,RM,ν (by simp)];simp[gM,ML]
  | cons y r ih =>
   intro p k hp h;have hc:=aDK (c:=fs.length) (y:=y) (r:=r) (k:=k);have h2:=h.2;have h1:=h.1;rw[hc]at h2;have hb:k+fs.length<=gM fs.length r (k+fs.length):=by unfold gM;omega
   rw[cH]at hp;rw[cH,RM,π (by simp;omega),hc];have hx:p.length<(p++y::r).length:=by simp
   refine bAf fs k y h1 (by omega) ⟨iJ (xs:=p++y::r) (by simp;omega) hx,?_⟩;have hi:=ih (p++[MC fs k y]) (k+fs.length) (by simp;omega) ⟨by omega,h2⟩;rw[cK,cK,bS,jE]at hi;exact hi
 have:=run x [] k (by simpa using hm) h;exact this
def HB{α:Type}(e:α)(v:Int)(x:Γ α)(ds:Γ aS)(K:Int->Prop):Γ (Int->α->Bool)->Int->Prop
 | [],k=>K k
 | f::r,k=>0<=v/\v<(x.length:Int)/\if f k (aD x (aE v) e)=true then ds=[aI (.int .i64) (-1)] else aX .i64 (k+1)/\HB e v x ds K r (k+1)
def RH{α:Type}(e:α)(fs:Γ (Int->α->Bool)):Nat->Int->Γ α->Int->Γ aS->Prop
 | 0,_,_,_,_=>False
 | n+1,v,x,k,ds=>if decide (v<(x.length:Int))=true then HB e v x ds (λk=>aX .i64 (v+1)/\RH e fs n (v+1) x k ds) fs k else ds=[aI (.int .i64) k]
def RH0(e:α)(fs:Γ (Int->α->Bool)):Nat->Γ α->Int->Γ aS->Prop
 | 0,_,_,_=>False
 | n+1,x,k,ds=>RH e fs n 0 x k ds
def HT{α:Type}:Γ (Int->α->Bool)->Int->α->Prop
 | [],_,_=>True
 | f::r,k,y=>f k y=false/\HT r (k+1) y
def HL{α:Type}(fs:Γ (Int->α->Bool)):Int->Γ α->Prop
 | _,[]=>True
 | k,y::r=>HT fs k y/\HL fs (k+fs.length) r
def PH(fs:Γ (Int->α->Bool))(x:Γ α)(k:Int):Prop:=PM fs.length x k/\HL fs k x
theorem bAg{α:Type}{e:α}{x:Γ α}{ds:Γ aS}{K:Int->Prop}{i:Nat}(hi:i<x.length):∀(fs:Γ (Int->α->Bool)) (k:Int),0<=k->k+fs.length<=9223372036854775807->HT fs k (x.getD i e)->K (k+fs.length)->HB e i x ds K fs k
 | [],k,_,_,_,h=>by
  have e:k+(([]:Γ (Int->α->Bool)).length:Int)=k:=by simp
  rw[e]at h;exact h
 | f::r,k,h0,h1,hf,h=>by
  rw[cH]at h1 h;refine⟨by omega,by omega,?_⟩;rw[aK,ν (by rw[hf.1];simp)];refine⟨by rw[aJ];omega,bAg hi r (k+1) (by omega) (by omega) hf.2 ?_⟩;have e:k+1+(r.length:Int)=k+((r.length+1:Nat):Int):=by omega
  rw[e];exact h
def gm{e:α}{fs:Γ (Int->α->Bool)}{x:Γ α}(h:PH fs x k)(hm:x.length<=maxLen):RH0 e fs (x.length+1+1) x k [⟨.int .i64,gM fs.length x k⟩]:=by
 have run:∀(r:Γ α) (i:Nat) (k:Int),i+r.length=x.length->x.drop i=r->PH fs r k->RH e fs (r.length+1) i x k [⟨.int .i64,gM fs.length r k⟩]:=by
  intro r
  induction r with
  | nil =>
   intro i k hi _ _;rw[Hq,RH,ν (by simp at hi ⊢;omega)];simp[gM]
  | cons y r ih =>
   intro i k hi hd h;have hc:=aDK (c:=fs.length) (y:=y) (r:=r) (k:=k);have h2:=h.1.2;have h1:=h.1.1;rw[hc]at h2;have hb:k+fs.length<=gM fs.length r (k+fs.length):=by unfold gM;omega
   rw[cH]at hi;have hlt:i<x.length:=by omega
   rw[dQ x i e hlt]at hd
   injection hd with hd1 hd2
   rw[cH,RH,π (by simp;omega),hc];refine bAg hlt fs k h1 (by omega) (by rw[hd1];exact h.2.1) ⟨iJ hm hlt,?_⟩;exact ih (i+1) _ (by omega) hd2 ⟨⟨by omega,h2⟩,h.2.2⟩
 exact run x 0 k (by omega) rfl h
theorem bAh{α:Type}{fs:Γ (Int->α->α)}{hs:Γ (Int->α->Bool)}(hl:hs.length=fs.length)(ht:∀k y,HT hs k (MC fs k y)):∀(x:Γ α) (k:Int),HL hs k (ML fs k x)
 | [],_=>trivial
 | y::r,k=>⟨ht k y,by rw[hl];exact bAh hl ht r _⟩
def aDL{fs:Γ (Int->α->α)}{hs:Γ (Int->α->Bool)}(hl:hs.length=fs.length)(ht:∀k y,HT hs k (MC fs k y)){x:Γ α}(h:PM fs.length x k):PH hs (ML fs k x) k/\gM hs.length (ML fs k x) k=gM fs.length x k:=by
 have e:gM hs.length (ML fs k x) k=gM fs.length x k:=by unfold gM;rw[hl,vX]
 exact⟨⟨⟨h.1,by rw[e];exact h.2⟩,bAh hl ht x k⟩,e⟩
def aDM{c:Nat}{x:Γ α}(h0:0<=k)(h1:k<=100000000)(hl:x.length<=1048576)(hc:c<=4:=by decide):PM c x k/\0<=gM c x k/\gM c x k<=k+4194304:=by
 have:=Nat.mul_le_mul hc hl;unfold PM gM;omega
abbrev F4:=Δ×Int×Int×Int×Unit
abbrev F3:=Δ×Int×Int×Unit
abbrev I3:=Int×Int×Int×Unit
def vmS(t:Int->Δ):Γ (Int->Δ->Δ):=[λk _=>t k]
def vmA(t:Int->Δ):Γ (Int->F4->F4):=[λk y=>(t k,y.2),λk y=>(y.1,k,y.2.2),λk y=>(y.1,y.2.1,k,y.2.2.2),λk y=>(y.1,y.2.1,y.2.2.1,k,y.2.2.2.2)]
def vmB(t:Int->Δ):Γ (Int->F3->F3):=[λk y=>(t k,y.2),λk y=>(y.1,k,y.2.2),λk y=>(y.1,y.2.1,k,y.2.2.2)]
def vmC:Γ (Int->I3->I3):=[λk y=>(k,y.2),λk y=>(y.1,k,y.2.2),λk y=>(y.1,y.2.1,k,y.2.2.2)]
def hS(t:Int->Δ):Γ (Int->Δ->Bool):=[λk y => !(aB y==aB (t k))]
def hA(t:Int->Δ):Γ (Int->F4->Bool):=[λk y => !(aB y.1==aB (t k)),λk y=>y.2.1 != k,λk y=>y.2.2.1 != k,λk y=>y.2.2.2.1 != k]
def hB(t:Int->Δ):Γ (Int->F3->Bool):=[λk y => !(aB y.1==aB (t k)),λk y=>y.2.1 != k,λk y=>y.2.2.1 != k]
def hC:Γ (Int->I3->Bool):=[λk y=>y.1 != k,λk y=>y.2.1 != k,λk y=>y.2.2.1 != k]
theorem tS(t:Int->Δ)(k:Int)(y:Δ):HT (hS t) k (MC (vmS t) k y):=by simp[HT,MC,hS,vmS]
theorem tA(t:Int->Δ)(k:Int)(y:F4):HT (hA t) k (MC (vmA t) k y):=by simp[HT,MC,hA,vmA]
theorem tB(t:Int->Δ)(k:Int)(y:F3):HT (hB t) k (MC (vmB t) k y):=by simp[HT,MC,hB,vmB]
theorem tC(k:Int)(y:I3):HT hC k (MC vmC k y):=by simp[HT,MC,hC,vmC]
variable {t:Int->Δ}
def kS{x:Γ Δ}(h:PM 1 x k):PH (hS t) (ML (vmS t) k x) k/\gM 1 (ML (vmS t) k x) k=gM 1 x k:=aDL (hs:=hS t) (fs:=vmS t) rfl (tS t) h
def kA{x:Γ F4}(h:PM 4 x k):PH (hA t) (ML (vmA t) k x) k/\gM 4 (ML (vmA t) k x) k=gM 4 x k:=aDL (hs:=hA t) (fs:=vmA t) rfl (tA t) h
def kB{x:Γ F3}(h:PM 3 x k):PH (hB t) (ML (vmB t) k x) k/\gM 3 (ML (vmB t) k x) k=gM 3 x k:=aDL (hs:=hB t) (fs:=vmB t) rfl (tB t) h
def kC{x:Γ I3}(h:PM 3 x k):PH hC (ML vmC k x) k/\gM 3 (ML vmC k x) k=gM 3 x k:=aDL (hs:=hC) (fs:=vmC) rfl tC h
def MK(P:Γ α->Int->Prop)(g:Γ α->Int->Int)(u:Γ α->Int->Γ α)(Q:Γ α->Int->Prop)(h:Γ α->Int->Int):Prop:=∀ {x:Γ α} {k:Int},0<=k->k<=100000000->x.length<=1048576->P x k/\(u x k).length=x.length/\0<=g x k/\g x k<=k+4194304/\Q (u x k) k/\h (u x k) k=g x k
def mkS:MK (PM 1) (gM 1) (λx k=>ML (vmS t) k x) (PH (hS t)) (gM 1):=λa b c=>have d:=aDM a b c; ⟨d.1,vX .., d.2.1,d.2.2,kS d.1⟩
def mkA:MK (PM 4) (gM 4) (λx k=>ML (vmA t) k x) (PH (hA t)) (gM 4):=λa b c=>have d:=aDM a b c; ⟨d.1,vX .., d.2.1,d.2.2,kA d.1⟩
def mkB:MK (PM 3) (gM 3) (λx k=>ML (vmB t) k x) (PH (hB t)) (gM 3):=λa b c=>have d:=aDM a b c; ⟨d.1,vX .., d.2.1,d.2.2,kB d.1⟩
def aSp:MK (PM 3) (gM 3) (λx k=>ML vmC k x) (PH hC) (gM 3):=λa b c=>have d:=aDM a b c; ⟨d.1,vX .., d.2.1,d.2.2,kC d.1⟩
end Go.Am
