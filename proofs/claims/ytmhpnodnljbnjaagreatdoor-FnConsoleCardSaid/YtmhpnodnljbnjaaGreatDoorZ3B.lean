/- The functions that this law reaches, and their laws. -/
import Derived.Test.YtmhpnodnljbnjaaGreatDoorZ3A
import Derived.ProofKit
import Derived.Carry
import Derived.HandedShaped
import Derived.Stop.Joined
import Derived.Lib.Repeat
import Derived.Laws.AppendOwn
import Derived.Sort.Row
import Derived.Sort.Grow
import Derived.Lib.Strings
import Derived.Lib.ItoaLen
import Derived.Lib.SplitLaws
import Derived.Lib.Join
import Derived.Stop.LaidErr
import Derived.Laws.IdiomCopy
import Derived.KernelRfl
import Derived.Test.YtmhpnodnljbnjaaGreatDoorRows
import Derived.Shelf.Vars
set_option linter.unusedVariables false
set_option linter.unusedSimpArgs false
open Array renaming getD_eq_getD_getElem?->cR,getElem?_append_left->q9,getElem?_eq_getElem->gJ,getElem?_eq_none->cZ,getElem?_eq_some_iff->j2,getElem?_modify->mM,getElem?_setIfInBounds_ne->nT,getElem?_setIfInBounds_self_of_lt->p9,getElem?_toList->cX,length_toList->cT,replicate->gR,setIfInBounds_comm->sO,size_append->nA,toList_inj->wY
open Bool renaming and_eq_true->aJ,eq_false_iff->bN,false_eq_true->dJ,false_or->sN,not_eq_true'->cW,or_eq_true->j8
open ByteArray renaming data->rA,empty->aC,size_extract->pB,toList->aB
open Classical renaming byContradiction->BK
open Go.Act renaming put_comm->j1,put_defers->Rr
open Go.Addr renaming add_lit->fH
open Go.Am.AT renaming own->tW,v->nV
open Go.Am.eZ renaming append->b9
open Go.Am.eD renaming get->nW
open Go.Am.cE renaming of_below->iD,refl->cI
open Go.Am.Ty renaming agg->gP,cons->kR,flat->Gy,int->lF,size->jX,unit->HM
open Go.Builtin renaming append_->gD,copy_->jS,firstCells->dZ,lenOf->pO,zeroCells->gG
open Go.DataW renaming Trod->aEu,TrodAll->CF,trod->Dz
open Go.Ending renaming returned->E5
open Go.Instr renaming loadAt->lD,sureAddr->iT
open Go.IntKind renaming bits->mY,i64->cN,max->oJ,min->oI,signed->kO,u8->Dx
open Go.Lib renaming countB->gN,index->Cl,itoa->Ck,splitB->At,splitK->JI
open Go.Op renaming bytesLess->bE
open Go.Oper renaming apart_spec->OR,asks->aHm,quietAt->kN,quietUpon->qZ,upon->HH,wp->nY,wp_of_quiet->Mx
open Go.Question renaming appendCap->tV
open Go.Region renaming binds->fI,free->oL,free_spec->Ch,noSelect->sU,noSelect_spec->q7,ready->eN,wanted->eQ
open Go.Result renaming andThen->u9,andThen_ok->aW
open Go.RowKit.Below renaming heap_alloc->mJ
open Go.Sem renaming run_bind->bO,run_pure->cM
open Go.Value renaming cells->mX,int->C9,okWide->nB
open Go.World renaming alloc->Nm,cell?->fQ,freeze->LB,setCell->nP,setCells->Rv,shape?->zD
open List renaming all_eq_true->jH,append_assoc->bS,append_nil->c6,cons_append->oC,drop_drop->mK,drop_eq_nil_iff->x6,drop_length->My,eq_nil_of_length_eq_zero->b5,flatten_append->fK,flatten_cons->bK,flatten_nil->jG,foldl_cons->dY,getD->aD,getD_eq_getElem?_getD->bL,getElem?_append_left->bV,getElem?_append_right->cH,getElem?_eq_getElem->bC,getElem?_eq_some_iff->bH,getElem?_map->gZ,getElem?_of_mem->jF,getElem?_take->eY,isEmpty_iff->lQ,isPrefixOf->E4,length->aN,length_append->aO,length_cons->bA,length_drop->fD,length_map->eJ,length_take->cJ,mapM_cons->Ap,map_cons->bP,map_nil->kM,mem_append->bU,mem_append_left->bQ,mem_append_right->bF,mem_cons->aR,mem_cons_of_mem->aM,mem_cons_self->aQ,mem_filter->yP,mem_flatten->iH,mem_map->eE,mem_of_getElem?->qW,mem_of_mem_drop->iB,mem_of_mem_take->gI,mem_range->Rs,mem_singleton->bI,nil_append->kU,nodup_cons->j7,nodup_nil->fS,replicate->b6,size_toArray->dK,take_append_drop->eU,take_length->gU
open Nat renaming add_mul->dL,add_sub_cancel_left->kQ,add_zero->lE,beq->cG,ble->zC,ble_eq->Rq,blt->LA,eq_of_beq_eq_true->aX,eq_of_testBit_eq->GI,land->Ci,le_mul_of_pos_right->uH,le_of_ble_eq_true->aZ,le_refl->aT,le_trans->cO,lt_of_lt_of_le->cK,lt_or_ge->eK,min->EB,min_eq_left->yO,mul_le_mul_right->dA,one_mul->qY,one_ne_zero->OQ,shiftLeft->xI,shiftRight->q8,succ_mul->rJ,testBit_and->OT,testBit_or->Rt,testBit_shiftRight->Dy,zero_add->cV,zero_le->bW,zero_mul->Dw
open Ne renaming symm->jL
open Option.some renaming inj->pK,injEq->fF
open Prod renaming fst->hI,snd->Aq
open UInt8 renaming toNat_inj->sW
namespace Go.Am
section
variable {P:Program}
theorem aMP (n:Nat):aHp (n,n+1) n:=λj hj h=>by omega
theorem AD {w : World} {T T2 ty e : TypeId} {i : TypeInfo} {d : TypeDesc} {t : Ty} (hT : P.underlying T = some (.slice e)) (hT2 : P.underlying T2 = some d) (hd : ∀ k, d ≠ .int k) (hi : P.info? e = some i) (he : oG P e t) (hsz : 0 < t.size)
    {adr : Option Addr} {len cap m : Nat} {x : Value} {olds news : List Value} (hx : ∀ w' : World, w'.heap = w.heap -> (dZ t.size m x).run P w' = .ok news.toArray w') (hxl : ∀ w', (pO x).run P w' = .ok m w')
    (ho : ∀ w' : World, w'.heap = w.heap -> (dZ t.size len (.slice adr len cap)).run P w' = .ok olds.toArray w') (hol : olds.length = len * t.size) (hnl : news.length = m * t.size) (h1 : ∀ v ∈ news, v.oneCell' = true)
    (hbound : (len + m) * i.bytes <= 140737488355328) (hml : len + m <= maxLen)
    (hadr : cap = 0 \/ ∃ b o cur ct fz, adr = some ⟨b, o, none⟩ /\ w.heap[b]? = some (.cells cur ct fz) /\ EQ t.size fz cur.size /\ o + cap * t.size <= cur.size) :
    ∃ v' w', (gD #[T, T2] ty #[.slice adr len cap, x]).run P w = .ok v' w' /\
      ((len + m <= cap /\ ((cap = 0 /\ v' = .slice adr 0 0 /\ w' = w /\ m = 0 /\ len = 0) \/
          cap ≠ 0 /\ ∃ b o cur ct fz cur', adr = some ⟨b, o, none⟩ /\ w.heap[b]? = some (.cells cur ct fz) /\ EQ t.size fz cur.size /\ o + cap * t.size <= cur.size /\ v' = .slice (some ⟨b, o, none⟩) (len + m) cap /\ w'.heap[b]? = some (.cells cur' ct fz) /\ cur'.toList = fJ cur.toList (o + len * t.size) news /\ cE [b] w w')) \/
       (cap < len + m /\ ∃ nc rest, v' = .slice (some ⟨w.heap.size, 0, none⟩) (len + m) nc /\ len + m <= nc /\ nc <= maxLen /\ w' = w.drew.alloc (.cells (olds ++ news ++ rest).toArray e) /\ (olds ++ news ++ rest).length = nc * t.size)) := by
  have hzero : (match d with | .int _ => true | _ => false) = false := by
    cases d <;> first | rfl | exact absurd rfl (hd _)
  have iE : ∀ w, (sizeOf e).run P w = .ok t.size w := he.size_run;by_cases hroom : len + m <= cap
  · by_cases hcap : cap = 0
    · subst hcap
      have e0 : m = 0 := by omega
      have e1 : len = 0 := by omega
      subst e0 e1;have en : news = [] := b5 (by rw [hnl, Dw]);subst en;refine ⟨.slice adr 0 0, w, ?_, .inl ⟨hroom, .inl ⟨rfl, rfl, rfl, rfl, rfl⟩⟩⟩;unfold gD;simp only [run_underlying hT, run_underlying hT2, iE, hzero, hxl, hx w rfl, bO, aW];cases adr <;> simp [run_underlying hT, run_underlying hT2, iE, hzero, hxl, hx w rfl, storeCells]
    · obtain ⟨b, o, cur, ct, fz, rfl, hb, hf, hfit⟩ := hadr.resolve_left hcap
      have hle : (len + m) * t.size <= cap * t.size := dA _ hroom;rw [dL] at hle;obtain ⟨w', cur', s1, s2, s3, s4, s5⟩ := qD (P := P) news w b (o + len * t.size) 0 cur ct fz hb hf.1 (by omega) h1;refine ⟨_, w', ?_, .inl ⟨hroom, .inr ⟨hcap, b, o, cur, ct, fz, cur', rfl, hb, hf, hfit, rfl, s2, by rw [s3, lE], s4⟩⟩⟩;unfold gD;simp [run_underlying hT, run_underlying hT2, iE, hzero, hxl, hx w rfl, hroom, fH, s1]
  · have hlt : cap < len + m := by omega
    have hge := grownCap_ge w (len + m) cap e;have hcm := grownCap_le_maxLen w (len + m) cap e hml;have hdl : (eF t).length = t.size := (iK default (Good default []) t).length;have hzl := AC t (grownCap w (len + m) cap e - (len + m)) (eF t).toArray (λ_ => rfl);refine ⟨.slice (some ⟨w.heap.size, 0, none⟩) (len + m) (grownCap w (len + m) cap e), _, ?_, .inr ⟨hlt, grownCap w (len + m) cap e, (b6 (grownCap w (len + m) cap e - (len + m)) (eF t)).flatten, rfl, hge, hcm, rfl, ?_⟩⟩
    · have hfit := growslice_fits hlt hbound
      have h2 : ¬ (((len + m : Nat) : Int) > 9223372036854775807) := by unfold maxLen at hml; omega
      have h2' : ¬ ((9223372036854775807 : Int) < (len : Int) + (m : Int)) := by unfold maxLen at hml; omega
      have hzc : gG (gH t (eF t)).cells (grownCap w (len + m) cap e - (len + m)) = (b6 (grownCap w (len + m) cap e - (len + m)) (eF t)).flatten.toArray := by
        rw [DK, <- hzl];simp only [gG, dK, hdl]
      have hforced : (tV (len + m) cap e).forced = false := rfl;have hfit' : ¬ (281474976710656 < Builtin.nextslicecap (len + m) cap * i.bytes) := by omega
      have ho' := ho w.drew rfl;have hx' := hx w.drew rfl;have hgc : (tV (len + m) cap e).cut (w.tape w.drawn (.appendCap (len + m) cap e)) = grownCap w (len + m) cap e := rfl;have hdr : ({ w with drawn := w.drawn + 1 } : World) = w.drew := rfl;unfold gD;simp [run_underlying hT, run_underlying hT2, iE, hzero, hxl, hroom, typeInfo, hi, h2', hfit', hforced, hgc, hdr, ho', hx', he.zero_run, hzc, newRow]
    · simp only [aO, hol, hnl, List.length_flatten]
      simp [hdl];rw [<- dL, <- dL]
      congr 1
      omega
theorem mW {w:World} {sz m b o len cap:Nat} {cs:List Value} (hl:cs.length=m*sz) (hc:kK w b o cs):(dZ sz m (.slice (some ⟨b,o,none⟩) len cap)).run P w = .ok cs.toArray w:=by
 have:=run_loadCells_list (P:=P) w ⟨b,o,none⟩ cs (λj v hj=>by rw [fH];exact hc j v hj);simp only [dZ, <- hl,this]
end
theorem lT.row {w:World} {G:Nat->Prop} {α:Type} {R:α->List Value->Prop} {sz:Nat} {xs:List α} {v:Value} (h:lT w G R sz xs v) :
  ∃ css bss,vY (λy c b=>R y c/\b=[]) sz xs css bss/\bss.flatten=[]/\((∃ ad,v = .slice ad 0 0/\xs=[])\/∃ b off cap,v = .slice (some ⟨b,off,none⟩) xs.length cap/\G b/\kK w b off css.flatten):=by
 rcases h.2 with ⟨ad,rfl,rfl⟩ | ⟨b,off,cap,rfl,h1,h2,h3,h4⟩
 ·exact ⟨[],[],⟨rfl,rfl⟩,rfl,.inl ⟨ad,rfl,rfl⟩⟩
 ·obtain ⟨css,hr,hc⟩:=aBm (R:=λy c b=>R y c/\b=[]) (sz:=sz) (f:=λj=>w.cell? ⟨b,j,none⟩) xs (b6 xs.length []) off (by simp) (λi y bi hy hb=>by
   obtain ⟨cs,e1,e2,e3⟩:=h4 i y hy;have:bi=[]:=by
    have:=qW hb;exact (List.mem_replicate.1 this).2
   exact ⟨cs,e1,e2,e3,this⟩)
  exact ⟨css,_,hr,by simp,.inr ⟨b,off,cap,rfl,h3,hc⟩⟩
theorem vK.row {w:World} {α:Type} {R:α->List Value->List Nat->Prop} {sz:Nat} {xs:List α} {v:Value} {bs:List Nat} (h:vK w R sz xs v bs) :
  ∃ css bss,vY R sz xs css bss/\((∃ ad,v = .slice ad 0 0/\xs=[]/\bs=[])\/∃ b off cap cur ty fz,v = .slice (some ⟨b,off,none⟩) xs.length cap/\xs.length<=cap/\cap<=maxLen/\off+cap*sz<=cur.size /\
   w.heap[b]? = some (.cells cur ty fz)/\EQ sz fz cur.size/\bs=b :: bss.flatten/\∀ j c,css.flatten[j]? = some c->cur[off+j]? = some c):=by
 rcases h.2 with ⟨ad,rfl,rfl,rfl⟩ | ⟨b,off,cap,cur,ty,fz,bss,rfl,h1,h2,h3,h4,h5,h6,h7,h8⟩
 ·exact ⟨[],[],⟨rfl,rfl⟩,.inl ⟨ad,rfl,rfl,rfl⟩⟩
 ·obtain ⟨css,hr,hc⟩:=aBm (R:=R) (sz:=sz) (f:=λj=>cur[j]?) xs bss off h6 (λi y bi hy hb=>h8 i y bi hy hb);exact ⟨css,bss,hr,.inr ⟨b,off,cap,cur,ty,fz,rfl,h1,h2,h3,h4,h5,h7,hc⟩⟩
def aXr:(t:Ty)->ByteArray->Option (List t.den)
 | .int .u8,s=>some (cY s)
 | _,_=>none
def aXs (tab:List TI) (L:bG) (T2:TypeId) (t:Ty):dD->Option (List t.den)
 | .val (.string s)=>match iZ tab T2 with
  | .scal .str=>aXr t s
  | _=>none
 | A=>match iZ tab T2 with
  | .slice _ _ _=>aFU L (.sl t) A
  | _=>none
def aXt (L:bG) (t:Ty):dD->Option (List t.den)
 | .sl t' xs=>if h:t'=t then some (nR h xs) else none
 | .osl r rg=>match b7 L r with
  | some A=>match A.bor with
   | true=>if h:A.t=t then some (yR rg (nR h A.xs)) else none
   | false=>none
  | none=>none
 | .val (.slice none _ _)=>some []
 | _=>none
def aQ6 (tab:List TI) (L:bG) (T2:TypeId) (t:Ty) (X:dD):Option (List t.den) :=
 match t.flat with
 | true=>aXs tab L T2 t X
 | false=>match iZ tab T2 with
  | .slice _ _ _=>aXt L t X
  | _=>none
def aP6 (A:hY):Bool:=A.t.flat||(A.bor||A.xs.isEmpty)
def aQ7 (tab:List TI) (E:eD) (L:bG) (T T2:TypeId):PV->PV->Option (List Prop×PV×eD×bG)
 | .a S,.a X=>match iZ tab T with
  | .slice _ t by'=>match zC 1 t.size&&zC 1 by',aQ6 tab L T2 t X with
   | true,some ys=>match S with
    | .val (.slice none _ _)=>some ([ys.length*by'<=140737488355328],.a (.osl L.length none),E,L++[some ⟨t,ys, !t.flat,none,none⟩])
    | .osl r rg=>match b7 L r with
     | some A=>if h:t=A.t then (match aP6 A with
      | true=>some ([((yR rg A.xs).length+ys.length)*by'<=140737488355328],.a (.osl r none),CV r E,pF r (iE L r (some ⟨A.t,yR rg A.xs++nR h ys,A.bor || !A.t.flat,none,none⟩)))
      | false=>none) else none
     | none=>none
    | _=>none
   | _,_=>none
  | _=>none
 | _,_=>none
section
variable {P:Program} {n:Nat} {K:jK} {G:Nat->Prop} {w0 w:World} {a:Act} {E:eD} {L:bG} {V:Nat->Value} {own:Nat->List Nat}
theorem bT.replace (hR:bT n K w0 G w a E L V own) {w':World} (hk:cE K.O K.w0 w') (hsz:w.heap.size<=w'.heap.size) {r:Nat} {A A':hY} (hA:b7 L r=some A) (hold:∀ c,c<w.heap.size->c ∉ own r->w'.heap[c]? = w.heap[c]?)
  {v':Value} {bs':List Nat} (hls:A'.ls=none) (hsm:A'.sm=none) (hE:fW w0 G w' A' v' bs') (hn:bs'.Nodup) (hg:∀ b∈bs',Out K G b) (hd:∀ s C,b7 L s=some C->s≠r->∀ b∈own s,b ∉ bs') :
  bT n K w0 G w' a (CV r E) (pF r (iE L r (some A'))) (CW V r v') (CW own r bs'):=by
 have hkill:mV r A'=A':=by unfold mV;rw [hls]
 have hsplit:∀ s C,b7 (pF r (iE L r (some A'))) s=some C->(s≠r/\∃ D,b7 L s=some D/\C=mV r D)\/(s=r/\C=A'):=by
  intro s C hs;rw [lV] at hs;by_cases hsr:s=r
  ·subst hsr;rw [iQ hA] at hs;cases hs;exact .inr ⟨rfl,hkill⟩
  ·rw [dO (jL hsr)] at hs;cases hD:b7 L s with
   | none=>rw [hD] at hs;cases hs
   | some D=>rw [hD] at hs;cases hs;exact .inl ⟨hsr,D,rfl,rfl⟩
 have hag:∀ s,s≠r->mN L V (pF r (iE L r (some A'))) (CW V r v') s:=λs hs=>by
  refine ⟨dI _ _ hs,λB hB=>⟨mV r B,?_,G7 r B,G9 r B,λls h=>⟨_,CX.1 ls h⟩⟩⟩;rw [lV,dO (jL hs),hB];rfl
 have hkeep:∀ s D,b7 L s=some D->s≠r->∀ b∈own s,w'.heap[b]? = w.heap[b]? := λs D hD hs b hb=>hold b (hR.own_lt hD b hb) (hR.apart s r D A hD hA hs b hb);have hGk:∀ c,G c->w'.heap[c]? = w.heap[c]? := λc hc=>hold c (hR.glt c hc) λhm=>(hR.good r A hA c hm).2 hc;refine ⟨hR.glob,hk,hR.size,hR.defers,λc hc=>cK (hR.glt c hc) hsz,λc hc=>(hGk c hc).trans (hR.gref c hc),hR.gsub,hR.gold,hR.gup,?_,?_,?_,?_,?_,?_,λi => ?_⟩
 ·intro s C hs;rcases hsplit s C hs with ⟨e1,D,e2,rfl⟩ | ⟨rfl,rfl⟩
  ·rw [dI _ _ e1,dI _ _ e1];exact G8.2 ((hR.heap s D e2).keep (hkeep s D e2 e1))
  ·rw [eA,eA];exact hE
 ·intro s C hs;rcases hsplit s C hs with ⟨e1,D,e2,rfl⟩ | ⟨rfl,rfl⟩
  ·rw [dI _ _ e1];exact hR.good s D e2
  ·rw [eA];exact hg
 ·intro s C hs;rcases hsplit s C hs with ⟨e1,D,e2,rfl⟩ | ⟨rfl,rfl⟩
  ·rw [dI _ _ e1];exact hR.nodup s D e2
  ·rw [eA];exact hn
 ·intro s u C D hs hu hsu;rcases hsplit s C hs with ⟨e1,C',e2,rfl⟩ | ⟨rfl,rfl⟩
  ·rcases hsplit u D hu with ⟨e3,D',e4,rfl⟩ | ⟨rfl,rfl⟩
   ·rw [dI _ _ e1,dI _ _ e3];exact hR.apart s u C' D' e2 e4 hsu
   ·rw [dI _ _ e1,eA];exact hd s C' e2 e1
  ·rcases hsplit u D hu with ⟨e3,D',e4,rfl⟩ | ⟨rfl,rfl⟩
   ·rw [eA,dI _ _ e3];exact λb hb hb'=>hd u D' e4 e3 b hb' hb
   ·exact absurd rfl hsu
 ·intro s C ls hs hl;rcases hsplit s C hs with ⟨e1,D,e2,rfl⟩ | ⟨rfl,rfl⟩
  ·obtain ⟨l0,h0,rfl⟩:=CX.2 ls hl;rw [dI _ _ e1,G7];refine (((hR.boxs s D l0 e2 h0).keepB λd off hv => ?_).kill r).agree λu hu=>hag u λe => ?_
   ·exact hkeep s D e2 e1 d ((hR.heap s D e2).block hv (aT _))
   ·subst e;exact Et.1 hu
  ·rw [hls] at hl;cases hl
 ·intro s C q hs hq;rcases hsplit s C hs with ⟨e1,D,e2,rfl⟩ | ⟨rfl,rfl⟩
  ·rw [Xe] at hq;obtain ⟨g1,g2⟩:=hR.small s D q e2 hq;rw [dI _ _ e1,dI _ _ e1];exact ⟨g1,λe=>⟨by rw [TX];exact (g2 e).1,G8.2 ((g2 e).2.keep (hkeep s D e2 e1))⟩⟩
  ·rw [hsm] at hq;cases hq
 ·rw [Ll];exact oT (TU r (hR.env i)) λs hs=>hag s λe=>PD.1 (e ▸ hs)
theorem Gf {r:Nat} {A:hY} {v:Value} {bs:List Nat} {G':Nat->Prop} {u u':World} {L:bG} {V:Nat->Value} (hA:b7 L r=some A) (hV:V r=v) (h:fW u G' u' A v bs):kZ w0 G L V (.osl r none) v:=by
 refine ⟨A,hA,λ_=>hV.symm,?_⟩;rw [hV];refine ⟨bW _,aT _,?_⟩;rcases h.2 with ⟨ad,h1,h2,_⟩ | ⟨b,off,cap,cur,ty,fz,bss,h1,h2,h3,h4,h5,h6,h7,h8,h9⟩
 ·exact .inl ⟨ad,ad,h1,h1,by rw [h2];exact ⟨rfl,rfl⟩⟩
 ·exact .inr ⟨b,off,A.xs.length,cap,off,cap,h1,by rw [h1];rfl,by simpa [uM,Cx] using h2,.inl ⟨by simp [uM],by simp [uM]⟩⟩
theorem Xm {w:World} {G G':Nat->Prop} {t:Ty} {x:t.den} {cs:List Value} (h:dW w G t x cs) (hf:t.flat=true) (bor:Bool) (u u':World):lO u G' u' t bor x cs []:=by
 unfold lO;cases bor with
 | true=>exact ⟨h.flat hf,rfl⟩
 | false=>exact h.own hf
theorem Ez (sz:Nat) (ad:Option Addr) (w:World):(dZ sz 0 (.slice ad 0 0)).run P w = .ok #[] w:=by
 cases ad with
 | none=>rfl
 | some ad =>
  have:=run_loadCells_list (P:=P) w ad [] (λj v hj=>by simp at hj);simpa [dZ] using this
theorem lT.mapR {w:World} {G G':Nat->Prop} {α:Type} {R R':α->List Value->Prop} {sz:Nat} {xs:List α} {v:Value} (h:lT w G R sz xs v) (hG:∀ b,G b->G' b) (hR:∀ x cs,R x cs->R' x cs):lT w G' R' sz xs v :=
 lT.keep hR hG (λ_ _=>rfl) h
theorem aFZ {w w0:World} {G G':Nat->Prop} {t e:Ty} (h:t=e) {xs:List t.den} {v:Value} (hx:lT w G' (dW w0 G t) t.size xs v):lT w G' (dW w0 G e) e.size (nR h xs) v:=by
 subst h;exact hx
theorem aGa {tab:List TI} (hT:jP P tab) (hR:bT n K w0 G w a E L V own) {T2:TypeId} {t:Ty} {X:dD} {x:Operand} (hx:opnd E x = .a X) {ys:List t.den} (h:aQ6 tab L T2 t X=some ys) :
  ∃ d css bss,P.underlying T2=some d/\(∀ k,d ≠ .int k)/\bss.flatten=[]/\(∀ w1 bor,(t.flat=true\/bor=true)->vY (lO w0 G w1 t bor) t.size ys css bss)/\(∀ w':World,w'.heap=w.heap->(dZ t.size ys.length (a.eval x)).run P w' = .ok css.flatten.toArray w')/\∀ w',(pO (a.eval x)).run P w' = .ok ys.length w':=by
 have slice:∀ {e:TypeId} {t':Ty} {b:Nat},iZ tab T2 = .slice e t' b->lT w (λ_=>True) (dW w0 G t) t.size ys (a.eval x)->∃ d css bss,P.underlying T2=some d/\(∀ k,d ≠ .int k)/\bss.flatten=[]/\(∀ w1 bor,(t.flat=true\/bor=true)->vY (lO w0 G w1 t bor) t.size ys css bss) /\
   (∀ w':World,w'.heap=w.heap->(dZ t.size ys.length (a.eval x)).run P w' = .ok css.flatten.toArray w')/\∀ w',(pO (a.eval x)).run P w' = .ok ys.length w':=by
  intro e t' b ht hr;have hS:=hT T2;rw [ht] at hS;obtain ⟨css,bss,h1,h2,h3⟩:=lT.row hr;refine ⟨_,css,bss,hS.2.1,(λk h=>by cases h),h2,λw1 bor hfb=>h1.mono (λy c b hb hh => ?_),?_,?_⟩
  ·rw [hh.2];unfold lO;cases bor with
   | true=>exact ⟨hh.1,rfl⟩
   | false=>exact hh.1.own (hfb.resolve_right (by simp))
  ·intro w' hw';rcases h3 with ⟨ad,e1,e2⟩ | ⟨b',off,cap,e1,e2,e3⟩
   ·have:css=[]:=by rw [e2] at h1;exact h1.1
    rw [e1,this,e2];exact Ez _ _ _
   ·rw [e1];exact mW h1.len.2.2 (e3.keep (by rw [hw']))
  ·intro w';rcases h3 with ⟨ad,e1,e2⟩ | ⟨b',off,cap,e1,e2,e3⟩
   ·rw [e1,e2];rfl
   ·rw [e1];rfl
 unfold aQ6 at h;split at h
 ·rename_i hf;unfold aXs at h;split at h
  ·rename_i s;split at h
   ·rename_i ht;have hS:=hT T2;rw [ht] at hS;obtain ⟨e1,e2⟩:=hR.valEq hx;unfold aXr at h;split at h
    ·cases h;have hrow:∀ (l:List UInt8) (w1:World) (bor:Bool),vY (lO w0 G w1 (.int .u8) bor) (lF Dx).size (l.map λb=>(b.toNat:Int)) (l.map λb=>[.int .u8 (b.toNat:Int)]) (l.map λ_=>[]):=by
      intro l w1 bor
      induction l with
      | nil=>exact ⟨rfl,rfl⟩
      | cons b l ih =>
       refine ⟨_,_,_,_,rfl,rfl,rfl,?_,ih⟩;refine Xm (w:=w1) (G:=λ_=>True) (t := .int .u8) (x:=(b.toNat:Int)) (cs:=[.int .u8 (b.toNat:Int)]) ⟨rfl,?_⟩ rfl bor _ _;have hb:=b.toNat_lt;simp [cC,oI,oJ,mY,kO];omega
     refine ⟨_,_,_,oG.str_und hS,(λk h=>by cases h),by simp,λw1 bor _=>hrow s.data.toList w1 bor,λw' _ => ?_,λw' => ?_⟩
     ·rw [e1];have hl:(cY s).length=s.size:=by simp [cY]
      simp only [dZ,hl,cM]
      congr 1
      have hs:s.extract 0 s.size=s:=by simp
      rw [hs];apply wY.1;simp
      induction s.data.toList with
      | nil=>rfl
      | cons b l ih=>simp [ih]
     ·rw [e1];have hl:(cY s).length=s.size:=by simp [cY]
      simp [pO,hl]
    ·cases h
   ·cases h
  ·split at h
   ·rename_i e t' b ht;have hr:=J7 hR (cI [] w) (G':=λ_=>True) (λ_ _=>trivial) (hR.atom hx) h (λ_ _ _ _=>trivial);exact slice ht (lT.mapR hr (λ_ h=>h) (λy c hh=>hh.flat hf))
   ·cases h
 ·split at h
  ·rename_i e t' b ht;refine slice ht ?_;have hX:=hR.atom hx;unfold aXt at h;split at h
   ·rename_i t2 xs;split at h
    ·rename_i he;cases h;have hX:lT w0 G (dW w0 G t2) t2.size xs (a.eval x):=hX;have h1:lT w (λ_=>True) (dW w0 G t2) t2.size xs (a.eval x):=lT.keep (λ_ _ h=>h) (λ_ _=>trivial) hR.gref hX;exact aFZ he h1
    ·cases h
   ·rename_i r rg;split at h
    ·rename_i A hA;split at h
     ·rename_i hbor;split at h
      ·rename_i he;cases h;subst he;obtain ⟨B,hB,_,hs⟩:=hX;rw [hA] at hB;cases hB;have h1:lT w (λ_=>True) (dW w0 G A.t) A.t.size A.xs (V r):=vK.read (λy c bi _ hr=>by
        unfold lO at hr;rw [hbor] at hr;exact hr.1) (λ_ _=>trivial) (hR.heap r A hA)
       cases rg with
       | none=>exact h1.whole hs
       | some q=>obtain ⟨lo,hi⟩:=q;exact h1.sub (nn:=0) hs
      ·cases h
     ·cases h
    ·cases h
   ·cases h;obtain ⟨e1,⟨e3,e4⟩⟩:=hX;subst e3 e4;rw [e1];exact ⟨bW _,.inl ⟨_,rfl,rfl⟩⟩
   ·cases h
  ·cases h
theorem uU {r:Nat} {A A':hY} (hA:b7 L r=some A) (hls:A'.ls=none):b7 (pF r (iE L r (some A'))) r=some A':=by
 rw [lV,iQ hA];show some (mV r A')=some A';unfold mV;rw [hls]
theorem vY.nilM {α:Type} {R R':α->List Value->List Nat->Prop} {sz:Nat}:∀ {ys:List α} {css:List (List Value)} {bss:List (List Nat)},(∀ y c b,y∈ys->R y c b->R' y c [])->vY R sz ys css bss->∃ bss',vY R' sz ys css bss'/\bss'.flatten=[]
 | [],css,_,_,h=>⟨[],⟨h.1,rfl⟩,rfl⟩
 | y :: ys,_,_,hm,⟨c,cs,b,bs,h1,h2,h3,h4,h5⟩=>by
  obtain ⟨bs',h6,h7⟩:=h5.nilM (λy c b hy=>hm y c b (aM _ hy));exact ⟨[] :: bs',⟨c,cs,[],bs',h1,rfl,h3,hm _ _ _ (aQ ..) h4,h6⟩,by simp [h7]⟩
theorem vZ (w:World):w.drew.heap.size=w.heap.size:=rfl
theorem append_nil {tab:List TI} (hT:jP P tab) (hR:bT n K w0 G w a E L V own) {T T2 ty e:TypeId} {t:Ty} {i:TypeInfo} {d:TypeDesc} {by':Nat} {s x:Operand} {ys:List t.den} {css:List (List Value)} {bss:List (List Nat)}
  (hu:P.underlying T=some (.slice e)) (hd1:P.underlying T2=some d) (hd2:∀ k,d ≠ .int k) (hi:P.info? e=some i) (hbi:i.bytes=by') (he:oG P e t) (hsz:1<=t.size) (hby1:1<=by') (hb0:bss.flatten=[])
  {bo:Bool} (hrow:∀ w1,vY (lO w0 G w1 t bo) t.size ys css bss) (hfc:∀ w':World,w'.heap=w.heap->(dZ t.size ys.length (a.eval x)).run P w' = .ok css.flatten.toArray w') (hlen:∀ w',(pO (a.eval x)).run P w' = .ok ys.length w')
  (l3:css.flatten.length=ys.length*t.size) (hone:∀ v∈css.flatten,v.oneCell'=true) (hc:ys.length*by'<=140737488355328) (e1:a.eval s = .slice none 0 0) :
  ∃ v w' V' own',(gD #[T,T2] ty #[a.eval s,a.eval x]).run P w = .ok v w'/\Xh n K w0 G w w' a E L (L++[some ⟨t,ys,bo,none,none⟩]) V V' own own'/\kH w0 G (L++[some ⟨t,ys,bo,none,none⟩]) V' (.a (.osl L.length none)) v:=by
 have hml:0+ys.length<=maxLen:=by
  have:ys.length<=ys.length*by':=uH _ hby1
  have:=hc;unfold maxLen;omega
 obtain ⟨v',w',hrun,hcase⟩:=AD (P:=P) (w:=w) (T:=T) (T2:=T2) (ty:=ty) (adr:=none) (len:=0) (cap:=0) (olds:=[]) hu hd1 hd2 hi he hsz hfc hlen (λw' _=>rfl) (by simp) l3 hone (by rw [hbi,cV];exact hc) hml (.inl rfl);rw [e1];rcases hcase with ⟨_,hcase⟩ | ⟨hlt,nc,rest,rfl,hnc1,hnc2,rfl,hlr⟩
 ·rcases hcase with ⟨_,rfl,rfl,hm,_⟩ | ⟨hh,_⟩
  ·have hys:ys=[]:=b5 hm;subst hys;have hent:fW w0 G w' ⟨t,[],bo,none,none⟩ (.slice none 0 0) []:=⟨by simp,.inl ⟨_,rfl,rfl,rfl⟩⟩;exact ⟨_,_,_,_,hrun,hR.freshN (cI _ _) hent (by simp) (by simp),sJ (w0:=w0) (G:=G) (u:=w0) (G':=G) hent⟩
  ·exact absurd rfl hh
 ·simp only [kU,cV] at hrun hnc1 hlr hlt;have hent:=Ja (w:=w.drew) (sm:=none) (ty:=e) (cap:=nc) (hrow _) hb0 hnc1 hnc2 (by rw [hlr];exact aT _);exact ⟨_,_,_,_,hrun,hR.freshN ((cI [] w).drew.alloc _) hent (by simp) (by rw [vZ];simp),sJ (w0:=w0) (G:=G) (u:=w0) (G':=G) hent⟩
set_option maxHeartbeats 800000 in
theorem aBq {tab:List TI} (hT:jP P tab) (hR:bT n K w0 G w a E L V own) {T T2 ty e:TypeId} {i:TypeInfo} {d:TypeDesc} {by':Nat} {s x:Operand} {r:Nat} {rg:Option (Nat×Nat)} {A:hY} {ys:List A.t.den} {css:List (List Value)} {bss:List (List Nat)}
  (hu:P.underlying T=some (.slice e)) (hd1:P.underlying T2=some d) (hd2:∀ k,d ≠ .int k) (hi:P.info? e=some i) (hbi:i.bytes=by') (he:oG P e A.t) {bo:Bool} (hbo:∀ w1 y c b,y∈A.xs->lO w0 G w A.t A.bor y c b->lO w0 G w1 A.t bo y c []) (hsz:1<=A.t.size) (hby1:1<=by') (hb0:bss.flatten=[])
  (hrow:∀ w1,vY (lO w0 G w1 A.t bo) A.t.size ys css bss) (hfc:∀ w':World,w'.heap=w.heap->(dZ A.t.size ys.length (a.eval x)).run P w' = .ok css.flatten.toArray w') (hlen:∀ w',(pO (a.eval x)).run P w' = .ok ys.length w')
  (l3:css.flatten.length=ys.length*A.t.size) (hone:∀ v∈css.flatten,v.oneCell'=true) (hA:b7 L r=some A) (hs:opnd E s = .a (.osl r rg)) (hc:((yR rg A.xs).length+ys.length)*by'<=140737488355328/\True) :
  ∃ v w' V' own',(gD #[T,T2] ty #[a.eval s,a.eval x]).run P w = .ok v w'/\bT n K w0 G w' a (CV r E) (pF r (iE L r (some ⟨A.t,yR rg A.xs++nR rfl ys,bo,none,none⟩))) V' own'/\kH w0 G (pF r (iE L r (some ⟨A.t,yR rg A.xs++nR rfl ys,bo,none,none⟩))) V' (.a (.osl r none)) v:=by
 obtain ⟨A',hA',hve,hs1,hs2,hs3⟩:=hR.atom hs;rw [hA] at hA';cases hA';have hent:=hR.heap r A hA;obtain ⟨ocss,obss,horow,hocase⟩:=vK.row hent
 -- the base's own elements
 have hbrow:∀ w1,∃ ob,vY (lO w0 G w1 A.t bo) A.t.size (yR rg A.xs) (yR rg ocss) ob/\ob.flatten=[]:=by
  intro w1;obtain ⟨ob,h1,h2⟩:=horow.nilM (R':=lO w0 G w1 A.t bo) (λy c b hy hh=>hbo w1 y c b hy hh);cases rg with
  | none=>exact ⟨ob,h1,h2⟩
  | some q =>
   obtain ⟨lo,hi⟩:=q;refine ⟨(ob.take hi).drop lo,(h1.take hi).drop lo,?_⟩;rw [List.flatten_eq_nil_iff] at h2 ⊢;exact λl hl=>h2 l (gI (iB hl))
 obtain ⟨ob,hbrow1,hbflat⟩:=hbrow w;obtain ⟨m1,m2,m3⟩:=hbrow1.len;have hlenrg:(yR rg A.xs).length=Cx A.xs.length rg - uM rg:=by
  cases rg with
  | none=>simp [yR,Cx,uM]
  | some q =>
   obtain ⟨lo,hi⟩:=q;simp only [yR,Cx,uM,fD,cJ] at hs2 ⊢;omega
 have hml:(yR rg A.xs).length+ys.length<=maxLen:=by
  have:(yR rg A.xs).length+ys.length<=((yR rg A.xs).length+ys.length)*by':=uH _ hby1
  have:=hc.1;unfold maxLen;omega
 have hcast:∀ (w1:World),∃ nb,vY (lO w0 G w1 A.t bo) A.t.size (yR rg A.xs++nR rfl ys) (yR rg ocss++css) nb/\nb.flatten=[]:=by
  intro w1;obtain ⟨ob,h1,h2⟩:=hbrow w1;exact ⟨ob++bss,h1.append (hrow w1),by simp [h2,hb0]⟩
 have hbnot:∀ s C,b7 L s=some C->s≠r->∀ b∈own s,b ∉ own r:=λs C hs' hsr=>hR.apart s r C A hs' hA hsr;have hbg:=hR.good r A hA;have nothing:∀ adr:Option Addr,a.eval s = .slice adr 0 0->Cx A.xs.length rg - uM rg=0 ->
   ∃ v w' V' own',(gD #[T,T2] ty #[a.eval s,a.eval x]).run P w = .ok v w'/\bT n K w0 G w' a (CV r E) (pF r (iE L r (some ⟨A.t,yR rg A.xs++nR rfl ys,bo,none,none⟩))) V' own'/\kH w0 G (pF r (iE L r (some ⟨A.t,yR rg A.xs++nR rfl ys,bo,none,none⟩))) V' (.a (.osl r none)) v:=by
  intro adr hv e0;have eo:yR rg A.xs=[]:=b5 (by omega);obtain ⟨v',w',hrun,hcase⟩:=AD (P:=P) (w:=w) (T:=T) (T2:=T2) (ty:=ty) (adr:=adr) (len:=0) (cap:=0) (olds:=[]) hu hd1 hd2 hi he hsz hfc hlen (λw' _=>Ez _ _ _) (by simp) l3 hone
   (by rw [hbi];have:=hc.1;rw [eo] at this;simpa using this) (by rw [eo] at hml;simpa using hml) (.inl rfl)
  rw [hv];simp only [eo,kU] at *;rcases hcase with ⟨_,hcase⟩ | ⟨hlt,nc,rest,rfl,hnc1,hnc2,rfl,hlr⟩
  ·rcases hcase with ⟨_,rfl,rfl,hm,_⟩ | ⟨hh,_⟩
   ·have hys:ys=[]:=b5 hm;subst hys;have hent':fW w0 G w' ⟨A.t,nR rfl [],bo,none,none⟩ (.slice adr 0 0) []:=⟨by simp [nR],.inl ⟨_,rfl,rfl,rfl⟩⟩;exact ⟨_,_,_,_,hrun,hR.replace hR.kept (aT _) hA (λ_ _ _=>rfl) rfl rfl hent' (by simp) (by simp) (by simp),Gf (w0:=w0) (G:=G) (uU hA rfl) (eA _ _ _) hent'⟩
   ·exact absurd rfl hh
  ·simp only [kU,cV] at hrun hnc1 hlr hlt;have hent':=Ja (w:=w.drew) (sm:=none) (ty:=e) (cap:=nc) (hrow _) hb0 hnc1 hnc2 (by rw [hlr];exact aT _);refine ⟨_,_,_,_,hrun,hR.replace (hR.kept.drew.alloc _) (by simp [Nm,vZ]) hA (λc hc _ => ?_) rfl rfl hent' (by simp) (by rw [vZ];intro b hb;simp at hb;subst hb;exact hR.out_new (aT _)) (λs C hs' _ b hb => ?_),Gf (w0:=w0) (G:=G) (uU hA rfl) (eA _ _ _) hent'⟩
   ·exact mJ _ _ _ hc
   ·have:=hR.own_lt hs' b hb;rw [vZ];simp;omega
 rcases hs3 with ⟨ad,ad',hV,hv,hz⟩ | ⟨b0,off0,m0,cap0,o,c,hV,hv,hle,hcase⟩
 ·exact nothing ad' hv (by omega)
 by_cases hc00:c=0
 ·subst hc00;have e0:Cx A.xs.length rg - uM rg=0:=by omega
  exact nothing _ (by rw [hv,e0]) e0
 ·rcases hocase with ⟨_,h1,_,_⟩ | ⟨b1,off1,cap1,cur,ct,fz,h1,h2,h3,h4,h5,h6,h7,h8⟩
  ·rw [h1] at hV;cases hV;have:=(hcase.resolve_right (λh=>hc00 h.1)).2;omega
  ·rw [h1] at hV;cases hV;have hoc:o+c*A.t.size<=cur.size:=by
    rcases hcase with ⟨ho,hcap⟩ | ⟨hc0,ho⟩
    ·have:(uM rg+c)*A.t.size<=cap0*A.t.size:=dA _ hcap;rw [dL] at this;omega
    ·rw [hc0,Dw];omega
   have hold:∀ j v,(yR rg ocss).flatten[j]? = some v->cur[o+j]? = some v:=by
    intro j v hj;have hjl:j<(yR rg A.xs).length*A.t.size:=by rw [<- m3];exact (bH.1 hj).1
    have hne:c≠0:=by
     intro hc0;rw [hlenrg] at hjl;have:Cx A.xs.length rg - uM rg=0:=by omega
     rw [this,Dw] at hjl;omega
    obtain ⟨ho,hcap⟩:=hcase.resolve_right (λh=>hne h.1);cases rg with
    | none =>
     have:=h8 j v hj;rw [ho];simpa [uM] using this
    | some q =>
     obtain ⟨lo,hi'⟩:=q;have hl:=horow.lens;have hpre:(ocss.take lo).flatten.length=lo*A.t.size:=by
      have:=(horow.take lo).len.2.2;rw [this,cJ]
      congr 1
      simp only [uM,Cx] at hs1 hs2;omega
     have hfl:ocss.flatten[lo*A.t.size+j]? = some v:=by
      have hsplit:ocss=(ocss.take lo++(ocss.take hi').drop lo)++ocss.drop hi':=by
       have e1:ocss.take lo=(ocss.take hi').take lo:=by
        rw [List.take_take];congr 1;simp only [uM,Cx] at hs1;omega
       rw [e1,eU,eU]
      rw [hsplit,fK,fK,bS,cH (by omega),hpre,kQ];have hj':((ocss.take hi').drop lo).flatten[j]? = some v:=hj;rw [bV (bH.1 hj').1];exact hj'
     have:=h8 _ v hfl;rw [ho];simp only [uM]
     rwa [<- Nat.add_assoc] at this
   have hblt:b0<w.heap.size:=hR.own_lt hA b0 (by rw [h7];exact aQ ..);have hbown:b0∈own r:=by rw [h7];exact aQ ..
   have hcells:∀ w':World,w'.heap=w.heap->kK w' b0 o (yR rg ocss).flatten:=λw' hw' j v hj=>by
    simp only [fQ, hw',h5];exact hold j v hj
   obtain ⟨v',w',hrun,hcase'⟩:=AD (P:=P) (w:=w) (T:=T) (T2:=T2) (ty:=ty) (adr:=some ⟨b0,o,none⟩) (len:=(yR rg A.xs).length) (cap:=c) (olds:=(yR rg ocss).flatten) hu hd1 hd2 hi he hsz hfc hlen
    (λw' hw'=>mW m3 (hcells w' hw')) m3 l3 hone (by rw [hbi];exact hc.1) hml (.inr ⟨b0,o,cur,ct,fz,rfl,h5,h6,hoc⟩)
   rw [hv, <- hlenrg];rcases hcase' with ⟨hroom,hcase'⟩ | ⟨hlt,nc,rest,rfl,hnc1,hnc2,rfl,hlr⟩
   ·rcases hcase' with ⟨hh,_⟩ | ⟨_,b2,o2,cur2,ct2,fz2,cur',hh,g1,g2,g3,rfl,g4,g5,g6⟩
    ·exact absurd hh hc00
    ·cases hh;rw [h5] at g1;cases g1;replace g5:cur'.toList=fJ cur.toList (o+(yR rg A.xs).length*A.t.size) css.flatten:=g5;obtain ⟨nb,hnrow,hnflat⟩:=hcast w';have hnl:(yR rg ocss).flatten.length+css.flatten.length<=c*A.t.size:=by
      rw [m3,l3, <- dL];exact dA _ hroom
     have hcs:cur'.size=cur.size:=by
      have hsl:=lK (cs:=cur.toList) (c:=css.flatten) (o:=o+(yR rg A.xs).length*A.t.size) (by have hcl:cur.toList.length=cur.size:=cT;omega);have:=congrArg aN g5;rw [hsl] at this;simpa using this
     have hget':∀ j v,(yR rg ocss++css).flatten[j]? = some v->cur'[o+j]? = some v:=by
      intro j v hj;rw [<- cX,g5,fJ];rw [fK] at hj;by_cases hjl:j<(yR rg ocss).flatten.length
      ·rw [bV hjl] at hj;rw [bS,bV (by simp only [cJ,cT];omega),eY,if_pos (by omega),cX];exact hold j v hj
      ·rw [cH (by omega)] at hj;have hj2:=(bH.1 hj).1;rw [bS,cH (by simp only [cJ,cT];omega)];have e9:o+j - (cur.toList.take (o+(yR rg A.xs).length*A.t.size)).length=j - (yR rg ocss).flatten.length:=by
        simp only [cJ,cT];omega
       rw [e9,bV hj2];exact hj
     have hnlen:(yR rg A.xs++nR rfl ys).length=(yR rg A.xs).length+ys.length:=by rw [aO];rfl
     have hent':=rE hnrow (b:=b0) (off:=o) (cap:=c) (cur:=cur') (ty:=ct) (fz:=fz) (by rw [hnlen];exact hml) (by rw [hnlen];exact hroom) (by
      rcases hcase with ⟨ho,hcap⟩ | ⟨hc0,ho⟩
      ·omega
      ·omega) (by rw [hcs];exact hoc) g4 (by rw [hcs];exact h6) hget'
     rw [hnflat,hnlen] at hent';have hent'':fW w0 G w' ⟨A.t,yR rg A.xs++nR rfl ys,bo,none,none⟩ (.slice (some ⟨b0,o,none⟩) ((yR rg A.xs).length+ys.length) c) [b0]:=hent';refine ⟨_,_,_,_,hrun,hR.replace ?_ g6.size hA (λc hc hco=>g6.block c hc ?_) rfl rfl hent'' (by simp) (by simp;exact hbg b0 hbown) (λs C hs' hsr b hb => ?_),Gf (w0:=w0) (G:=G) (uU hA rfl) (eA _ _ _) hent''⟩
     ·refine ⟨g6.os.trans hR.kept.os,g6.tape.trans hR.kept.tape,g6.output.trans hR.kept.output,cO hR.kept.size g6.size,λk hk hkO => ?_⟩;rw [g6.block k (cK hk hR.kept.size) (by simp;exact λe=>(hbg b0 hbown).1 (e ▸ ⟨hk,hkO⟩))];exact hR.kept.block k hk hkO
     ·simp;exact λe=>hco (e ▸ hbown)
     ·simp;exact λe=>hbnot s C hs' hsr b hb (e ▸ hbown)
   ·obtain ⟨nb,hnrow,hnflat⟩:=hcast (w.drew.alloc (.cells ((yR rg ocss++css).flatten++rest).toArray e));rw [<- fK] at hrun hlr;have hnlen:(yR rg A.xs++nR rfl ys).length=(yR rg A.xs).length+ys.length:=by rw [aO];rfl
    have hent':=Ja (w:=w.drew) (sm:=none) (ty:=e) (cap:=nc) hnrow hnflat (by rw [hnlen];exact hnc1) hnc2 (by rw [hlr];exact aT _);rw [hnlen] at hent';refine ⟨_,_,_,_,hrun,hR.replace (hR.kept.drew.alloc _) (by simp [Nm,vZ]) hA (λc hc _ => ?_) rfl rfl hent' (by simp) (by rw [vZ];intro b hb;simp at hb;subst hb;exact hR.out_new (aT _)) (λs C hs' _ b hb => ?_),Gf (w0:=w0) (G:=G) (uU hA rfl) (eA _ _ _) hent'⟩
    ·exact mJ _ _ _ hc
    ·have:=hR.own_lt hs' b hb;rw [vZ];simp;omega
theorem Xn {tab:List TI} (hT:jP P tab) (hR:bT n K w0 G w a E L V own) {T T2 ty:TypeId} {s x:Operand} {cs:List Prop} {pv:PV} {E':eD} {L':bG} (h:aQ7 tab E L T T2 (opnd E s) (opnd E x)=some (cs,pv,E',L')) (hc:eZ cs) :
  ∃ v w' V' own',(gD #[T,T2] ty #[a.eval s,a.eval x]).run P w = .ok v w'/\bT n K w0 G w' a E' L' V' own'/\kH w0 G L' V' pv v:=by
 unfold aQ7 at h;split at h
 ·rename_i S X hs hx;split at h
  ·rename_i e t by' ht
   split at h
   ·rename_i ys hck hsrc;simp only [aJ,Rq] at hck;obtain ⟨hsz,hby1⟩:=hck;have hS:=hT T;rw [ht] at hS;obtain ⟨_,hu,he,hby⟩:=hS;obtain ⟨i,hi,hbi⟩:∃ i,P.info? e=some i/\i.bytes=by':=by
     cases hi:P.info? e with
     | none=>rw [hi] at hby;cases hby
     | some i=>rw [hi] at hby;simp at hby;exact ⟨i,rfl,hby⟩
    obtain ⟨d,css,bss,hd1,hd2,hb0,hrow,hfc,hlen⟩:=aGa hT hR hx hsrc;obtain ⟨l1,l2,l3⟩:=(hrow w true (.inr rfl)).len;have hone:=(hrow w true (.inr rfl)).one (λy c b h=>aH8 h);split at h
    ·cases h;obtain ⟨e1,e2⟩:=hR.valEq hs;obtain ⟨e3,e4⟩:=e2;subst e3 e4;obtain ⟨v,w',V',own',g1,g2,g3⟩:=append_nil hT hR hu hd1 hd2 hi hbi he hsz hby1 hb0 (bo := !t.flat) (λw1=>hrow w1 _ (by cases t.flat <;> simp)) hfc hlen l3 hone hc.1 e1;exact ⟨v,w',V',own',g1,g2.1,g3⟩
    ·rename_i r rg;split at h
     ·rename_i A hA;split at h
      ·rename_i hte;subst hte;split at h
       ·rename_i hok;cases h;refine aBq hT hR hu hd1 hd2 hi hbi he (bo:=A.bor || !A.t.flat) (λw1 y c b hy hh => ?_) hsz hby1 hb0 (λw1=>hrow w1 _ (by cases A.t.flat <;> simp)) hfc hlen l3 hone hA hs hc;cases hf:A.t.flat with
        | true=>exact aFX hf hh
        | false =>
         unfold aP6 at hok;rw [hf] at hok;simp only [sN,j8,lQ] at hok;rcases hok with hb | he
         ·rw [hb] at hh ⊢;exact ⟨hh.1,rfl⟩
         ·rw [he] at hy;cases hy
       ·cases h
      ·cases h
     ·cases h
    ·cases h
   ·cases h
  ·cases h
 ·cases h
end
section
variable {P:Program} {n:Nat} {K:jK} {G:Nat->Prop} {w0 w:World} {a:Act} {E:eD} {L:bG} {V:Nat->Value} {own:Nat->List Nat}
end
def oU:(t:Ty)->t.den->List Value
 | .int k,n=>[.int k n]
 | .bool,b=>[.bool b]
 | .fn,f=>[fnV f]
 | .str,s=>[.string s]
 | .sl _,_=>[]
 | .unit,_=>[]
 | .cons a b,x=>oU a x.1++oU b x.2
theorem wA {w:World}:∀ {t:Ty} {x:t.den} {cs:List Value} {bs:List Nat},t.flat=true->gB w t x cs bs->cs=oU t x
 | .int _,_,_,_,_,h=>h.1
 | .bool,_,_,_,_,h=>h.1
 | .fn,_,_,_,_,h=>h.1
 | .str,_,_,_,_,h=>h.1
 | .unit,_,_,_,_,h=>h.1
 | .cons _ _,_,_,_,hf,⟨c1,c2,b1,b2,h,_,h1,h2⟩=>by
  simp only [Gy,aJ] at hf;rw [h,wA hf.1 h1,wA hf.2 h2];rfl
def aE8:List aY->Option (List (dD×Value))
 | []=>some []
 | d :: r=>match d.t.flat,aE8 r with
  | true,some s=>some ((iG d.t d.x,gH d.t (oU d.t d.x)) :: s)
  | _,_=>none
def T6 (ext:sE) (L:bG) (f:FuncId) (ps:List PV):Option (List Prop×PV) :=
 match ext with
 | []=>none
 | (g,S) :: r=>match cG f g with
  | true=>match sR L S.sig ps with
   | some (x,os,us)=>match os.flatten,SV S.kds,aE8 (S.res x) with
    | [],true,some vs=>some ([S.pre x],TY (vs.map hI))
    | _,_,_=>T6 r L f ps
   | none=>T6 r L f ps
  | false=>T6 r L f ps
def Gg (E:eD) (f:Operand) (args:List Operand):Option (FuncId×List PV) :=
 match opnd E f with
 | .fn g caps=>some (g,args.map (opnd E)++caps.map PV.a)
 | .a (.val v)=>match aFN v with
  | some (some g)=>some (g,args.map (opnd E))
  | _=>none
 | _=>none
def opQ (tab:List TI) (ext:sE) (wr:Bool) (E:eD) (L:bG):Op->Option (List Prop×PV)
 | .call { callee := .value f,args,argTypes }=>match Gg E f args.toList with
  | some (g,ps)=>T6 ext L g ps
  | none=>none
 | .convert s d x=>match aQ5 tab L s d (opnd E x) with
  | some r=>some ([],.a (.val (.string r)))
  | none=>Uq tab wr E L (.convert s d x)
 | op=>Uq tab wr E L op
def opM (tab:List TI) (ext:sE) (wr:Bool) (E:eD) (L:bG):Op->Option (List Prop×PV×eD×bG)
 | .box T x=>match aML tab wr T (opnd E x) with
  | some A=>some ([],.a (PM L.length A),E,L++[some A])
  | none=>none
 | .alloc T=>match Uy tab T with
  | some A=>some ([],.a (PM L.length A),E,L++[some A])
  | none=>none
 | .buildSlice T n parts=>match Ge tab T n (parts.toList.map λp=>(p.1,opnd E p.2)) with
  | some A=>some ([],.a (.osl L.length none),E,L++[some A])
  | none=>none
 | .makeSlice T l c=>match aE6 tab T (opnd E l) (opnd E c) with
  | some (cs,A)=>some (cs,.a (.osl L.length none),E,L++[some A])
  | none=>none
 | .store T x y=>match Uz tab L T (opnd E x) (opnd E y) with
  | some L'=>some ([],.a .junk,E,L')
  | none=>none
 | .call { callee := .value f,args,argTypes }=>match Gg E f args.toList with
  | some (g,ps)=>TZ ext E L g ps
  | none=>none
 | .call { callee := .builtin .append,args,argTypes }=>match args.toList,argTypes.toList with
  | [s,x],[T,T2]=>aQ7 tab E L T T2 (opnd E s) (opnd E x)
  | _,_=>none
 | .convert s d x=>match aMN tab s d (opnd E x) with
  | some A=>some ([],.a (.osl L.length none),E,L++[some A])
  | none=>match opQ tab ext wr E L (.convert s d x) with
   | some (cs,pv)=>some (cs,pv,E,L)
   | none=>none
 | op=>match opQ tab ext wr E L op with
  | some (cs,pv)=>some (cs,pv,E,L)
  | none=>none
section
variable {P:Program} {n:Nat} {K:jK} {G:Nat->Prop} {w0 w:World} {a:Act} {E:eD} {L:bG} {V:Nat->Value} {own:Nat->List Nat}
theorem VA {g:FuncId} (h:uS P g) (args:Array Value) (w:World):(callFunc g args).run P w = .ok (.enter g args) w:=by
 obtain ⟨fn,h1,h2,h3⟩:=h;unfold callFunc;simp only [bO,run_program,aW,h1,h2,h3,dJ,if_false,cM]
theorem Jd {g:FuncId} (h:uS P g) {ρ:Operand->Value} {o:Oper} {f:Operand} {args:Array Operand} {ts:Array TypeId} (ho:o.op = .call { callee := .value f,args,argTypes:=ts }) {vs:List Value} (hf:ρ f = .func (.func g) #[] vs.toArray) (w:World) :
  (execOp ρ o).run P w = .ok (.enter g ((args.toList.map ρ)++vs).toArray) w:=by
 simp only [execOp,ho,resolve,bO,hf,Deferred.ofValue,cM,aW,invoke];rw [VA h]
 congr 2
 apply wY.1;simp
theorem yZ (hR:bT n K w0 G w a E L V own) {f:Operand} {args:List Operand} {g:FuncId} {ps:List PV} (h:Gg E f args=some (g,ps)) :
  ∃ vs,a.eval f = .func (.func g) #[] vs.toArray/\zY w0 G L V ps (args.map a.eval++vs):=by
 unfold Gg at h;split at h
 ·rename_i g' caps hf;cases h;have hx:=hR.opnd f;rw [hf] at hx;obtain ⟨vs,hv,hr⟩:=hx;exact ⟨vs,hv,J8 (hR.opnds args) (NK hr)⟩
 ·rename_i v hf;split at h
  ·rename_i g' hu;cases h;have hx:=hR.valEq hf;refine ⟨[],by rw [hx.1,Um hu];rfl,?_⟩;rw [c6];exact hR.opnds args
  ·cases h
 ·cases h
theorem PP {Gc F:Nat->Prop}:∀ {ks:List RK} {ds:List aY} {vs:List (dD×Value)} {rs:List Value} {rbs:List (List Nat)} {w:World},SV ks=true->aE8 ds=some vs->SP w Gc F ks ds rs rbs->rs=vs.map Aq/\rQ w0 G L V (vs.map hI) rs
 | ks,[],vs,rs,rbs,w,hk,h,hr=>by
  have hr':rs=[]:=by cases ks <;> exact hr.1
  cases h;exact ⟨hr',hr'⟩
 | ks,d :: r,vs,rs,rbs,w,hk,h,hr=>by
  have hr':∃ v s b bs,rs=v :: s/\rbs=b :: bs/\Oj w Gc F (RK.hd ks) d v b/\SP w Gc F ks.tail r s bs:=by cases ks <;> exact hr
  obtain ⟨v,s,b,bs,h1,h2,h34,h5⟩:=hr';have hk1:RK.hd ks = .own:=by
   cases ks with
   | nil=>rfl
   | cons k ks=>cases k <;> first | rfl | cases hk
  have hk2:SV ks.tail=true:=by
   cases ks with
   | nil=>rfl
   | cons k ks=>cases k <;> first | exact hk | cases hk
  rw [hk1] at h34;obtain ⟨cs,h3,h4⟩:=h34;simp only [aE8] at h;split at h
  ·rename_i s' hf hs;cases h;obtain ⟨e1,e2⟩:=PP hk2 hs h5;subst h1;have hc:=wA hf h3;have hv:v=gH d.t (oU d.t d.x):=by
    rw [<- hc];obtain ⟨t,x⟩:=d;cases t <;> simp only [zV] at h4 <;> subst h4 <;> rfl
   obtain ⟨ha,_⟩:=PG (w0:=w0) (L:=L) (V:=V) hf h3 h4 G;exact ⟨by rw [bP, <- e1, <- hv],⟨v,s,rfl,ha,e2⟩⟩
  ·cases h
theorem CZ {own:Nat->List Nat} {os:List (List Nat)} (h:os.flatten=[]):(sI own os).flatten=[]:=by
 rw [nJ,h];rfl
theorem DM:∀ {ext:sE} (hX:nQ P ext) (hR:bT n K w0 G w a E L V own) {f:FuncId} {ps:List PV} {vs:List Value} {cs:List Prop} {pv:PV}
  (hps:zY w0 G L V ps vs) (h:T6 ext L f ps=some (cs,pv)) (hc:eZ cs),
  uS P f/\∃ v,kH w0 G L V pv v/\∀ w',cE [] w w'->Calls P f vs.toArray w' λe w''=>e = .returned v/\cE [] w' w''
 | [],_,_,_,_,_,_,_,_,h,_=>by cases h
 | (g,S) :: r,hX,hR,f,ps,vs,cs,pv,hps,h,hc=>by
  obtain ⟨⟨hcall,hcon⟩,hX'⟩:=hX;simp only [T6] at h;split at h
  ·rename_i hfg;obtain rfl:=aX hfg;split at h
   ·rename_i x os us hd;split at h
    ·rename_i vals hos hok hsc;cases h;simp only [eZ] at hc;obtain ⟨l1,_⟩:=rD hR hps hd;have hall:∀ w',cE [] w w'->Calls P f vs.toArray w' λe w''=>e = .returned (ER (vals.map Aq))/\cE [] w' w''/\rQ w0 G L V (vals.map hI) (vals.map Aq):=by
      intro w' k;have hargs:=xO (q:=nZ L S.sig ps) hR k (G':=Er G own us) (λb hb => .inl hb) hps hd (λh=>h) (λr hr b hb => .inr ⟨r,hr,hb⟩);refine (hcon w' (Er G own us) (Ut K G (nZ L S.sig ps)) x _ _ (hR.gok k (by rw [CZ hos];simp)) (λb hb => ?_) (λb hb => .inl ?_) hc.1 hargs (by rw [CZ hos];exact fS)).mono ?_
      ·rw [CZ hos];refine ⟨cK ?_ k.size,by simp⟩;rcases hb with hb | ⟨r,hr,hb⟩
       ·exact hR.glt b hb
       ·obtain ⟨A,hA⟩:=l1 r hr;exact hR.own_lt hA b hb
      ·unfold Ut at hb;split at hb
       ·exact hR.gsub b hb
       ·exact hb
      ·rintro e w'' ⟨rs,ubs,rbs,F,rfl,hk,hrr,_⟩;obtain ⟨rfl,ho⟩:=PP (w0:=w0) (G:=G) (L:=L) (V:=V) hok hsc hrr;rw [CZ hos] at hk;exact ⟨rfl,hk,ho⟩
     obtain ⟨_,_,_,⟨_,_,hokk⟩,_⟩:=hall w (cI _ _) [];exact ⟨hcall,ER (vals.map Aq),Lr hokk,λw' k=>(hall w' k).mono λe w'' hh=>⟨hh.1,hh.2.1⟩⟩
    ·exact DM hX' hR hps h hc
   ·exact DM hX' hR hps h hc
  ·exact DM hX' hR hps h hc
theorem SY (xs:List Int):(lU xs).size=xs.length:=by
 have key:∀ (xs:List Int) (s:ByteArray),(xs.foldl (λr n=>r.push (UInt8.ofNat n.toNat)) s).size=s.size+xs.length:=by
  intro xs
  induction xs with
  | nil=>intro s;rfl
  | cons x r ih=>intro s;simp only [dY,ih,ByteArray.size_push,bA];omega
 simpa [lU] using key xs aC
theorem aH9 {tab:List TI} (hT:jP P tab) (hR:bT n K w0 G w a E L V own) {s d:TypeId} {x:Operand} {r:ByteArray} (h:aQ5 tab L s d (opnd E x)=some r) :
  Hy (.string r)/\∀ w',cE [] w w'->(convert s d (a.eval x)).run P w' = .ok (.string r) w':=by
 unfold aQ5 at h;split at h
 ·rename_i A hA;split at h
  ·rename_i e b xs hs hd hdec;cases h;have hS:=hT s;rw [hs] at hS;have hD:=hT d;rw [hd] at hD;have hrep:=λw' k=>J7 hR (w':=w') k (G':=λ_=>True) (λ_ _=>trivial) (hR.atom hA) hdec (λ_ _ _ _=>trivial);have hlen:=(hrep w (cI _ _)).1;refine ⟨?_,λw' k => ?_⟩
   ·show (lU xs).size<=maxLen;rw [SY];exact hlen
   ·have hr:=hrep w' k;rcases hr.2 with ⟨ad,e1,e2⟩ | ⟨b',off,cap,e1,e2,e3,e4,e5⟩
    ·have:xs=[]:=e2;subst this;rw [e1,run_convert_bytes_string w' s d e ad 0 0 hS.2.1 hS.2.2.1.int_und hD.str_und];cases ad with
     | none=>rfl
     | some ad =>
      refine run_bytesToString w' _ _ _ [] ?_;have:=run_loadCells_list (P:=P) w' ad [] (λj v hj=>by simp at hj);simpa using this
    ·rw [e1,run_convert_bytes_string w' s d e _ _ _ hS.2.1 hS.2.2.1.int_und hD.str_und];refine run_bytesToString w' _ _ _ xs ?_;have:=run_loadCells_list (P:=P) w' ⟨b',off,none⟩ (xs.map (C9 .u8)) (λj v hj=>by
      rw [gZ] at hj;cases hx:xs[j]? with
      | none=>rw [hx] at hj;cases hj
      | some y =>
       rw [hx] at hj;cases hj;obtain ⟨cs,g1,g2,g3⟩:=e5 j y hx;obtain ⟨g3,_⟩:=g3;subst g3;have:=g2 0 _ rfl;rw [fH];simpa [jX] using this)
     simp only [eJ] at this;exact this
  ·cases h
 ·cases h
theorem Je {tab:List TI} {ext:sE} (hT:jP P tab) (hX:nQ P ext) (hR:bT n K w0 G w a E L V own) {wr:Bool} {o:Oper} {cs:List Prop} {pv:PV}
  (h:opQ tab ext wr E L o.op=some (cs,pv)) (hc:eZ cs) :
  ∃ v,kH w0 G L V pv v/\∀ w',cE [] w w'->o.quietAt P a (cE [] w') w' v:=by
 have plain:∀ {op:Op} (ho:o.op=op),Uq tab wr E L op=some (cs,pv)->∃ v,kH w0 G L V pv v/\∀ w',cE [] w w'->o.quietAt P a (cE [] w') w' v:=by
  intro op ho h;rw [<- ho] at h;obtain ⟨v,hv,hr⟩:=TP hT hR h hc;refine ⟨v,hv,λw' k => ?_⟩;unfold kN;rw [hr w' (λ_=>k)];exact ⟨rfl,rfl⟩
 unfold opQ at h;split at h
 ·rename_i f args ts ho;split at h
  ·rename_i g ps hg;obtain ⟨vs,hv,hps⟩:=yZ hR hg;obtain ⟨hcall,v,hrep,hcalls⟩:=DM hX hR hps h hc;refine ⟨v,hrep,λw' k => ?_⟩;unfold kN;rw [Jd hcall ho hv];exact ⟨rfl,hcalls w' k⟩
  ·cases h
 ·rename_i s d x ho;split at h
  ·rename_i r hr;cases h;obtain ⟨h1,h2⟩:=aH9 hT hR hr;refine ⟨_,⟨rfl,h1⟩,λw' k => ?_⟩;unfold kN;simp only [execOp,ho];rw [fU _ _ _ _ (h2 w' k)];exact ⟨rfl,rfl⟩
  ·exact plain ho h
 ·exact plain rfl h
theorem Xo {tab:List TI} (hT:jP P tab) (hR:bT n K w0 G w a E L V own) {s d:TypeId} {x:Operand} {A:hY} (h:aMN tab s d (opnd E x)=some A) :
  ∃ v w' V' own',(convert s d (a.eval x)).run P w = .ok v w'/\Xh n K w0 G w w' a E L (L++[some A]) V V' own own'/\kH w0 G (L++[some A]) V' (.a (.osl L.length none)) v:=by
 unfold aMN at h;split at h
 ·rename_i b hx;split at h
  ·rename_i e by' hs hd
   cases h;obtain ⟨e1,e2⟩:=hR.valEq hx;have hS:=hT s;rw [hs] at hS;have hD:=hT d;rw [hd] at hD;have hcapg:=grownCap_ge w b.size 0 e;have hcapm:=grownCap_le_maxLen w b.size 0 e e2;have hrow:∀ (l:List UInt8) (w1:World) (bor:Bool),vY (lO w0 G w1 (.int .u8) bor) (lF Dx).size (l.map λb=>(b.toNat:Int)) (l.map λb=>[.int .u8 (b.toNat:Int)]) (l.map λ_=>[]):=by
    intro l w1 bor
    induction l with
    | nil=>exact ⟨rfl,rfl⟩
    | cons b l ih =>
     refine ⟨_,_,_,_,rfl,rfl,rfl,?_,ih⟩;refine Xm (w:=w1) (G:=λ_=>True) (t := .int .u8) (x:=(b.toNat:Int)) (cs:=[.int .u8 (b.toNat:Int)]) ⟨rfl,?_⟩ rfl bor _ _;have hb:=b.toNat_lt;simp [cC,oI,oJ,mY,kO];omega
   let cells:Array Value:=(b.data.map λx => .int .u8 x.toNat)++gR (grownCap w b.size 0 e - b.size) (.int .u8 0)
   have hcs:cells.size=grownCap w b.size 0 e:=by
    simp only [cells,nA,Array.size_map,Array.size_replicate];have:b.data.size=b.size:=rfl;omega
   let w2:World:=(w.drew.alloc (.cells cells e)).freeze ⟨w.heap.size,cells.size,none⟩ 1
   have hk:cE [] w w2:=by
    refine ⟨rfl,rfl,rfl,by simp [w2,LB],λk hk _ => ?_⟩;have h1:(w.drew.alloc (.cells cells e)).heap[k]? = w.heap[k]? := mJ w.drew _ k hk;simp only [w2,LB,OQ,if_false,mM];rw [if_neg (by omega)];exact h1
   have hb2:w2.heap[w.heap.size]? = some (.cells cells e (cells.size,cells.size+1)):=by
    have h1:=AA w.drew (.cells cells e);have hsz:w.drew.heap.size=w.heap.size:=rfl;rw [hsz] at h1;have hlt:w.heap.size<(w.drew.alloc (.cells cells e)).heap.size:=by simp [Nm,hsz]
    have h2:(w.drew.alloc (.cells cells e)).heap[w.heap.size] = .cells cells e:=by
     rw [gJ hlt] at h1;exact pK h1
    simp only [w2,LB,OQ,if_false,mM,if_pos,h1];simp
   have hent:=rE (hrow b.data.toList w2 false) (b:=w.heap.size) (off:=0) (cap:=grownCap w b.size 0 e) (cur:=cells) (ty:=e) (fz:=(cells.size,cells.size+1)) (by rw [eJ];exact e2) (by rw [eJ];exact hcapg) hcapm (by rw [hcs,cV,show (lF Dx).size=1 from rfl,Nat.mul_one];exact aT _) hb2 ⟨aMP _,.inl rfl⟩ (λj c hj=>by
    have hfl:∀ l:List UInt8,(l.map λb=>[C9 .u8 (b.toNat:Int)]).flatten=l.map λb=>C9 .u8 (b.toNat:Int):=by
     intro l
     induction l with
     | nil=>rfl
     | cons x l ih=>simp only [bP,bK,ih];rfl
    rw [hfl] at hj;have hlt:=(bH.1 hj).1;rw [cV, <- cX];simp only [cells,Array.toList_append,Array.toList_map];rw [bV hlt];exact hj)
   have hnil:((b.data.toList.map λ_=>([]:List Nat))).flatten=[]:=by simp
   rw [hnil] at hent;have hent':fW w0 G w2 ⟨.int .u8,cY b,false,none,none⟩ (.slice (some ⟨w.heap.size,0,none⟩) (cY b).length (grownCap w b.size 0 e)) [w.heap.size]:=hent;refine ⟨_,_,_,_,?_,hR.freshN hk hent' (by simp) (by simp),sJ (w0:=w0) (G:=G) (u:=w0) (G':=G) hent'⟩;have hlen:(cY b).length=b.size:=by simp [cY]
   rw [e1,hlen];have hsz:w.drew.heap.size=w.heap.size:=rfl;have hsh:(w.drew.alloc (.cells cells e)).shape? w.heap.size=some (e,cells.size):=by
    have h1:=AA w.drew (.cells cells e);rw [hsz] at h1;simp only [zD, h1]
   have hforced:(tV b.size 0 e).forced=false:=rfl;have hgc:(tV b.size 0 e).cut (w.tape w.drawn (.appendCap b.size 0 e))=grownCap w b.size 0 e:=rfl;have hdr:({ w with drawn:=w.drawn+1 }:World)=w.drew:=rfl;unfold convert;simp only [bO,run_underlying hS.str_und,run_underlying hD.2.1,aW,run_underlying hD.2.2.1.int_und];unfold Conv.stringToBytes;simp only [bO,run_choose,hforced,dJ,if_false,aW,hgc,hdr,newRow,run_newObj,cM];show ((markStringish ⟨w.drew.heap.size,0,none⟩).run P (w.drew.alloc (.cells cells e))).andThen _=_;unfold markStringish;rw [hsz];simp only [bO,run_shape,hsh,aW,run_freeze];rfl
  ·cases h
 ·cases h
end
def VB (r:Nat) (A:hY):fT->fT
 | .osl s rg=>match cG s r with
  | true => .sl A.t (yR rg A.xs)
  | false => .osl s rg
 | l=>l
def NN (r:Nat) (A:hY) (ls:List fT):List fT:=ls.map (VB r A)
def y5 (r:Nat) (A:hY):dD->dD
 | .osl s rg=>match cG s r with
  | true => .sl A.t (yR rg A.xs)
  | false => .osl s rg
 | .optr s i p=>match cG s r with
  | true=>match J2 p ⟨A.t,A.xs.getD i A.t.dflt⟩ with
   | some d => .ptr d.t d.x
   | none => .junk
  | false => .optr s i p
 | .rcd t ls=>match t.agg,sY t (NN r A ls) with
  | true,some x => .st t x
  | _,_ => .rcd t (NN r A ls)
 | .bptr s o t=>match cG s r with
  | true => .junk
  | false => .bptr s o t
 | X=>X
def aXu (r:Nat) (A:hY):PV->PV
 | .a X => .a (y5 r A X)
 | .tup xs => .tup (xs.map (y5 r A))
 | .fn f xs => .fn f (xs.map (y5 r A))
def aMQ (r:Nat) (A:hY) (E:eD):eD:=E.map λq=>(q.1,aXu r A q.2)
def FA (r:Nat) (A:hY) (B:hY):hY:=match B.ls with
 | some ls=>⟨B.t,B.xs,B.bor,some (NN r A ls),B.sm⟩
 | none=>B
def SZ (r:Nat) (A:hY) (L:bG):bG:=L.map λo=>match o with | some B=>some (FA r A B) | none=>none
def aBr (r:Nat) (EL:eD×bG):eD×bG :=
 match b7 EL.2 r with
 | some A=>match A.ls with
  | none=>(aMQ r A EL.1,SZ r A (iE EL.2 r none))
  | some _=>EL
 | none=>EL
def IJ:List Nat->eD×bG->eD×bG
 | [],EL=>EL
 | r :: s,EL=>IJ s (aBr r EL)
def aP8 (E:eD) (x:Operand):List Nat :=
 match opnd E x with
 | .a (.osl r _)=>[r]
 | .a (.rcd _ ls)=>iF ls
 | _=>[]
def VC (E:eD):List Operand->List Nat
 | []=>[]
 | x :: r=>aP8 E x++VC E r
def aHA (E:eD):Op->List Nat
 | .build T parts=>VC E (parts.toList.map Aq)
 | .buildSlice T n parts=>VC E (parts.toList.map Aq)
 | .store T x y=>aP8 E y
 | .call { callee := .value f,args,argTypes }=>VC E args.toList
 | _=>[]
def VD:dD->dD
 | .rcd t ls=>match t.agg,sY t ls with
  | true,some x => .st t x
  | _,_ => .rcd t ls
 | X=>X
def stP:PV->PV
 | .a X => .a (VD X)
 | p=>p
def stE (E:eD):eD:=E.map λq=>(q.1,stP q.2)
def bGd (EL:eD×bG):eD×bG:=(stE EL.1,EL.2)
def NO (op:Op) (EL:eD×bG):eD×bG:=bGd (IJ (aHA EL.1 op) EL)
section
variable {P:Program} {n:Nat} {K:jK} {G:Nat->Prop} {w0 w:World} {a:Act} {E:eD} {L:bG} {V:Nat->Value} {own:Nat->List Nat}
theorem Xp (r:Nat) (A:hY):∀ (E:eD) (i:Nat),(aMQ r A E).get i=aXu r A (E.get i)
 | [],i=>rfl
 | (j,p) :: s,i=>by
  simp only [aMQ,bP,nW];cases h:cG j i with
  | true=>rfl
  | false=>exact Xp r A s i
theorem Lt (r:Nat) (A:hY):∀ (L:bG) (s:Nat),b7 (SZ r A L) s=(b7 L s).map (FA r A)
 | [],_=>rfl
 | some B :: L,0=>rfl
 | none :: L,0=>rfl
 | _ :: L,s+1=>by simp only [SZ,bP,b7];exact Lt r A L s
theorem aHB (r:Nat) (A B:hY):(FA r A B).t=B.t:=by unfold FA;split <;> rfl
theorem aMR (r:Nat) (A B:hY):(FA r A B).sm=B.sm:=by unfold FA;split <;> rfl
theorem aHC (r:Nat) (A B:hY):(FA r A B).bor=B.bor:=by unfold FA;split <;> rfl
theorem aHD (r:Nat) (A B:hY):(FA r A B).xs.length=B.xs.length:=by unfold FA;split <;> rfl
theorem Xq {w0 w:World} {G:Nat->Prop} {r:Nat} {A B:hY} {v:Value} {bs:List Nat}:fW w0 G w (FA r A B) v bs↔fW w0 G w B v bs:=by
 unfold FA;split
 ·exact Iff.rfl
 ·exact Iff.rfl
theorem aE9 {r:Nat} {A B:hY}:(∀ ls,B.ls=some ls->(FA r A B).ls=some (NN r A ls))/\∀ ls',(FA r A B).ls=some ls'->∃ ls,B.ls=some ls/\ls'=NN r A ls:=by
 unfold FA;split
 ·rename_i ls h;refine ⟨λl hl => ?_,λl hl => ?_⟩
  ·rw [h] at hl;cases hl;rfl
  ·cases hl;exact ⟨ls,h,rfl⟩
 ·rename_i h;refine ⟨λl hl => ?_,λl hl => ?_⟩
  ·rw [h] at hl;cases hl
  ·rw [h] at hl;cases hl
theorem bT.freeze (hR:bT n K w0 G w a E L V own) {r:Nat} {A:hY} (hA:b7 L r=some A) (hls:A.ls=none) :
  ∃ w0' G',bT n K w0' G' w a (aMQ r A E) (SZ r A (iE L r none)) V own:=by
 let G':Nat->Prop:=λb=>G b\/b∈own r
 have hG:∀ b,G b->G' b:=λb hb => .inl hb;have hread:lT w G' (dW w G' A.t) A.t.size A.xs (V r):=hR.lend (cI _ _) hG hA (λb hb => .inr hb);have hback:∀ s B,b7 (SZ r A (iE L r none)) s=some B->s≠r/\∃ C,b7 L s=some C/\B=FA r A C:=by
  intro s B hs;rw [Lt] at hs;by_cases hsr:s=r
  ·subst hsr;rw [iQ hA] at hs;cases hs
  ·rw [dO (jL hsr)] at hs;cases hC:b7 L s with
   | none=>rw [hC] at hs;cases hs
   | some C=>rw [hC] at hs;cases hs;exact ⟨hsr,C,rfl,rfl⟩
 have hag:∀ s,s≠r->mN L V (SZ r A (iE L r none)) V s:=λs hs=>by
  refine ⟨rfl,λB hB=>⟨FA r A B,?_,aHB r A B,aHD r A B,λls h=>⟨_,aE9.1 ls h⟩⟩⟩;rw [Lt,dO (jL hs),hB];rfl
 have hsub:∀ {rg:Option (Nat×Nat)} {v:Value},Ld L V r rg v->lT w G' (dW w G' A.t) A.t.size (yR rg A.xs) v:=by
  rintro rg v ⟨B,hB,_,hs⟩;rw [hA] at hB;cases hB;cases rg with
  | none=>exact hread.whole hs
  | some q=>obtain ⟨lo,hi⟩:=q;exact hread.sub (nn:=0) hs
 have leaf:∀ {l:fT} {v:Value},Oi w0 G L V l v->Oi w G' (SZ r A (iE L r none)) V (VB r A l) v:=by
  intro l v h;cases l with
  | val u=>exact h
  | sl t xs=>exact lT.keep (λ_ _=>dW.keep hG hR.gref) hG hR.gref h
  | osl s rg =>
   simp only [VB];cases hb:cG s r with
   | true =>
    obtain rfl:=aX hb;exact hsub h
   | false=>exact DD h (hag s λe=>by subst e;simp at hb)
  | junk=>exact h
 have leafs:∀ {ls:List fT} {cs:List Value},gV w0 G L V ls cs->gV w G' (SZ r A (iE L r none)) V (NN r A ls) cs:=by
  intro ls
  induction ls with
  | nil=>intro cs h;exact h
  | cons l s ih=>rintro cs ⟨v,t,h1,h2,h3⟩;exact ⟨v,t,h1,leaf h2,ih h3⟩
 have atom:∀ {X:dD} {v:Value},kZ w0 G L V X v->kZ w G' (SZ r A (iE L r none)) V (y5 r A X) v:=by
  intro X v h;cases X with
  | val u=>exact h
  | sl t xs=>exact lP (A := .sl t xs) hG hR.gref h
  | ptr t x=>exact lP (A := .ptr t x) hG hR.gref h
  | st t x=>exact lP (A := .st t x) hG hR.gref h
  | junk=>exact h
  | osl s rg =>
   simp only [y5];cases hb:cG s r with
   | true =>
    obtain rfl:=aX hb;exact hsub h
   | false=>exact DD h (hag s λe=>by subst e;simp at hb)
  | optr s i p =>
   simp only [y5];cases hb:cG s r with
   | true =>
    obtain rfl:=aX hb;cases hd:J2 p ⟨A.t,A.xs.getD i A.t.dflt⟩ with
    | none=>trivial
    | some d=>exact PB hR (cI _ _) (G':=G') hG (A := .optr s i p) (t:=d.t) (x:=d.x) h (by unfold aH2;simp only [hA,hd];simp [aEz]) (λu hu b hb'=>by simp only [EU,sG,bI] at hu;rw [hu] at hb';exact .inr hb')
   | false =>
    refine zZ (A := .optr s i p) (w0:=w) (G:=G') h λu hu => ?_;simp only [sG,bI] at hu;rw [hu];exact hag s λe=>by subst e;simp at hb
  | rcd t ls =>
   obtain ⟨cs,h1,h2,h3⟩:=h;have h4:=leafs h3;simp only [y5];split
   ·rename_i x ha hx;exact ⟨cs,h1,jA h4 hx⟩
   ·exact ⟨cs,h1,by simpa [NN] using h2,h4⟩
  | bptr s o t =>
   simp only [y5];cases hb:cG s r with
   | true=>trivial
   | false =>
    refine zZ (A := .bptr s o t) (w0:=w) (G:=G') h λu hu => ?_;simp only [sG,bI] at hu;rw [hu];exact hag s λe=>by subst e;simp at hb
 have atoms:∀ {xs:List dD} {vs:List Value},rQ w0 G L V xs vs->rQ w G' (SZ r A (iE L r none)) V (xs.map (y5 r A)) vs:=by
  intro xs
  induction xs with
  | nil=>intro vs h;exact h
  | cons X s ih=>rintro vs ⟨v,t,h1,h2,h3⟩;exact ⟨v,t,h1,atom h2,ih h3⟩
 refine ⟨w,G',hR.glob,hR.kept,hR.size,hR.defers,?_,λ_ _=>rfl,λb hb => .inl (hR.gsub b hb),hR.gold,(λb hb=>hb.elim (hR.gup b) λh => .inr (hR.good r A hA b h).1),?_,?_,?_,?_,?_,?_,λi => ?_⟩
 ·rintro b (hb | hb)
  ·exact hR.glt b hb
  ·exact hR.own_lt hA b hb
 ·intro s B hs;obtain ⟨_,C,h2,rfl⟩:=hback s B hs;exact Xq.2 ((hR.heap s C h2).keepG hG hR.gref (λ_ _=>rfl))
 ·intro s B hs b hb;obtain ⟨h1,C,h2,rfl⟩:=hback s B hs;obtain ⟨g1,g2⟩:=hR.good s C h2 b hb;exact ⟨g1,λh=>h.elim g2 (hR.apart s r C A h2 hA h1 b hb)⟩
 ·intro s B hs;obtain ⟨_,C,h2,rfl⟩:=hback s B hs;exact hR.nodup s C h2
 ·intro s u B D hs hu hsu;obtain ⟨_,C,h2,rfl⟩:=hback s B hs;obtain ⟨_,F,h4,rfl⟩:=hback u D hu;exact hR.apart s u C F h2 h4 hsu
 ·intro s B ls hs hl;obtain ⟨_,C,h2,rfl⟩:=hback s B hs;obtain ⟨l0,h0,rfl⟩:=aE9.2 ls hl;obtain ⟨b,off,cs,k1,k3,k4,k5,k6⟩:=hR.boxs s C l0 h2 h0;rw [aHB];exact ⟨b,off,cs,k1,k3,by simpa [NN] using k4,k5,leafs k6⟩
 ·intro s B q hs hq;obtain ⟨_,C,h2,rfl⟩:=hback s B hs;rw [aMR] at hq;obtain ⟨g1,g2⟩:=hR.small s C q h2 hq;exact ⟨g1,λe=>⟨by rw [aHC];exact (g2 e).1,Xq.2 ((g2 e).2.keepG (λ_ h=>h) (λb hb=>hR.gref b (hR.gsub b hb)) (λ_ _=>rfl))⟩⟩
 ·rw [Xp];have hi:=hR.env i;generalize E.get i=p at hi;cases p with
  | a X=>exact atom hi
  | tup xs=>obtain ⟨vs,hv,hr⟩:=hi;exact ⟨vs,hv,atoms hr⟩
  | fn f xs=>obtain ⟨vs,hv,hr⟩:=hi;exact ⟨vs,hv,atoms hr⟩
theorem FB:∀ {rs:List Nat} {E:eD} {L:bG} {w0:World} {G:Nat->Prop},bT n K w0 G w a E L V own->∃ w0' G',bT n K w0' G' w a (IJ rs (E,L)).1 (IJ rs (E,L)).2 V own
 | [],E,L,w0,G,hR=>⟨w0,G,hR⟩
 | r :: s,E,L,w0,G,hR=>by
  show ∃ w0' G',bT n K w0' G' w a (IJ s (aBr r (E,L))).1 (IJ s (aBr r (E,L))).2 V own;have h1:∃ w0' G',bT n K w0' G' w a (aBr r (E,L)).1 (aBr r (E,L)).2 V own:=by
   unfold aBr;split
   ·rename_i A hA;split
    ·rename_i hls;exact hR.freeze hA hls
    ·exact ⟨w0,G,hR⟩
   ·exact ⟨w0,G,hR⟩
  obtain ⟨w1,G1,h1⟩:=h1;generalize aBr r (E,L)=EL at h1;obtain ⟨E1,L1⟩:=EL;exact FB h1
theorem PQ {A:dD} {v:Value} (h:kZ w0 G L V A v):kZ w0 G L V (VD A) v:=by
 cases A with
 | rcd t ls =>
  simp only [VD];split
  ·rename_i x ha hx;obtain ⟨cs,h1,h2,h3⟩:=h;exact ⟨cs,h1,jA h3 hx⟩
  ·exact h
 | _=>exact h
theorem aEA:∀ (E:eD) (i:Nat),(stE E).get i=stP (E.get i)
 | [],i=>rfl
 | (j,p) :: s,i=>by
  simp only [stE,bP,nW];cases h:cG j i with
  | true=>rfl
  | false=>exact aEA s i
theorem bT.stE (hR:bT n K w0 G w a E L V own):bT n K w0 G w a (Am.stE E) L V own :=
 ⟨hR.glob,hR.kept,hR.size,hR.defers,hR.glt,hR.gref,hR.gsub,hR.gold,hR.gup,hR.heap,hR.good,hR.nodup,hR.apart,hR.boxs,hR.small,λi=>by
  rw [aEA];have hi:=hR.env i;generalize E.get i=p at hi;cases p with
  | a X=>exact PQ hi
  | tup xs=>exact hi
  | fn f xs=>exact hi⟩
theorem PR (hR:bT n K w0 G w a E L V own) (op:Op):∃ w0' G',bT n K w0' G' w a (NO op (E,L)).1 (NO op (E,L)).2 V own:=by
 obtain ⟨w1,G1,h⟩:=FB (rs:=aHA E op) hR;exact ⟨w1,G1,h.stE⟩
end
section
variable {P:Program} {n:Nat} {K:jK} {G:Nat->Prop} {w0 w:World} {a:Act} {E:eD} {L:bG} {V:Nat->Value} {own:Nat->List Nat}
theorem j5 {o:Oper} {next:Act->World->Prop} {Q:Exit->Act->World->Prop} {v:Value} {w w':World} (h:(execOp a.eval o).run P w = .ok (.value v) w') (hn:next (a.put o.dst v) w'):o.wp P a w next Q:=by
 unfold nY;rw [h];exact hn
theorem S0 (hR:bT n K w0 G w a E L V own) {o:Oper} {next:Act->World->Prop} {Q:Exit->Act->World->Prop} {v:Value} (h:o.quietAt P a (cE [] w) w v)
  (hn:∀ w',bT n K w0 G w' a E L V own->next (a.put o.dst v) w'):o.wp P a w next Q:=by
 unfold kN at h;unfold nY;generalize (execOp a.eval o).run P w=r at *;cases r with
 | ok nx w' =>
  cases nx <;> simp only [qZ] at h <;> simp only [HH]
  case value u=>obtain ⟨rfl,rfl⟩:=h;exact hn _ hR
  case skip=>obtain ⟨rfl,rfl⟩:=h;exact hn _ hR
  case enter f args =>
   obtain ⟨rfl,hc⟩:=h;refine hc.mono ?_;rintro e w'' ⟨rfl,hk⟩;exact hn _ (hR.ext hk)
 | halt x w'=>simp only [qZ] at h
theorem Xr {tab:List TI} {ext:sE} (hT:jP P tab) (hX:nQ P ext) (hR:bT n K w0 G w a E L V own) {wr:Bool} {o:Oper} {cs:List Prop} {pv:PV} {E':eD} {L':bG}
  (h:opM tab ext wr E L o.op=some (cs,pv,E',L')) (hc:eZ cs) {next:Act->World->Prop} {Q:Exit->Act->World->Prop}
  (hn:∀ v w0' G' w' V' own',bT n K w0' G' w' a E' L' V' own'->kH w0' G' L' V' pv v->next (a.put o.dst v) w'):o.wp P a w next Q:=by
 have quiet:∀ {op:Op} (ho:o.op=op) {r:Option (List Prop×PV×eD×bG)},(match opQ tab ext wr E L op with | some (cs,pv)=>some (cs,pv,E,L) | none=>none)=some (cs,pv,E',L')->o.wp P a w next Q:=by
  intro op ho r h;split at h
  ·rename_i cs1 pv1 hq;cases h;rw [<- ho] at hq;obtain ⟨v,hv,hqa⟩:=Je hT hX hR hq hc;exact S0 hR (hqa w (cI _ _)) λw' hR'=>hn v w0 G w' V own hR' hv
  ·cases h
 unfold opM at h;split at h
 ·rename_i T x ho;split at h
  ·rename_i A hA;cases h;obtain ⟨v,w',V',own',h1,h2,h3⟩:=Xj hT hR hA;exact j5 (w':=w') (by simp only [execOp,ho];exact fU _ _ _ _ h1) (hn _ _ _ _ _ _ h2.1 h3)
  ·cases h
 ·rename_i T ho;split at h
  ·rename_i A hA;cases h;obtain ⟨v,w',V',own',h1,h2,h3⟩:=PN hT hR hA;exact j5 (w':=w') (by simp only [execOp,ho];exact fU _ _ _ _ h1) (hn _ _ _ _ _ _ h2.1 h3)
  ·cases h
 ·rename_i T k parts ho;split at h
  ·rename_i A hA;cases h;obtain ⟨v,w',V',own',h1,h2,h3⟩:=Hc hT hR hA;exact j5 (w':=w') (by simp only [execOp,ho];exact fU _ _ _ _ h1) (hn _ _ _ _ _ _ h2.1 h3)
  ·cases h
 ·rename_i T l c ho;split at h
  ·rename_i cs1 A hA;cases h;obtain ⟨v,w',V',own',h1,h2,h3⟩:=T4 hT hR hA hc;exact j5 (w':=w') (by simp only [execOp,ho];exact fU _ _ _ _ h1) (hn _ _ _ _ _ _ h2.1 h3)
  ·cases h
 ·rename_i T x y ho;split at h
  ·rename_i L1 hL;cases h;obtain ⟨w',h1,h2,_⟩:=PO hT hR hL;unfold nY;have:(execOp a.eval o).run P w = .ok .skip w':=by simp [execOp,ho,h1]
   rw [this];exact hn _ _ _ _ _ _ h2 trivial
  ·cases h
 ·rename_i f args ts ho;split at h
  ·rename_i g ps hg;obtain ⟨vs,hv,hps⟩:=yZ hR hg;obtain ⟨hcall,hcalls⟩:=DH hX hR hps h hc;unfold nY;rw [Jd hcall ho hv];refine hcalls.mono ?_;rintro e w' ⟨v,w0',G',V',own',rfl,h1,h2⟩;exact hn _ _ _ _ _ _ h1 h2
  ·cases h
 ·rename_i args ts ho;split at h
  ·rename_i s x T T2 hargs hts;obtain ⟨v,w',V',own',h1,h2,h3⟩:=Xn (ty:=o.type) hT hR h hc;refine j5 (w':=w') ?_ (hn _ _ _ _ _ _ h2 h3);have ea:args = #[s,x]:=by cases args;simp_all
   have et:ts = #[T,T2]:=by cases ts;simp_all
   subst ea et;simp only [execOp,ho,resolve,bO,cM,aW,invoke];have:(builtin .append #[T,T2] o.type (#[s,x].map fun | .const _=>true | _=>false) (#[s,x].map a.eval)).run P w = .ok (.value v) w':=by
    simp only [builtin];refine fU _ _ _ _ ?_;simpa using h1
   exact this
  ·cases h
 ·rename_i s d x ho;split at h
  ·rename_i A hA;cases h;obtain ⟨v,w',V',own',h1,h2,h3⟩:=Xo hT hR hA;exact j5 (w':=w') (by simp only [execOp,ho];exact fU _ _ _ _ h1) (hn _ _ _ _ _ _ h2.1 h3)
  ·exact quiet (r:=none) ho h
 ·exact quiet (r:=none) rfl h
theorem aGb {tab:List TI} {ext:sE} (hT:jP P tab) (hX:nQ P ext) (hR:bT n K w0 G w a E L V own) {wr:Bool} {o:Oper} {cs:List Prop} {pv:PV} {E':eD} {L':bG}
  (h:(match opM tab ext wr E L o.op with | some r=>some r | none=>opM tab ext wr (NO o.op (E,L)).1 (NO o.op (E,L)).2 o.op)=some (cs,pv,E',L')) (hc:eZ cs) {next:Act->World->Prop} {Q:Exit->Act->World->Prop}
  (hn:∀ v w0' G' w' V' own',bT n K w0' G' w' a E' L' V' own'->kH w0' G' L' V' pv v->next (a.put o.dst v) w'):o.wp P a w next Q:=by
 split at h
 ·rename_i r hr;cases h;exact Xr hT hX hR hr hc hn
 ·obtain ⟨w1,G1,h1⟩:=PR hR o.op;exact Xr hT hX h1 h hc hn
end
structure St where
 path:List Bool
 dec:List (Nat×Bool)
 E:eD
 L:bG
 cs:List Prop
 pins:List Nat
def Lu:List Oper->Nat->Option Oper
 | [],_=>none
 | o :: _,0=>some o
 | _ :: r,n+1=>Lu r n
def FC:List (Nat×Bool)->Nat->Option Bool
 | [],_=>none
 | (t,d) :: r,n=>match cG t n with | true=>some d | false=>FC r n
def PS (t:Nat):List (Nat×Bool)->List (Nat×Bool)
 | []=>[]
 | (s,d) :: r=>match cG s t with | true=>PS t r | false=>(s,d) :: PS t r
def bGe:Bool->Bool->Bool
 | true,b=>b
 | false,b => !b
def xC (S:St) (t:Nat):Option (Bool×St) :=
 match FC S.dec t with
 | some d=>some (d,S)
 | none=>match S.E.get t,S.path with
  | .a (.val (.bool b)),d :: p=>some (d,⟨p,(t,d) :: S.dec,S.E,S.L,S.cs++[b=d],S.pins⟩)
  | _,_=>none
def Bm (all:List Oper) (S:St):Option (Nat×Bool)->Option (Bool×St)
 | none=>some (true,S)
 | some (j,want)=>match Lu all j with
  | some o=>match o.dst with
   | some t=>match S.E.get t with
    | .a (.val (.tuple _))=>some (false,S)
    | _=>match xC S t with
     | some (d,S')=>some (bGe d want,S')
     | none=>none
   | none=>none
  | none=>none
def Eb (n:Nat) (S:St) (E:eD) (L:bG) (cs:List Prop):Option Nat->PV->Option St
 | none,_=>some ⟨S.path,S.dec,E,L,S.cs++cs,S.pins⟩
 | some d,pv=>match LA d n && !vJ d S.pins with
  | true=>some ⟨S.path,PS d S.dec,E.set d pv,L,S.cs++cs,S.pins⟩
  | false=>none
def vM (tab:List TI) (ext:sE) (wr:Bool) (n:Nat) (quiet:Bool) (all:List Oper) (S:St) (o:Oper):Option St :=
 match Bm all S o.guard with
 | none=>none
 | some (false,S)=>Eb n S S.E S.L [] o.dst (.a (.val undef))
 | some (true,S)=>match o.op with
  | .pick (.tmp c) x y=>match xC S c with
   | some (d,S)=>Eb n S S.E S.L [] o.dst (cond d (opnd S.E x) (opnd S.E y))
   | none=>none
  | op=>match quiet with
   | true=>match opQ tab ext wr S.E S.L op with
    | some (cs,pv)=>Eb n S S.E S.L cs o.dst pv
    | none=>none
   | false=>match (match opM tab ext wr S.E S.L op with | some r=>some r | none=>opM tab ext wr (NO op (S.E,S.L)).1 (NO op (S.E,S.L)).2 op) with
    | some (cs,pv,E,L)=>Eb n S E L cs o.dst pv
    | none=>none
def Lv (tab:List TI) (ext:sE) (wr:Bool) (n:Nat) (quiet:Bool) (all:List Oper):List Oper->St->Option St
 | [],S=>some S
 | o :: r,S=>match vM tab ext wr n quiet all S o with
  | some S'=>Lv tab ext wr n quiet all r S'
  | none=>none
section
variable {P:Program} {n:Nat} {K:jK} {G:Nat->Prop} {w0 w:World} {a:Act} {E:eD} {L:bG} {V:Nat->Value} {own:Nat->List Nat}
theorem xD:∀ (l:List Oper) (j:Nat),Lu l j=l[j]?
 | [],j=>rfl
 | o :: r,0=>rfl
 | o :: r,j+1=>by simp [Lu,xD r j]
def hZ (q:Nat->Value) (a:Act) (S:St):Prop:=(∀ t d,FC S.dec t=some d->a.tmps.getD t undef = .bool d)/\∀ t∈S.pins,a.tmps.getD t undef=q t
theorem IK:∀ (dec:List (Nat×Bool)) (s t:Nat),FC (PS s dec) t=if s=t then none else FC dec t
 | [],s,t=>by simp [PS,FC]
 | (u,d) :: r,s,t=>by
  simp only [PS];cases h:cG u s with
  | true =>
   obtain rfl:=aX h;rw [IK r u t];by_cases ht:u=t
   ·simp [ht]
   ·simp only [if_neg ht,FC,vT ht]
  | false =>
   have hne:u≠s:=λe=>by subst e;simp at h
   simp only [FC,IK r s t];cases ht:cG u t with
   | true =>
    obtain rfl:=aX ht;simp only [ht,if_neg (jL hne)]
   | false=>rfl
theorem hZ.put {q:Nat->Value} {S S':St} (h:hZ q a S) (d:Nat) (v:Value) (hp:d ∉ S.pins) (e1:S'.dec=PS d S.dec) (e2:S'.pins=S.pins):hZ q (a.put (some d) v) S':=by
 have other:∀ t,d≠t->(a.put (some d) v).tmps.getD t undef=a.tmps.getD t undef:=λt hne=>by
  simp only [Act.put];simp [cR, nT hne]
 constructor
 ·intro t b hb;rw [e1,IK] at hb;split at hb
  ·cases hb
  ·rename_i hne;rw [other t hne];exact h.1 t b hb
 ·intro t ht;rw [e2] at ht;rw [other t (λe=>hp (by rw [e];exact ht))];exact h.2 t ht
theorem oV {q:Nat->Value} {S S':St} {t:Nat} {d:Bool} (hR:bT n K w0 G w a S.E S.L V own) (hd:hZ q a S) (h:xC S t=some (d,S')) (hc:eZ S'.cs) :
  a.tmps.getD t undef = .bool d/\S'.E=S.E/\S'.L=S.L/\hZ q a S'/\eZ S.cs:=by
 unfold xC at h;split at h
 ·rename_i d' hl;cases h;exact ⟨hd.1 _ _ hl,rfl,rfl,hd,hc⟩
 ·split at h
  ·rename_i b d' p hg hp;cases h;obtain ⟨h1,h2⟩:=b9.1 hc;have hv:=hR.valEq (x := .tmp t) (v := .bool b) (by simp only [opnd];rw [hg]);have hb:b=d:=h2.1;subst hb;refine ⟨hv.1,rfl,rfl,⟨?_,hd.2⟩,h1⟩;intro s c hs;simp only [FC] at hs;split at hs
   ·rename_i hst;obtain rfl:=aX hst;cases hs;exact hv.1
   ·exact hd.1 s c hs
  ·cases h
end
def T7 (ext:sE) (L:bG) (f:FuncId) (ps:List PV):Option (List Prop×PV×bG) :=
 match ext with
 | []=>none
 | (g,S) :: r=>match cG f g with
  | true=>match sR L S.sig ps with
   | some (x,os,us)=>match os.flatten,SV S.kds||us.isEmpty,BS L (nZ L S.sig ps) S.sig ps os (S.upd x) with
    | [],true,some (cs,[],[])=>match IH L.length S.kds (S.res x) with
     | (ats,es)=>some (S.pre x :: cs,TY ats,L++es)
    | _,_,_=>T7 r L f ps
   | none=>T7 r L f ps
  | false=>T7 r L f ps
def opK (tab:List TI) (ext:sE) (E:eD) (L:bG):Op->Option (List Prop×PV×bG)
 | .box T x=>match aML tab false T (opnd E x) with
  | some A=>some ([],.a (PM L.length A),L++[some A])
  | none=>none
 | .alloc T=>match Uy tab T with
  | some A=>some ([],.a (PM L.length A),L++[some A])
  | none=>none
 | .buildSlice T n parts=>match Ge tab T n (parts.toList.map λp=>(p.1,opnd E p.2)) with
  | some A=>some ([],.a (.osl L.length none),L++[some A])
  | none=>none
 | .makeSlice T l c=>match aE6 tab T (opnd E l) (opnd E c) with
  | some (cs,A)=>some (cs,.a (.osl L.length none),L++[some A])
  | none=>none
 | .call { callee := .value f,args,argTypes }=>match Gg E f args.toList with
  | some (g,ps)=>T7 ext L g ps
  | none=>none
 | .convert s d x=>match aMN tab s d (opnd E x) with
  | some A=>some ([],.a (.osl L.length none),L++[some A])
  | none=>none
 | _=>none
section
variable {P:Program} {n:Nat} {K:jK} {G:Nat->Prop} {w0 w:World} {a:Act} {E:eD} {L:bG} {V:Nat->Value} {own:Nat->List Nat}
theorem DN:∀ {ext:sE} (hX:nQ P ext) (hR:bT n K w0 G w a E L V own) {f:FuncId} {ps:List PV} {vs:List Value} {cs:List Prop} {pv:PV} {L':bG}
  (hps:zY w0 G L V ps vs) (h:T7 ext L f ps=some (cs,pv,L')) (hc:eZ cs),
  uS P f/\Calls P f vs.toArray w λe w'=>∃ v w0' G' V' own',e = .returned v/\cE [] w w'/\bT n K w0' G' w' a E L' V' own'/\kH w0' G' L' V' pv v
 | [],_,_,_,_,_,_,_,_,_,h,_=>by cases h
 | (g,S) :: r,hX,hR,f,ps,vs,cs,pv,L',hps,h,hc=>by
  obtain ⟨⟨hcall,hcon⟩,hX'⟩:=hX;simp only [T7] at h;split at h
  ·rename_i hfg;obtain rfl:=aX hfg;split at h
   ·rename_i x os us hd;split at h
    ·rename_i cd hos hko hpl;cases h;obtain ⟨hpre,hc⟩:=hc;simp only [j8,lQ] at hko;obtain ⟨l1,_⟩:=rD hR hps hd;have hon:=CZ (own:=own) hos;have hargs:=xO (q:=nZ L S.sig ps) hR (cI [] w) (G':=Er G own us) (λb hb => .inl hb) hps hd (λh=>h) (λr hr b hb => .inr ⟨r,hr,hb⟩);refine ⟨hcall,(hcon w (Er G own us) (Ut K G (nZ L S.sig ps)) x _ _ (hR.gok (cI _ _) (by rw [hon];simp)) (λb hb => ?_) (λb hb => .inl ?_) hpre hargs (by rw [hon];exact fS)).mono ?_⟩
     ·rw [hon];refine ⟨?_,by simp⟩;rcases hb with hb | ⟨r,hr,hb⟩
      ·exact hR.glt b hb
      ·obtain ⟨A,hA⟩:=l1 r hr;exact hR.own_lt hA b hb
     ·unfold Ut at hb;split at hb
      ·exact hR.gsub b hb
      ·exact hb
     ·intro e w' hpost;obtain ⟨v,w0',G',V',own',h1,hk,h2,h3⟩:=Ls hR hps hd (by rw [hos];exact fS) hko hpl hc hpost;rw [hon] at hk;exact ⟨v,w0',G',V',own',h1,hk,h2,h3⟩
    ·exact DN hX' hR hps h hc
   ·exact DN hX' hR hps h hc
  ·exact DN hX' hR hps h hc
theorem aHE {tab:List TI} {ext:sE} (hT:jP P tab) (hX:nQ P ext) (hR:bT n K w0 G w a E L V own) {o:Oper} {cs:List Prop} {pv:PV} {L':bG}
  (h:opK tab ext E L o.op=some (cs,pv,L')) (hc:eZ cs) {next:Act->World->Prop} {Q:Exit->Act->World->Prop}
  (hn:∀ v w0' G' w' V' own',cE [] w w'->bT n K w0' G' w' a E L' V' own'->kH w0' G' L' V' pv v->next (a.put o.dst v) w'):o.wp P a w next Q:=by
 unfold opK at h;split at h
 ·rename_i T x ho;split at h
  ·rename_i A hA;cases h;obtain ⟨v,w',V',own',h1,h2,h3⟩:=Xj hT hR hA;exact j5 (w':=w') (by simp only [execOp,ho];exact fU _ _ _ _ h1) (hn _ _ _ _ _ _ h2.2.kept h2.1 h3)
  ·cases h
 ·rename_i T ho;split at h
  ·rename_i A hA;cases h;obtain ⟨v,w',V',own',h1,h2,h3⟩:=PN hT hR hA;exact j5 (w':=w') (by simp only [execOp,ho];exact fU _ _ _ _ h1) (hn _ _ _ _ _ _ h2.2.kept h2.1 h3)
  ·cases h
 ·rename_i T k parts ho;split at h
  ·rename_i A hA;cases h;obtain ⟨v,w',V',own',h1,h2,h3⟩:=Hc hT hR hA;exact j5 (w':=w') (by simp only [execOp,ho];exact fU _ _ _ _ h1) (hn _ _ _ _ _ _ h2.2.kept h2.1 h3)
  ·cases h
 ·rename_i T l c ho;split at h
  ·rename_i cs1 A hA;cases h;obtain ⟨v,w',V',own',h1,h2,h3⟩:=T4 hT hR hA hc;exact j5 (w':=w') (by simp only [execOp,ho];exact fU _ _ _ _ h1) (hn _ _ _ _ _ _ h2.2.kept h2.1 h3)
  ·cases h
 ·rename_i f args ts ho;split at h
  ·rename_i g ps hg;obtain ⟨vs,hv,hps⟩:=yZ hR hg;obtain ⟨hcall,hcalls⟩:=DN hX hR hps h hc;unfold nY;rw [Jd hcall ho hv];refine hcalls.mono ?_;rintro e w' ⟨v,w0',G',V',own',rfl,h0,h1,h2⟩;exact hn _ _ _ _ _ _ h0 h1 h2
  ·cases h
 ·rename_i s d x ho;split at h
  ·rename_i A hA;cases h;obtain ⟨v,w',V',own',h1,h2,h3⟩:=Xo hT hR hA;exact j5 (w':=w') (by simp only [execOp,ho];exact fU _ _ _ _ h1) (hn _ _ _ _ _ _ h2.2.kept h2.1 h3)
  ·cases h
 ·cases h
end
def T8:List Nat->List Nat
 | []=>[]
 | x :: r=>match vJ x r with
  | true=>T8 r
  | false=>x :: T8 r
theorem Lw:∀ {l:List Nat} {k:Nat},k∈T8 l->k∈l
 | x :: r,k,h=>by
  simp only [T8] at h;split at h
  ·exact aM _ (Lw h)
  ·rcases aR.1 h with rfl | h
   ·exact aQ ..
   ·exact aM _ (Lw h)
def aP9 (ops:Array Oper) (js:List Nat):List Nat:=js.flatMap λj=>match ops[j]? with
 | some o=>(o.after.toList.filter λe=>fI .any e).map λe=>e.on
 | none=>[]
def aMS (ops:Array Oper):Nat->List Nat->List Nat
 | 0,_=>[]
 | m+1,js=>match T8 (aP9 ops js) with
  | []=>[]
  | x :: r=>(x :: r)++aMS ops m (x :: r)
def isT:Op->Bool
 | .extract _ _=>true
 | _=>false
def aMT (ops:Array Oper) (k:Nat):Bool:=match ops[k]? with
 | some o=>isT o.op
 | none=>false
def Lx (ops:Array Oper) (listed:Array Bool) (i:Nat):Bool :=
 (List.range ops.size).all λk => !listed.getD k true||(aMT ops k||vJ k (aMS ops ops.size [i]))
def Ec (ops:Array Oper) (listed:Array Bool):Prop :=
 ∀ k o,listed.getD k false=true->ops[k]? = some o->∀ e∈o.after,fI .any e=true->listed.getD e.on false=true
section
variable {P:Program} {ops:Array Oper} {Q:Exit->Act->World->Prop}
theorem Ec.start (ops:Array Oper) (m:Nat):Ec ops (gR m false):=λk o h=>by
 exfalso;rw [cR, Array.getElem?_replicate] at h;split at h <;> simp at h
theorem Ec.set {listed:Array Bool} (h:Ec ops listed) {i:Nat} (hi:i∈eN .any ops listed):Ec ops (listed.setIfInBounds i true):=by
 intro k o hk ho e he hb;by_cases hki:i=k
 ·subst hki;obtain ⟨_,o',ho',hall⟩:=mem_ready.1 hi;rw [ho] at ho';cases ho';exact getD_set_true (hall e he hb)
 ·rw [getD_set_ne false hki] at hk;exact getD_set_true (h k o hk ho e he hb)
theorem Xs {listed:Array Bool} (hD:Ec ops listed):∀ {m:Nat} {js:List Nat},(∀ j∈js,∀ o,ops[j]? = some o->∀ e∈o.after,fI .any e=true->listed.getD e.on false=true) ->
  ∀ k∈aMS ops m js,listed.getD k false=true
 | 0,_,_,k,hk=>by cases hk
 | m+1,js,h,k,hk=>by
  have hd:∀ k∈T8 (aP9 ops js),listed.getD k false=true:=by
   intro k hk;obtain ⟨j,hj,hk⟩:=List.mem_flatMap.1 (Lw hk);split at hk
   ·rename_i o ho;obtain ⟨e,he,rfl⟩:=eE.1 hk;obtain ⟨he,hb⟩:=yP.1 he;exact h j hj o ho e (by simpa using he) hb
   ·cases hk
  simp only [aMS] at hk;split at hk
  ·cases hk
  ·rename_i x r hxr;rw [hxr] at hd;rcases bU.1 hk with hk | hk
   ·exact hd k hk
   ·exact Xs hD (λj hj o ho e he hb=>hD j o (hd j hj) ho e he hb) k hk
def nK (P:Program) (ops:Array Oper) (Q:Exit->Act->World->Prop) (F:List Nat):Nat->Array Bool->Act->World->Prop
 | 0,listed,a,w=>∀ w1,cE [] w w1->eN .any ops listed=[]/\Q .normal a w1
 | fuel+1,listed,a,w=>∀ w1,cE [] w w1->(eN .any ops listed=[]->Q .normal a w1) /\
  ∀ i∈eN .any ops listed,wpOp P ops Q i (λa' w'=>(Lx ops listed i=true\/cE F w1 w')/\nK P ops Q F fuel (listed.setIfInBounds i true) a' w') a w1
theorem nK.up {F:List Nat}:∀ {fuel:Nat} {listed:Array Bool} {a:Act} {w w1:World},nK P ops Q F fuel listed a w->cE [] w w1->nK P ops Q F fuel listed a w1
 | 0,_,_,_,_,h,k=>λw2 k2=>h w2 (k.trans k2)
 | _+1,_,_,_,_,h,k=>λw2 k2=>h w2 (k.trans k2)
theorem IL {F:List Nat}:∀ (fuel:Nat) (listed:Array Bool) (a:Act) (w:World),nK P ops Q F fuel listed a w->wpAny P .any ops Q fuel listed a w
 | 0,_,_,w,h=>h w (cI _ _)
 | fuel+1,_,_,w,h=>⟨(h w (cI _ _)).1,λi hi=>wpOp_mono (λa' w' h'=>IL fuel _ a' w' h'.2) ((h w (cI _ _)).2 i hi)⟩
def lA (P:Program) (ops:Array Oper) (F:List Nat) (o:Oper) (v:Value) (a:Act) (w:World):Prop :=
 (eQ o (yielded ops a.tmps)=true/\∀ w',cE F w w'->o.quietAt P a (cE [] w') w' v) \/
 (eQ o (yielded ops a.tmps)=false/\v=undef)
theorem lA.up {F:List Nat} {o:Oper} {v:Value} {a:Act} {w w1:World} (h:lA P ops F o v a w) (k:cE F w w1):lA P ops F o v a w1 :=
 h.imp (λ⟨h1,h2⟩=>⟨h1,λw' k'=>h2 w' (k.trans k')⟩) id
theorem lA.of_same {F:List Nat} {o:Oper} {v:Value} {a a':Act} {w:World} (hy:lA P ops F o v a w) (he:execOp a'.eval o=execOp a.eval o)
  (hw:eQ o (yielded ops a'.tmps)=eQ o (yielded ops a.tmps)):lA P ops F o v a' w:=by
 unfold lA kN at *;rw [he,hw];exact hy
theorem lA.wpOp {F:List Nat} {i:Nat} {o:Oper} {v:Value} {a:Act} {w:World} (hi:ops[i]? = some o) (hy:lA P ops F o v a w)
  {K:Act->World->Prop} (h:∀ w',cE [] w w'->K (a.put o.dst v) w'):wpOp P ops Q i K a w:=by
 unfold Go.wpOp;simp only [hi];rcases hy with ⟨hw,hv⟩ | ⟨hw,rfl⟩
 ·simp only [hw,if_true];refine .inl (Mx (C:=cE [] w) (K:=λa'=>a'=a.put o.dst v) (cI _ _) (λa' w' k e=>by subst e;exact h w' k) ⟨v,λw' k => ?_,rfl⟩);have:=hv w' k.of_nil;unfold kN at this ⊢;generalize (execOp a.eval o).run P w'=r at *;cases r with
  | ok nx w2 =>
   cases nx <;> simp only [qZ] at this ⊢
   case value u=>exact this
   case skip=>exact this
   case enter f args=>exact ⟨this.1,this.2.mono λe w3 hh=>⟨hh.1,k.trans hh.2⟩⟩
  | halt x w2=>simp only [qZ] at this
 ·simp only [hw,dJ,if_false];exact h w (cI _ _)
theorem aGc {F:List Nat} {j:Nat} {oi oj:Oper} {v:Value} (hj:ops[j]? = some oj) (hap:oi.apart ops oj=true)
  (hsi:∀ cs b,oi.op ≠ .select cs b) (hsj:∀ cs b,oj.op ≠ .select cs b)
  (hQ:∀ c a w,¬ Q (.panic c) a w) {K:Act->World->Prop} {a:Act} {w wb:World}
  (hy:lA P ops F oi v a wb) (h:wpOp P ops Q j K (a.put oi.dst v) w) :
  wpOp P ops Q j (λa' w'=>lA P ops F oi v a' wb/\K (a'.put oi.dst v) w') a w:=by
 obtain ⟨h1,h2,h3⟩:=OR hap;have keep:∀ (a:Act),lA P ops F oi v a wb->∀ u,lA P ops F oi v (a.put oj.dst u) wb:=λa hy u =>
  hy.of_same (execOp_put oi hsi a oj.dst u h3) (wanted_put oi a oj.dst u h3)
 have keepD:∀ d,lA P ops F oi v { a with defers:=d :: a.defers } wb:=λd=>hy.of_same rfl rfl;unfold wpOp at *;simp only [hj] at *;rw [wanted_put oj a oi.dst v h1] at h;split
 ·rename_i hw;simp only [hw,if_true] at h;rcases h with h | ⟨hasks,hlets⟩
  case inr=>exact .inr ⟨by unfold aHm at *;rw [execOp_put oj hsj a oi.dst v h1] at hasks;exact hasks,hlets⟩
  refine .inl ?_;unfold nY at *;rw [execOp_put oj hsj a oi.dst v h1] at h;generalize (execOp a.eval oj).run P w=r at *;cases r with
  | ok n w' =>
   cases n <;> simp only [HH] at h ⊢
   case value u=>exact ⟨keep a hy u,by rw [<- j1 a v u h2];exact h⟩
   case skip=>exact ⟨keep a hy _,by rw [<- j1 a v undef h2];exact h⟩
   case defer d =>
    refine ⟨keep _ (keepD d) _,?_⟩;rw [<- j1 _ v undef h2, <- Rr];exact h
   case enter f args =>
    refine Calls.mono h λe w'' he => ?_;cases e with
    | returned u=>exact ⟨keep a hy u,by rw [<- j1 a v u h2];exact he⟩
    | panicked c=>exact absurd he (hQ _ _ _)
    | outgrown=>exact he
   case row row args=>exact Rows.mono h λu w'' he=>⟨keep a hy u,by rw [<- j1 a v u h2];exact he⟩
  | halt x w' =>
   cases x <;> simp only [HH] at h ⊢
   case panic u=>exact absurd h (hQ _ _ _)
 ·rename_i hw;simp only [hw] at h;exact ⟨keep a hy _,by rw [<- j1 a v undef h2];exact h⟩
theorem aBs {listed:Array Bool} (hD:Ec ops listed) {i j:Nat} (hn:aMT ops i=false) (hi:i∈eN .any ops listed) (hj:j∈eN .any ops listed):Lx ops (listed.setIfInBounds i true) j=false:=by
 obtain ⟨h0,oi,hoi,_⟩:=mem_ready.1 hi;obtain ⟨_,oj,hoj,hallj⟩:=mem_ready.1 hj;have hilt:i<ops.size:=(j2.1 hoi).1;have hlt:i<listed.size:=by
  rcases eK i listed.size with h | h
  ·exact h
  ·rw [cR, cZ h] at h0;simp at h0
 rw [bN];intro hb;simp only [Lx,jH,Rs] at hb;have h1:=hb i hilt;have h2:(listed.setIfInBounds i true).getD i true=true:=by simp [hlt]
 rw [h2,hn] at h1;simp only [Bool.not_true,sN] at h1;have h3:=Xs hD (m:=ops.size) (js:=[j]) (λk hk o ho e he hbd=>by
  rw [bI] at hk;subst hk;rw [hoj] at ho;cases ho;exact hallj e he hbd) i (zX.1 h1)
 rw [cR, gJ hlt] at h0 h3;simp at h0 h3;rw [h0] at h3;cases h3
def oW (P:Program) (ops:Array Oper) (o:Oper) (v:Value) (a:Act):Prop :=
 (eQ o (yielded ops a.tmps)=true/\∀ w,(execOp a.eval o).run P w = .ok (.value v) w)\/(eQ o (yielded ops a.tmps)=false/\v=undef)
theorem oW.of_same {o:Oper} {v:Value} {a a':Act} (hy:oW P ops o v a) (he:execOp a'.eval o=execOp a.eval o)
  (hw:eQ o (yielded ops a'.tmps)=eQ o (yielded ops a.tmps)):oW P ops o v a':=by
 unfold oW at *;rw [he,hw];exact hy
theorem oW.wpOp {i:Nat} {o:Oper} {v:Value} {a:Act} {w:World} (hi:ops[i]? = some o) (hy:oW P ops o v a) {K:Act->World->Prop} (h:K (a.put o.dst v) w):wpOp P ops Q i K a w:=by
 unfold Go.wpOp;simp only [hi];rcases hy with ⟨hw,hv⟩ | ⟨hw,rfl⟩
 ·simp only [hw,if_true];refine .inl ?_;unfold nY;rw [hv w];exact h
 ·simp only [hw,dJ,if_false];exact h
theorem T9 {j:Nat} {oi oj:Oper} {v:Value} (hj:ops[j]? = some oj) (hap:oi.apart ops oj=true)
  (hsi:∀ cs b,oi.op ≠ .select cs b) (hsj:∀ cs b,oj.op ≠ .select cs b)
  (hQ:∀ c a w,¬ Q (.panic c) a w) {K:Act->World->Prop} {a:Act} {w:World}
  (hy:oW P ops oi v a) (h:wpOp P ops Q j K (a.put oi.dst v) w) :
  wpOp P ops Q j (λa' w'=>oW P ops oi v a'/\K (a'.put oi.dst v) w') a w:=by
 obtain ⟨h1,h2,h3⟩:=OR hap;have keep:∀ (a:Act),oW P ops oi v a->∀ u,oW P ops oi v (a.put oj.dst u):=λa hy u =>
  hy.of_same (execOp_put oi hsi a oj.dst u h3) (wanted_put oi a oj.dst u h3)
 have keepD:∀ d,oW P ops oi v { a with defers:=d :: a.defers }:=λd=>hy.of_same rfl rfl;unfold wpOp at *;simp only [hj] at *;rw [wanted_put oj a oi.dst v h1] at h;split
 ·rename_i hw;simp only [hw,if_true] at h;rcases h with h | ⟨hasks,hlets⟩
  case inr=>exact .inr ⟨by unfold aHm at *;rw [execOp_put oj hsj a oi.dst v h1] at hasks;exact hasks,hlets⟩
  refine .inl ?_;unfold nY at *;rw [execOp_put oj hsj a oi.dst v h1] at h;generalize (execOp a.eval oj).run P w=r at *;cases r with
  | ok n w' =>
   cases n <;> simp only [HH] at h ⊢
   case value u=>exact ⟨keep a hy u,by rw [<- j1 a v u h2];exact h⟩
   case skip=>exact ⟨keep a hy _,by rw [<- j1 a v undef h2];exact h⟩
   case defer d =>
    refine ⟨keep _ (keepD d) _,?_⟩;rw [<- j1 _ v undef h2, <- Rr];exact h
   case enter f args =>
    refine Calls.mono h λe w'' he => ?_;cases e with
    | returned u=>exact ⟨keep a hy u,by rw [<- j1 a v u h2];exact he⟩
    | panicked c=>exact absurd he (hQ _ _ _)
    | outgrown=>exact he
   case row row args=>exact Rows.mono h λu w'' he=>⟨keep a hy u,by rw [<- j1 a v u h2];exact he⟩
  | halt x w' =>
   cases x <;> simp only [HH] at h ⊢
   case panic u=>exact absurd h (hQ _ _ _)
 ·rename_i hw;simp only [hw] at h;exact ⟨keep a hy _,by rw [<- j1 a v undef h2];exact h⟩
theorem aGd {listed:Array Bool} {i j:Nat} (h:Lx ops (listed.setIfInBounds i true) j=true):Lx ops listed j=true:=by
 simp only [Lx,jH,Rs] at h ⊢;intro k hk;have:=h k hk;by_cases hik:i=k
 ·subst hik;cases hl:listed.getD i true with
  | false=>rfl
  | true =>
   have e:(listed.setIfInBounds i true).getD i true=true:=by
    rcases eK i listed.size with h' | h'
    ·simp [h']
    ·rw [cR, cZ (by simpa using h')];rfl
   rw [e] at this;exact this
 ·rw [getD_set_ne true hik] at this;exact this
theorem lA.noMem {F:List Nat} {o:Oper} {v:Value} {a:Act} {w:World} (ho:isT o.op=true) (h:lA P ops F o v a w):oW P ops o v a:=by
 refine h.imp (λ⟨h1,h2⟩=>⟨h1,λw2 => ?_⟩) id;have:=h2 w (cI _ _);unfold kN at this;cases hop:o.op with
 | extract x k =>
  unfold execOp at this ⊢;simp only [hop] at this ⊢;generalize a.eval x=y at this ⊢;simp only [bO] at this ⊢;cases y with
  | tuple vs =>
   unfold Instr.extract at this ⊢;simp only at this ⊢;cases hv:vs[k]? with
   | none=>rw [hv] at this;exact False.elim this
   | some u =>
    rw [hv] at this;have h3:w=w/\u=v:=this;rw [h3.2];rfl
  | _=>exact False.elim this
 | _=>rw [hop] at ho;cases ho
theorem S6 {F:List Nat} {i:Nat} {oi:Oper} {v:Value} (hi:ops[i]? = some oi) (hsel:∀ (j:Nat) (o:Oper) cs b,ops[j]? = some o->o.op ≠ .select cs b)
  (hQ:∀ c a w,¬ Q (.panic c) a w) :
  ∀ (fuel:Nat) (listed:Array Bool) (a:Act) (w:World),Ec ops listed ->
   (∀ j oj,ops[j]? = some oj->j≠i->listed.getD j true=false->(∀ e∈oj.after,fI .any e=true->e.on≠i)->oi.apart ops oj=true) ->
   i∈eN .any ops listed->oW P ops oi v a ->
   nK P ops Q F fuel (listed.setIfInBounds i true) (a.put oi.dst v) w->nK P ops Q F (fuel+1) listed a w:=by
 intro fuel
 induction fuel with
 | zero =>
  intro listed a w hD _ hr hy H w1 k;refine ⟨λh=>(by rw [h] at hr;cases hr),λj hj => ?_⟩;by_cases hji:j=i
  ·subst hji;exact hy.wpOp hi ⟨.inr (cI _ _),H.up k⟩
  ·have:=ready_mono hj hji;rw [(H w1 k).1] at this;cases this
 | succ fuel ih =>
  intro listed a w hD hfree hr hy H w1 k;refine ⟨λh=>(by rw [h] at hr;cases hr),λj hj => ?_⟩;by_cases hji:j=i
  ·subst hji;exact hy.wpOp hi ⟨.inr (cI _ _),H.up k⟩
  ·have h1:=(H w1 k).2 j (ready_mono hj hji);obtain ⟨hjun,oj,hoj,hall⟩:=mem_ready.1 hj;have hnot:∀ e∈oj.after,fI .any e=true->e.on≠i:=λe he hb heq=>by
    have h1:=hall e he hb;have h0:=(mem_ready.1 hr).1;rw [heq] at h1;rcases eK i listed.size with h' | h'
    ·simp [h'] at h0 h1;rw [h0] at h1;cases h1
    ·simp [cZ h'] at h1
   have h2:=T9 hoj (hfree j oj hoj hji hjun hnot) (λcs b=>hsel i oi cs b hi) (λcs b=>hsel j oj cs b hoj) hQ hy h1;have hfree':∀ k ok,ops[k]? = some ok->k≠i->(listed.setIfInBounds j true).getD k true=false ->
     (∀ e∈ok.after,fI .any e=true->e.on≠i)->oi.apart ops ok=true:=λk ok hk hki hun hno=>by
    refine hfree k ok hk hki ?_ hno;by_cases hjk:j=k
    ·subst hjk;exact hjun
    ·rw [getD_set_ne true hjk] at hun;exact hun
   refine wpOp_mono (λa' w' h3 => ?_) h2;obtain ⟨hy',hkk,H'⟩:=h3;refine ⟨hkk.imp aGd id,ih (listed.setIfInBounds j true) a' w' (hD.set hj) hfree' (ready_mono hr (jL hji)) hy' ?_⟩;rw [sO _ _ hji];exact H'
theorem DO {F:List Nat} {i:Nat} {oi:Oper} {v:Value} (hi:ops[i]? = some oi) (hsel:∀ (j:Nat) (o:Oper) cs b,ops[j]? = some o->o.op ≠ .select cs b)
  (hQ:∀ c a w,¬ Q (.panic c) a w) :
  ∀ (fuel:Nat) (listed:Array Bool) (a:Act) (w:World),Ec ops listed ->
   (∀ j oj,ops[j]? = some oj->j≠i->listed.getD j true=false->(∀ e∈oj.after,fI .any e=true->e.on≠i)->oi.apart ops oj=true) ->
   i∈eN .any ops listed->lA P ops F oi v a w ->
   nK P ops Q F fuel (listed.setIfInBounds i true) (a.put oi.dst v) w->nK P ops Q F (fuel+1) listed a w:=by
 by_cases hti:isT oi.op=true
 case pos =>
  intro fuel listed a w hD hfree hr hy H;exact S6 hi hsel hQ fuel listed a w hD hfree hr (hy.noMem hti) H
 have hti:aMT ops i=false:=by unfold aMT;rw [hi];exact bN.2 hti
 intro fuel
 induction fuel with
 | zero =>
  intro listed a w hD _ hr hy H w1 k;refine ⟨λh=>(by rw [h] at hr;cases hr),λj hj => ?_⟩;by_cases hji:j=i
  ·subst hji;exact (hy.up k.of_nil).wpOp hi λw' k'=>⟨.inr k'.of_nil,H.up (k.trans k')⟩
  ·have:=ready_mono hj hji;rw [(H w1 k).1] at this;cases this
 | succ fuel ih =>
  intro listed a w hD hfree hr hy H w1 k;refine ⟨λh=>(by rw [h] at hr;cases hr),λj hj => ?_⟩;by_cases hji:j=i
  ·subst hji;exact (hy.up k.of_nil).wpOp hi λw' k'=>⟨.inr k'.of_nil,H.up (k.trans k')⟩
  ·have h1:=(H w1 k).2 j (ready_mono hj hji);obtain ⟨hjun,oj,hoj,hall⟩:=mem_ready.1 hj;have hnot:∀ e∈oj.after,fI .any e=true->e.on≠i:=λe he hb heq=>by
    have h1:=hall e he hb;have h0:=(mem_ready.1 hr).1;rw [heq] at h1;rcases eK i listed.size with h' | h'
    ·simp [h'] at h0 h1;rw [h0] at h1;cases h1
    ·simp [cZ h'] at h1
   have hbar:=aBs hD hti hr hj;have h2:=aGc hoj (hfree j oj hoj hji hjun hnot) (λcs b=>hsel i oi cs b hi) (λcs b=>hsel j oj cs b hoj) hQ (hy.up k.of_nil) h1;have hfree':∀ k ok,ops[k]? = some ok->k≠i->(listed.setIfInBounds j true).getD k true=false ->
     (∀ e∈ok.after,fI .any e=true->e.on≠i)->oi.apart ops ok=true:=λk ok hk hki hun hno=>by
    refine hfree k ok hk hki ?_ hno;by_cases hjk:j=k
    ·subst hjk;exact hjun
    ·rw [getD_set_ne true hjk] at hun;exact hun
   refine wpOp_mono (λa' w' h3 => ?_) h2;obtain ⟨hy',hkk,H'⟩:=h3;rw [hbar] at hkk;have hkk:cE F w1 w':=hkk.resolve_left (by simp);refine ⟨.inr hkk,ih (listed.setIfInBounds j true) a' w' (hD.set hj) hfree' (ready_mono hr (jL hji)) (hy'.up hkk) ?_⟩;rw [sO _ _ hji];exact H'
theorem nK.mono {F F':List Nat} (hF:∀ k∈F,k∈F'):∀ {fuel:Nat} {listed:Array Bool} {a:Act} {w:World},nK P ops Q F fuel listed a w->nK P ops Q F' fuel listed a w
 | 0,_,_,_,h=>h
 | fuel+1,_,_,_,h=>λw1 k=>⟨(h w1 k).1,λi hi=>wpOp_mono (λa' w' h'=>⟨h'.1.imp id λk'=>k'.mono hF,h'.2.mono hF⟩) ((h w1 k).2 i hi)⟩
end
section
variable {P:Program} {n:Nat} {K:jK} {G:Nat->Prop} {w0 w w':World} {a:Act} {E:eD} {L:bG} {V:Nat->Value} {own:Nat->List Nat}
theorem aHF (hR:bT n K w0 G w a E L V own) {r:Nat} {A:hY} (hA:b7 L r=some A):bT n K w0 G w a (CV r E) (pF r (iE L r none)) V own:=by
 have hp:J9 n K w0 G w a E L V own [r] (λ_=>False) :=
  ⟨hR.glob,hR.kept,hR.size,hR.defers,hR.glt,hR.gref,hR.gsub,hR.gold,hR.gup,λs A h _=>hR.heap s A h,λs A h _=>hR.good s A h,λs A h _=>hR.nodup s A h,λs t A B h1 h2 _ _=>hR.apart s t A B h1 h2,λs A ls h _=>hR.boxs s A ls h,λs A q h _=>hR.small s A q h,hR.env,λs hs=>by (rw [bI] at hs;subst hs;exact ⟨A,hA⟩),λ_ _ _ _ _ _ h=>h⟩
 exact (hp.drop (by simp)).done
theorem Ta {r:Nat} {A0:hY} (hA:b7 L r=some A0) {s:Nat} {A:hY} (hs:b7 (pF r (iE L r none)) s=some A):s≠r/\∃ B,b7 L s=some B/\A=mV r B:=by
 rw [lV] at hs;by_cases hsr:s=r
 ·subst hsr;rw [iQ hA] at hs;cases hs
 ·rw [dO (jL hsr)] at hs;cases hB:b7 L s with
  | none=>rw [hB] at hs;cases hs
  | some B=>rw [hB] at hs;cases hs;exact ⟨hsr,B,rfl,rfl⟩
theorem aQ8 {r:Nat} {A0:hY} (hA:b7 L r=some A0) {pv:PV} {v:Value} (h:kH w0 G (pF r (iE L r none)) V pv v):kH w0 G L V pv v :=
 oT h λs _=>⟨rfl,λA hs=>by
  obtain ⟨_,B,hB,rfl⟩:=Ta hA hs;refine ⟨B,hB,(G7 r B).symm,(G9 r B).symm,λls hls => ?_⟩;obtain ⟨l0,h0,_⟩:=CX.2 ls hls;exact ⟨l0,h0⟩⟩
theorem bT.extF {F:List Nat} (h:bT n K w0 G w a E L V own) (k:cE F w w') (hF:∀ b∈F,Out K G b) (hF2:∀ s A,b7 L s=some A->∀ b∈own s,b ∉ F):bT n K w0 G w' a E L V own where
 glob:=h.glob
 kept:=⟨k.os.trans h.kept.os,k.tape.trans h.kept.tape,k.output.trans h.kept.output,cO h.kept.size k.size,λb hb ho=>(k.block b (cK hb h.kept.size) λhm=>(hF b hm).1 ⟨hb,ho⟩).trans (h.kept.block b hb ho)⟩
 size:=h.size
 defers:=h.defers
 glt:=λb hb=>cK (h.glt b hb) k.size
 gref:=λb hb=>(k.block b (h.glt b hb) λhm=>(hF b hm).2 hb).trans (h.gref b hb)
 gsub:=h.gsub
 gold:=h.gold
 gup:=h.gup
 heap:=λr A hr=>(h.heap r A hr).keep λb hb=>k.block b (h.own_lt hr b hb) (hF2 r A hr b hb)
 good:=h.good
 nodup:=h.nodup
 apart:=h.apart
 boxs:=λr A ls hr hl=>(h.boxs r A ls hr hl).keepB λb off hv=>k.block b (h.own_lt hr b ((h.heap r A hr).block hv (aT _))) (hF2 r A hr b ((h.heap r A hr).block hv (aT _)))
 small:=λr A q hr hs=>⟨(h.small r A q hr hs).1,λe=>⟨((h.small r A q hr hs).2 e).1,((h.small r A q hr hs).2 e).2.keep λb hb=>k.block b (h.own_lt hr b hb) (hF2 r A hr b hb)⟩⟩
 env:=h.env
def bGh:dD->Bool
 | .val _=>true
 | .optr _ _ _=>true
 | .osl _ none=>true
 | .st t _=>t.flat
 | .bptr _ _ _=>true
 | _=>false
def aQ9:PV->Bool
 | .a A=>bGh A
 | _=>false
theorem aHG {pv:PV} (hd:aQ9 pv=true) {v v':Value} (h:kH w0 G L V pv v) (h':kH w0 G L V pv v'):v=v':=by
 cases pv with
 | tup _=>cases hd
 | fn _ _=>cases hd
 | a A =>
  cases A with
  | val u=>exact h.1.trans h'.1.symm
  | optr r i p =>
   obtain ⟨A,hA,_,b,off,m,cap,po,t',e1,e2,e3⟩:=h;obtain ⟨A',hA',_,b',off',m',cap',po',t'',f1,f2,f3⟩:=h';rw [hA] at hA';cases hA';rw [e1] at f1;rw [e2] at f2;cases f1;cases f2;rw [e3,f3]
  | bptr r o t =>
   obtain ⟨A,ls,b,off,hA,_,e1,e2,_⟩:=h;obtain ⟨A',ls',b',off',hA',_,f1,f2,_⟩:=h';rw [e1] at f1;cases f1;rw [e2,f2]
  | osl r rg =>
   cases rg with
   | some _=>cases hd
   | none =>
    obtain ⟨_,_,e,_⟩:=h;obtain ⟨_,_,e',_⟩:=h';rw [e rfl,e' rfl]
  | st t x =>
   obtain ⟨cs,e1,e2⟩:=h;obtain ⟨cs',f1,f2⟩:=h';have hd:t.flat=true:=hd;rw [e1,f1,wA hd (e2.own (w':=w0) hd),wA hd (f2.own (w':=w0) hd)]
  | _=>cases hd
def noMem:Op->Bool
 | .move _=>true
 | .assign _=>true
 | .nilCheck _=>true
 | _=>false
theorem aBt {tab:List TI} (hR:bT n K w0 G w a E L V own) {wr:Bool} {o:Oper} {cs:List Prop} {pv:PV} (hn:noMem o.op=true)
  (h:Uq tab wr E L o.op=some (cs,pv)):∃ v,kH w0 G L V pv v/\∀ w',(execOp a.eval o).run P w' = .ok (.value v) w':=by
 unfold Uq at h;split at h
 ·rename_i x ho;cases h;exact ⟨_,hR.opnd x,λw'=>by simp [execOp,ho]⟩
 ·rename_i x ho;cases h;exact ⟨_,hR.opnd x,λw'=>by simp [execOp,ho]⟩
 ·rename_i x ho;have hx:=hR.opnd x;split at h
  ·rename_i t y hp;cases h;rw [hp] at hx;refine ⟨_,hx,λw' => ?_⟩;obtain ⟨b,off,cs,he,_⟩:=hx;simp [execOp,ho,he]
  ·rename_i r i p hp;cases h;rw [hp] at hx;refine ⟨_,hx,λw' => ?_⟩;obtain ⟨_,_,_,b,off,m,cap,po,t',_,_,he⟩:=hx;simp [execOp,ho,he]
  ·rename_i r o t hp;cases h;rw [hp] at hx;refine ⟨_,hx,λw' => ?_⟩;obtain ⟨_,_,b,off,_,_,_,he,_⟩:=hx;simp [execOp,ho,he]
  ·rename_i f cs hp;cases h;rw [hp] at hx;refine ⟨_,hx,λw' => ?_⟩;obtain ⟨vs,he,_⟩:=hx;simp [execOp,ho,he]
  ·cases h
 all_goals first | (rename_i ho;rw [ho] at hn;cases hn;done) | (cases h;done)
theorem aGe {tab:List TI} {ext:sE} (hT:jP P tab) (hX:nQ P ext) (hR:bT n K w0 G w a E L V own) {r:Nat} {A:hY} (hA:b7 L r=some A) {wr:Bool} {o:Oper} {cs:List Prop} {pv:PV}
  (h:opQ tab ext wr (CV r E) (pF r (iE L r none)) o.op=some (cs,pv)) (hdet:aQ9 pv=true) (hc:eZ cs) :
  ∃ v,kH w0 G L V pv v/\∀ w',cE (own r) w w'->o.quietAt P a (cE [] w') w' v:=by
 have hR1:=aHF hR hA;obtain ⟨v,hv,_⟩:=Je hT hX hR1 h hc;refine ⟨v,aQ8 hA hv,λw' k => ?_⟩;have hR2:bT n K w0 G w' a (CV r E) (pF r (iE L r none)) V own:=hR1.extF k (λb hb=>hR.good r A hA b hb) λs B hs b hb hm=>by
  obtain ⟨hsr,C,hC,rfl⟩:=Ta hA hs;exact hR.apart s r C A hC hA hsr b hb hm
 obtain ⟨v',hv',hq⟩:=Je hT hX hR2 h hc;rw [aHG hdet hv hv'];exact hq w' (cI [] w')
def Tb (ext:sE) (r0:Nat) (E:eD) (L:bG) (f:FuncId) (ps:List PV):Option (List Prop×PV×eD×bG) :=
 match ext with
 | []=>none
 | (g,S) :: r=>match cG f g with
  | true=>match sR L S.sig ps with
   | some (x,os,us)=>match TQ os.flatten us&&x8 os.flatten&&(SV S.kds||us.isEmpty)&&os.flatten.all (cG r0),BS L (nZ L S.sig ps) S.sig ps os (S.upd x) with
    | true,some (cs,acts,ex)=>match uT acts (E,L) with
     | (E',L1)=>match SW ex L1 with
      | L2=>match IH L2.length S.kds (S.res x) with
       | (ats,es)=>some (S.pre x :: cs,TY ats,E',L2++es)
    | _,_=>Tb r r0 E L f ps
   | none=>Tb r r0 E L f ps
  | false=>Tb r r0 E L f ps
theorem DP {r0:Nat}:∀ {ext:sE} (hX:nQ P ext) (hR:bT n K w0 G w a E L V own) {f:FuncId} {ps:List PV} {vs:List Value} {cs:List Prop} {pv:PV} {E':eD} {L':bG}
  (hps:zY w0 G L V ps vs) (h:Tb ext r0 E L f ps=some (cs,pv,E',L')) (hc:eZ cs),
  uS P f/\Calls P f vs.toArray w λe w'=>∃ v w0' G' V' own',e = .returned v/\cE (own r0) w w'/\bT n K w0' G' w' a E' L' V' own'/\kH w0' G' L' V' pv v
 | [],_,_,_,_,_,_,_,_,_,_,h,_=>by cases h
 | (g,S) :: r,hX,hR,f,ps,vs,cs,pv,E',L',hps,h,hc=>by
  obtain ⟨⟨hcall,hcon⟩,hX'⟩:=hX;simp only [Tb] at h;split at h
  ·rename_i hfg;obtain rfl:=aX hfg;split at h
   ·rename_i x os us hd;split at h
    ·rename_i cd acts ex hdis hpl;cases h;obtain ⟨hpre,hc⟩:=hc;simp only [aJ,j8,lQ] at hdis;obtain ⟨⟨⟨hdj,hnb⟩,hko⟩,hall⟩:=hdis;have hnd:=BQ hnb;obtain ⟨l1,l2⟩:=rD hR hps hd;have hH:∀ b∈(sI own os).flatten,∃ r∈os.flatten,b∈own r:=λb hb=>by
      rw [nJ] at hb;obtain ⟨l,hl,hbl⟩:=iH.1 hb;obtain ⟨r,hr,rfl⟩:=eE.1 hl;exact ⟨r,hr,hbl⟩
     have hH0:∀ b∈(sI own os).flatten,b∈own r0:=λb hb=>by
      obtain ⟨r,hr,hbr⟩:=hH b hb;have:=aX (jH.1 hall r hr);rw [this];exact hbr
     have hg:∀ b∈(sI own os).flatten,Out K G b:=λb hb=>by
      obtain ⟨r,hr,hbr⟩:=hH b hb;obtain ⟨A,hA⟩:=l2 r hr;exact hR.good r A hA b hbr
     have hGood:∀ b,Er G own us b->Good w (sI own os).flatten b:=by
      rintro b (hb | ⟨r,hr,hb⟩)
      ·exact ⟨hR.glt b hb,λhm=>(hg b hm).2 hb⟩
      ·obtain ⟨A,hA⟩:=l1 r hr;refine ⟨hR.own_lt hA b hb,λhm => ?_⟩;obtain ⟨s,hs,hbs⟩:=hH b hm;obtain ⟨B,hB⟩:=l2 s hs;have hrs:r≠s:=λe=>IF hdj s hs (e ▸ hr);exact hR.apart r s A B hA hB hrs b hb hbs
     have hargs:=xO (q:=nZ L S.sig ps) hR (cI [] w) (G':=Er G own us) (λb hb => .inl hb) hps hd (λh=>h) (λr hr b hb => .inr ⟨r,hr,hb⟩);have hnd':(sI own os).flatten.Nodup:=by rw [nJ];exact Gd hR hnd l2
     refine ⟨hcall,(hcon w (Er G own us) (Ut K G (nZ L S.sig ps)) x _ _ (hR.gok (cI _ _) hg) hGood (λb hb => .inl ?_) hpre hargs hnd').mono ?_⟩
     ·unfold Ut at hb;split at hb
      ·exact hR.gsub b hb
      ·exact hb
     ·intro e w' hpost;obtain ⟨v,w0',G',V',own',h1,hk,h2,h3⟩:=Ls hR hps hd hnd hko hpl hc hpost;exact ⟨v,w0',G',V',own',h1,hk.mono hH0,h2,h3⟩
    ·exact DP hX' hR hps h hc
   ·exact DP hX' hR hps h hc
  ·exact DP hX' hR hps h hc
def PT (tab:List TI) (ext:sE) (wr:Bool) (n r0:Nat) (all:List Oper) (S:St) (o:Oper):Option St :=
 match Bm all S o.guard with
 | none=>none
 | some (false,S)=>Eb n S S.E S.L [] o.dst (.a (.val undef))
 | some (true,S)=>match o.op with
  | .pick (.tmp c) x y=>match xC S c with
   | some (d,S)=>Eb n S S.E S.L [] o.dst (cond d (opnd S.E x) (opnd S.E y))
   | none=>none
  | op=>match noMem op with
   | true=>match Uq tab wr S.E S.L op with
    | some (cs,pv)=>Eb n S S.E S.L cs o.dst pv
    | none=>none
   | false=>match opQ tab ext wr (CV r0 S.E) (pF r0 (iE S.L r0 none)) op with
    | some (cs,pv)=>match aQ9 pv with
     | true=>Eb n S S.E S.L cs o.dst pv
     | false=>none
    | none=>none
def Xt (tab:List TI) (ext:sE) (n r0:Nat) (all:List Oper) (S:St) (o:Oper):Option St :=
 match Bm all S o.guard with
 | some (true,S)=>match o.op with
  | .call { callee := .value f,args,argTypes }=>match Gg S.E f args.toList with
   | some (g,ps)=>match Tb ext r0 S.E S.L g ps with
    | some (cs,pv,E,L)=>Eb n S E L cs o.dst pv
    | none=>none
   | none=>none
  | .store T x y=>match tgt (opnd S.E x),Uz tab S.L T (opnd S.E x) (opnd S.E y) with
   | some r,some L'=>match cG r r0 with
    | true=>Eb n S S.E L' [] o.dst (.a .junk)
    | false=>none
   | _,_=>none
  | _=>none
 | _=>none
end
section
variable {P:Program} {ops:Array Oper} {Q:Exit->Act->World->Prop}
theorem VE {i:Nat} {oi:Oper} {v:Value} (hi:ops[i]? = some oi) (hsel:∀ (j:Nat) (o:Oper) cs b,ops[j]? = some o->o.op ≠ .select cs b)
  (hQ:∀ c a w,¬ Q (.panic c) a w) :
  ∀ (fuel:Nat) (listed:Array Bool) (a:Act) (w:World),Ec ops listed ->
   (∀ j oj,ops[j]? = some oj->j≠i->listed.getD j true=false->(∀ e∈oj.after,fI .any e=true->e.on≠i)->oi.apart ops oj=true) ->
   i∈eN .any ops listed->oW P ops oi v a ->
   wpAny P .any ops Q fuel (listed.setIfInBounds i true) (a.put oi.dst v) w->wpAny P .any ops Q (fuel+1) listed a w:=by
 intro fuel
 induction fuel with
 | zero =>
  intro listed a w hD _ hr hy H;refine ⟨λh=>(by rw [h] at hr;cases hr),λj hj => ?_⟩;by_cases hji:j=i
  ·subst hji;exact hy.wpOp hi H
  ·have:=ready_mono hj hji;rw [H.1] at this;cases this
 | succ fuel ih =>
  intro listed a w hD hfree hr hy H;refine ⟨λh=>(by rw [h] at hr;cases hr),λj hj => ?_⟩;by_cases hji:j=i
  ·subst hji;exact hy.wpOp hi H
  ·have h1:=H.2 j (ready_mono hj hji);obtain ⟨hjun,oj,hoj,hall⟩:=mem_ready.1 hj;have hnot:∀ e∈oj.after,fI .any e=true->e.on≠i:=λe he hb heq=>by
    have h1:=hall e he hb;have h0:=(mem_ready.1 hr).1;rw [heq] at h1;rcases eK i listed.size with h' | h'
    ·simp [h'] at h0 h1;rw [h0] at h1;cases h1
    ·simp [cZ h'] at h1
   have h2:=T9 hoj (hfree j oj hoj hji hjun hnot) (λcs b=>hsel i oi cs b hi) (λcs b=>hsel j oj cs b hoj) hQ hy h1;have hfree':∀ k ok,ops[k]? = some ok->k≠i->(listed.setIfInBounds j true).getD k true=false ->
     (∀ e∈ok.after,fI .any e=true->e.on≠i)->oi.apart ops ok=true:=λk ok hk hki hun hno=>by
    refine hfree k ok hk hki ?_ hno;by_cases hjk:j=k
    ·subst hjk;exact hjun
    ·rw [getD_set_ne true hjk] at hun;exact hun
   refine wpOp_mono (λa' w' h3 => ?_) h2;obtain ⟨hy',H'⟩:=h3;refine ih (listed.setIfInBounds j true) a' w' (hD.set hj) hfree' (ready_mono hr (jL hji)) hy' ?_;rw [sO _ _ hji];exact H'
end
def PU (tab:List TI) (wr:Bool) (n:Nat) (all:List Oper) (S:St) (o:Oper):Option St :=
 match Bm all S o.guard with
 | none=>none
 | some (false,S)=>Eb n S S.E S.L [] o.dst (.a (.val undef))
 | some (true,S)=>match o.op with
  | .pick (.tmp c) x y=>match xC S c with
   | some (d,S)=>Eb n S S.E S.L [] o.dst (cond d (opnd S.E x) (opnd S.E y))
   | none=>none
  | op=>match Up op with
   | true=>none
   | false=>match Uq tab wr S.E S.L op with
    | some (cs,pv)=>Eb n S S.E S.L cs o.dst pv
    | none=>none
def keepE (E:eD):List Nat->eD
 | []=>[]
 | i :: r=>(i,E.get i) :: keepE E r
theorem Tc (E:eD):∀ (ks:List Nat) (i:Nat),(keepE E ks).get i=if vJ i ks=true then E.get i else .a .junk
 | [],i=>rfl
 | j :: r,i=>by
  simp only [keepE,nW,vJ];cases h:cG j i with
  | true =>
   obtain rfl:=aX h;simp
  | false =>
   have:cG i j=false:=vT (λe=>by subst e;simp at h);simp [this,Tc E r i]
section
variable {P:Program} {n:Nat} {q:Nat->Value} {K:jK} {G:Nat->Prop} {w0 w:World} {a:Act} {V:Nat->Value} {own:Nat->List Nat} {f:FuncId} {R:Ending->World->Prop} {E:eD} {L:bG}
theorem bT.keepE (hR:bT n K w0 G w a E L V own) (ks:List Nat):bT n K w0 G w a (Am.keepE E ks) L V own :=
 ⟨hR.glob,hR.kept,hR.size,hR.defers,hR.glt,hR.gref,hR.gsub,hR.gold,hR.gup,hR.heap,hR.good,hR.nodup,hR.apart,hR.boxs,hR.small,λi=>by
  rw [Tc];split
  ·exact hR.env i
  ·trivial⟩
def IM (r:Nat):List Nat->Nat
 | []=>0
 | x :: l=>cond (cG x r) 0 (IM r l+1)
def Bn:List Nat->Nat->Nat
 | [],_=>0
 | x :: _,0=>x
 | _ :: l,n+1=>Bn l n
def aGf (rs:List Nat):fT->fT
 | .osl r rg => .osl (IM r rs) rg
 | l=>l
def aHH (rs:List Nat):dD->dD
 | .osl r rg => .osl (IM r rs) rg
 | .optr r i p => .optr (IM r rs) i p
 | .rcd t ls => .rcd t (ls.map (aGf rs))
 | .bptr r o t => .bptr (IM r rs) o t
 | A=>A
def AE (rs:List Nat) (A:hY):hY:=match A.ls with
 | some ls=>⟨A.t,A.xs,A.bor,some (ls.map (aGf rs)),A.sm⟩
 | none=>A
def aXv (rs:List Nat):PV->PV
 | .a A => .a (aHH rs A)
 | .tup xs => .tup (xs.map (aHH rs))
 | .fn f xs => .fn f (xs.map (aHH rs))
def aHI (rs:List Nat) (E:eD):eD:=E.map λq=>(q.1,aXv rs q.2)
def Jf (rs:List Nat) (L:bG):bG:=rs.map λr=>match b7 L r with | some A=>some (AE rs A) | none=>none
def Td (rs:List Nat):List Nat->Bool
 | []=>true
 | r :: s=>vJ r rs&&Td rs s
def Te (rs:List Nat):eD->Bool
 | []=>true
 | (_,p) :: r=>Td rs (EV p)&&Te rs r
def Ly (rs:List Nat) (L:bG):List Nat->Bool
 | []=>true
 | r :: s=>(match b7 L r with
  | some A=>match A.ls with
   | some ls=>Td rs (iF ls)
   | none=>true
  | none=>true)&&Ly rs L s
theorem FD (rs0:List Nat):∀ (rs:List Nat) (L:bG) (s:Nat) {A:hY},b7 (rs.map λr=>match b7 L r with | some A=>some (AE rs0 A) | none=>none) s=some A->s<rs.length/\∃ B,b7 L (Bn rs s)=some B/\A=AE rs0 B
 | [],L,s,A,h=>by cases s <;> cases h
 | r :: rs,L,0,A,h=>by
  simp only [bP,b7] at h;cases hB:b7 L r with
  | none=>rw [hB] at h;cases h
  | some B=>rw [hB] at h;cases h;exact ⟨by simp,B,hB,rfl⟩
 | r :: rs,L,s+1,A,h=>by
  obtain ⟨h1,h2⟩:=FD rs0 rs L s h;exact ⟨by simp;omega,h2⟩
theorem sZ (rs:List Nat) (L:bG) (s:Nat) {A:hY} (h:b7 (Jf rs L) s=some A):s<rs.length/\∃ B,b7 L (Bn rs s)=some B/\A=AE rs B:=FD rs rs L s h
theorem Jg (rs0:List Nat):∀ (rs:List Nat) (L:bG) (r:Nat),vJ r rs=true->b7 (rs.map λr=>match b7 L r with | some A=>some (AE rs0 A) | none=>none) (IM r rs)=(b7 L r).map (AE rs0)/\Bn rs (IM r rs)=r
 | [],L,r,h=>by cases h
 | x :: rs,L,r,h=>by
  simp only [vJ,j8] at h;simp only [IM];cases hb:cG x r with
  | true =>
   obtain rfl:=aX hb;refine ⟨?_,rfl⟩;simp only [bP,cond_true,b7];cases b7 L x <;> rfl
  | false =>
   have:vJ r rs=true:=by
    rcases h with h | h
    ·have:=aX h;subst this;simp at hb
    ·exact h
   exact Jg rs0 rs L r this
theorem PW (rs:List Nat) (L:bG) (r:Nat) (h:vJ r rs=true):b7 (Jf rs L) (IM r rs)=(b7 L r).map (AE rs)/\Bn rs (IM r rs)=r:=Jg rs rs L r h
theorem VF (rs:List Nat) (A:hY):(AE rs A).t=A.t:=by unfold AE;split <;> rfl
theorem aMU (rs:List Nat) (A:hY):(AE rs A).sm=A.sm:=by unfold AE;split <;> rfl
theorem aHJ (rs:List Nat) (A:hY):(AE rs A).bor=A.bor:=by unfold AE;split <;> rfl
theorem Xu (rs:List Nat) (A:hY):(AE rs A).xs.length=A.xs.length:=by unfold AE;split <;> rfl
theorem Xv {w0 w:World} {G:Nat->Prop} {rs:List Nat} {A:hY} {v:Value} {bs:List Nat}:fW w0 G w (AE rs A) v bs↔fW w0 G w A v bs:=by
 unfold AE;split
 ·exact Iff.rfl
 ·exact Iff.rfl
theorem aEB {rs:List Nat} {A:hY}:(∀ ls,A.ls=some ls->(AE rs A).ls=some (ls.map (aGf rs)))/\∀ ls',(AE rs A).ls=some ls'->∃ ls,A.ls=some ls/\ls'=ls.map (aGf rs):=by
 unfold AE;split
 ·rename_i ls h;refine ⟨λl hl => ?_,λl hl => ?_⟩
  ·rw [h] at hl;cases hl;rfl
  ·cases hl;exact ⟨ls,h,rfl⟩
 ·rename_i h;refine ⟨λl hl => ?_,λl hl => ?_⟩
  ·rw [h] at hl;cases hl
  ·rw [h] at hl;cases hl
theorem NP {rs:List Nat} {L:bG}:∀ {l:List Nat},Ly rs L l=true->∀ r∈l,∀ A ls,b7 L r=some A->A.ls=some ls->Td rs (iF ls)=true
 | [],_,r,hr,_,_,_,_=>by cases hr
 | x :: l,h,r,hr,A,ls,hA,hls=>by
  simp only [Ly,aJ] at h;rcases aR.1 hr with rfl | hr
  ·have:=h.1;rw [hA] at this;simp only [hls] at this;exact this
  ·exact NP h.2 r hr A ls hA hls
theorem PX:∀ (rs:List Nat) (s:Nat),s<rs.length->Bn rs s∈rs
 | [],s,h=>by simp at h
 | x :: rs,0,_=>by simp [Bn]
 | x :: rs,s+1,h=>aM _ (PX rs s (by simpa using h))
theorem Xw:∀ (rs:List Nat),x8 rs=true->∀ s u,s<rs.length->u<rs.length->Bn rs s=Bn rs u->s=u
 | [],_,s,u,h,_,_=>by simp at h
 | x :: rs,hn,s,u,h1,h2,he=>by
  simp only [x8,aJ,cW] at hn;have hx:∀ s,s<rs.length->Bn rs s≠x:=λs hs e=>by
   have:=PX rs s hs;rw [e] at this;have:=zX.2 this;rw [hn.1] at this;cases this
  cases s with
  | zero =>
   cases u with
   | zero=>rfl
   | succ u=>exact absurd he.symm (hx u (by simpa using h2))
  | succ s =>
   cases u with
   | zero=>exact absurd he (hx s (by simpa using h1))
   | succ u=>rw [Xw rs hn.2 s u (by simpa using h1) (by simpa using h2) he]
theorem IN {rs:List Nat}:∀ {l:List Nat},Td rs l=true->∀ r∈l,vJ r rs=true
 | [],_,r,h=>by cases h
 | a :: s,h,r,hr=>by
  simp only [Td,aJ] at h;rcases aR.1 hr with rfl | hr
  ·exact h.1
  ·exact IN h.2 r hr
theorem PY {rs:List Nat}:∀ {E:eD},Te rs E=true->∀ i,∀ r∈EV (E.get i),vJ r rs=true
 | [],_,i,r,h=>by simp [nW,EV,sG] at h
 | (j,p) :: E,h,i,r,hr=>by
  simp only [Te,aJ] at h;simp only [nW] at hr;cases hj:cG j i with
  | true=>rw [hj] at hr;exact IN h.1 r hr
  | false=>rw [hj] at hr;exact PY h.2 i r hr
theorem Xx (rs:List Nat):∀ (E:eD) (i:Nat),(aHI rs E).get i=aXv rs (E.get i)
 | [],i=>rfl
 | (j,p) :: s,i=>by
  simp only [aHI,bP,nW];cases h:cG j i with
  | true=>rfl
  | false=>exact Xx rs s i
theorem Xy {rs:List Nat} {r:Nat} {rg:Option (Nat×Nat)} {v:Value} (h:Ld L V r rg v) (hm:vJ r rs=true):Ld (Jf rs L) (λs=>V (Bn rs s)) (IM r rs) rg v:=by
 obtain ⟨B,hB,h1,h2⟩:=h;obtain ⟨e1,e2⟩:=PW rs L r hm;refine ⟨AE rs B,by rw [e1,hB];rfl,λhr=>by show v=V (Bn rs (IM r rs));rw [e2];exact h1 hr,?_⟩;show X4 _ _ (V (Bn rs (IM r rs))) _ _ _;rw [e2,Xu,VF];exact h2
theorem Lz {w0:World} {G:Nat->Prop} {rs:List Nat}:∀ {ls:List fT} {cs:List Value},gV w0 G L V ls cs->(∀ r∈iF ls,vJ r rs=true)->gV w0 G (Jf rs L) (λs=>V (Bn rs s)) (ls.map (aGf rs)) cs
 | [],_,h,_=>h
 | l :: ls,_,⟨v,s,h,h1,h2⟩,hm=>by
  refine ⟨v,s,h,?_,Lz h2 λr hr=>hm r (by simp [iF,hr])⟩;cases l with
  | osl r rg=>exact Xy h1 (hm r (by simp [iF,IE]))
  | _=>exact h1
theorem Xz {w0:World} {G:Nat->Prop} {rs:List Nat} {A:dD} {v:Value} (h:kZ w0 G L V A v) (hm:∀ r∈sG A,vJ r rs=true):kZ w0 G (Jf rs L) (λs=>V (Bn rs s)) (aHH rs A) v:=by
 cases A with
 | osl r rg=>exact Xy h (hm r (by simp [sG]))
 | optr r i p =>
  obtain ⟨B,hB,h2⟩:=h;obtain ⟨e1,e2⟩:=PW rs L r (hm r (by simp [sG]));refine ⟨AE rs B,by rw [e1,hB];rfl,?_⟩;show aP3 _ _ (V (Bn rs (IM r rs))) _ _ _;rw [e2,Xu,VF];exact h2
 | rcd t ls =>
  obtain ⟨cs,h1,h2,h3⟩:=h;exact ⟨cs,h1,by simpa using h2,Lz h3 hm⟩
 | bptr r o t =>
  obtain ⟨B,ls,b,off,hB,h1,h2,h3,h4⟩:=h;obtain ⟨e1,e2⟩:=PW rs L r (hm r (by simp [sG]));refine ⟨AE rs B,ls.map (aGf rs),b,off,by rw [e1,hB];rfl,aEB.1 ls h1,?_,h3,by rw [VF];exact h4⟩;show V (Bn rs (IM r rs))=_;rw [e2];exact h2
 | _=>exact h
theorem MA {w0:World} {G:Nat->Prop} {rs:List Nat}:∀ {ats:List dD} {vs:List Value},rQ w0 G L V ats vs->(∀ r∈ats.flatMap sG,vJ r rs=true)->rQ w0 G (Jf rs L) (λs=>V (Bn rs s)) (ats.map (aHH rs)) vs
 | [],_,h,_=>h
 | A :: s,vs,⟨v,r,h,h1,h2⟩,ha=>⟨v,r,h,Xz h1 (λr hr=>ha r (by simp [hr])),MA h2 (λr hr=>ha r (by simp only [List.flatMap_cons,bU];exact .inr hr))⟩
theorem bT.renum (hR:bT n K w0 G w a E L V own) {rs:List Nat} (hn:x8 rs=true) (h:Te rs E=true) (hh:Ly rs L rs=true):bT n K w0 G w a (aHI rs E) (Jf rs L) (λs=>V (Bn rs s)) (λs=>own (Bn rs s)) where
 glob:=hR.glob
 kept:=hR.kept
 size:=hR.size
 defers:=hR.defers
 glt:=hR.glt
 gref:=hR.gref
 gsub:=hR.gsub
 gold:=hR.gold
 gup:=hR.gup
 heap:=λr A hr=>by
  obtain ⟨_,B,hB,rfl⟩:=sZ rs L r hr;exact Xv.2 (hR.heap _ B hB)
 good:=λr A hr=>by
  obtain ⟨_,B,hB,rfl⟩:=sZ rs L r hr;exact hR.good _ B hB
 nodup:=λr A hr=>by
  obtain ⟨_,B,hB,rfl⟩:=sZ rs L r hr;exact hR.nodup _ B hB
 apart:=λr s A B hr hs hrs=>by
  obtain ⟨l1,A',g1,rfl⟩:=sZ rs L r hr;obtain ⟨l2,B',g2,rfl⟩:=sZ rs L s hs;exact hR.apart _ _ A' B' g1 g2 λe=>hrs (Xw rs hn r s l1 l2 e)
 boxs:=λr A ls hr hls=>by
  obtain ⟨l1,B,hB,rfl⟩:=sZ rs L r hr;obtain ⟨l0,h0,rfl⟩:=aEB.2 ls hls;obtain ⟨b,off,cs,k1,k3,k4,k5,k6⟩:=hR.boxs _ B l0 hB h0;rw [VF];exact ⟨b,off,cs,k1,k3,by simpa using k4,k5,Lz k6 λu hu=>IN (NP hh _ (PX rs r l1) B l0 hB h0) u hu⟩
 small:=λr A q hr hq=>by
  obtain ⟨_,B,hB,rfl⟩:=sZ rs L r hr;rw [aMU] at hq;obtain ⟨g1,g2⟩:=hR.small _ B q hB hq;exact ⟨g1,λe=>⟨by rw [aHJ];exact (g2 e).1,Xv.2 (g2 e).2⟩⟩
 env:=λi=>by
  rw [Xx];have hi:=hR.env i;have hm:=PY h i;generalize E.get i=p at hi hm;cases p with
  | a A=>exact Xz hi hm
  | tup xs=>obtain ⟨vs,hv,hr⟩:=hi;exact ⟨vs,hv,MA hr hm⟩
  | fn f xs=>obtain ⟨vs,hv,hr⟩:=hi;exact ⟨vs,hv,MA hr hm⟩
end
section
variable {P:Program} {n:Nat} {q:Nat->Value} {K:jK} {G:Nat->Prop} {w0 w:World} {a:Act} {V:Nat->Value} {own:Nat->List Nat}
theorem getD_some {tm:Array Value} {t:Nat} {v:Value} (h:tm.getD t undef=v) (hv:v≠undef):tm[t]? = some v:=by
 rw [cR] at h;cases h1:tm[t]? with
 | none=>rw [h1] at h;exact absurd h.symm hv
 | some u=>rw [h1] at h;simpa using h
theorem aBu {ops:Array Oper} {j:Nat} {o:Oper} {t:Nat} {d:Bool} (ho:ops[j]? = some o) (hd:o.dst=some t) (ht:a.tmps.getD t undef = .bool d):yielded ops a.tmps j=some d:=by
 unfold yielded;have:=getD_some ht (by intro h;cases h);simp [ho,hd,this]
theorem aBv {ops:Array Oper} {j:Nat} {o:Oper} {t:Nat} {x:Array Value} (ho:ops[j]? = some o) (hd:o.dst=some t) (ht:a.tmps.getD t undef = .tuple x):yielded ops a.tmps j=none:=by
 unfold yielded;rw [cR] at ht;cases h1:a.tmps[t]? with
 | none=>simp [ho,hd,h1]
 | some u=>rw [h1] at ht;simp at ht;subst ht;simp [ho,hd,h1]
theorem iM {ops:Array Oper} {S S':St} {o:Oper} {b:Bool} (hR:bT n K w0 G w a S.E S.L V own) (hd:hZ q a S) (h:Bm ops.toList S o.guard=some (b,S')) (hc:eZ S'.cs) :
  eQ o (yielded ops a.tmps)=b/\S'.E=S.E/\S'.L=S.L/\hZ q a S'/\eZ S.cs:=by
 unfold Bm at h;split at h
 ·rename_i hg;cases h;exact ⟨by simp [eQ,hg],rfl,rfl,hd,hc⟩
 ·rename_i j want hg;split at h
  ·rename_i p hp;rw [xD] at hp;have hp':ops[j]? = some p:=by simpa using hp
   split at h
   ·rename_i t ht;split at h
    ·rename_i x hx;cases h;have hv:=hR.valEq (x := .tmp t) (v := .tuple x) (by simp only [opnd];rw [hx]);refine ⟨?_,rfl,rfl,hd,hc⟩;simp [eQ,hg,aBv hp' ht hv.1]
    ·split at h
     ·rename_i d S1 hdec;cases h;obtain ⟨h1,h2,h3,h4,h5⟩:=oV hR hd hdec hc;refine ⟨?_,h2,h3,h4,h5⟩;simp only [eQ,hg,aBu hp' ht h1];cases d <;> cases want <;> rfl
     ·cases h
   ·cases h
  ·cases h
theorem j4 {S S':St} {E:eD} {L:bG} {cs:List Prop} {d:Option Nat} {pv:PV} {v:Value} {w':World} {V':Nat->Value} {own':Nat->List Nat}
  (h:Eb n S E L cs d pv=some S') (hR:bT n K w0 G w' a E L V' own') (hd:hZ q a S) (hv:kH w0 G L V' pv v) :
  bT n K w0 G w' (a.put d v) S'.E S'.L V' own'/\hZ q (a.put d v) S'/\S'.cs=S.cs++cs:=by
 cases d with
 | none =>
  cases h;exact ⟨hR,hd,rfl⟩
 | some d =>
  simp only [Eb] at h;split at h
  ·rename_i hlt;cases h;simp only [aJ,cW] at hlt;exact ⟨hR.put (aZ hlt.1) hv,hd.put d v (λhm=>by rw [zX.2 hm] at hlt;cases hlt.2) rfl rfl,rfl⟩
  ·cases h
theorem fA {S S':St} {E:eD} {L:bG} {cs:List Prop} {d:Option Nat} {pv:PV} (h:Eb n S E L cs d pv=some S'):S'.cs=S.cs++cs:=by
 cases d with
 | none=>cases h;rfl
 | some d =>
  simp only [Eb] at h;split at h
  ·cases h;rfl
  ·cases h
theorem lX {S S':St} {t:Nat} {d:Bool} (h:xC S t=some (d,S')) (hc:eZ S'.cs):eZ S.cs:=by
 unfold xC at h;split at h
 ·cases h;exact hc
 ·split at h
  ·cases h;exact (b9.1 hc).1
  ·cases h
theorem n5 {all:List Oper} {S S':St} {g:Option (Nat×Bool)} {b:Bool} (h:Bm all S g=some (b,S')) (hc:eZ S'.cs):eZ S.cs:=by
 unfold Bm at h;split at h
 ·cases h;exact hc
 ·split at h
  ·split at h
   ·split at h
    ·cases h;exact hc
    ·split at h
     ·rename_i hdec;cases h;exact lX hdec hc
     ·cases h
   ·cases h
  ·cases h
theorem qE {tab:List TI} {ext:sE} {wr q:Bool} {all:List Oper} {S S':St} {o:Oper} (h:vM tab ext wr n q all S o=some S') (hc:eZ S'.cs):eZ S.cs:=by
 unfold vM at h;split at h
 ·cases h
 ·rename_i S1 hg;have:=fA h;rw [this] at hc;exact n5 hg (b9.1 hc).1
 ·rename_i S1 hg;refine n5 hg ?_;split at h
  ·split at h
   ·rename_i d S2 hdec;have:=fA h;rw [this] at hc;exact lX hdec (b9.1 hc).1
   ·cases h
  ·split at h
   ·split at h
    ·have:=fA h;rw [this] at hc;exact (b9.1 hc).1
    ·cases h
   ·split at h
    ·have:=fA h;rw [this] at hc;exact (b9.1 hc).1
    ·cases h
theorem MB {tab:List TI} {ext:sE} {wr q:Bool} {all:List Oper}:∀ {l:List Oper} {S S':St} (h:Lv tab ext wr n q all l S=some S') (hc:eZ S'.cs),eZ S.cs
 | [],S,S',h,hc=>by cases h;exact hc
 | o :: r,S,S',h,hc=>by
  simp only [Lv] at h;split at h
  ·rename_i S1 h1;exact qE h1 (MB h hc)
  ·cases h
theorem Jh {ρ:Operand->Value} {o:Oper} {c x y:Operand} {d:Bool} (ho:o.op = .pick c x y) (hc:ρ c = .bool d) (w:World):(execOp ρ o).run P w = .ok (.value (if d then ρ x else ρ y)) w:=by
 simp only [execOp,ho,hc];simp [asBool]
theorem PZ {L:bG} {p q:PV} {u v:Value} {d:Bool} (hp:kH w0 G L V p u) (hq:kH w0 G L V q v):kH w0 G L V (cond d p q) (if d then u else v):=by
 cases d
 ·exact hq
 ·exact hp
theorem FE {tab:List TI} {ext:sE} (hT:jP P tab) (hX:nQ P ext) {wr:Bool} {ops:Array Oper} {S S':St} {o:Oper} (hR:bT n K w0 G w a S.E S.L V own) (hd:hZ q a S)
  (h:vM tab ext wr n false ops.toList S o=some S') (hc:eZ S'.cs) {Kt:Act->World->Prop} {Q:Exit->Act->World->Prop}
  (hK:∀ a' w0' G' w' V' own',bT n K w0' G' w' a' S'.E S'.L V' own'->hZ q a' S'->Kt a' w') :
  if eQ o (yielded ops a.tmps) then o.wp P a w Kt Q else Kt (a.put o.dst undef) w:=by
 unfold vM at h;split at h
 ·cases h
 ·rename_i S1 hg;have hcs:=fA h;rw [hcs] at hc;obtain ⟨h1,h2,h3,h4,h5⟩:=iM hR hd hg (b9.1 hc).1;rw [h1,if_neg (by simp)];have hR1:bT n K w0 G w a S1.E S1.L V own:=by rw [h2,h3];exact hR
  obtain ⟨g1,g2,_⟩:=j4 (v:=undef) h hR1 h4 ⟨rfl,trivial⟩;exact hK _ _ _ _ _ _ g1 g2
 ·rename_i S1 hg;have hc1:eZ S1.cs:=by
   split at h
   ·split at h
    ·rename_i d S2 hdec;have hcs:=fA h;rw [hcs] at hc;exact lX hdec (b9.1 hc).1
    ·cases h
   ·dsimp only at h
    split at h
    ·have hcs:=fA h;rw [hcs] at hc;exact (b9.1 hc).1
    ·cases h
  obtain ⟨h1,h2,h3,h4,h5⟩:=iM hR hd hg hc1;rw [h1,if_pos rfl];have hR1:bT n K w0 G w a S1.E S1.L V own:=by rw [h2,h3];exact hR
  split at h
  ·rename_i c x y ho;split at h
   ·rename_i d S2 hdec;have hcs:=fA h;rw [hcs] at hc;obtain ⟨k1,k2,k3,k4,k5⟩:=oV hR1 h4 hdec (b9.1 hc).1;have hR2:bT n K w0 G w a S2.E S2.L V own:=by rw [k2,k3];exact hR1
    obtain ⟨g1,g2,_⟩:=j4 h hR2 k4 (PZ (d:=d) (hR2.opnd x) (hR2.opnd y));exact j5 (w':=w) (Jh ho k1 w) (hK _ _ _ _ _ _ g1 g2)
   ·cases h
  ·dsimp only at h
   split at h
   ·rename_i cs pv E L hop;have hcs:=fA h;rw [hcs] at hc;refine aGb hT hX hR1 hop (b9.1 hc).2 λv w0' G' w' V' own' hR' hv => ?_;obtain ⟨g1,g2,_⟩:=j4 h hR' h4 hv;exact hK _ _ _ _ _ _ g1 g2
   ·cases h
theorem Tf {tab:List TI} {ext:sE} (hT:jP P tab) (hX:nQ P ext) {wr:Bool} {ops:Array Oper} {Q:Exit->Act->World->Prop}:∀ {w0:World} {G:Nat->Prop} {l:List Oper} {S S':St} {a:Act} {w:World} {V:Nat->Value} {own:Nat->List Nat} (hR:bT n K w0 G w a S.E S.L V own) (hd:hZ q a S)
  (h:Lv tab ext wr n false ops.toList l S=some S') (hc:eZ S'.cs) (hK:∀ a' w0' G' w' V' own',bT n K w0' G' w' a' S'.E S'.L V' own'->hZ q a' S'->Q .normal a' w'),wpList P ops Q l a w
 | w0,G,[],S,S',a,w,V,own,hR,hd,h,hc,hK=>by
  cases h;exact hK _ _ _ _ _ _ hR hd
 | w0,G,o :: r,S,S',a,w,V,own,hR,hd,h,hc,hK=>by
  simp only [Lv] at h;split at h
  ·rename_i S1 h1;refine wpList_step λK hKK => ?_;exact FE hT hX hR hd h1 (MB h hc) λa' w0' G' w' V' own' hR' hd'=>hKK _ _ (Tf hT hX hR' hd' h hc hK)
  ·cases h
theorem FF {tab:List TI} {ext:sE} (hT:jP P tab) (hX:nQ P ext) {wr:Bool} {ops:Array Oper} {S S':St} {o:Oper} (hR:bT n K w0 G w a S.E S.L V own) (hd:hZ q a S)
  (h:vM tab ext wr n true ops.toList S o=some S') (hc:eZ S'.cs) :
  ∃ v,lA P ops [] o v a w/\bT n K w0 G w (a.put o.dst v) S'.E S'.L V own/\hZ q (a.put o.dst v) S':=by
 unfold vM at h;split at h
 ·cases h
 ·rename_i S1 hg;have hcs:=fA h;rw [hcs] at hc;obtain ⟨h1,h2,h3,h4,h5⟩:=iM hR hd hg (b9.1 hc).1;have hR1:bT n K w0 G w a S1.E S1.L V own:=by rw [h2,h3];exact hR
  obtain ⟨g1,g2,_⟩:=j4 (v:=undef) h hR1 h4 ⟨rfl,trivial⟩;exact ⟨undef,.inr ⟨h1,rfl⟩,g1,g2⟩
 ·rename_i S1 hg;have hc1:eZ S1.cs:=by
   split at h
   ·split at h
    ·rename_i d S2 hdec;have hcs:=fA h;rw [hcs] at hc;exact lX hdec (b9.1 hc).1
    ·cases h
   ·dsimp only at h
    split at h
    ·have hcs:=fA h;rw [hcs] at hc;exact (b9.1 hc).1
    ·cases h
  obtain ⟨h1,h2,h3,h4,h5⟩:=iM hR hd hg hc1;have hR1:bT n K w0 G w a S1.E S1.L V own:=by rw [h2,h3];exact hR
  split at h
  ·rename_i c x y ho;split at h
   ·rename_i d S2 hdec;have hcs:=fA h;rw [hcs] at hc;obtain ⟨k1,k2,k3,k4,k5⟩:=oV hR1 h4 hdec (b9.1 hc).1;have hR2:bT n K w0 G w a S2.E S2.L V own:=by rw [k2,k3];exact hR1
    obtain ⟨g1,g2,_⟩:=j4 h hR2 k4 (PZ (d:=d) (hR2.opnd x) (hR2.opnd y));refine ⟨_,.inl ⟨h1,λw' k => ?_⟩,g1,g2⟩;unfold kN;rw [Jh ho k1 w'];exact ⟨rfl,rfl⟩
   ·cases h
  ·dsimp only at h
   split at h
   ·rename_i cs pv hop;have hcs:=fA h;rw [hcs] at hc;obtain ⟨v,hv,hq⟩:=Je hT hX hR1 hop (b9.1 hc).2;obtain ⟨g1,g2,_⟩:=j4 h hR1 h4 hv;exact ⟨v,.inl ⟨h1,hq⟩,g1,g2⟩
   ·cases h
def YA (all:List Oper) (S:St) (o:Oper):Option St :=
 match Bm all S o.guard with
 | none=>none
 | some (false,S)=>some S
 | some (true,S)=>match o.op with
  | .pick (.tmp c) _ _=>match xC S c with
   | some (_,S)=>some S
   | none=>none
  | _=>some S
def NQ (all:List Oper):List Nat->St->Option St
 | [],S=>some S
 | i :: r,S=>match Lu all i with
  | some o=>match YA all S o with
   | some S=>NQ all r S
   | none=>none
  | none=>none
def MC (tab:List TI) (ext:sE) (wr:Bool) (n:Nat) (ops:Array Oper) (listed:Array Bool) (S:St):List Nat->Option (Nat×St)
 | []=>none
 | i :: r=>match Lu ops.toList i,oL .any ops listed i with
  | some o,true=>match vM tab ext wr n true ops.toList S o with
   | some S'=>some (i,S')
   | none=>MC tab ext wr n ops listed S r
  | _,_=>MC tab ext wr n ops listed S r
def Tg (tab:List TI) (ext:sE) (n:Nat) (all:List Oper) (S:St) (o:Oper):Option St :=
 match Bm all S o.guard with
 | some (true,S)=>match opK tab ext S.E S.L o.op with
  | some (cs,pv,L)=>Eb n S S.E L cs o.dst pv
  | none=>none
 | _=>none
def aHK (S:St) (op:Op):St:=⟨S.path,S.dec,(NO op (S.E,S.L)).1,(NO op (S.E,S.L)).2,S.cs,S.pins⟩
def NR (tab:List TI) (ext:sE) (wr:Bool) (n:Nat) (ops:Array Oper) (listed:Array Bool) (i:Nat) (S:St) (o:Oper):Option St :=
 match Tg tab ext n ops.toList S o with
 | some S'=>some S'
 | none=>match Lx ops listed i with
  | true=>vM tab ext wr n false ops.toList S o
  | false=>match vM tab ext wr n true ops.toList (aHK S o.op) o with
   | some S'=>some S'
   | none=>Tg tab ext n ops.toList (aHK S o.op) o
def aPA (E:eD) (L:bG) (E':eD) (L':bG):Prop:=(E,L)=(E',L')
def Bo (E:eD):Nat->eD->eD
 | 0,acc=>acc
 | k+1,acc=>Bo E k (match E.get k with
  | .a .junk=>acc
  | p=>(k,p) :: acc)
def aPB (n:Nat) (A B:St):St:=⟨A.path,[],Bo A.E n [],A.L,A.cs++(B.cs++[aPA (Bo A.E n []) A.L (Bo B.E n []) B.L]),A.pins⟩
theorem MD (E:eD) (i:Nat):∀ (k:Nat) (acc:eD),k<=i->(Bo E k acc).get i=acc.get i
 | 0,acc,_=>rfl
 | k+1,acc,h=>by
  unfold Bo;rw [MD E i k _ (by omega)];split
  ·rfl
  ·show cond (cG k i) (E.get k) (nW acc i)=nW acc i;cases hb:cG k i with
   | true=>have:=aX hb;omega
   | false=>rfl
theorem YB (E:eD) (i:Nat):∀ (k:Nat) (acc:eD),i<k->(Bo E k acc).get i=E.get i\/(E.get i = .a .junk/\(Bo E k acc).get i=acc.get i)
 | 0,acc,h=>absurd h (Nat.not_lt_zero _)
 | k+1,acc,h=>by
  unfold Bo;by_cases hk:i<k
  ·rcases YB E i k (match E.get k with
    | .a .junk=>acc
    | p=>(k,p) :: acc) hk with h1 | ⟨h1,h2⟩
   ·exact .inl h1
   ·refine .inr ⟨h1,h2.trans ?_⟩;split
    ·rfl
    ·show cond (cG k i) (E.get k) (nW acc i)=nW acc i;cases hb:cG k i with
     | true=>have:=aX hb;omega
     | false=>rfl
  ·have hik:i=k:=by omega
   subst hik;rw [MD E i i _ (aT _)];split
   ·rename_i hj;exact .inr ⟨hj,rfl⟩
   ·refine .inl ?_;show cond (cG i i) (E.get i) (nW acc i)=E.get i;cases hb:cG i i with
    | true=>rfl
    | false=>rw [show cG i i=true from Nat.beq_refl i] at hb;cases hb
theorem bT.tab {n:Nat} {K:jK} {G:Nat->Prop} {w0 w:World} {a:Act} {E:eD} {L:bG} {V:Nat->Value} {own:Nat->List Nat} (h:bT n K w0 G w a E L V own):bT n K w0 G w a (Bo E n []) L V own:=by
 have he:∀ i,kH w0 G L V ((Bo E n []).get i) (a.tmps.getD i undef):=λi=>by
  by_cases hi:i<n
  ·rcases YB E i n [] hi with e | ⟨e1,e2⟩
   ·rw [e];exact h.env i
   ·have:=h.env i;rw [e1] at this;rw [e2];exact this
  ·rw [MD E i n [] (by omega)];have hs:=h.size;have:a.tmps.getD i undef=undef:=by
    rw [cR, cZ (by omega)];rfl
   rw [this];exact trivial
 exact { h with env:=he }
def aEC:PV->Option Nat
 | .a (.osl r _)=>some r
 | .a (.optr r _ _)=>some r
 | .a (.bptr r _ _)=>some r
 | _=>none
def aBw (A B:eD):Nat->Bool
 | 0=>false
 | k+1=>match aEC (A.get k),aEC (B.get k) with
  | some r,some s=>match cG r s with
   | true=>aBw A B k
   | false=>true
  | _,_=>aBw A B k
def swL (m:Nat):Nat->List Nat->List Nat
 | 0,acc=>acc
 | k+1,acc=>swL m k ((match cG k m with
  | true=>m+1
  | false=>match cG k (m+1) with
   | true=>m
   | false=>k) :: acc)
def idL:Nat->List Nat->List Nat
 | 0,acc=>acc
 | k+1,acc=>idL k (k :: acc)
def aMV (A B:eD):Nat->List Nat->List Nat
 | 0,acc=>acc
 | k+1,acc=>match aEC (A.get k),aEC (B.get k) with
  | some r,some s=>aMV A B k (acc.set r s)
  | _,_=>aMV A B k acc
def rsL (n m:Nat) (A B:eD) (len:Nat):List Nat:=match x8 (aMV A B n (idL len [])) with
 | true=>aMV A B n (idL len [])
 | false=>swL m len []
def aED (n m:Nat) (A B:St):Option St:=match aBw A.E B.E n with
 | false=>some B
 | true=>match x8 (rsL n m A.E B.E B.L.length)&&(Te (rsL n m A.E B.E B.L.length) B.E&&Ly (rsL n m A.E B.E B.L.length) B.L (rsL n m A.E B.E B.L.length)) with
  | true=>some ⟨B.path,B.dec,aHI (rsL n m A.E B.E B.L.length) B.E,Jf (rsL n m A.E B.E B.L.length) B.L,B.cs,B.pins⟩
  | false=>none
theorem Pa {n m:Nat} {A B B':St} (h:aED n m A B=some B'):B'.cs=B.cs/\B'.pins=B.pins/\∀ {k:Nat} {K:jK} {G:Nat->Prop} {w0 w:World} {a:Act} {V:Nat->Value} {own:Nat->List Nat},bT k K w0 G w a B.E B.L V own->∃ V' own',bT k K w0 G w a B'.E B'.L V' own':=by
 unfold aED at h;split at h
 ·cases h;exact ⟨rfl,rfl,λhr=>⟨_,_,hr⟩⟩
 ·split at h
  ·rename_i hc;simp only [aJ] at hc;cases h;exact ⟨rfl,rfl,λhr=>⟨_,_,hr.renum hc.1 hc.2.1 hc.2.2⟩⟩
  ·cases h
def aHL:List Nat->List Nat->Bool
 | [],[]=>true
 | a :: r,b :: s=>match cG a b with
  | true=>aHL r s
  | false=>false
 | _,_=>false
theorem ME:∀ {l m:List Nat},aHL l m=true->l=m
 | [],[],_=>rfl
 | [],_ :: _,h=>by cases h
 | _ :: _,[],h=>by cases h
 | a :: r,b :: s,h=>by
  unfold aHL at h;split at h
  ·rename_i e;rw [aX e,ME h]
  ·cases h
def x9 (tab:List TI) (ext:sE) (wr:Bool) (n:Nat) (ops:Array Oper):Nat->Array Bool->St->Option St
 | 0,listed,S=>match eN .any ops listed with
  | []=>some S
  | _=>none
 | m+1,listed,S=>match eN .any ops listed with
  | []=>some S
  | i :: r=>match NQ ops.toList (i :: r) S with
   | none=>none
   | some S=>match MC tab ext wr n ops listed S (i :: r) with
    | some (j,S')=>x9 tab ext wr n ops m (listed.setIfInBounds j true) S'
    | none=>match r,Lu ops.toList i with
     | [],some o=>match NR tab ext wr n ops listed i S o with
      | some S'=>x9 tab ext wr n ops m (listed.setIfInBounds i true) S'
      | none=>none
     | [j],some o=>match Lu ops.toList j with
      | some p=>match NR tab ext wr n ops listed i S o,NR tab ext wr n ops listed j ⟨S.path,S.dec,S.E,S.L,[],S.pins⟩ p with
       | some S1,some S2=>match x9 tab ext wr n ops m (listed.setIfInBounds i true) S1,x9 tab ext wr n ops m (listed.setIfInBounds j true) S2 with
        | some A,some B=>match aED n S.L.length A B with
         | some B'=>match aHL A.pins B'.pins with
          | true=>some (aPB n A B')
          | false=>none
         | none=>none
        | _,_=>none
       | _,_=>none
      | none=>none
     | _,_=>none
theorem aHM {all:List Oper} {S S':St} {o:Oper} (h:YA all S o=some S') (hc:eZ S'.cs):eZ S.cs:=by
 unfold YA at h;split at h
 ·cases h
 ·rename_i hg;cases h;exact n5 hg hc
 ·rename_i hg;refine n5 hg ?_;split at h
  ·split at h
   ·rename_i hd;cases h;exact lX hd hc
   ·cases h
  ·cases h;exact hc
theorem aBx {ops:Array Oper} {S S':St} {o:Oper} (hR:bT n K w0 G w a S.E S.L V own) (hd:hZ q a S) (h:YA ops.toList S o=some S') (hc:eZ S'.cs) :
  S'.E=S.E/\S'.L=S.L/\hZ q a S':=by
 unfold YA at h;split at h
 ·cases h
 ·rename_i S1 hg;cases h;obtain ⟨_,h2,h3,h4,_⟩:=iM hR hd hg hc;exact ⟨h2,h3,h4⟩
 ·rename_i S1 hg;split at h
  ·split at h
   ·rename_i hdec;cases h;obtain ⟨_,h2,h3,h4,_⟩:=iM hR hd hg (lX hdec hc);have hR1:bT n K w0 G w a S1.E S1.L V own:=by rw [h2,h3];exact hR
    obtain ⟨_,k2,k3,k4,_⟩:=oV hR1 h4 hdec hc;exact ⟨k2.trans h2,k3.trans h3,k4⟩
   ·cases h
  ·cases h;obtain ⟨_,h2,h3,h4,_⟩:=iM hR hd hg hc;exact ⟨h2,h3,h4⟩
theorem FG {all:List Oper}:∀ {is:List Nat} {S S':St},NQ all is S=some S'->eZ S'.cs->eZ S.cs
 | [],_,_,h,hc=>by cases h;exact hc
 | i :: r,S,S',h,hc=>by
  simp only [NQ] at h;split at h
  ·split at h
   ·rename_i h1;exact aHM h1 (FG h hc)
   ·cases h
  ·cases h
theorem oX {ops:Array Oper}:∀ {is:List Nat} {S S':St},bT n K w0 G w a S.E S.L V own->hZ q a S->NQ ops.toList is S=some S'->eZ S'.cs->S'.E=S.E/\S'.L=S.L/\hZ q a S'
 | [],_,_,_,hd,h,hc=>by cases h;exact ⟨rfl,rfl,hd⟩
 | i :: r,S,S',hR,hd,h,hc=>by
  simp only [NQ] at h;split at h
  ·split at h
   ·rename_i S1 h1;obtain ⟨e1,e2,e3⟩:=aBx hR hd h1 (FG h hc);obtain ⟨f1,f2,f3⟩:=oX (S:=S1) (by rw [e1,e2];exact hR) e3 h hc;exact ⟨f1.trans e1,f2.trans e2,f3⟩
   ·cases h
  ·cases h
theorem FH {tab:List TI} {ext:sE} {wr:Bool} {ops:Array Oper} {listed:Array Bool} {S:St} {j:Nat} {S':St}:∀ {rs:List Nat},MC tab ext wr n ops listed S rs=some (j,S') ->
  j∈rs/\∃ o,ops[j]? = some o/\oL .any ops listed j=true/\vM tab ext wr n true ops.toList S o=some S'
 | [],h=>by cases h
 | i :: r,h=>by
  simp only [MC] at h;have rest:MC tab ext wr n ops listed S r=some (j,S')->j∈i :: r/\∃ o,ops[j]? = some o/\oL .any ops listed j=true/\vM tab ext wr n true ops.toList S o=some S':=λh=>by
   obtain ⟨h1,h2⟩:=FH h;exact ⟨aM _ h1,h2⟩
  split at h
  ·rename_i o ho hf;split at h
   ·rename_i S1 h1;cases h;rw [xD] at ho;exact ⟨aQ .., o,by simpa using ho,hf,h1⟩
   ·exact rest h
  ·exact rest h
theorem YC {tab:List TI} {ext:sE} {all:List Oper} {S S':St} {o:Oper} (h:Tg tab ext n all S o=some S') (hc:eZ S'.cs):eZ S.cs:=by
 unfold Tg at h;split at h
 ·rename_i hg;split at h
  ·have:=fA h;rw [this] at hc;exact n5 hg (b9.1 hc).1
  ·cases h
 ·cases h
theorem FI {tab:List TI} {ext:sE} {wr:Bool} {ops:Array Oper} {listed:Array Bool} {i:Nat} {S S':St} {o:Oper} (h:NR tab ext wr n ops listed i S o=some S') (hc:eZ S'.cs):eZ S.cs:=by
 unfold NR at h;split at h
 ·rename_i h1;cases h;exact YC h1 hc
 ·split at h
  ·exact qE h hc
  ·split at h
   ·rename_i h1;cases h;have:=qE h1 hc;exact this
   ·have:=YC h hc;exact this
theorem YD {tab:List TI} {ext:sE} (hT:jP P tab) (hX:nQ P ext) {ops:Array Oper} {S S':St} {o:Oper} (hR:bT n K w0 G w a S.E S.L V own) (hd:hZ q a S)
  (h:Tg tab ext n ops.toList S o=some S') (hc:eZ S'.cs) {Kt:Act->World->Prop} {Q:Exit->Act->World->Prop}
  (hK:∀ a' w0' G' w' V' own',cE [] w w'->bT n K w0' G' w' a' S'.E S'.L V' own'->hZ q a' S'->Kt a' w') :
  if eQ o (yielded ops a.tmps) then o.wp P a w Kt Q else Kt (a.put o.dst undef) w:=by
 unfold Tg at h;split at h
 ·rename_i S1 hg;split at h
  ·rename_i cs pv L hop;have hcs:=fA h;rw [hcs] at hc;obtain ⟨h1,h2,h3,h4,h5⟩:=iM hR hd hg (b9.1 hc).1;rw [h1,if_pos rfl];have hR1:bT n K w0 G w a S1.E S1.L V own:=by rw [h2,h3];exact hR
   refine aHE hT hX hR1 hop (b9.1 hc).2 λv w0' G' w' V' own' k hR' hv => ?_;obtain ⟨g1,g2,_⟩:=j4 h hR' h4 hv;exact hK _ _ _ _ _ _ k g1 g2
  ·cases h
 ·cases h
theorem Ji {tab:List TI} {ext:sE} (hT:jP P tab) (hX:nQ P ext) {wr:Bool} {ops:Array Oper} {listed:Array Bool} {i:Nat} {S S':St} {o:Oper} (hR:bT n K w0 G w a S.E S.L V own) (hd:hZ q a S)
  (h:NR tab ext wr n ops listed i S o=some S') (hc:eZ S'.cs) {Kt:Act->World->Prop} {Q:Exit->Act->World->Prop}
  (hK:∀ a' w0' G' w' V' own',(Lx ops listed i=true\/cE [] w w')->bT n K w0' G' w' a' S'.E S'.L V' own'->hZ q a' S'->Kt a' w') :
  if eQ o (yielded ops a.tmps) then o.wp P a w Kt Q else Kt (a.put o.dst undef) w:=by
 unfold NR at h;split at h
 ·rename_i h1;cases h;exact YD hT hX hR hd h1 hc λa' w0' G' w' V' own' k=>hK a' w0' G' w' V' own' (.inr k)
 ·split at h
  ·rename_i hb;exact FE hT hX hR hd h hc λa' w0' G' w' V' own'=>hK a' w0' G' w' V' own' (.inl hb)
  ·obtain ⟨w1,G1,hR1⟩:=PR hR o.op;have hR1:bT n K w1 G1 w a (aHK S o.op).E (aHK S o.op).L V own:=hR1;have hd1:hZ q a (aHK S o.op):=hd;split at h
   ·rename_i h1;cases h;obtain ⟨v,hy,g1,g2⟩:=FF hT hX hR1 hd1 h1 hc;rcases hy with ⟨hw,hv⟩ | ⟨hw,rfl⟩
    ·rw [hw,if_pos rfl];refine Mx (C:=cE [] w) (K:=λa'=>a'=a.put o.dst v) (cI _ _) (λa' w' k e=>by subst e;exact hK _ _ _ _ _ _ (.inr k) (g1.ext k) g2) ⟨v,λw' k => ?_,rfl⟩;have:=hv w' k;unfold kN at this ⊢;generalize (execOp a.eval o).run P w'=r at *;cases r with
     | ok nx w2 =>
      cases nx <;> simp only [qZ] at this ⊢
      case value u=>exact this
      case skip=>exact this
      case enter f args=>exact ⟨this.1,this.2.mono λe w3 hh=>⟨hh.1,k.trans hh.2⟩⟩
     | halt x w2=>simp only [qZ] at this
    ·rw [hw];exact hK _ _ _ _ _ _ (.inr (cI _ _)) g1 g2
   ·exact YD hT hX hR1 hd1 h hc λa' w0' G' w' V' own' k=>hK a' w0' G' w' V' own' (.inr k)
theorem pN {tab:List TI} {ext:sE} {wr:Bool} {ops:Array Oper} {S':St}:∀ {m:Nat} {listed:Array Bool} {S:St},x9 tab ext wr n ops m listed S=some S'->eZ S'.cs->eZ S.cs
 | 0,listed,S,h,hc=>by
  simp only [x9] at h;split at h
  ·cases h;exact hc
  ·cases h
 | m+1,listed,S,h,hc=>by
  simp only [x9] at h;split at h
  ·cases h;exact hc
  ·split at h
   ·cases h
   ·rename_i S1 hdec;refine FG hdec ?_;split at h
    ·rename_i j S2 hq;obtain ⟨_,o,_,_,hst⟩:=FH hq;exact qE hst (pN h hc)
    ·split at h
     ·split at h
      ·rename_i S2 hB;exact FI hB (pN h hc)
      ·cases h
     ·split at h
      ·split at h
       ·rename_i S2 S3 hA hB;split at h
        ·rename_i A B hA2 hB2;split at h
         ·split at h
          ·cases h;exact FI hA (pN hA2 (b9.1 hc).1)
          ·cases h
         ·cases h
        ·cases h
       ·cases h
      ·cases h
     ·cases h
theorem uA {tab:List TI} {ext:sE} (hT:jP P tab) (hX:nQ P ext) {wr:Bool} {ops:Array Oper} {Q:Exit->Act->World->Prop} (hs:sU ops=true) (hQ:∀ c a w,¬ Q (.panic c) a w) {S':St}
  (hc:eZ S'.cs) (hK:∀ a' w0' G' w' V' own',bT n K w0' G' w' a' S'.E S'.L V' own'->hZ q a' S'->Q .normal a' w'):∀ {w0:World} {G:Nat->Prop} {m:Nat} {listed:Array Bool} {S:St} {a:Act} {w:World} {V:Nat->Value} {own:Nat->List Nat},
  bT n K w0 G w a S.E S.L V own->hZ q a S->Ec ops listed->x9 tab ext wr n ops m listed S=some S'->nK P ops Q [] m listed a w
 | w0,G,0,listed,S,a,w,V,own,hR,hd,hD,h=>by
  simp only [x9] at h;split at h
  ·rename_i hr;cases h;exact λw1 k=>⟨hr,hK _ _ _ _ _ _ (hR.ext k) hd⟩
  ·cases h
 | w0,G,m+1,listed,S,a,w,V,own,hR,hd,hD,h=>by
  simp only [x9] at h;split at h
  ·rename_i hr;cases h;exact λw1 k=>⟨λ_=>hK _ _ _ _ _ _ (hR.ext k) hd,by rw [hr];simp⟩
  ·rename_i i r hr;split at h
   ·cases h
   ·rename_i S1 hdec;split at h
    ·rename_i j S2 hq;obtain ⟨hjr,o,ho,hf,hst⟩:=FH hq;rw [<- hr] at hjr;have hc2:eZ S2.cs:=pN h hc;have hc1:eZ S1.cs:=qE hst hc2;obtain ⟨e1,e2,e3⟩:=oX hR hd hdec hc1;have hR1:bT n K w0 G w a S1.E S1.L V own:=by rw [e1,e2];exact hR
     obtain ⟨v,hy,g1,g2⟩:=FF hT hX hR1 e3 hst hc2;refine DO ho (q7 hs) hQ m listed a w hD (Ch ho hf) hjr hy ?_;exact uA hT hX hs hQ hc hK g1 g2 (hD.set hjr) h
    ·split at h
     ·rename_i o hno _;rw [xD] at hno;have ho:ops[i]? = some o:=by simpa using hno
      split at h
      ·rename_i S2 hB;have hc2:eZ S2.cs:=pN h hc;have hc1:eZ S1.cs:=FI hB hc2;obtain ⟨e1,e2,e3⟩:=oX hR hd hdec hc1;have hir:i∈eN .any ops listed:=by rw [hr];simp
       refine λw1 k=>⟨λh0=>by (rw [hr] at h0;cases h0),λj hj => ?_⟩;have hji:j=i:=by rw [hr] at hj;simpa using hj
       subst hji;have hR1:bT n K w0 G w1 a S1.E S1.L V own:=by rw [e1,e2];exact hR.ext k
       unfold wpOp;simp only [ho];have:=Ji (Kt:=λa' w'=>(Lx ops listed j=true\/cE [] w1 w')/\nK P ops Q [] m (listed.setIfInBounds j true) a' w') (Q:=Q) hT hX hR1 e3 hB hc2 (λa' w0' G' w' V' own' hb hR' hd'=>⟨hb,uA hT hX hs hQ hc hK hR' hd' (hD.set hir) h⟩);split
       ·rename_i hw;rw [if_pos hw] at this;exact .inl this
       ·rename_i hw;rw [if_neg hw] at this;exact this
      ·cases h
     ·rename_i j o hno _;split at h
      ·rename_i p hnp;rw [xD] at hno hnp;have ho:ops[i]? = some o:=by simpa using hno
       have hp:ops[j]? = some p:=by simpa using hnp
       split at h
       ·rename_i S2 S3 hA hB;split at h
        ·rename_i A B hA2 hB2;split at h
         case h_2=>cases h
         rename_i B' hnB;obtain ⟨nb1,nb2,nb3⟩:=Pa hnB;split at h
         case h_2=>cases h
         rename_i hpn;have hpn:=ME hpn;cases h;have hcA:eZ A.cs:=(b9.1 hc).1;have hcB:eZ B.cs:=by rw [<- nb1];exact (b9.1 (b9.1 hc).2).1
         have heq:(Bo A.E n [],A.L)=(Bo B'.E n [],B'.L):=(b9.1 (b9.1 hc).2).2.1;have hc2:eZ S2.cs:=pN hA2 hcA;have hc3:eZ S3.cs:=pN hB2 hcB;have hc1:eZ S1.cs:=FI hA hc2;obtain ⟨e1,e2,e3⟩:=oX hR hd hdec hc1;have hKA:∀ a' w0' G' w' V' own',bT n K w0' G' w' a' A.E A.L V' own'->hZ q a' A->Q .normal a' w':=λa' w0' G' w' V' own' hr' hd' =>
          hK a' w0' G' w' V' own' hr'.tab ⟨λt d hl=>(by cases hl),hd'.2⟩
         have hKB:∀ a' w0' G' w' V' own',bT n K w0' G' w' a' B.E B.L V' own'->hZ q a' B->Q .normal a' w':=λa' w0' G' w' V' own' hr' hd'=>by
          obtain ⟨V2,own2,hr2⟩:=nb3 hr';refine hK a' w0' G' w' V2 own2 ?_ ⟨λt d hl=>(by cases hl),?_⟩
          ·have k1:Bo A.E n []=Bo B'.E n []:=congrArg hI heq;have k2:A.L=B'.L:=congrArg Aq heq;show bT n K w0' G' w' a' (Bo A.E n []) A.L V2 own2;rw [k1,k2];exact hr2.tab
          ·show ∀ t∈A.pins,a'.tmps.getD t undef=q t;rw [hpn,nb2];exact hd'.2
         have hir:i∈eN .any ops listed:=by rw [hr];simp
         have hjr:j∈eN .any ops listed:=by rw [hr];simp
         refine λw1 k=>⟨λh0=>by (rw [hr] at h0;cases h0),λc hk => ?_⟩;have hkk:c=i\/c=j:=by rw [hr] at hk;simpa using hk
         have hR1:bT n K w0 G w1 a S1.E S1.L V own:=by rw [e1,e2];exact hR.ext k
         rcases hkk with rfl | rfl
         ·unfold wpOp;simp only [ho];have:=Ji (Kt:=λa' w'=>(Lx ops listed c=true\/cE [] w1 w')/\nK P ops Q [] m (listed.setIfInBounds c true) a' w') (Q:=Q) hT hX hR1 e3 hA hc2 (λa' w0' G' w' V' own' hb hR' hd'=>⟨hb,uA hT hX hs hQ hcA hKA hR' hd' (hD.set hir) hA2⟩);split
          ·rename_i hw;rw [if_pos hw] at this;exact .inl this
          ·rename_i hw;rw [if_neg hw] at this;exact this
         ·unfold wpOp;simp only [hp];have:=Ji (Kt:=λa' w'=>(Lx ops listed c=true\/cE [] w1 w')/\nK P ops Q [] m (listed.setIfInBounds c true) a' w') (Q:=Q) (S:=⟨S1.path,S1.dec,S1.E,S1.L,[],S1.pins⟩) hT hX hR1 e3 hB hc3 (λa' w0' G' w' V' own' hb hR' hd'=>⟨hb,uA hT hX hs hQ hcB hKB hR' hd' (hD.set hjr) hB2⟩);split
          ·rename_i hw;rw [if_pos hw] at this;exact .inl this
          ·rename_i hw;rw [if_neg hw] at this;exact this
        ·cases h
       ·cases h
      ·cases h
     ·cases h
def uB:List Nat->Nat
 | []=>0
 | d :: r=>Nat.lor (xI 1 d) (uB r)
theorem NS (x d:Nat):(1 <<< x).testBit d=decide (x=d):=by
 rw [Nat.one_shiftLeft,Nat.testBit_two_pow]
theorem uC:∀ (l:List Nat) (d:Nat),(uB l).testBit d=decide (d∈l)
 | [],d=>by simp [uB]
 | x :: r,d=>by
  have e:uB (x :: r)=(1 <<< x) ||| uB r:=rfl
  rw [e,Rt,uC r d,NS];by_cases hx:x=d
  ·subst hx;simp
  ·have:¬ d=x:=λh=>hx h.symm;simp [hx,this]
structure OpI where
 looks:Nat
 dst:Nat
 pre:Nat
 loud:Bool
def aHN:Op->Bool
 | .call { callee := .builtin .len,.. }=>false
 | .call _=>true
 | .box _ _=>true
 | .alloc _=>true
 | .buildSlice _ _ _=>true
 | .makeSlice _ _ _=>true
 | .store _ _ _=>true
 | .convert _ _ _=>true
 | _=>false
def aHO (o:Oper):List Nat:=match o.dst with | some d=>[d] | none=>[]
def VG (o:Oper):List Nat:=(o.after.toList.filter λe=>fI .any e).map λe=>e.on
def XZ (ops:Array Oper) (o:Oper):OpI:=⟨uB (o.looksAt ops),uB (aHO o),uB (VG o),aHN o.op⟩
def IP (y:OpI) (j:Nat):Nat->List OpI->Bool
 | _,[]=>true
 | k,x :: r=>match cG k j with
  | true=>true
  | false=>match cG (Ci y.pre (xI 1 k)) 0 with
   | false=>IP y j (k+1) r
   | true=>cG (Ci (Nat.lor y.looks y.dst) x.dst) 0&&(cG (Ci x.looks y.dst) 0&&IP y j (k+1) r)
def aEE (j:Nat):List OpI->Bool
 | []=>true
 | x :: r => !cG (q8 x.pre j) 0&&aEE j r
def aBy (all:List OpI):Nat->List OpI->Bool
 | _,[]=>true
 | j,y :: r=>cG (q8 y.pre j) 0&&(IP y j 0 all&&((match y.loud with | true=>aEE j r | false=>true)&&aBy all (j+1) r))
def aXw (ops:Array Oper):Bool:=match ops.toList.map (XZ ops) with
 | all=>aBy all 0 all
def VH (tab:List TI) (ext:sE) (wr:Bool) (n:Nat) (ops:Array Oper):Nat->Array Bool->List Oper->St->Option St
 | _,_,[],S=>some S
 | j,listed,o :: r,S=>match aHN o.op with
  | false=>match vM tab ext wr n true ops.toList S o with
   | some S'=>VH tab ext wr n ops (j+1) (listed.setIfInBounds j true) r S'
   | none=>none
  | true=>match vM tab ext wr n true ops.toList S o with
   | some S'=>VH tab ext wr n ops (j+1) (listed.setIfInBounds j true) r S'
   | none=>match NR tab ext wr n ops listed j S o with
    | some S'=>VH tab ext wr n ops (j+1) (listed.setIfInBounds j true) r S'
    | none=>none
theorem Gh {tab:List TI} {ext:sE} {wr:Bool} {ops:Array Oper} {S':St}:∀ {l:List Oper} {j:Nat} {listed:Array Bool} {S:St},VH tab ext wr n ops j listed l S=some S'->eZ S'.cs->eZ S.cs
 | [],j,listed,S,h,hc=>by cases h;exact hc
 | o :: r,j,listed,S,h,hc=>by
  simp only [VH] at h;split at h
  ·split at h
   ·rename_i h1;exact qE h1 (Gh h hc)
   ·cases h
  ·split at h
   ·rename_i h1;exact qE h1 (Gh h hc)
   ·split at h
    ·rename_i h1;exact FI h1 (Gh h hc)
    ·cases h
theorem NT {ops:Array Oper} {y:Oper} {j:Nat}:∀ {l:List Oper} {k:Nat},IP (XZ ops y) j k (l.map (XZ ops))=true->∀ (i:Nat) (x:Oper),l[i]? = some x->k+i<j ->
  (∃ e∈y.after,fI .any e=true/\e.on=k+i)\/x.apart ops y=true
 | [],k,_,i,x,hx,_=>by simp at hx
 | z :: r,k,h,i,x,hx,hi=>by
  simp only [bP,IP] at h;have hkj:cG k j=false:=vT (by omega);rw [hkj] at h;simp only at h;have rest:IP (XZ ops y) j (k+1) (r.map (XZ ops))=true->∀ i',i=i'+1->(∃ e∈y.after,fI .any e=true/\e.on=k+i)\/x.apart ops y=true:=by
   rintro h i' rfl;have:=NT h i' x (by simpa using hx) (by omega);rw [show k+(i'+1)=k+1+i' by omega];exact this
  split at h
  ·rename_i hb;cases i with
   | zero =>
    left;have hb2:(uB (VG y)).testBit k=true:=by
     cases ht:(uB (VG y)).testBit k with
     | true=>rfl
     | false =>
      exfalso;have h0:cG (Ci (uB (VG y)) (xI 1 k)) 0=true:=by
       have:(uB (VG y)) &&& (1 <<< k)=0:=by
        apply GI;intro m;rw [OT,NS];by_cases hm:k=m
        ·subst hm;simp [ht]
        ·simp [hm]
       have h1:Ci (uB (VG y)) (xI 1 k)=0:=this;rw [h1];rfl
      have h2:cG (Ci (XZ ops y).pre (xI 1 k)) 0=true:=h0;rw [h2] at hb;cases hb
    rw [uC] at hb2;have:=of_decide_eq_true hb2;obtain ⟨e,he,rfl⟩:=eE.1 this;obtain ⟨he,hbe⟩:=yP.1 he;exact ⟨e,by simpa using he,hbe,by simp⟩
   | succ i'=>exact rest h i' rfl
  ·simp only [aJ] at h;obtain ⟨h1,h2,h3⟩:=h;cases i with
   | zero =>
    right;simp at hx;subst hx;have land0:∀ {a b d:Nat},cG (Ci a b) 0=true->b.testBit d=true->a.testBit d=false:=by
     intro a b d h hb;have h:=aX h;have h':a &&& b=0:=h;have h3:(a &&& b).testBit d=false:=by rw [h'];simp
     rw [OT,hb] at h3;simpa using h3
    have hdst:∀ (o:Oper) d,o.dst=some d->(XZ ops o).dst.testBit d=true:=by
     intro o d hd;show (uB (aHO o)).testBit d=true;rw [uC];simp [aHO,hd]
    unfold Oper.apart;rw [aJ];constructor
    ·split
     ·rename_i d hd;have h4:=land0 h1 (hdst _ d hd);have h4':((uB (y.looksAt ops)) ||| (uB (aHO y))).testBit d=false:=h4;rw [Rt,uC,uC,Bool.or_eq_false_iff] at h4';obtain ⟨g1,g2⟩:=h4';have g1:=of_decide_eq_false g1;have g2:=of_decide_eq_false g2;rw [aJ];refine ⟨by simpa using g1,?_⟩;simp only [bne_iff_ne,ne_eq];intro hy;exact g2 (by simp [aHO,hy])
     ·rfl
    ·split
     ·rename_i d hd;have h4:=land0 h2 (hdst _ d hd);have h4':(uB (z.looksAt ops)).testBit d=false:=h4;rw [uC] at h4';have g1:=of_decide_eq_false h4';simpa using g1
     ·rfl
   | succ i'=>exact rest h3 i' rfl
def MF (ops:Array Oper) (listed:Array Bool) (j:Nat):Prop:=listed.size=ops.size/\∀ k,k<ops.size->listed.getD k true=decide (k<j)
theorem MF.false {ops:Array Oper} {listed:Array Bool} {j:Nat} (h:MF ops listed j) {k:Nat}:listed.getD k false=decide (k<j/\k<ops.size):=by
 by_cases hk:k<ops.size
 ·have:=h.2 k hk;rw [cR] at this ⊢;rw [gJ (by rw [h.1];exact hk)] at this ⊢;simp only [Option.getD_some] at this ⊢;rw [this];simp [hk]
 ·rw [cR, cZ (by rw [h.1];omega)];simp [hk]
theorem MF.set {ops:Array Oper} {listed:Array Bool} {j:Nat} (h:MF ops listed j):MF ops (listed.setIfInBounds j true) (j+1):=by
 refine ⟨by simpa using h.1,λk hk => ?_⟩;by_cases hkj:j=k
 ·subst hkj;rw [cR, p9 (by rw [h.1];exact hk)];simp
 ·rw [getD_set_ne true hkj,h.2 k hk];simp only [decide_eq_decide];omega
theorem aQA {ops:Array Oper} {o:Oper} {j:Nat} (h:cG (q8 (XZ ops o).pre j) 0=true):∀ e∈o.after,fI .any e=true->e.on<j:=by
 intro e he hb;rcases eK e.on j with h1 | h1
 ·exact h1
 ·exfalso;have h:=aX h;have h':(uB (VG o)) >>> j=0:=h;have h2:((uB (VG o)) >>> j).testBit (e.on - j)=true:=by
   rw [Dy,uC,show j+(e.on - j)=e.on by omega];refine decide_eq_true (eE.2 ⟨e,yP.2 ⟨by simpa using he,hb⟩,rfl⟩)
  rw [h'] at h2;simp at h2
theorem aQB {ops:Array Oper} {o:Oper} {j:Nat} (h:cG (q8 (XZ ops o).pre j) 0=false):∃ e∈o.after,fI .any e=true/\j<=e.on:=by
 apply BK;intro hn;have h':(uB (VG o)) >>> j=0:=by
  apply GI;intro m;rw [Dy,uC,Nat.zero_testBit];refine decide_eq_false λhm=>hn ?_;obtain ⟨e,he,h1⟩:=eE.1 hm;obtain ⟨he,hb⟩:=yP.1 he;exact ⟨e,by simpa using he,hb,by omega⟩
 have h2:q8 (XZ ops o).pre j=0:=h';rw [h2] at h;cases h
theorem aBz {ops:Array Oper} {j:Nat}:∀ (l:List Oper),aEE j (l.map (XZ ops))=true->∀ x∈l,∃ e∈x.after,fI .any e=true/\j<=e.on:=by
 intro l
 induction l with
 | nil=>intro _ x hx;cases hx
 | cons x r ih =>
  intro h y hy;rw [bP,aEE,aJ,cW] at h;rcases aR.1 hy with rfl | hy
  ·exact aQB h.1
  ·exact ih h.2 y hy
theorem Th {all:List OpI}:∀ {l:List OpI} {j:Nat},aBy all j l=true->∀ i y,l[i]? = some y->cG (q8 y.pre (j+i)) 0=true/\IP y (j+i) 0 all=true
 | x :: r,j,h,i,y,hy=>by
  simp only [aBy,aJ] at h;obtain ⟨h1,h2,_,h4⟩:=h;cases i with
  | zero=>simp at hy;subst hy;exact ⟨h1,h2⟩
  | succ i =>
   have:=Th h4 i y (by simpa using hy);rw [show j+(i+1)=j+1+i by omega];exact this
theorem MG {tab:List TI} {ext:sE} (hT:jP P tab) (hX:nQ P ext) {wr:Bool} {ops:Array Oper} {Q:Exit->Act->World->Prop} (hs:sU ops=true) (hQ:∀ c a w,¬ Q (.panic c) a w) {S':St}
  (hc:eZ S'.cs) (hK:∀ a' w0' G' w' V' own',bT n K w0' G' w' a' S'.E S'.L V' own'->hZ q a' S'->Q .normal a' w')
  (hall:aBy (ops.toList.map (XZ ops)) 0 (ops.toList.map (XZ ops))=true):∀ {l:List Oper} {w0:World} {G:Nat->Prop} {j:Nat} {listed:Array Bool} {S:St} {a:Act} {w:World} {V:Nat->Value} {own:Nat->List Nat},
  bT n K w0 G w a S.E S.L V own->hZ q a S->Ec ops listed->MF ops listed j->ops.toList.drop j=l->aBy (ops.toList.map (XZ ops)) j (l.map (XZ ops))=true->VH tab ext wr n ops j listed l S=some S'->nK P ops Q [] l.length listed a w
 | [],w0,G,j,listed,S,a,w,V,own,hR,hd,hD,hF,hl,_,h=>by
  cases h;have hge:ops.size<=j:=by
   have:=congrArg aN hl;simp at this;omega
  refine λw1 k=>⟨?_,hK _ _ _ _ _ _ (hR.ext k) hd⟩;apply List.eq_nil_iff_forall_not_mem.2;intro i hi;obtain ⟨h1,o,ho,_⟩:=mem_ready.1 hi;have hlt:=(j2.1 ho).1;rw [hF.2 i hlt] at h1;have:=of_decide_eq_false h1;omega
 | o :: r,w0,G,j,listed,S,a,w,V,own,hR,hd,hD,hF,hl,hB,h=>by
  have hlen:=congrArg aN hl;simp only [fD,cT,bA] at hlen;have hj:j<ops.size:=by omega
  have ho:ops[j]? = some o:=by
   have:=congrArg (λl=>l[0]?) hl;simpa using this
  have hr:ops.toList.drop (j+1)=r:=by
   have:=congrArg List.tail hl;simpa using this
  simp only [bP,aBy,aJ] at hB;obtain ⟨b1,b2,b3,b4⟩:=hB;have hready:j∈eN .any ops listed:=by
   refine mem_ready.2 ⟨by rw [hF.2 j hj];simp,o,ho,λe he hb => ?_⟩;have:=aQA b1 e he hb;rw [hF.false];exact decide_eq_true ⟨this,by omega⟩
  have hfree:∀ i oi,ops[i]? = some oi->i≠j->listed.getD i true=false->(∀ e∈oi.after,fI .any e=true->e.on≠j)->o.apart ops oi=true:=by
   intro i oi hi hij hun hno;have hlt:=(j2.1 hi).1;rw [hF.2 i hlt] at hun;have hge:=of_decide_eq_false hun;have hy:(ops.toList.map (XZ ops))[i]? = some (XZ ops oi):=by simp [hi]
   obtain ⟨_,hp⟩:=Th hall i _ hy;rw [cV] at hp;rcases NT hp j o (by simpa using ho) (by omega) with ⟨e,he,hb,he2⟩ | hap
   ·exact absurd (by rw [he2];simp) (hno e he hb)
   ·exact hap
  have quiet:∀ {S2:St},vM tab ext wr n true ops.toList S o=some S2->VH tab ext wr n ops (j+1) (listed.setIfInBounds j true) r S2=some S'->nK P ops Q [] (o :: r).length listed a w:=by
   intro S2 hst h;obtain ⟨v,hy,g1,g2⟩:=FF hT hX hR hd hst (Gh h hc);exact DO ho (q7 hs) hQ r.length listed a w hD hfree hready hy (MG hT hX hs hQ hc hK hall g1 g2 (hD.set hready) hF.set hr b4 h)
  simp only [VH] at h;split at h
  ·split at h
   ·rename_i S2 hst;exact quiet hst h
   ·cases h
  ·rename_i hloud;split at h
   ·rename_i S2 hst;exact quiet hst h
   ·split at h
    ·rename_i S2 hB;have hlo:(XZ ops o).loud=true:=hloud;rw [hlo] at b3;simp only at b3;have hc2:eZ S2.cs:=Gh h hc;refine λw1 k=>⟨λh0=>by (rw [h0] at hready;cases hready),λi hi => ?_⟩;have hji:i=j:=by
      obtain ⟨h1,oi,hoi,hai⟩:=mem_ready.1 hi;have hlt:=(j2.1 hoi).1;rw [hF.2 i hlt] at h1;have hge:=of_decide_eq_false h1;apply BK;intro hne;have hmem:oi∈r:=by
       rw [<- hr];refine qW (i:=i - (j+1)) ?_;rw [List.getElem?_drop,show j+1+(i - (j+1))=i by omega];simpa using hoi
      obtain ⟨e,he,hb,hle⟩:=aBz _ b3 oi hmem;have:=hai e he hb;rw [hF.false] at this;have:=(of_decide_eq_true this).1;omega
     subst hji;have hR1:bT n K w0 G w1 a S.E S.L V own:=hR.ext k;unfold wpOp;simp only [ho];have:=Ji (Kt:=λa' w'=>(Lx ops listed i=true\/cE [] w1 w')/\nK P ops Q [] r.length (listed.setIfInBounds i true) a' w') (Q:=Q) hT hX hR1 hd hB hc2 (λa' w0' G' w' V' own' hb hR' hd'=>⟨hb,MG hT hX hs hQ hc hK hall hR' hd' (hD.set hready) hF.set hr b4 h⟩);split
     ·rename_i hw;rw [if_pos hw] at this;exact .inl this
     ·rename_i hw;rw [if_neg hw] at this;exact this
    ·cases h
theorem YE {tab:List TI} {ext:sE} {wr:Bool} {r0:Nat} {all:List Oper} {S S':St} {o:Oper} (h:PT tab ext wr n r0 all S o=some S') (hc:eZ S'.cs):eZ S.cs:=by
 unfold PT at h;split at h
 ·cases h
 ·rename_i S1 hg;have:=fA h;rw [this] at hc;exact n5 hg (b9.1 hc).1
 ·rename_i S1 hg;refine n5 hg ?_;split at h
  ·split at h
   ·rename_i d S2 hdec;have:=fA h;rw [this] at hc;exact lX hdec (b9.1 hc).1
   ·cases h
  ·split at h
   ·split at h
    ·have:=fA h;rw [this] at hc;exact (b9.1 hc).1
    ·cases h
   ·split at h
    ·split at h
     ·have:=fA h;rw [this] at hc;exact (b9.1 hc).1
     ·cases h
    ·cases h
theorem YF {tab:List TI} {ext:sE} {r0:Nat} {all:List Oper} {S S':St} {o:Oper} (h:Xt tab ext n r0 all S o=some S') (hc:eZ S'.cs):eZ S.cs:=by
 unfold Xt at h;split at h
 ·rename_i S1 hg;split at h
  ·split at h
   ·split at h
    ·have:=fA h;rw [this] at hc;exact n5 hg (b9.1 hc).1
    ·cases h
   ·cases h
  ·split at h
   ·split at h
    ·have:=fA h;rw [this] at hc;exact n5 hg (b9.1 hc).1
    ·cases h
   ·cases h
  ·cases h
 ·cases h
theorem YG {tab:List TI} {ext:sE} (hT:jP P tab) (hX:nQ P ext) {wr:Bool} {r0:Nat} {A:hY} {ops:Array Oper} {S S':St} {o:Oper} (hR:bT n K w0 G w a S.E S.L V own) (hA:b7 S.L r0=some A) (hd:hZ q a S)
  (h:PT tab ext wr n r0 ops.toList S o=some S') (hc:eZ S'.cs) :
  ∃ v,lA P ops (own r0) o v a w/\bT n K w0 G w (a.put o.dst v) S'.E S'.L V own/\hZ q (a.put o.dst v) S':=by
 unfold PT at h;split at h
 ·cases h
 ·rename_i S1 hg;have hcs:=fA h;rw [hcs] at hc;obtain ⟨h1,h2,h3,h4,h5⟩:=iM hR hd hg (b9.1 hc).1;have hR1:bT n K w0 G w a S1.E S1.L V own:=by rw [h2,h3];exact hR
  obtain ⟨g1,g2,_⟩:=j4 (v:=undef) h hR1 h4 ⟨rfl,trivial⟩;exact ⟨undef,.inr ⟨h1,rfl⟩,g1,g2⟩
 ·rename_i S1 hg;have hc1:eZ S1.cs:=by
   split at h
   ·split at h
    ·rename_i d S2 hdec;have hcs:=fA h;rw [hcs] at hc;exact lX hdec (b9.1 hc).1
    ·cases h
   ·split at h
    ·split at h
     ·have hcs:=fA h;rw [hcs] at hc;exact (b9.1 hc).1
     ·cases h
    ·split at h
     ·split at h
      ·have hcs:=fA h;rw [hcs] at hc;exact (b9.1 hc).1
      ·cases h
     ·cases h
  obtain ⟨h1,h2,h3,h4,h5⟩:=iM hR hd hg hc1;have hR1:bT n K w0 G w a S1.E S1.L V own:=by rw [h2,h3];exact hR
  have hA1:b7 S1.L r0=some A:=by rw [h3];exact hA
  split at h
  ·rename_i c x y ho;split at h
   ·rename_i d S2 hdec;have hcs:=fA h;rw [hcs] at hc;obtain ⟨k1,k2,k3,k4,k5⟩:=oV hR1 h4 hdec (b9.1 hc).1;have hR2:bT n K w0 G w a S2.E S2.L V own:=by rw [k2,k3];exact hR1
    obtain ⟨g1,g2,_⟩:=j4 h hR2 k4 (PZ (d:=d) (hR2.opnd x) (hR2.opnd y));refine ⟨_,.inl ⟨h1,λw' k => ?_⟩,g1,g2⟩;unfold kN;rw [Jh ho k1 w'];exact ⟨rfl,rfl⟩
   ·cases h
  ·split at h
   ·rename_i hnm;split at h
    ·rename_i cs pv hop;have hcs:=fA h;rw [hcs] at hc;obtain ⟨v,hv,hq⟩:=aBt (P:=P) hR1 hnm hop;obtain ⟨g1,g2,_⟩:=j4 h hR1 h4 hv;refine ⟨v,.inl ⟨h1,λw' k => ?_⟩,g1,g2⟩;unfold kN;rw [hq w'];exact ⟨rfl,rfl⟩
    ·cases h
   ·split at h
    ·rename_i cs pv hop;split at h
     ·rename_i hdet;have hcs:=fA h;rw [hcs] at hc;obtain ⟨v,hv,hq⟩:=aGe hT hX hR1 hA1 hop hdet (b9.1 hc).2;obtain ⟨g1,g2,_⟩:=j4 h hR1 h4 hv;exact ⟨v,.inl ⟨h1,hq⟩,g1,g2⟩
     ·cases h
    ·cases h
theorem aHP {tab:List TI} (hT:jP P tab) {ext:sE} (hX:nQ P ext) {r0:Nat} {ops:Array Oper} {S S':St} {o:Oper} (hR:bT n K w0 G w a S.E S.L V own) (hd:hZ q a S)
  (h:Xt tab ext n r0 ops.toList S o=some S') (hc:eZ S'.cs) {Kt:Act->World->Prop} {Q:Exit->Act->World->Prop}
  (hK:∀ a' w0' G' w' V' own',cE (own r0) w w'->bT n K w0' G' w' a' S'.E S'.L V' own'->hZ q a' S'->Kt a' w') :
  if eQ o (yielded ops a.tmps) then o.wp P a w Kt Q else Kt (a.put o.dst undef) w:=by
 unfold Xt at h;split at h
 ·rename_i S1 hg;split at h
  ·rename_i f args ts ho;split at h
   ·rename_i g ps hgp;split at h
    ·rename_i cs pv E L hop;have hcs:=fA h;rw [hcs] at hc;obtain ⟨h1,h2,h3,h4,h5⟩:=iM hR hd hg (b9.1 hc).1;rw [h1,if_pos rfl];have hR1:bT n K w0 G w a S1.E S1.L V own:=by rw [h2,h3];exact hR
     obtain ⟨vs,hv,hps⟩:=yZ hR1 hgp;obtain ⟨hcall,hcalls⟩:=DP hX hR1 hps hop (b9.1 hc).2;unfold nY;rw [Jd hcall ho hv];refine hcalls.mono ?_;rintro e w' ⟨v,w0',G',V',own',rfl,hk,hR',hv'⟩;obtain ⟨g1,g2,_⟩:=j4 h hR' h4 hv';exact hK _ _ _ _ _ _ hk g1 g2
    ·cases h
   ·cases h
  ·rename_i T x y ho;split at h
   ·rename_i r L1 ht hL;split at h
    ·rename_i hr;have hcs:=fA h;rw [hcs] at hc;obtain ⟨h1,h2,h3,h4,h5⟩:=iM hR hd hg (b9.1 hc).1;rw [h1,if_pos rfl];have hR1:bT n K w0 G w a S1.E S1.L V own:=by rw [h2,h3];exact hR
     obtain ⟨w1,hrun,hR2,r2,ht2,hk⟩:=PO hT hR1 hL;rw [ht] at ht2;cases ht2;obtain rfl:=aX hr;unfold nY;have:(execOp a.eval o).run P w = .ok .skip w1:=by simp [execOp,ho,hrun]
     rw [this];obtain ⟨g1,g2,_⟩:=j4 h hR2 h4 (v:=undef) trivial;exact hK _ _ _ _ _ _ hk g1 g2
    ·cases h
   ·cases h
  ·cases h
 ·cases h
def aHQ:Nat->bG->Option Nat
 | _,[]=>none
 | k,some A :: l=>match A.sm with
  | some true=>some k
  | _=>aHQ (k+1) l
 | k,none :: l=>aHQ (k+1) l
def MH (tab:List TI) (ext:sE) (wr:Bool) (n r0:Nat) (ops:Array Oper) (listed:Array Bool) (S:St):List Nat->Option (Nat×St)
 | []=>none
 | i :: r=>match Lu ops.toList i,oL .any ops listed i with
  | some o,true=>match PT tab ext wr n r0 ops.toList S o with
   | some S'=>some (i,S')
   | none=>MH tab ext wr n r0 ops listed S r
  | _,_=>MH tab ext wr n r0 ops listed S r
def FJ (tab:List TI) (ext:sE) (wr:Bool) (n r0:Nat) (ops:Array Oper):Nat->Array Bool->St->Option St
 | 0,_,_=>none
 | m+1,listed,S=>match eN .any ops listed with
  | []=>none
  | i :: r=>match NQ ops.toList (i :: r) S with
   | none=>none
   | some S=>match b7 S.L r0 with
    | none=>none
    | some _=>match MH tab ext wr n r0 ops listed S (i :: r) with
     | some (j,S')=>FJ tab ext wr n r0 ops m (listed.setIfInBounds j true) S'
     | none=>match r,Lu ops.toList i with
      | [],some o=>match Xt tab ext n r0 ops.toList S o with
       | some S'=>x9 tab ext wr n ops m (listed.setIfInBounds i true) S'
       | none=>none
      | _,_=>none
theorem FK {tab:List TI} {ext:sE} {wr:Bool} {r0:Nat} {ops:Array Oper} {listed:Array Bool} {S:St} {j:Nat} {S':St}:∀ {rs:List Nat},MH tab ext wr n r0 ops listed S rs=some (j,S') ->
  j∈rs/\∃ o,ops[j]? = some o/\oL .any ops listed j=true/\PT tab ext wr n r0 ops.toList S o=some S'
 | [],h=>by cases h
 | i :: r,h=>by
  simp only [MH] at h;have rest:MH tab ext wr n r0 ops listed S r=some (j,S')->j∈i :: r/\∃ o,ops[j]? = some o/\oL .any ops listed j=true/\PT tab ext wr n r0 ops.toList S o=some S':=λh=>by
   obtain ⟨h1,h2⟩:=FK h;exact ⟨aM _ h1,h2⟩
  split at h
  ·rename_i o ho hf;split at h
   ·rename_i S1 h1;cases h;rw [xD] at ho;exact ⟨aQ .., o,by simpa using ho,hf,h1⟩
   ·exact rest h
  ·exact rest h
theorem MI {tab:List TI} {ext:sE} {wr:Bool} {r0:Nat} {ops:Array Oper} {S':St}:∀ {m:Nat} {listed:Array Bool} {S:St},FJ tab ext wr n r0 ops m listed S=some S'->eZ S'.cs->eZ S.cs
 | 0,listed,S,h,hc=>by
  simp only [FJ] at h;cases h
 | m+1,listed,S,h,hc=>by
  simp only [FJ] at h;split at h
  ·cases h
  ·split at h
   ·cases h
   ·rename_i S1 hdec;refine FG hdec ?_;split at h
    ·cases h
    ·split at h
     ·rename_i j S2 hq;obtain ⟨_,o,_,_,hst⟩:=FK hq;exact YE hst (MI h hc)
     ·split at h
      ·split at h
       ·rename_i S2 hB;exact YF hB (pN h hc)
       ·cases h
      ·cases h
theorem NU {tab:List TI} {ext:sE} (hT:jP P tab) (hX:nQ P ext) {wr:Bool} {ops:Array Oper} {Q:Exit->Act->World->Prop} (hs:sU ops=true) (hQ:∀ c a w,¬ Q (.panic c) a w) {S':St}
  (hc:eZ S'.cs) (hK:∀ a' w0' G' w' V' own',bT n K w0' G' w' a' S'.E S'.L V' own'->hZ q a' S'->Q .normal a' w') {r0:Nat}:∀ {m:Nat} {listed:Array Bool} {S:St} {a:Act} {w:World},
  bT n K w0 G w a S.E S.L V own->hZ q a S->Ec ops listed->FJ tab ext wr n r0 ops m listed S=some S'->nK P ops Q (own r0) m listed a w
 | 0,listed,S,a,w,hR,hd,hD,h=>by
  simp only [FJ] at h;cases h
 | m+1,listed,S,a,w,hR,hd,hD,h=>by
  simp only [FJ] at h;split at h
  ·cases h
  ·rename_i i r hr;split at h
   ·cases h
   ·rename_i S1 hdec;split at h
    ·cases h
    ·rename_i A0 hA0;split at h
     ·rename_i j S2 hq;obtain ⟨hjr,o,ho,hf,hst⟩:=FK hq;rw [<- hr] at hjr;have hc2:eZ S2.cs:=MI h hc;have hc1:eZ S1.cs:=YE hst hc2;obtain ⟨e1,e2,e3⟩:=oX hR hd hdec hc1;have hR1:bT n K w0 G w a S1.E S1.L V own:=by rw [e1,e2];exact hR
      obtain ⟨v,hy,g1,g2⟩:=YG (ops:=ops) hT hX hR1 hA0 e3 hst hc2;refine DO ho (q7 hs) hQ m listed a w hD (Ch ho hf) hjr hy ?_;exact NU hT hX hs hQ hc hK g1 g2 (hD.set hjr) h
     ·split at h
      ·rename_i o hno _;rw [xD] at hno;have ho:ops[i]? = some o:=by simpa using hno
       split at h
       ·rename_i S2 hB;have hc2:eZ S2.cs:=pN h hc;have hc1:eZ S1.cs:=YF hB hc2;obtain ⟨e1,e2,e3⟩:=oX hR hd hdec hc1;have hir:i∈eN .any ops listed:=by rw [hr];simp
        refine λw1 k=>⟨λh0=>by (rw [hr] at h0;cases h0),λj hj => ?_⟩;have hji:j=i:=by rw [hr] at hj;simpa using hj
        subst hji;have hR1:bT n K w0 G w1 a S1.E S1.L V own:=by rw [e1,e2];exact hR.ext k
        unfold wpOp;simp only [ho];have:=aHP (Kt:=λa' w'=>(Lx ops listed j=true\/cE (own r0) w1 w')/\nK P ops Q (own r0) m (listed.setIfInBounds j true) a' w') (Q:=Q) hT hX hR1 e3 hB hc2 (λa' w0' G' w' V' own' hb hR' hd'=>⟨.inr hb,(uA hT hX hs hQ hc hK hR' hd' (hD.set hir) h).mono (by simp)⟩);split
        ·rename_i hw;rw [if_pos hw] at this;exact .inl this
        ·rename_i hw;rw [if_neg hw] at this;exact this
       ·cases h
      ·cases h
def MJ (tab:List TI) (wr:Bool) (n:Nat) (ops:Array Oper) (listed:Array Bool) (S:St):List Nat->Option (Nat×St)
 | []=>none
 | i :: r=>match Lu ops.toList i,oL .any ops listed i with
  | some o,true=>match PU tab wr n ops.toList S o with
   | some S'=>some (i,S')
   | none=>MJ tab wr n ops listed S r
  | _,_=>MJ tab wr n ops listed S r
def AF (tab:List TI) (ext:sE) (wr:Bool) (n:Nat) (ops:Array Oper):Nat->Array Bool->St->Option St
 | 0,listed,S=>match eN .any ops listed with
  | []=>some S
  | _=>none
 | m+1,listed,S=>match eN .any ops listed with
  | []=>some S
  | i :: r=>match NQ ops.toList (i :: r) S with
   | none=>none
   | some S=>match MJ tab wr n ops listed S (i :: r) with
    | some (j,S')=>AF tab ext wr n ops m (listed.setIfInBounds j true) S'
    | none=>match r,Lu ops.toList i with
     | [],some o=>match vM tab ext wr n false ops.toList S o with
      | some S'=>AF tab ext wr n ops m (listed.setIfInBounds i true) S'
      | none=>none
     | [j],some o=>match Lu ops.toList j with
      | some p=>match vM tab ext wr n false ops.toList S o,vM tab ext wr n false ops.toList ⟨S.path,S.dec,S.E,S.L,[],S.pins⟩ p with
       | some S1,some S2=>match AF tab ext wr n ops m (listed.setIfInBounds i true) S1,AF tab ext wr n ops m (listed.setIfInBounds j true) S2 with
        | some A,some B=>match aED n S.L.length A B with
         | some B'=>match aHL A.pins B'.pins with
          | true=>some (aPB n A B')
          | false=>none
         | none=>none
        | _,_=>none
       | _,_=>none
      | none=>none
     | _,_=>none
theorem FL {tab:List TI} {wr:Bool} {ops:Array Oper} {listed:Array Bool} {S:St} {j:Nat} {S':St}:∀ {rs:List Nat},MJ tab wr n ops listed S rs=some (j,S') ->
  j∈rs/\∃ o,ops[j]? = some o/\oL .any ops listed j=true/\PU tab wr n ops.toList S o=some S'
 | [],h=>by cases h
 | i :: r,h=>by
  simp only [MJ] at h;have rest:MJ tab wr n ops listed S r=some (j,S')->j∈i :: r/\∃ o,ops[j]? = some o/\oL .any ops listed j=true/\PU tab wr n ops.toList S o=some S':=λh=>by
   obtain ⟨h1,h2⟩:=FL h;exact ⟨aM _ h1,h2⟩
  split at h
  ·rename_i o ho hf;split at h
   ·rename_i S1 h1;cases h;rw [xD] at ho;exact ⟨aQ .., o,by simpa using ho,hf,h1⟩
   ·exact rest h
  ·exact rest h
theorem Pb {tab:List TI} {wr:Bool} {all:List Oper} {S S':St} {o:Oper} (h:PU tab wr n all S o=some S') (hc:eZ S'.cs):eZ S.cs:=by
 unfold PU at h;split at h
 ·cases h
 ·rename_i S1 hg;have hcs:=fA h;rw [hcs] at hc;exact n5 hg (b9.1 hc).1
 ·rename_i S1 hg;refine n5 hg ?_;split at h
  ·split at h
   ·rename_i d S2 hdec;have hcs:=fA h;rw [hcs] at hc;exact lX hdec (b9.1 hc).1
   ·cases h
  ·split at h
   ·cases h
   ·split at h
    ·have hcs:=fA h;rw [hcs] at hc;exact (b9.1 hc).1
    ·cases h
theorem YH {tab:List TI} (hT:jP P tab) {wr:Bool} {ops:Array Oper} {S S':St} {o:Oper} (hR:bT n K w0 G w a S.E S.L V own) (hd:hZ q a S)
  (h:PU tab wr n ops.toList S o=some S') (hc:eZ S'.cs) :
  ∃ v,oW P ops o v a/\bT n K w0 G w (a.put o.dst v) S'.E S'.L V own/\hZ q (a.put o.dst v) S':=by
 have hc0:=Pb h hc;unfold PU at h;split at h
 ·cases h
 ·rename_i S1 hg;have hcs:=fA h;rw [hcs] at hc;obtain ⟨h1,h2,h3,h4,h5⟩:=iM hR hd hg (b9.1 hc).1;have hR1:bT n K w0 G w a S1.E S1.L V own:=by rw [h2,h3];exact hR
  obtain ⟨g1,g2,_⟩:=j4 (v:=undef) h hR1 h4 ⟨rfl,trivial⟩;exact ⟨undef,.inr ⟨h1,rfl⟩,g1,g2⟩
 ·rename_i S1 hg;have hc1:eZ S1.cs:=by
   split at h
   ·split at h
    ·rename_i d S2 hdec;have hcs:=fA h;rw [hcs] at hc;exact lX hdec (b9.1 hc).1
    ·cases h
   ·split at h
    ·cases h
    ·split at h
     ·have hcs:=fA h;rw [hcs] at hc;exact (b9.1 hc).1
     ·cases h
  obtain ⟨h1,h2,h3,h4,h5⟩:=iM hR hd hg hc1;have hR1:bT n K w0 G w a S1.E S1.L V own:=by rw [h2,h3];exact hR
  split at h
  ·rename_i c x y ho;split at h
   ·rename_i d S2 hdec;have hcs:=fA h;rw [hcs] at hc;obtain ⟨k1,k2,k3,k4,k5⟩:=oV hR1 h4 hdec (b9.1 hc).1;have hR2:bT n K w0 G w a S2.E S2.L V own:=by rw [k2,k3];exact hR1
    have hv:kH w0 G S2.L V (cond d (opnd S2.E x) (opnd S2.E y)) (if d then a.eval x else a.eval y):=by
     cases d
     ·exact hR2.opnd y
     ·exact hR2.opnd x
    obtain ⟨g1,g2,_⟩:=j4 h hR2 k4 hv;exact ⟨_,.inl ⟨h1,λw'=>Jh ho k1 w'⟩,g1,g2⟩
   ·cases h
  ·split at h
   ·cases h
   ·rename_i hnl;split at h
    ·rename_i cs pv hop;have hcs:=fA h;rw [hcs] at hc;obtain ⟨v,hv,hq⟩:=TP hT hR1 hop (b9.1 hc).2;obtain ⟨g1,g2,_⟩:=j4 h hR1 h4 hv;exact ⟨v,.inl ⟨h1,λw'=>hq w' λhl=>by rw [hnl] at hl;cases hl⟩,g1,g2⟩
    ·cases h
theorem uD {tab:List TI} {ext:sE} {wr:Bool} {ops:Array Oper} {S':St}:∀ {m:Nat} {listed:Array Bool} {S:St},AF tab ext wr n ops m listed S=some S'->eZ S'.cs->eZ S.cs
 | 0,listed,S,h,hc=>by
  simp only [AF] at h;split at h
  ·cases h;exact hc
  ·cases h
 | m+1,listed,S,h,hc=>by
  simp only [AF] at h;split at h
  ·cases h;exact hc
  ·split at h
   ·cases h
   ·rename_i S1 hdec;refine FG hdec ?_;split at h
    ·rename_i j S2 hq;obtain ⟨_,o,_,_,hst⟩:=FL hq;exact Pb hst (uD h hc)
    ·split at h
     ·split at h
      ·rename_i S2 hB;exact qE hB (uD h hc)
      ·cases h
     ·split at h
      ·split at h
       ·rename_i S2 S3 hA hB;split at h
        ·rename_i A B hA2 hB2;split at h
         ·split at h
          ·cases h;exact qE hA (uD hA2 (b9.1 hc).1)
          ·cases h
         ·cases h
        ·cases h
       ·cases h
      ·cases h
     ·cases h
theorem xP {tab:List TI} {ext:sE} (hT:jP P tab) (hX:nQ P ext) {wr:Bool} {ops:Array Oper} {Q:Exit->Act->World->Prop} (hs:sU ops=true) (hQ:∀ c a w,¬ Q (.panic c) a w) {S':St}
  (hc:eZ S'.cs) (hK:∀ a' w0' G' w' V' own',bT n K w0' G' w' a' S'.E S'.L V' own'->hZ q a' S'->Q .normal a' w'):∀ {w0:World} {G:Nat->Prop} {m:Nat} {listed:Array Bool} {S:St} {a:Act} {w:World} {V:Nat->Value} {own:Nat->List Nat},
  bT n K w0 G w a S.E S.L V own->hZ q a S->Ec ops listed->AF tab ext wr n ops m listed S=some S'->wpAny P .any ops Q m listed a w
 | w0,G,0,listed,S,a,w,V,own,hR,hd,hD,h=>by
  simp only [AF] at h;split at h
  ·rename_i hr;cases h;exact ⟨hr,hK _ _ _ _ _ _ hR hd⟩
  ·cases h
 | w0,G,m+1,listed,S,a,w,V,own,hR,hd,hD,h=>by
  simp only [AF] at h;split at h
  ·rename_i hr;cases h;exact ⟨λ_=>hK _ _ _ _ _ _ hR hd,λi hi=>by rw [hr] at hi;cases hi⟩
  ·rename_i i r hr;split at h
   ·cases h
   ·rename_i S1 hdec;split at h
    ·rename_i j S2 hq;obtain ⟨hjr,o,ho,hf,hst⟩:=FL hq;rw [<- hr] at hjr;have hc2:eZ S2.cs:=uD h hc;have hc1:eZ S1.cs:=Pb hst hc2;obtain ⟨e1,e2,e3⟩:=oX hR hd hdec hc1;have hR1:bT n K w0 G w a S1.E S1.L V own:=by rw [e1,e2];exact hR
     obtain ⟨v,hy,g1,g2⟩:=YH (ops:=ops) hT hR1 e3 hst hc2;refine VE ho (q7 hs) hQ m listed a w hD (Ch ho hf) hjr hy ?_;exact xP hT hX hs hQ hc hK g1 g2 (hD.set hjr) h
    ·split at h
     ·rename_i o hno _;rw [xD] at hno;have ho:ops[i]? = some o:=by simpa using hno
      split at h
      ·rename_i S2 hB;have hc2:eZ S2.cs:=uD h hc;have hc1:eZ S1.cs:=qE hB hc2;obtain ⟨e1,e2,e3⟩:=oX hR hd hdec hc1;have hir:i∈eN .any ops listed:=by rw [hr];simp
       refine ⟨λh0=>by (rw [hr] at h0;cases h0),λj hj => ?_⟩;have hji:j=i:=by rw [hr] at hj;simpa using hj
       subst hji;have hR1:bT n K w0 G w a S1.E S1.L V own:=by rw [e1,e2];exact hR
       unfold wpOp;simp only [ho];have:=FE (Kt:=wpAny P .any ops Q m (listed.setIfInBounds j true)) (Q:=Q) hT hX hR1 e3 hB hc2 (λa' w0' G' w' V' own' hR' hd'=>xP hT hX hs hQ hc hK hR' hd' (hD.set hir) h);split
       ·rename_i hw;rw [if_pos hw] at this;exact .inl this
       ·rename_i hw;rw [if_neg hw] at this;exact this
      ·cases h
     ·rename_i j o hno _;split at h
      ·rename_i p hnp;rw [xD] at hno hnp;have ho:ops[i]? = some o:=by simpa using hno
       have hp:ops[j]? = some p:=by simpa using hnp
       split at h
       ·rename_i S2 S3 hA hB;split at h
        ·rename_i A B hA2 hB2;split at h
         case h_2=>cases h
         rename_i B' hnB;obtain ⟨nb1,nb2,nb3⟩:=Pa hnB;split at h
         case h_2=>cases h
         rename_i hpn;have hpn:=ME hpn;cases h;have hcA:eZ A.cs:=(b9.1 hc).1;have hcB:eZ B.cs:=by rw [<- nb1];exact (b9.1 (b9.1 hc).2).1
         have heq:(Bo A.E n [],A.L)=(Bo B'.E n [],B'.L):=(b9.1 (b9.1 hc).2).2.1;have hc2:eZ S2.cs:=uD hA2 hcA;have hc3:eZ S3.cs:=uD hB2 hcB;have hc1:eZ S1.cs:=qE hA hc2;obtain ⟨e1,e2,e3⟩:=oX hR hd hdec hc1;have hR1:bT n K w0 G w a S1.E S1.L V own:=by rw [e1,e2];exact hR
         have hKA:∀ a' w0' G' w' V' own',bT n K w0' G' w' a' A.E A.L V' own'->hZ q a' A->Q .normal a' w':=λa' w0' G' w' V' own' hr' hd' =>
          hK a' w0' G' w' V' own' hr'.tab ⟨λt d hl=>(by cases hl),hd'.2⟩
         have hKB:∀ a' w0' G' w' V' own',bT n K w0' G' w' a' B.E B.L V' own'->hZ q a' B->Q .normal a' w':=λa' w0' G' w' V' own' hr' hd'=>by
          obtain ⟨V2,own2,hr2⟩:=nb3 hr';refine hK a' w0' G' w' V2 own2 ?_ ⟨λt d hl=>(by cases hl),?_⟩
          ·have k1:Bo A.E n []=Bo B'.E n []:=congrArg hI heq;have k2:A.L=B'.L:=congrArg Aq heq;show bT n K w0' G' w' a' (Bo A.E n []) A.L V2 own2;rw [k1,k2];exact hr2.tab
          ·show ∀ t∈A.pins,a'.tmps.getD t undef=q t;rw [hpn,nb2];exact hd'.2
         have hir:i∈eN .any ops listed:=by rw [hr];simp
         have hjr:j∈eN .any ops listed:=by rw [hr];simp
         refine ⟨λh0=>by (rw [hr] at h0;cases h0),λk hk => ?_⟩;have hkk:k=i\/k=j:=by rw [hr] at hk;simpa using hk
         rcases hkk with rfl | rfl
         ·unfold wpOp;simp only [ho];have:=FE (Kt:=wpAny P .any ops Q m (listed.setIfInBounds k true)) (Q:=Q) hT hX hR1 e3 hA hc2 (λa' w0' G' w' V' own' hR' hd'=>xP hT hX hs hQ hcA hKA hR' hd' (hD.set hir) hA2);split
          ·rename_i hw;rw [if_pos hw] at this;exact .inl this
          ·rename_i hw;rw [if_neg hw] at this;exact this
         ·unfold wpOp;simp only [hp];have:=FE (Kt:=wpAny P .any ops Q m (listed.setIfInBounds k true)) (Q:=Q) (S:=⟨S1.path,S1.dec,S1.E,S1.L,[],S1.pins⟩) hT hX hR1 e3 hB hc3 (λa' w0' G' w' V' own' hR' hd'=>xP hT hX hs hQ hcB hKB hR' hd' (hD.set hjr) hB2);split
          ·rename_i hw;rw [if_pos hw] at this;exact .inl this
          ·rename_i hw;rw [if_neg hw] at this;exact this
        ·cases h
       ·cases h
      ·cases h
     ·cases h
def VI (E:eD):List Oper->Option Nat
 | []=>none
 | o :: r=>match o.op with
  | .store _ x _=>match tgt (opnd E x) with
   | some k=>some k
   | none=>VI E r
  | _=>VI E r
def fO (tab:List TI) (ext:sE) (wr:Bool) (n:Nat) (ops:Array Oper) (S:St):Option Nat->Option St
 | some r0=>FJ tab ext wr n r0 ops ops.size (gR ops.size false) S
 | none=>none
def Jj (tab:List TI) (ext:sE) (wr:Bool) (n:Nat) (ops:Array Oper) (draw:Bool) (S:St):Option St :=
 match draw with
 | false=>Lv tab ext wr n false ops.toList ops.toList S
 | true=>match sU ops with
  | true=>match (match aXw ops with
   | true=>VH tab ext wr n ops 0 (gR ops.size false) ops.toList S
   | false=>x9 tab ext wr n ops ops.size (gR ops.size false) S) with
   | some S'=>some S'
   | none=>match fO tab ext wr n ops S (aHQ 0 S.L) with
    | some S'=>some S'
    | none=>match fO tab ext wr n ops S (VI S.E ops.toList) with
     | some S'=>some S'
     | none=>AF tab ext wr n ops ops.size (gR ops.size false) S
  | false=>none
theorem aPD {tab:List TI} {ext:sE} {wr:Bool} {ops:Array Oper} {S S':St} {o:Option Nat} (h:fO tab ext wr n ops S o=some S') (hc:eZ S'.cs):eZ S.cs:=by
 cases o with
 | none=>cases h
 | some r0=>exact MI h hc
theorem aB0 {tab:List TI} {ext:sE} {wr:Bool} {ops:Array Oper} {draw:Bool} {S S':St} (h:Jj tab ext wr n ops draw S=some S') (hc:eZ S'.cs):eZ S.cs:=by
 unfold Jj at h;split at h
 ·exact MB h hc
 ·split at h
  ·split at h
   ·rename_i S1 h1;cases h;split at h1
    ·exact Gh h1 hc
    ·exact pN h1 hc
   ·split at h
    ·rename_i h1;cases h;exact aPD h1 hc
    ·split at h
     ·rename_i h1;cases h;exact aPD h1 hc
     ·exact uD h hc
  ·cases h
theorem aB1 {tab:List TI} {ext:sE} (hT:jP P tab) (hX:nQ P ext) (hm:P.follows .mixedOrders=true) {wr:Bool} {id:Nat} {ops:Array Oper} {draw:Bool} {Q:Exit->Act->World->Prop} (hQ:∀ c a w,¬ Q (.panic c) a w) {S S':St}
  (hR:bT n K w0 G w a S.E S.L V own) (hd:hZ q a S)
  (h:Jj tab ext wr n ops draw S=some S') (hc:eZ S'.cs) (hK:∀ a' w0' G' w' V' own',bT n K w0' G' w' a' S'.E S'.L V' own'->hZ q a' S'->Q .normal a' w'):(Code.region id ops draw).wp P Q a w:=by
 unfold Jj at h;split at h
 ·exact wp_region_list (Tf hT hX hR hd h hc hK)
 ·split at h
  ·rename_i hs;split at h
   ·rename_i S1 h1;cases h;refine wp_region_any hm (IL (F:=[]) _ _ _ _ ?_);split at h1
    ·rename_i hok;have:=MG hT hX hs hQ hc hK hok (hR.ext (cI _ _).drew) hd (Ec.start ops ops.size) ⟨by simp,λk hk=>by rw [cR];simp [hk]⟩ (by simp) hok h1;simpa using this
    ·exact uA hT hX hs hQ hc hK (hR.ext (cI _ _).drew) hd (Ec.start ops _) h1
   ·have key:∀ o S1,fO tab ext wr n ops S o=some S1->S1=S'->(Code.region id ops true).wp P Q a w:=by
     intro o S1 h1 e;subst e;cases o with
     | none=>cases h1
     | some r0 =>
      refine wp_region_any hm (IL (F:=own r0) _ _ _ _ ?_);exact NU hT hX hs hQ hc hK (hR.ext (cI _ _).drew) hd (Ec.start ops _) h1
    split at h
    ·rename_i h1;cases h;exact key _ _ h1 rfl
    ·split at h
     ·rename_i h1;cases h;exact key _ _ h1 rfl
     ·refine wp_region_any hm ?_;exact xP hT hX hs hQ hc hK (hR.ext (cI _ _).drew) hd (Ec.start ops _) h
  ·cases h
end
def wB (P:Program) (f:FuncId) (R:Ending->World->Prop) (k:List Item) (a:Act) (w:World):Prop :=
 ∀ (b:Frame) cs,b.fn=f->b.kind = .normal->∃ e w' fr,R e w'/\Comes P (lone (b.at a k) cs w) (lone fr cs w') e/\fr.fn=f/\fr.leaving P w' e
section
variable {P:Program} {f:FuncId} {R:Ending->World->Prop} {k k':List Item} {a a':Act} {w w':World}
theorem wB.step (h:∀ (b:Frame) cs,step P (lone (b.at a k) cs w) = .next (lone (b.at a' k') cs w')) (hr:wB P f R k' a' w'):wB P f R k a w:=λb cs hb hk=>by
 obtain ⟨e,w2,fr,h1,h2,h3,h4⟩:=hr b cs hb hk;exact ⟨e,w2,fr,h1,Comes.of_steps (.one (h b cs)) h2,h3,h4⟩
theorem wB.of_wp {c:Code} (h:c.wp P (λe a' w'=>e = .normal/\wB P f R k a' w') a w):wB P f R (.code c :: k) a w:=λb cs hb hk=>by
 obtain ⟨e,a',w',⟨rfl,hr⟩,harr⟩:=h b k cs;obtain ⟨e,w2,fr,h1,h2,h3,h4⟩:=hr b cs hb hk;exact ⟨e,w2,fr,h1,Comes.of_steps harr h2,h3,h4⟩
def aQC (P:Program) (f:FuncId) (R:Ending->World->Prop) (a:Act) (w:World):Prop :=
 a.defers=[]/\∃ fn v,P.funcs[f]? = some fn/\(results fn a.tmps).run P w = .ok v w/\R (.returned v) w
theorem wB.nil (h:aQC P f R a w):wB P f R [] a w:=λb cs hb hk=>by
 obtain ⟨hd,fn,v,hf,hr,hR⟩:=h;exact ⟨.returned v,w,_,hR,Steps.one step_end,hb,rfl,hd,hk,fn,by rw [show (b.at a []).fn=f from hb];exact hf,hr⟩
theorem wB.ret (h:aQC P f R a w):wB P f R (.code .ret :: k) a w:=λb cs hb hk=>by
 obtain ⟨hd,fn,v,hf,hr,hR⟩:=h;exact ⟨.returned v,w,_,hR,Steps.one step_ret,hb,rfl,hd,hk,fn,by rw [show (b.at a (.code .ret :: k)).fn=f from hb];exact hf,hr⟩
theorem VJ {fn:Func} {c:Code} {args:Array Value} (hf:P.funcs[f]? = some fn) (hb:fn.body=some c)
  (h:wB P f R [.code c] { tmps:=args++gR (fn.ntmps - args.size) undef,defers:=[] } w):Calls P f args w R:=by
 intro cs
 let b:Frame:={ (default:Frame) with fn:=f,kind := .normal }
 have henter:Frame.enter P f args .normal =
   b.at { tmps:=args++gR (fn.ntmps - args.size) undef,defers:=[] } [.code c]:=by
  simp [Frame.enter,Frame.at,hf,hb,b]
 rw [henter];exact h b cs rfl rfl
end
inductive aGg where
 | stop (k:List Item) (S:St)
 | fin (S:St)
def aGg.st:aGg->St
 | .stop _ S=>S
 | .fin S=>S
def Jk (S:St):Operand->Option (Bool×St)
 | .tmp t=>xC S t
 | .const (.bool b)=>some (b,S)
 | _=>none
def rF (tab:List TI) (ext:sE) (wr:Bool) (n:Nat) (stops:List Nat):Nat->Bool->List Item->St->Option aGg
 | 0,_,_,_=>none
 | _+1,_,[],S=>some (.fin S)
 | m+1,first,.inBlock _ :: k,S=>rF tab ext wr n stops m first k S
 | m+1,first,.inLoop c :: k,S=>match vJ 1000007 stops with
  | true=>rF tab ext wr n stops m first (.code c :: .inLoop c :: k) S
  | false=>some (.stop (.code c :: .inLoop c :: k) S)
 | m+1,first,.code c :: k,S=>match c with
  | .skip=>rF tab ext wr n stops m first k S
  | .label _=>rF tab ext wr n stops m first k S
  | .seq x y=>rF tab ext wr n stops m first (.code x :: .code y :: k) S
  | .block id c=>rF tab ext wr n stops m first (.code c :: .inBlock id :: k) S
  | .loop c=>match vJ 1000007 stops with
   | true=>rF tab ext wr n stops m first (.code c :: .inLoop c :: k) S
   | false=>some (.stop (.code c :: .inLoop c :: k) S)
  | .exit id=>match exitTo id k with
   | some k'=>rF tab ext wr n stops m first k' S
   | none=>none
  | .ret=>some (.fin S)
  | .cond c x y=>match Jk S c with
   | some (d,S')=>rF tab ext wr n stops m false (.code (cond d x y) :: k) S'
   | none=>none
  | .region id ops draw=>match !first&&vJ id stops with
   | true=>some (.stop (.code (.region id ops draw) :: k) S)
   | false=>match Jj tab ext wr n ops draw S with
    | some S'=>rF tab ext wr n stops m false k S'
    | none=>none
  | _=>none
 | _+1,_,_,_=>none
section
variable {P:Program} {n:Nat} {q:Nat->Value} {K:jK} {G:Nat->Prop} {w0 w:World} {a:Act} {V:Nat->Value} {own:Nat->List Nat} {f:FuncId} {R:Ending->World->Prop}
def YI (P:Program) (f:FuncId) (R:Ending->World->Prop) (n:Nat) (K:jK) (q:Nat->Value) (ps:List Nat) (k:List Item) (E:eD) (L:bG):Prop :=
 ∀ a w w0 G V own,bT n K w0 G w a E L V own->(∀ t∈ps,a.tmps.getD t undef=q t)->wB P f R k a w
def bGj (P:Program) (f:FuncId) (R:Ending->World->Prop) (n:Nat) (K:jK) (q:Nat->Value) (ps:List Nat) (E:eD) (L:bG):Prop :=
 ∀ a w w0 G V own,bT n K w0 G w a E L V own->(∀ t∈ps,a.tmps.getD t undef=q t)->aQC P f R a w
def aXx (P:Program) (f:FuncId) (R:Ending->World->Prop) (n:Nat) (K:jK) (q:Nat->Value):aGg->Prop
 | .stop k S=>YI P f R n K q S.pins k S.E S.L
 | .fin S=>bGj P f R n K q S.pins S.E S.L
theorem VK {S S':St} {x:Operand} {d:Bool} (hR:bT n K w0 G w a S.E S.L V own) (hd:hZ q a S) (h:Jk S x=some (d,S')) (hc:eZ S'.cs) :
  a.eval x = .bool d/\S'.E=S.E/\S'.L=S.L/\hZ q a S'/\eZ S.cs:=by
 unfold Jk at h;split at h
 ·exact oV hR hd h hc
 ·cases h;exact ⟨rfl,rfl,rfl,hd,hc⟩
 ·cases h
theorem aB2 {S S':St} {x:Operand} {d:Bool} (h:Jk S x=some (d,S')) (hc:eZ S'.cs):eZ S.cs:=by
 unfold Jk at h;split at h
 ·exact lX h hc
 ·cases h;exact hc
 ·cases h
theorem aEF {tab:List TI} {ext:sE} {wr:Bool} {stops:List Nat}:∀ {m:Nat} {first:Bool} {k:List Item} {S:St} {out:aGg},rF tab ext wr n stops m first k S=some out->eZ out.st.cs->eZ S.cs:=by
 intro m
 induction m with
 | zero=>intro first k S out h;cases h
 | succ m ih =>
  intro first k S out h hc
  match k,h with
  | [],h=>cases h;exact hc
  | .inBlock _ :: k,h=>simp only [rF] at h;exact ih h hc
  | .inLoop c :: k,h =>
   simp only [rF] at h;split at h
   ·exact ih h hc
   ·cases h;exact hc
  | .code c :: k,h =>
   cases c with
   | skip=>simp only [rF] at h;exact ih h hc
   | label _=>simp only [rF] at h;exact ih h hc
   | seq x y=>simp only [rF] at h;exact ih h hc
   | block id c=>simp only [rF] at h;exact ih h hc
   | loop c =>
    simp only [rF] at h;split at h
    ·exact ih h hc
    ·cases h;exact hc
   | exit id =>
    simp only [rF] at h;split at h
    ·exact ih h hc
    ·cases h
   | ret=>cases h;exact hc
   | cond c x y =>
    simp only [rF] at h;split at h
    ·rename_i hd;exact aB2 hd (ih h hc)
    ·cases h
   | region id ops draw =>
    simp only [rF] at h;split at h
    ·cases h;exact hc
    ·split at h
     ·rename_i hr;exact aB0 hr (ih h hc)
     ·cases h
   | _=>cases h
theorem YJ {tab:List TI} {ext:sE} (hT:jP P tab) (hX:nQ P ext) (hm:P.follows .mixedOrders=true) {wr:Bool} {stops:List Nat}:∀ {w0:World} {G:Nat->Prop} {m:Nat} {first:Bool} {k:List Item} {S:St} {out:aGg} {a:Act} {w:World} {V:Nat->Value} {own:Nat->List Nat},
  rF tab ext wr n stops m first k S=some out->eZ out.st.cs->bT n K w0 G w a S.E S.L V own->hZ q a S->aXx P f R n K q out->wB P f R k a w:=by
 intro w0 G m
 induction m generalizing w0 G with
 | zero=>intro first k S out a w V own h;cases h
 | succ m ih =>
  intro first k S out a w V own h hc hR hd ho
  match k,h with
  | [],h=>cases h;exact wB.nil (ho _ _ _ _ _ _ hR hd.2)
  | .inBlock _ :: k,h=>simp only [rF] at h;exact wB.step (λb cs=>step_inBlock) (ih h hc hR hd ho)
  | .inLoop c :: k,h =>
   simp only [rF] at h;split at h
   ·exact wB.step (λb cs=>step_inLoop) (ih h hc hR hd ho)
   ·cases h;exact wB.step (λb cs=>step_inLoop) (ho _ _ _ _ _ _ hR hd.2)
  | .code c :: k,h =>
   cases c with
   | skip=>simp only [rF] at h;exact wB.step (λb cs=>step_skip) (ih h hc hR hd ho)
   | label _=>simp only [rF] at h;exact wB.step (λb cs=>step_label) (ih h hc hR hd ho)
   | seq x y=>simp only [rF] at h;exact wB.step (λb cs=>step_seq) (ih h hc hR hd ho)
   | block id c=>simp only [rF] at h;exact wB.step (λb cs=>step_block) (ih h hc hR hd ho)
   | loop c =>
    simp only [rF] at h;split at h
    ·exact wB.step (λb cs=>step_loop) (ih h hc hR hd ho)
    ·cases h;exact wB.step (λb cs=>step_loop) (ho _ _ _ _ _ _ hR hd.2)
   | exit id =>
    simp only [rF] at h;split at h
    ·rename_i k' he;exact wB.step (λb cs=>step_exit he) (ih h hc hR hd ho)
    ·cases h
   | ret=>cases h;exact wB.ret (ho _ _ _ _ _ _ hR hd.2)
   | cond c x y =>
    simp only [rF] at h;split at h
    ·rename_i d S' hdec;obtain ⟨h1,h2,h3,h4,h5⟩:=VK hR hd hdec (aEF h hc);refine wB.step (λb cs=>step_cond h1) ?_;have:=ih h hc (by rw [h2,h3];exact hR) h4 ho;cases d <;> exact this
    ·cases h
   | region id ops draw =>
    simp only [rF] at h;split at h
    ·cases h;exact ho _ _ _ _ _ _ hR hd.2
    ·split at h
     ·rename_i S' hr;refine wB.of_wp (aB1 hT hX hm (λc a w hh=>by cases hh.1) hR hd hr (aEF h hc) λa' w0' G' w' V' own' hR' hd'=>⟨rfl,ih h hc hR' hd' ho⟩)
     ·cases h
   | _=>cases h
end
def aEG:(caps:List (Bool×Ty))->uO caps->List dD
 | [],_=>[]
 | (true,t) :: r,x => .ptr t x.1 :: aEG r x.2
 | (false,t) :: r,x=>iG t x.1 :: aEG r x.2
def Ed (k:Nat):(a:AT)->a.den->PV×bG
 | .v t,x=>(.a (iG t x),[])
 | .p t,x=>(.a (.ptr t x),[])
 | .own t,xs=>(.a (.osl k none),[some ⟨t,xs,false,none,none⟩])
 | .pb t,x=>(.a (.optr k 0 []),[some ⟨t,[x],true,none,some true⟩])
 | .po t,x=>match p7 k t x with
  | (ls,es)=>(.a (.bptr (k+es.length) 0 t),es++[some ⟨t,[],false,some ls,none⟩])
 | .sv t,x=>match p7 k t x with
  | (ls,es)=>(.a (.rcd t ls),es)
 | .fn f caps,x=>(.fn f (aEG caps x),[])
 | .fns fs,_=>(.a (.sl .fn (fs.map some)),[])
def YK:Nat->Nat->(sig:List AT)->fX sig->eD
 | _,_,[],_=>[]
 | i,k,a :: r,x=>match Ed k a x.1 with
  | (p,es)=>(i,p) :: YK (i+1) (k+es.length) r x.2
def VL:Nat->(sig:List AT)->fX sig->bG
 | _,[],_=>[]
 | k,a :: r,x=>match Ed k a x.1 with
  | (_,es)=>es++VL (k+es.length) r x.2
def aMW (sig:List AT) (x:fX sig):bG:=VL 0 sig x
def oY:Nat->List AT->List Nat
 | _,[]=>[]
 | i,a :: r=>match Hb a with
  | true=>i :: oY (i+1) r
  | false=>oY (i+1) r
def aB3:(caps:List (Bool×Ty))->uO caps->Prop
 | [],_=>True
 | (_,t) :: r,x=>Wf t x.1/\aB3 r x.2
def wfA:(a:AT)->a.den->Prop
 | .v t,x=>Wf t x
 | .p t,x=>Wf t x
 | .own t,xs=>Wf (.sl t) xs
 | .pb t,x=>Wf t x
 | .po t,x=>Wf t x
 | .sv t,x=>Wf t x
 | .fn _ caps,x=>aB3 caps x
 | .fns _,_=>True
def NV:(sig:List AT)->fX sig->Prop
 | [],_=>True
 | a :: r,x=>wfA a x.1/\NV r x.2
def aEH:List AT->Bool
 | []=>true
 | a :: r => !Hb a&&aEH r
section
variable {P:Program} {n:Nat} {K:jK} {G:Nat->Prop} {w0 w:World} {a:Act} {V:Nat->Value} {own:Nat->List Nat} {f:FuncId} {R:Ending->World->Prop} {E:eD} {L:bG}
theorem aEI {G:Nat->Prop} {t:Ty} {x:t.den} {v:Value} (h:rS w G (iG t x) v):Wf t x:=by
 cases t with
 | int k=>exact h.2
 | bool=>trivial
 | fn=>trivial
 | str=>exact h.2
 | sl e=>exact Ui (λ_ _=>dW.wf) h
 | unit=>trivial
 | cons a b=>obtain ⟨cs,_,h⟩:=h;exact h.wf
theorem aHR {G:Nat->Prop} {t:Ty} {x:t.den} {v:Value} (h:Ej w G t x v):Wf t x:=by
 obtain ⟨_,_,_,_,_,_,h⟩:=h;exact h.wf
theorem VM {G:Nat->Prop}:∀ {caps:List (Bool×Ty)} {x:uO caps} {vs:List Value},yX w G caps x vs->aB3 caps x
 | [],_,_,_=>trivial
 | (true,t) :: r,x,vs,⟨_,_,_,h,h2⟩=>⟨aHR h,VM h2⟩
 | (false,t) :: r,x,vs,⟨_,_,_,h,h2⟩=>⟨aEI h,VM h2⟩
theorem Jl {G G0:Nat->Prop}:∀ {sig:List AT} {x:fX sig} {vs:List Value} {bss:List (List Nat)},Ek w G G0 sig x vs bss->NV sig x
 | [],_,_,_,_=>trivial
 | a :: r,x,vs,bss,⟨_,_,_,_,_,_,h,h2⟩=>by
  refine ⟨?_,Jl h2⟩;cases a with
  | v t=>exact aEI h.2
  | p t=>exact aHR h.2
  | own t=>exact gB.wf h
  | pb t=>obtain ⟨b,off,_,h⟩:=h;exact (fW.wf h).2 _ (bI.2 rfl)
  | po t=>obtain ⟨b,off,_,h⟩:=h;exact (X3 (λ_ _ _=>gB.wf) h).2 _ (bI.2 rfl)
  | sv t=>obtain ⟨cs,_,h⟩:=h;exact h.wf
  | fn g caps=>obtain ⟨_,_,_,h⟩:=h;exact VM h
  | fns _=>trivial
theorem aEJ {G:Nat->Prop} {sig:List AT} {x:fX sig} {vs:List Value} {bss:List (List Nat)} (h:BM w G sig x vs bss):NV sig x:=Jl h
theorem Pc {t:Ty} {x:t.den} {v:Value} (h:rS w0 G (iG t x) v):kZ w0 G L V (iG t x) v:=by
 cases t <;> exact h
theorem Pd:∀ {caps:List (Bool×Ty)} {x:uO caps} {vs:List Value},yX w0 G caps x vs->rQ w0 G L V (aEG caps x) vs
 | [],_,_,h=>h
 | (true,t) :: r,x,vs,⟨v,s,h1,h,h2⟩=>⟨v,s,h1,h,Pd h2⟩
 | (false,t) :: r,x,vs,⟨v,s,h1,h,h2⟩=>⟨v,s,h1,Pc h,Pd h2⟩
theorem aHS (hR:bT n K w G w a E L V own) {o:AT} {x:o.den} {v:Value} {bs:List Nat} (h:aHq w G K.G0 o x v bs) (hn:bs.Nodup) (hg:∀ b∈bs,Out K G b) (hd:∀ r A,b7 L r=some A->∀ b∈own r,b ∉ bs) :
  ∃ V' own',bT n K w G w a E (L++(Ed L.length o x).2) V' own'/\n4 L (Ed L.length o x).2 V V' own own' bs/\kH w G (L++(Ed L.length o x).2) V' (Ed L.length o x).1 v:=by
 cases o with
 | v t =>
  exact ⟨V,own,by simpa [Ed] using hR,n4.refl _ _ _,Pc h.2⟩
 | p t =>
  exact ⟨V,own,by simpa [Ed] using hR,n4.refl _ _ _,h.2⟩
 | fns fs =>
  exact ⟨V,own,by simpa [Ed] using hR,n4.refl _ _ _,Pc (L:=L++[]) (V:=V) (t := .sl .fn) (x:=fs.map some) h.2⟩
 | fn f caps =>
  obtain ⟨_,vs,hv,hh⟩:=h;exact ⟨V,own,by simpa [Ed] using hR,n4.refl _ _ _,vs,hv,Pd hh⟩
 | own t =>
  have hE:fW w G w ⟨t,x,false,none,none⟩ v bs:=fW.own.2 h;obtain ⟨h1,h2⟩:=CY hR hE hn hg hd;exact ⟨_,_,h1,h2,sJ (w0:=w) (G:=G) (u:=w) (G':=G) hE⟩
 | pb t =>
  obtain ⟨b,off,rfl,hE0⟩:=h;have hE:fW w G w ⟨t,[x],true,none,some true⟩ (.slice (some ⟨b,off,none⟩) 1 1) bs:=fW.keepG (A:=⟨t,[x],true,none,none⟩) hR.gsub (λ_ _=>rfl) (λ_ _=>rfl) hE0;obtain ⟨h1,h2⟩:=CY hR hE hn hg hd (hsm:=λq hq=>⟨⟨b,off,rfl⟩,λ_=>⟨rfl,hE0⟩⟩);refine ⟨_,_,h1,h2,⟨t,[x],true,none,some true⟩,Eu _ _,by simp,b,off,1,1,0,t,eA _ _ _,rfl,by simp⟩
 | po t =>
  obtain ⟨b,off,rfl,hO⟩:=h;rcases hO.2 with ⟨_,h1,_,_⟩ | ⟨b2,off2,cap,cur,ty,fz,bss,h1,h2,h3,h4,h5,h6,h7,h8,h9⟩
  ·cases h1
  ·simp only [Value.slice.injEq,fF,Addr.mk.injEq] at h1;obtain ⟨⟨q1,q2,_⟩,_,q3⟩:=h1;subst q1 q2 q3;obtain ⟨bi,rfl⟩:∃ bi,bss=[bi]:=by
    match bss,h7 with
    | [bi],_=>exact ⟨bi,rfl⟩
   obtain ⟨cs,g1,g2,g3⟩:=h9 0 x bi rfl rfl;have hcells:kK w b off cs:=λj c hj=>by
    simp only [fQ, h5];have:=g2 j c hj;simpa using this
   have h8:bs=b :: bi:=by rw [h8];simp
   subst h8;obtain ⟨hb,hni⟩:=j7.1 hn;obtain ⟨V1,own1,r1,k1,l1,n1⟩:=zS hR g3 hni (λc hc=>hg c (aM _ hc)) (λr A hA c hc hm=>hd r A hA c hc (aM _ hm));have hE:fW w G w ⟨t,[],false,some (p7 L.length t x).1,none⟩ (.slice (some ⟨b,off,none⟩) 0 1) [b] :=
    ⟨by simp [maxLen],.inr ⟨b,off,1,cur,ty,fz,[],rfl,bW _,h3,h4,h5,h6,rfl,rfl,λi y bi hy=>by simp at hy⟩⟩
   have hap:=k1.apart (rest:=[b]) (λr A hA c hc hm=>hd r A hA c hc (by rw [bI.1 hm];exact aQ ..)) (λc hc hm=>hb (by rw [<- bI.1 hm];exact hc));obtain ⟨h10,h11⟩:=CY r1 hE (by simp) (λc hc=>by rw [bI.1 hc];exact hg b (aQ ..)) hap (hbox:=λl hl=>by cases hl;exact ⟨b,off,cs,rfl,g1,n1,hcells,l1⟩);have e2:(Ed L.length (.po t) x).2=(p7 L.length t x).2++[some ⟨t,[],false,some (p7 L.length t x).1,none⟩]:=rfl;have e1:(Ed L.length (.po t) x).1 = .a (.bptr (L.length+(p7 L.length t x).2.length) 0 t):=rfl;rw [e1,e2, <- bS];have hlen:(L++(p7 L.length t x).2).length=L.length+(p7 L.length t x).2.length:=by simp
   refine ⟨_,_,h10,k1.trans h11 (λc hc=>aM _ hc) (λc hc=>by rw [bI.1 hc];exact aQ ..),?_⟩;rw [<- hlen];exact ⟨_,_,b,off,Eu _ _,rfl,eA _ _ _,rfl,by simp⟩
 | sv t =>
  obtain ⟨cs,rfl,ho⟩:=h;obtain ⟨V1,own1,r1,k1,l1,n1⟩:=zS hR ho hn hg hd;exact ⟨V1,own1,r1,k1,cs,rfl,n1,l1⟩
theorem YL:∀ {sig:List AT} {x:fX sig} {vs:List Value} {bss:List (List Nat)} {L:bG} {V:Nat->Value} {own:Nat->List Nat} {i:Nat},bT n K w G w a E L V own->Ek w G K.G0 sig x vs bss->bss.flatten.Nodup->(∀ b∈bss.flatten,Out K G b)->(∀ r A,b7 L r=some A->∀ b∈own r,b ∉ bss.flatten) ->
  (∀ j v,vs[j]? = some v->a.tmps.getD (i+j) undef=v) ->
  ∃ V' own',bT n K w G w a E (L++VL L.length sig x) V' own'/\(∀ r,(∃ B,b7 L r=some B)->mN L V (L++VL L.length sig x) V' r)/\∀ j,kH w G (L++VL L.length sig x) V' ((YK i L.length sig x).get j) (a.tmps.getD j undef)
 | [],x,vs,bss,L,V,own,i,hR,_,_,_,_,_=>⟨V,own,by simpa [VL] using hR,λr _=>mN.of_same rfl (by simp [VL]),λj=>trivial⟩
 | o :: sig,x,vs,bss,L,V,own,i,hR,⟨v,s,b,bs,h1,h2,h,h3⟩,hn,hg,hd,ht=>by
  subst h1 h2;obtain ⟨hn1,hn2,hn3⟩:=z7 hn;obtain ⟨V1,own1,r1,g1,p1⟩:=aHS hR h hn1 (λc hc=>hg c (by simp [hc])) (λr A hA c hc hm=>hd r A hA c hc (by simp [hm]));have hlen:(L++(Ed L.length o x.1).2).length=L.length+(Ed L.length o x.1).2.length:=by simp
  obtain ⟨V2,own2,r2,a2,p2⟩:=YL (i:=i+1) r1 h3 hn2 (λc hc=>hg c (by rw [bK];exact bF _ hc)) (g1.apart (λr A hA c hc hm=>hd r A hA c hc (by rw [bK];exact bF _ hm)) hn3) (λj u hj=>by
   have:=ht (j+1) u (by simpa using hj)
   rwa [show i+(j+1)=i+1+j from by omega] at this)
  rw [hlen] at r2 a2 p2;have e1:VL L.length (o :: sig) x=(Ed L.length o x.1).2++VL (L.length+(Ed L.length o x.1).2.length) sig x.2:=rfl;have e2:YK i L.length (o :: sig) x=(i,(Ed L.length o x.1).1) :: YK (i+1) (L.length+(Ed L.length o x.1).2.length) sig x.2:=rfl;rw [e1,e2, <- bS];refine ⟨V2,own2,r2,λr hr => ?_,λj => ?_⟩
  ·have a1:=g1.agree r hr;obtain ⟨B,hB⟩:=hr;obtain ⟨B',hB',_⟩:=a1.2 B hB;exact a1.trans (a2 r ⟨B',hB'⟩)
  ·simp only [nW];cases hij:cG i j with
   | true =>
    obtain rfl:=aX hij;simp only [cond_true];have:=ht 0 v rfl;rw [lE] at this;rw [this];exact oT p1 λr hr=>a2 r (TW p1 r hr)
   | false =>
    simp only [cond_false];exact p2 j
theorem YM {G G0:Nat->Prop}:∀ {sig:List AT} {x:fX sig} {vs:List Value} {bss:List (List Nat)} {i:Nat} {q:Nat->Value},Ek w G G0 sig x vs bss->(∀ j v,vs[j]? = some v->q (i+j)=v)->iL sig vs=(oY i sig).map q
 | [],x,vs,bss,i,q,h,_=>by obtain ⟨rfl,rfl⟩:=h;rfl
 | a :: r,x,vs,bss,i,q,⟨v,s,b,bs,h1,h2,h,h3⟩,hq=>by
  subst h1 h2;have h0:q i=v:=by have:=hq 0 v rfl;simpa using this
  have ih:=YM (i:=i+1) (q:=q) h3 (λj u hj=>by have:=hq (j+1) u (by simpa using hj);rw [show i+1+j=i+(j+1) by omega];exact this);cases a with
  | v t=>exact ih
  | p t=>exact ih
  | fn g caps=>exact ih
  | fns _=>exact ih
  | own t=>simp only [iL,oY,Hb,bP,h0,ih]
  | pb t=>simp only [iL,oY,Hb,bP,h0,ih]
  | po t=>simp only [iL,oY,Hb,bP,h0,ih]
  | sv t=>simp only [iL,oY,Hb,bP,h0,ih]
def Jm (kds:List RK) (oks:List AT) (ds:List aY) (us:List (Option BD)) (pins:List Nat) (q:Nat->Value) (K:jK) (e:Ending) (w':World):Prop :=
 aHr K.w0 K.O K.Ga K.G0 kds ds oks us (pins.map q) e w'
theorem YN {fn:Func} {c:Code} {S:Spec} (hf:P.funcs[f]? = some fn) (hb:fn.body=some c) (hl:S.sig.length<=fn.ntmps)
  (h:∀ x,S.pre x->NV S.sig x->∀ K q,YI P f (Jm S.kds (Cy S.sig) (S.res x) (S.upd x) (oY 0 S.sig) q K) fn.ntmps K q (oY 0 S.sig) [.code c] (YK 0 0 S.sig x) (aMW S.sig x)):jC P f S:=by
 intro w G G0 x vs bss hgo hG hG0 hpre hargs hnd;have hlen:=Ok hargs;have hget0:∀ j v,vs[j]? = some v->(vs.toArray++gR (fn.ntmps - vs.toArray.size) undef).getD j undef=v:=λj v hj=>by
  have hlt:=(bH.1 hj).1;rw [cR, q9 (by simpa using hlt)];simp [hj]
 let q:Nat->Value:=λi=>(vs.toArray++gR (fn.ntmps - vs.toArray.size) undef).getD i undef
 let K:jK:=⟨w,bss.flatten,G0,G⟩
 let a0:Act:={ tmps:=vs.toArray++gR (fn.ntmps - vs.toArray.size) undef,defers:=[] }
 have hov:iL S.sig vs=(oY 0 S.sig).map q:=YM hargs (λj v hj=>by rw [cV];exact hget0 j v hj);have h0:bT fn.ntmps K w G w a0 [] [] (λ_=>undef) (λ_=>[]):=by
  refine ⟨hgo,cI _ _,?_,rfl,λb hb=>(hG b hb).1,λ_ _=>rfl,hG0,λb hb=>hG b (hG0 b hb),λb hb => .inl hb,(λr A hr=>by cases hr),(λr A hr=>by cases hr),(λr A hr=>by cases hr),(λr s A B hr=>by cases hr),(λr A ls hr=>by cases hr),(λr A q hr=>by cases hr),λi=>trivial⟩;show (vs.toArray++gR (fn.ntmps - vs.toArray.size) undef).size=fn.ntmps;simp [hlen];omega
 obtain ⟨V,own,h1,_,h2⟩:=YL (i:=0) h0 hargs hnd (λb hb=>⟨λh=>h.2 hb,λh=>(hG b h).2 hb⟩) (λr A hr=>by cases hr) (λj v hj=>by rw [cV];exact hget0 j v hj);have h3:bT fn.ntmps K w G w a0 (YK 0 0 S.sig x) (aMW S.sig x) V own:={ h1 with env:=λi=>h2 i };refine (VJ hf hb (h x hpre (Jl hargs) K q a0 w w G V own h3 (λt ht=>rfl))).mono ?_;intro e w' hp;rw [hov];exact hp
def aB4 (L:bG):AT->PV->Option (BD×List Nat)
 | .own t,.a (.osl k none)=>match b7 L k with
  | some A=>match A.bor with
   | false=>some (⟨A.t,A.xs⟩,[k])
   | true=>none
  | none=>none
 | .pb t,.a (.optr k 0 [])=>match b7 L k with
  | some A=>match A.sm with
   | some true=>if h:A.t=t then (match aMF (nR h A.xs) with | some x=>some (⟨t,[x]⟩,[k]) | none=>none) else none
   | _=>none
  | none=>none
 | .po t,.a A=>match aE1 L t A with
  | some (x,us)=>some (⟨t,[x]⟩,us)
  | none=>none
 | .sv t,.a A=>match aE2 L t A with
  | some (x,us)=>some (⟨t,[x]⟩,us)
  | none=>none
 | _,_=>none
def MK (E:eD) (L:bG) (gone:List Nat):List Nat->List AT->List (Option BD)×List Nat
 | i :: r,o :: os=>match MK E L gone r os with
  | (us,rs)=>match aB4 L o (E.get i) with
   | some (A,ks)=>match TQ ks gone with
    | true=>(some A :: us,ks++rs)
    | false=>(none :: us,rs)
   | none=>(none :: us,rs)
 | _ :: r,[]=>(none :: (MK E L gone r []).1,[])
 | [],_=>([],[])
theorem YO (hR:bT n K w0 G w a E L V own) {o:AT} {p:PV} {A:BD} {ks:List Nat} {v:Value} (hp:kH w0 G L V p v) (h:aB4 L o p=some (A,ks)):aAZ w K.G0 o A v (ks.map own).flatten/\∀ r∈ks,∃ B,b7 L r=some B:=by
 unfold aB4 at h;split at h
 ·rename_i t k;split at h
  ·rename_i B hB;split at h
   ·rename_i hbor;cases h;obtain ⟨B',hB',h1,_⟩:=hp;rw [hB] at hB';cases hB';have hE:=hR.heap k B hB;obtain ⟨tB,xB,bB,lB,sB⟩:=B;simp only at hbor;subst hbor;refine ⟨?_,λr hr=>by rw [bI.1 hr];exact ⟨_,hB⟩⟩;rw [h1 rfl];simp only [bP,kM,bK,jG,c6];exact fW.own.1 hE
   ·cases h
  ·cases h
 ·rename_i t k;split at h
  ·rename_i B hB;split at h
   ·rename_i hsm;split at h
    ·rename_i ht;split at h
     ·rename_i x hx;cases h;obtain ⟨B',hB',hi,b,off,m,cap,po,t',hv,hpp,rfl⟩:=hp;rw [hB] at hB';cases hB';simp only [jT,fF,Prod.mk.injEq] at hpp;obtain ⟨rfl,rfl⟩:=hpp;obtain ⟨⟨b1,off1,hv1⟩,hsm2⟩:=hR.small k B true hB hsm;obtain ⟨hbor,hE⟩:=hsm2 rfl;obtain ⟨tB,xB,bB,lB,sB⟩:=B;simp only at hbor ht;subst ht;have hy:xB=[x]:=Us hx;subst hbor hy;rw [hv1] at hv hE;cases hv;refine ⟨⟨x,rfl,b,off,by simp,?_⟩,λr hr=>by rw [bI.1 hr];exact ⟨_,hB⟩⟩;simp only [bP,kM,bK,jG,c6];exact fW.keepG (A:=⟨tB,[x],true,none,none⟩) (λ_ h=>h) (λc hc=>hR.gref c (hR.gsub c hc)) (λ_ _=>rfl) hE
     ·cases h
    ·cases h
   ·cases h
  ·cases h
 ·rename_i t A1;split at h
  ·rename_i x us hpo;cases h;obtain ⟨h1,h2,_⟩:=G5 hR (cI _ _) hp hpo;exact ⟨⟨x,rfl,h1⟩,h2⟩
  ·cases h
 ·rename_i t A1;split at h
  ·rename_i x us hsv;cases h;obtain ⟨h1,h2⟩:=Lk hR (cI _ _) hp hsv;exact ⟨⟨x,rfl,h1⟩,h2⟩
  ·cases h
 ·cases h
theorem Ti {q:Nat->Value} {gone:List Nat} (hR:bT n K w0 G w a E L V own):∀ {ps:List Nat} {os:List AT},ps.length<=os.length->(∀ t∈ps,a.tmps.getD t undef=q t) ->
  ∃ ubs,OA w K.G0 os (MK E L gone ps os).1 (ps.map q) ubs/\ubs.flatten=((MK E L gone ps os).2.map own).flatten/\∀ r∈(MK E L gone ps os).2,∃ B,b7 L r=some B
 | [],os,_,_=>⟨[],by cases os <;> exact ⟨rfl,rfl⟩,by cases os <;> rfl,λr hr=>by cases os <;> cases hr⟩
 | i :: ps,[],hl,_=>by simp at hl
 | i :: ps,o :: os,hl,hq=>by
  obtain ⟨ubs,h1,h2,h3⟩:=Ti hR (ps:=ps) (os:=os) (by simpa using hl) (λt ht=>hq t (aM _ ht));simp only [MK];have skip:∃ ubs,OA w K.G0 (o :: os) (none :: (MK E L gone ps os).1) ((i :: ps).map q) ubs/\ubs.flatten=((MK E L gone ps os).2.map own).flatten/\∀ r∈(MK E L gone ps os).2,∃ B,b7 L r=some B :=
   ⟨[] :: ubs,⟨_,_,_,rfl,rfl,h1⟩,by simpa using h2,h3⟩
  split
  ·rename_i A ks hk;split
   ·have hv:=hR.env i;rw [hq i (aQ ..)] at hv;obtain ⟨g1,g2⟩:=YO hR hv hk;refine ⟨(ks.map own).flatten :: ubs,⟨_,_,_,_,rfl,rfl,g1,h1⟩,by simp [h2],λr hr => ?_⟩;rcases bU.1 hr with hr | hr
    ·exact g2 r hr
    ·exact h3 r hr
   ·exact skip
  ·exact skip
def aQD (L:bG):(t:Ty)->dD->Option (t.den×List Nat)
 | .sl e,.osl r none=>match b7 L r with
  | some A=>match A.bor with
   | true=>none
   | false=>if h:A.t=e then some (nR h A.xs,[r]) else none
  | none=>none
 | .sl e,.osl r (some (lo,hi))=>match b7 L r with
  | some A=>match e.flat && !A.bor with
   | true=>if h:A.t=e then some (yR (some (lo,hi)) (nR h A.xs),[r]) else none
   | false=>none
  | none=>none
 | .sl e,.val (.slice none _ _)=>some ([],[])
 | t,.rcd t' ls=>match decide (t'=t),t.agg with
  | true,true=>qC L t ls
  | _,_=>none
 | t,A=>match t.flat with
  | true=>match BF t A with
   | some x=>some (x,[])
   | none=>none
  | false=>none
def aHT (L:bG):RK->(t:Ty)->dD->Option (t.den×List Nat)
 | .own,t,A=>aQD L t A
 | .frz,t,A=>match BF t (VD A) with
  | some x=>some (x,[])
  | none=>none
 | .bx,t,A=>match aE0 L t A with
  | some (x,us)=>some (x,us)
  | none=>none
def aHU (tab:List TI) (L:bG) (T:TypeId) (A:dD):Option dD :=
 match (iZ tab T).ty with
 | some t=>aEx L t A
 | none=>none
def aGh (tab:List TI) (E:eD) (L:bG):List RK->List Ty->List ResultVar->Option (List aY×List Nat)
 | _,[],[]=>some ([],[])
 | ks,t :: ts,.tmp i :: r=>match E.get i with
  | .a A=>match aHT L (RK.hd ks) t A,aGh tab E L ks.tail ts r with
   | some (x,us),some (ds,vs)=>some (⟨t,x⟩ :: ds,us++vs)
   | _,_=>none
  | _=>none
 | ks,t :: ts,.cell i T :: r=>match E.get i with
  | .a A=>match aHU tab L T A with
   | some B=>match aHT L (RK.hd ks) t B,aGh tab E L ks.tail ts r with
    | some (x,us),some (ds,vs)=>some (⟨t,x⟩ :: ds,us++vs)
    | _,_=>none
   | none=>none
  | _=>none
 | _,_,_=>none
def aHV (tab:List TI) (E:eD) (L:bG):List RK->List ResultVar->List Nat
 | .frz :: ks,.tmp i :: r=>(match E.get i with
  | .a A=>sG A
  | _=>[])++aHV tab E L ks r
 | .frz :: ks,.cell i T :: r=>(match E.get i with
  | .a A=>match aHU tab L T A with
   | some B=>sG B
   | none=>[]
  | _=>[])++aHV tab E L ks r
 | _ :: ks,_ :: r=>aHV tab E L ks r
 | _,_=>[]
theorem Pe {t:Ty} {cs:List Value} (hl:cs.length=t.size):zV t cs (gH t cs):=by
 cases t <;> simp only [zV,gH,gP,if_true,if_false,dJ]
 all_goals (match cs,hl with | [c],_=>rfl)
theorem aHW {T:TypeId} {u v:Value} (h:(lD T u).run P w = .ok v w):(do loadVar T (<- asAddr u):Sem Value).run P w = .ok v w:=by
 cases u with
 | pointer a =>
  cases a with
  | none=>simp [lD,iT] at h
  | some a=>simpa [lD,iT,asAddr] using h
 | _=>simp [lD,iT] at h
theorem aGi (hR:bT n K w0 G w a E L V own) {t:Ty} {A:dD} {x:t.den} {us:List Nat} {v:Value} (hv:kZ w0 G L V A v) (h:(match t.flat with | true=>(match BF t A with | some x=>some (x,([]:List Nat)) | none=>none) | false=>none)=some (x,us)) :
  us=[]/\∃ cs,gB w t x cs []/\zV t cs v:=by
 split at h
 ·rename_i hf;split at h
  ·rename_i y hd;cases h;obtain ⟨cs,hv,_,_,hent⟩:=DI (oS hv hd) hd false (λ_=>hf);exact ⟨rfl,cs,hent w,by rw [hv];exact Pe (gB.length (hent w))⟩
  ·cases h
 ·cases h
theorem aGj (hR:bT n K w0 G w a E L V own) {t:Ty} {A:dD} {x:t.den} {us:List Nat} {v:Value} (hv:kZ w0 G L V A v) (h:aQD L t A=some (x,us)) :
  (∃ cs,gB w t x cs (us.map own).flatten/\zV t cs v)/\∀ r∈us,∃ B,b7 L r=some B:=by
 unfold aQD at h;split at h
 ·rename_i e r;have h':slW L e (.osl r none)=some (x,us):=h;obtain ⟨h1,h2⟩:=Ur hR (l := .osl r none) (v:=v) hv h';exact ⟨⟨[v],h1,rfl⟩,h2⟩
 ·rename_i e r lo hi;have h':slW L e (.osl r (some (lo,hi)))=some (x,us):=h;obtain ⟨h1,h2⟩:=Ur hR (l := .osl r (some (lo,hi))) (v:=v) hv h';exact ⟨⟨[v],h1,rfl⟩,h2⟩
 ·rename_i e n c;cases h;obtain ⟨rfl,hn,hc⟩:=hv;subst hn hc;exact ⟨⟨_,⟨_,rfl,by simp [maxLen],.inl ⟨_,rfl,rfl,rfl⟩⟩,rfl⟩,λr hr=>by cases hr⟩
 ·rename_i t' ls;split at h
  ·rename_i ht ha;obtain rfl:=of_decide_eq_true ht;obtain ⟨cs,rfl,hl,hr⟩:=hv;obtain ⟨h1,h2⟩:=CU hR hr h;refine ⟨⟨cs,h1,?_⟩,h2⟩;have:=Pe h1.length
   rwa [gH,if_pos ha] at this
  ·cases h
 ·obtain ⟨rfl,cs,h1,h2⟩:=aGi hR hv h;exact ⟨⟨cs,by simpa using h1,h2⟩,λr hr=>by cases hr⟩
def aMX (K:jK) (G:Nat->Prop) (b:Nat):Prop:=G b/\¬ Good K.w0 K.O b
theorem Tj (hR:bT n K w0 G w a E L V own) {k:RK} {t:Ty} {A:dD} {x:t.den} {us:List Nat} {v:Value} (hv:kZ w0 G L V A v) (h:aHT L k t A=some (x,us)) :
  Oj w K.Ga (aMX K G) k ⟨t,x⟩ v (us.map own).flatten/\∀ r∈us,∃ B,b7 L r=some B:=by
 have hup:∀ b,G b->K.Ga b\/aMX K G b:=λb hb=>(hR.gup b hb).imp_right λh=>⟨hb,h⟩;cases k with
 | own=>exact aGj hR hv h
 | frz =>
  simp only [aHT] at h;split at h
  ·rename_i y hd;cases h;obtain ⟨cs,hr,hvv⟩:=zR (oS (PQ hv) hd) hd;refine ⟨⟨rfl,cs,hr.keep hup hR.gref,?_⟩,λr hr=>by cases hr⟩;rw [hvv];exact Pe hr.length
  ·cases h
 | bx =>
  simp only [aHT] at h;split at h
  ·rename_i y us' hd;cases h;obtain ⟨⟨b,off,h1,h2⟩,r,B,b',off',e1,_,e3,_⟩:=G4 (q:=false) hR (cI _ _) hv hd (λh=>by cases h);refine ⟨⟨b,off,h1,fW.keepG (A:=⟨t,[x],true,none,none⟩) (λc hc=>hup c hc) (λ_ _=>rfl) (λ_ _=>rfl) h2⟩,λs hs => ?_⟩;rw [e1] at hs;rw [bI.1 hs];exact ⟨B,e3⟩
  ·cases h
theorem ML {tab:List TI} (hT:jP P tab) (hR:bT n K w0 G w a E L V own):∀ {ks:List RK} {ts:List Ty} {rv:List ResultVar} {ds:List aY} {us:List Nat},aGh tab E L ks ts rv=some (ds,us) ->
  ∃ rs bss,(rv.mapM λx=>(match x with | .tmp t=>pure (a.tmps.getD t undef) | .cell b t=>do loadVar t (<- asAddr (a.tmps.getD b undef)):Sem Value)).run P w = .ok rs w/\rs.length=rv.length/\SP w K.Ga (aMX K G) ks ds rs bss/\bss.flatten=(us.map own).flatten/\∀ r∈us,∃ B,b7 L r=some B
 | ks,[],[],ds,us,h=>by
  have h':ds=[]/\us=[]:=by cases ks <;> (cases h;exact ⟨rfl,rfl⟩)
  obtain ⟨rfl,rfl⟩:=h';exact ⟨[],[],by simp,rfl,by cases ks <;> exact ⟨rfl,rfl⟩,rfl,λr hr=>by cases hr⟩
 | ks,t :: ts,.tmp i :: rv,ds,us,h=>by
  simp only [aGh] at h;split at h
  ·rename_i A hA;split at h
   ·rename_i x u ds' vs hd hf;cases h;have hv:kZ w0 G L V A (a.tmps.getD i undef):=by
     have:=hR.env i;rw [hA] at this;exact this
    obtain ⟨h1,h3⟩:=Tj hR hv hd;obtain ⟨rs,bss,g1,g2,g3,g4,g5⟩:=ML hT hR hf;refine ⟨a.tmps.getD i undef :: rs,(u.map own).flatten :: bss,?_,by simp [g2],by cases ks <;> exact ⟨_,_,_,_,rfl,rfl,h1,g3⟩,?_,?_⟩
    ·rw [Ap];simp only [bO,cM,aW];rw [g1];rfl
    ·simp [g4]
    ·intro r hr;rcases bU.1 hr with hr | hr
     ·exact h3 r hr
     ·exact g5 r hr
   ·cases h
  ·cases h
 | ks,t :: ts,.cell i T :: rv,ds,us,h=>by
  simp only [aGh] at h;split at h
  ·rename_i A hA;split at h
   ·rename_i B hB;split at h
    ·rename_i x u ds' vs hd hf;cases h;have hv:kZ w0 G L V A (a.tmps.getD i undef):=by
      have:=hR.env i;rw [hA] at this;exact this
     unfold aHU at hB;split at hB
     ·rename_i t0 ht0;obtain ⟨v,hv',hrun⟩:=Ow (P:=P) hR (TI.ty_ok (hT T) ht0) hv hB;obtain ⟨h1,h3⟩:=Tj hR hv' hd;obtain ⟨rs,bss,g1,g2,g3,g4,g5⟩:=ML hT hR hf;refine ⟨v :: rs,(u.map own).flatten :: bss,?_,by simp [g2],by cases ks <;> exact ⟨_,_,_,_,rfl,rfl,h1,g3⟩,?_,?_⟩
      ·have hc:=aHW (hrun w (cI _ _));rw [Ap,bO];refine (congrArg (λr=>u9 r _) hc).trans ?_;simp only [aW,bO];rw [g1];rfl
      ·simp [g4]
      ·intro r hr;rcases bU.1 hr with hr | hr
       ·exact h3 r hr
       ·exact g5 r hr
     ·cases hB
    ·cases h
   ·cases h
  ·cases h
 | ks,[],_ :: _,_,_,h=>by cases ks <;> cases h
 | ks,_ :: _,[],_,_,h=>by cases ks <;> cases h
def VN (tab:List TI) (ext:sE) (wr:Bool) (n:Nat) (stops:List Nat) (m:Nat) (pins:List Nat) (oks:List AT) (kds:List RK) (ts:List Ty) (rv:Array ResultVar) (path:List Bool) (k:List Item) (E:eD) (L:bG):Option (List aY×List (Option BD)×List Prop) :=
 match rF tab ext wr n stops m true k ⟨path,[],E,L,[],pins⟩ with
 | some (.fin S)=>match IJ (aHV tab S.E S.L kds rv.toList) (S.E,S.L) with
  | (E1,L1)=>match aGh tab E1 L1 kds ts rv.toList with
   | some (ds,us)=>match x8 ((MK E1 L1 us pins oks).2++us)&&decide (S.pins=pins)&&zC pins.length oks.length with
    | true=>some (ds,(MK E1 L1 us pins oks).1,S.cs)
    | false=>none
   | none=>none
 | _=>none
def YP:List (Option BD)->List (Option BD)->Prop
 | [],[]=>True
 | u :: r,u' :: r'=>(u'=u\/u'=none)/\YP r r'
 | _,_=>False
theorem Jm.weak {kds:List RK} {oks:List AT} {ds:List aY} {us us':List (Option BD)} {pins:List Nat} {q:Nat->Value} {K:jK} {e:Ending} {w':World} (h:Jm kds oks ds us pins q K e w') (hw:YP us us'):Jm kds oks ds us' pins q K e w':=by
 obtain ⟨rs,ubs,rbs,F,h1,h2,h3,h4,h5,h6,h7⟩:=h;have key:∀ (us us':List (Option BD)) (os:List AT) (vs:List Value) (ubs:List (List Nat)),YP us us'->OA w' K.G0 os us vs ubs->∃ nbs:List (List Nat),OA w' K.G0 os us' vs nbs/\nbs.flatten.Sublist ubs.flatten:=by
  intro us
  induction us with
  | nil =>
   intro us' os vs ubs hw h;cases us' with
   | nil=>exact ⟨ubs,h,List.Sublist.refl _⟩
   | cons _ _=>cases hw
  | cons u r ih =>
   intro us' os vs ubs hw h;cases us' with
   | nil=>cases hw
   | cons u' r' =>
    obtain ⟨hu,hw⟩:=hw;cases os with
    | nil=>cases u <;> exact h.elim
    | cons o os =>
     cases u with
     | none =>
      obtain ⟨v,s,bs,rfl,rfl,h⟩:=h;obtain ⟨nbs,g1,g2⟩:=ih _ _ _ _ hw h;have:u'=none:=by rcases hu with h | h <;> exact h
      subst this;exact ⟨[] :: nbs,⟨_,_,_,rfl,rfl,g1⟩,by simpa using g2⟩
     | some A =>
      obtain ⟨v,s,b,bs,rfl,rfl,h0,h⟩:=h;obtain ⟨nbs,g1,g2⟩:=ih _ _ _ _ hw h;rcases hu with rfl | rfl
      ·exact ⟨b :: nbs,⟨_,_,_,_,rfl,rfl,h0,g1⟩,by simpa using g2⟩
      ·exact ⟨[] :: nbs,⟨_,_,_,rfl,rfl,g1⟩,by simpa using g2.trans (List.sublist_append_right _ _)⟩
 obtain ⟨nbs,g1,g2⟩:=key _ _ _ _ _ hw h4;have g3:(nbs.flatten++rbs.flatten).Sublist (ubs.flatten++rbs.flatten):=g2.append_right _;refine ⟨rs,nbs,rbs,F,h1,h2,h3,g1,h5.sublist g3,λb hb=>h6 b (g3.subset hb),λb hb => ?_⟩;obtain ⟨k1,k2,k3⟩:=h7 b hb;exact ⟨k1,k2,λhm=>k3 (g3.subset hm)⟩
theorem YI.mono {R':Ending->World->Prop} {q:Nat->Value} {ps:List Nat} {k:List Item} (h:YI P f R n K q ps k E L) (hm:∀ e w,R e w->R' e w):YI P f R' n K q ps k E L:=by
 intro a w w0 G V own hR hq b cs hb hk;obtain ⟨e,w',fr,h1,h2⟩:=h a w w0 G V own hR hq b cs hb hk;exact ⟨e,w',fr,hm _ _ h1,h2⟩
theorem YI.weak {kds:List RK} {oks:List AT} {ds:List aY} {us us':List (Option BD)} {q:Nat->Value} {pins ps:List Nat} {k:List Item} (h:YI P f (Jm kds oks ds us pins q K) n K q ps k E L) (hw:YP us us'):YI P f (Jm kds oks ds us' pins q K) n K q ps k E L :=
 h.mono λ_ _ h=>h.weak hw
theorem YI.fin {fn:Func} (hf:P.funcs[f]? = some fn) {tab:List TI} {ext:sE} (hT:jP P tab) (hX:nQ P ext) (hm:P.follows .mixedOrders=true) {q:Nat->Value} {pins:List Nat} {oks:List AT} {kds:List RK} {wr:Bool} {stops:List Nat} {m:Nat} {ts:List Ty} {path:List Bool} {k:List Item} {ds:List aY} {us:List (Option BD)} {cs:List Prop}
  (h:VN tab ext wr n stops m pins oks kds ts fn.results path k E L=some (ds,us,cs)) (hc:eZ cs):YI P f (Jm kds oks ds us pins q K) n K q pins k E L:=by
 intro a w w0 G V own hR hq;unfold VN at h;split at h
 ·rename_i S hr;split at h;rename_i E1 L1 hfrz;split at h
  ·rename_i ds' us' hfin;split at h
   ·rename_i hnd;simp only [aJ,decide_eq_true_eq,Rq] at hnd;obtain ⟨⟨hnd,hp⟩,hpl⟩:=hnd;cases h;refine YJ hT hX hm hr hc hR ⟨λt d ht=>by simp [FC] at ht,hq⟩ ?_;intro a' w' w1 G1 V' own' hR1 hq';rw [hp] at hq';obtain ⟨w2,G2,hR'⟩:=FB (rs:=aHV tab S.E S.L kds fn.results.toList) hR1;rw [hfrz] at hR';obtain ⟨rs,bss,g1,g2,g3,g4,g5⟩:=ML (P:=P) hT hR' hfin;obtain ⟨ubs,k1,k2,k3⟩:=Ti (gone:=us') hR' hpl hq';have hall:ubs.flatten++bss.flatten=(((MK E1 L1 us' pins oks).2++us').map own').flatten:=by rw [k2,g4,List.map_append,fK]
    have hlive:∀ r∈(MK E1 L1 us' pins oks).2++us',∃ B,b7 L1 r=some B:=λr hr=>by
     rcases bU.1 hr with hr | hr
     ·exact k3 r hr
     ·exact g5 r hr
    have hout:∀ b∈ubs.flatten++bss.flatten,Am.Out K G2 b:=by
     intro b hb;rw [hall] at hb;obtain ⟨l,hl,hb⟩:=iH.1 hb;obtain ⟨r,hr,rfl⟩:=eE.1 hl;obtain ⟨B,hB⟩:=hlive r hr;exact hR'.good r B hB b hb
    refine ⟨hR'.defers,fn,ER rs,hf,?_,rs,ubs,bss,aMX K G2,rfl,hR'.kept,g3,k1,?_,λb hb=>(hout b hb).1,λb hb=>⟨hR'.glt b hb.1,hb.2,λhm=>(hout b hm).2 hb.1⟩⟩
    ·unfold results;have hm':(fn.results.mapM λx=>(match x with | .tmp t=>pure (a'.tmps.getD t undef) | .cell b t=>do loadVar t (<- asAddr (a'.tmps.getD b undef)):Sem Value)).run P w' = .ok rs.toArray w':=by
      rw [show fn.results=fn.results.toList.toArray from rfl,List.mapM_toArray];simp only [map_eq_pure_bind,bO,g1,aW,cM]
     simp only [bO];refine (congrArg (λr=>u9 r _) hm').trans ?_;simp only [aW,cM]
     congr 1
     match rs with
     | []=>rfl
     | [v]=>rfl
     | _ :: _ :: _=>simp [ER]
    ·rw [hall];exact Gd hR' (BQ hnd) hlive
   ·cases h
  ·cases h
 ·cases h
end
end Go.Am
namespace Go.Am
open Go.ChangeShapes Go.WideShapes Go.ChangeAt Go.RowKit
def nS (P:Program) (agg:Bool) (T:TypeId) (k:TypeId ⊕ (List Field×Nat)->Bool):Bool :=
 match agg with
 | true=>match P.underlying T with
  | some (.struct fs)=>k (.inr (fs.toList,0))
  | _=>false
 | false=>k (.inl T)
def jM (P:Program):Ty->TypeId ⊕ (List Field×Nat)->Bool
 | .int k,.inl T=>Uk k (P.underlying T)
 | .bool,.inl T=>O2 (P.underlying T)
 | .str,.inl T=>Ul (P.underlying T)
 | .unit,.inr ([],_)=>true
 | .cons a b,.inr (f :: fs,o)=>cG f.offset o&&(cG (P.cellsOf f.type) a.size&&(nS P a.agg f.type (jM P a)&&jM P b (.inr (fs,o+a.size))))
 | _,_=>false
def IQ (P:Program) (t:Ty) (T:TypeId):Bool:=cG (P.cellsOf T) t.size&&nS P t.agg T (jM P t)
section
variable {H:Type} {enc:TypeId×Value->H} {P:Program} {w:World} {base:Nat} {spare:Nat->Bool} {held:Bool} {G:Nat->Prop}
def DR (enc:TypeId×Value->H) (P:Program) (w:World) (base:Nat) (spare:Nat->Bool) (held:Bool) (cs:List Value) (f:Field):Prop :=
 ∃ n x,Dz enc P w base spare held n f.type ((cs.drop f.offset).take (P.cellsOf f.type))=some x
theorem BT {T:TypeId} {fs:Array Field} {fuel:Nat} {cs:List Value} {x:DataW H×List MemPlace} (ht:P.underlying T=some (.struct fs)) (h:Dz enc P w base spare held fuel T cs=some x) :
  cs.length=P.cellsOf T/\∀ f∈fs.toList,DR enc P w base spare held cs f:=by
 obtain ⟨xs,n,_,_,hl,hx,hf⟩:=DataW.trod_struct ht h;refine ⟨hl,λf hf' => ?_⟩;obtain ⟨i,hi⟩:=jF hf';rw [cX] at hi;have hlt:i<fs.size:=(j2.1 hi).1;have:=hf i f hi;exact ⟨n,xs[i]'(by omega),by rw [this];exact bC _⟩
theorem AG:∀ (t:Ty),
  (∀ T fuel cs x,nS P t.agg T (jM P t)=true->P.cellsOf T=t.size->Dz enc P w base spare held fuel T cs=some x->∃ y,dW w G t y cs) /\
  (∀ fs o cs,jM P t (.inr (fs,o))=true->(∀ f∈fs,DR enc P w base spare held cs f)->cs.length=o+t.size->∃ y,dW w G t y (cs.drop o))
 | .int k=>by
  refine ⟨λT fuel cs x h _ ht => ?_,λfs o cs h=>by simp [jM] at h⟩;have hu:=Le (by simpa [nS,gP,jM] using h);obtain ⟨n,rfl,_,hw⟩:=DataW.trod_int hu ht;exact ⟨n,rfl,by simpa [Lit.wf,cC] using hw⟩
 | .bool=>by
  refine ⟨λT fuel cs x h _ ht => ?_,λfs o cs h=>by simp [jM] at h⟩;have hu:=Hz (by simpa [nS,gP,jM] using h);obtain ⟨b,rfl,_⟩:=DataW.trod_bool hu ht;exact ⟨b,rfl⟩
 | .fn=>⟨λT fuel cs x h=>by simp [nS,gP,jM] at h,λfs o cs h=>by simp [jM] at h⟩
 | .str=>by
  refine ⟨λT fuel cs x h _ ht => ?_,λfs o cs h=>by simp [jM] at h⟩;have hu:=Lf (by simpa [nS,gP,jM] using h);obtain ⟨s,rfl,_,hs⟩:=DataW.trod_string hu ht;exact ⟨s,rfl,hs⟩
 | .sl e=>by
  exact ⟨λT fuel cs x h=>by simp [nS,gP,jM] at h,λfs o cs h=>by simp [jM] at h⟩
 | .unit=>by
  have hB:∀ fs o cs,jM P .unit (.inr (fs,o))=true->(∀ f∈fs,DR enc P w base spare held cs f)->cs.length=o+HM.size->∃ y,dW w G .unit y (cs.drop o):=by
   intro fs o cs h _ hl;refine ⟨(),?_⟩;show cs.drop o=[];rw [x6];simp [jX] at hl;omega
  refine ⟨λT fuel cs x h hc ht => ?_,hB⟩;simp only [nS,gP] at h;split at h
  ·rename_i fs hu;obtain ⟨h1,h2⟩:=BT hu ht;simpa using hB _ _ cs h h2 (by rw [h1,hc];simp)
  ·cases h
 | .cons a b=>by
  obtain ⟨ha,_⟩:=AG a;obtain ⟨_,hb⟩:=AG b;have hB:∀ fs o cs,jM P (.cons a b) (.inr (fs,o))=true->(∀ f∈fs,DR enc P w base spare held cs f)->cs.length=o+(kR a b).size->∃ y,dW w G (.cons a b) y (cs.drop o):=by
   intro fs o cs h hf hl
   match fs,h with
   | [],h=>simp [jM] at h
   | f :: fs,h =>
    simp only [jM,aJ] at h;obtain ⟨h1,h2,h3,h4⟩:=h;have h1:=aX h1;have h2:=aX h2;simp only [jX] at hl;obtain ⟨n,x,hx⟩:=hf f (aQ ..);rw [h1,h2] at hx;obtain ⟨y1,hy1⟩:=ha _ _ _ _ h3 h2 hx;obtain ⟨y2,hy2⟩:=hb fs (o+a.size) cs h4 (λg hg=>hf g (aM _ hg)) (by omega);refine ⟨(y1,y2),_,_,?_,hy1,hy2⟩;rw [<- mK];exact (eU _ _).symm
  refine ⟨λT fuel cs x h hc ht => ?_,hB⟩;simp only [nS,gP] at h;split at h
  ·rename_i fs hu;obtain ⟨h1,h2⟩:=BT hu ht;simpa using hB _ _ cs h h2 (by rw [h1,hc];simp)
  ·cases h
theorem aB5 {a:Addr} {n:Nat} {cs:List Value} (h:w.cells? base a n=some cs):cs.length=n/\∀ j c,cs[j]? = some c->w.cell? (a.add j)=some c:=by
 unfold World.cells? at h;split at h
 ·have key:∀ (l:List Nat) (cs:List Value),(l.mapM λi=>w.cell? (a.add i))=some cs->cs.length=l.length/\∀ (j:Nat) (c:Value) (i:Nat),cs[j]? = some c->l[j]? = some i->w.cell? (a.add i)=some c:=by
   intro l
   induction l with
   | nil=>intro cs h;simp at h;subst h;simp
   | cons i l ih =>
    intro cs h;rw [Ap] at h;cases hc:w.cell? (a.add i) with
    | none=>simp [hc] at h
    | some c =>
     cases hr:l.mapM λi=>w.cell? (a.add i) with
     | none=>simp [hc,hr] at h
     | some r =>
      simp [hc,hr] at h;subst h;obtain ⟨h1,h2⟩:=ih r hr;refine ⟨by simp [h1],λj c' i' hj hi => ?_⟩;cases j with
      | zero=>simp at hj hi;subst hj hi;exact hc
      | succ j=>exact h2 j c' i' (by simpa using hj) (by simpa using hi)
  obtain ⟨h1,h2⟩:=key _ _ h;refine ⟨by simpa using h1,λj c hj=>h2 j c j hj ?_⟩;have hlt:=(bH.1 hj).1;have h1':cs.length=n:=by simpa using h1
  rw [List.getElem?_range (by omega)]
 ·cases h
def aB6 (w:World) (v:Value):Prop:=∀ a len cap,v = .slice (some a) len cap->a.spot=none/\a.block<w.heap.size
theorem aMY {r:Reach} {b0:Nat} {a:Addr} {e:TypeId} {n:Nat} (h:w.has P r b0 a e n):a.spot=none/\a.block<w.heap.size:=by
 obtain ⟨_,hs,row,cells,hsh,_⟩:=h;refine ⟨hs,?_⟩;rcases eK a.block w.heap.size with hlt | hge
 ·exact hlt
 ·simp [zD, cZ hge] at hsh
theorem aHX {r:Reach} {b0:Nat} {u:TypeId} {v:Value} (h:Cell.okWide P w r b0 u v):aB6 w v:=by
 rintro a len cap rfl;unfold Cell.okWide at h;split at h
 all_goals first
  | (rename_i hv;cases hv;done)
  | skip
 unfold Cell.ok at h;split at h
 all_goals first
  | (rename_i hv;cases hv;done)
  | (cases h;done)
  | skip
 rename_i hv;cases hv;exact aMY h.2.2
theorem aMZ {r:Reach} {b0:Nat} {T:TypeId} {cs:Array Value} (h:Row.okWide P w r b0 T cs):∀ v∈cs.toList,aB6 w v:=by
 obtain ⟨ts,_,_,h⟩:=h;intro v hv;obtain ⟨i,hi⟩:=jF hv;rw [cX] at hi;obtain ⟨u,_,hu⟩:=h i v hi;exact aHX hu
theorem FM {e:Ty} {E T:TypeId} {fuel:Nat} {cs:List Value} {x:DataW H×List MemPlace} (hu:P.underlying T=some (.slice E)) (hr:IQ P e E=true) (hz:e.size≠0) (hf:∀ v∈cs,aB6 w v)
  (h:Dz enc P w base spare held fuel T cs=some x):∃ (v:Value) (ys:List e.den),cs=[v]/\lT w (Good w []) (dW w (Good w []) e) e.size ys v:=by
 simp only [IQ,aJ] at hr;obtain ⟨hc,hr⟩:=hr;have hc:=aX hc;rcases DataW.trod_slice hu h with ⟨h1,_⟩ | ⟨a,len,cap,elems,rest,n,_,h1,_,_,hl,hm,hlen,hel,_⟩
 ·exact ⟨_,[],h1,by simp [maxLen],.inl ⟨_,rfl,rfl⟩⟩
 ·subst h1;obtain ⟨hs,hb⟩:=hf _ (bI.2 rfl) _ _ _ rfl;obtain ⟨b,off,spot⟩:=a;simp only at hs hb;subst hs;have each:∀ i,i<len->∃ y cs,cs.length=e.size/\(∀ j c,cs[j]? = some c->w.cell? ⟨b,off+i*e.size+j,none⟩=some c)/\dW w (Good w []) e y cs:=by
   intro i hi;have hx:=hel i hi;rw [bC (by omega)] at hx;simp only [Option.bind_eq_some_iff] at hx;obtain ⟨cs,g1,g2⟩:=hx;obtain ⟨k1,k2⟩:=aB5 g1;obtain ⟨y,hy⟩:=(AG (G:=Good w []) e).1 E _ _ _ hr hc g2;refine ⟨y,cs,by rw [k1,hc],λj c hj => ?_,hy⟩;have:=k2 j c hj;rw [hc] at this;rw [fH,fH] at this;exact this
  have build:∀ k,k<=len->∃ ys:List e.den,ys.length=k/\∀ i y,ys[i]? = some y->∃ cs,cs.length=e.size/\(∀ j c,cs[j]? = some c->w.cell? ⟨b,off+i*e.size+j,none⟩=some c)/\dW w (Good w []) e y cs:=by
   intro k
   induction k with
   | zero=>intro _;exact ⟨[],rfl,λi y h=>by simp at h⟩
   | succ k ih =>
    intro hk;obtain ⟨ys,h1,h2⟩:=ih (by omega);obtain ⟨y,cs,g1,g2,g3⟩:=each k (by omega);refine ⟨ys++[y],by simp [h1],λi z hz => ?_⟩;by_cases hi:i<ys.length
    ·rw [bV hi] at hz;exact h2 i z hz
    ·have hlt:=(bH.1 hz).1;simp at hlt;have:i=k:=by omega
     subst this;rw [cH (by omega)] at hz;simp [h1] at hz;subst hz;exact ⟨cs,g1,g2,g3⟩
  obtain ⟨ys,h1,h2⟩:=build len (aT _);exact ⟨_,ys,rfl,by omega,.inr ⟨b,off,cap,by rw [h1],by omega,by omega,⟨hb,by simp⟩,h2⟩⟩
def oZ (P:Program):Ty->TypeId ⊕ (List Field×Nat)->Bool
 | .sl e,.inl T=>match P.underlying T with
  | some (.slice E)=>IQ P e E && !cG e.size 0
  | _=>false
 | .unit,.inr ([],_)=>true
 | .cons a b,.inr (f :: fs,o)=>cG f.offset o&&(cG (P.cellsOf f.type) a.size&&(nS P a.agg f.type (oZ P a)&&oZ P b (.inr (fs,o+a.size))))
 | .int k,x=>jM P (.int k) x
 | .bool,x=>jM P .bool x
 | .str,x=>jM P .str x
 | _,_=>false
theorem MM:∀ (t:Ty),
  (∀ T fuel cs x,nS P t.agg T (oZ P t)=true->P.cellsOf T=t.size->(∀ v∈cs,aB6 w v)->Dz enc P w base spare held fuel T cs=some x->∃ y,dW w (Good w []) t y cs) /\
  (∀ fs o cs,oZ P t (.inr (fs,o))=true->(∀ f∈fs,DR enc P w base spare held cs f)->(∀ v∈cs,aB6 w v)->cs.length=o+t.size->∃ y,dW w (Good w []) t y (cs.drop o))
 | .int k=>by
  refine ⟨λT fuel cs x h hc _ ht=>(AG (.int k)).1 T fuel cs x ?_ hc ht,λfs o cs h=>by simp [oZ,jM] at h⟩;simpa [nS,gP,oZ] using h
 | .bool=>by
  refine ⟨λT fuel cs x h hc _ ht=>(AG .bool).1 T fuel cs x ?_ hc ht,λfs o cs h=>by simp [oZ,jM] at h⟩;simpa [nS,gP,oZ] using h
 | .fn=>⟨λT fuel cs x h=>by simp [nS,gP,oZ] at h,λfs o cs h=>by simp [oZ] at h⟩
 | .str=>by
  refine ⟨λT fuel cs x h hc _ ht=>(AG .str).1 T fuel cs x ?_ hc ht,λfs o cs h=>by simp [oZ,jM] at h⟩;simpa [nS,gP,oZ] using h
 | .sl e=>by
  refine ⟨λT fuel cs x h hc hf ht => ?_,λfs o cs h=>by simp [oZ] at h⟩;simp only [nS,gP,oZ] at h;split at h
  ·rename_i E hu;simp only [aJ,cW] at h;obtain ⟨v,ys,h1,h2⟩:=FM hu h.1 (λhz=>by have:=h.2;rw [hz] at this;simp at this) hf ht;exact ⟨ys,v,h1,h2⟩
  ·cases h
 | .unit=>by
  have hB:∀ fs o cs,oZ P .unit (.inr (fs,o))=true->(∀ f∈fs,DR enc P w base spare held cs f)->cs.length=o+HM.size->∃ y,dW w (Good w []) .unit y (cs.drop o):=by
   intro fs o cs h _ hl;refine ⟨(),?_⟩;show cs.drop o=[];rw [x6];simp [jX] at hl;omega
  refine ⟨λT fuel cs x h hc _ ht => ?_,λfs o cs h1 h2 _ h3=>hB fs o cs h1 h2 h3⟩;simp only [nS,gP] at h;split at h
  ·rename_i fs hu;obtain ⟨h1,h2⟩:=BT hu ht;simpa using hB _ _ cs h h2 (by rw [h1,hc];simp)
  ·cases h
 | .cons a b=>by
  obtain ⟨ha,_⟩:=MM a;obtain ⟨_,hb⟩:=MM b;have hB:∀ fs o cs,oZ P (.cons a b) (.inr (fs,o))=true->(∀ f∈fs,DR enc P w base spare held cs f)->(∀ v∈cs,aB6 w v)->cs.length=o+(kR a b).size->∃ y,dW w (Good w []) (.cons a b) y (cs.drop o):=by
   intro fs o cs h hf hfit hl
   match fs,h with
   | [],h=>simp [oZ] at h
   | f :: fs,h =>
    simp only [oZ,aJ] at h;obtain ⟨h1,h2,h3,h4⟩:=h;have h1:=aX h1;have h2:=aX h2;simp only [jX] at hl;obtain ⟨n,x,hx⟩:=hf f (aQ ..);rw [h1,h2] at hx;obtain ⟨y1,hy1⟩:=ha _ _ _ _ h3 h2 (λv hv=>hfit v (iB (gI hv))) hx;obtain ⟨y2,hy2⟩:=hb fs (o+a.size) cs h4 (λg hg=>hf g (aM _ hg)) hfit (by omega);refine ⟨(y1,y2),_,_,?_,hy1,hy2⟩;rw [<- mK];exact (eU _ _).symm
  refine ⟨λT fuel cs x h hc hfit ht => ?_,hB⟩;simp only [nS,gP] at h;split at h
  ·rename_i fs hu;obtain ⟨h1,h2⟩:=BT hu ht;simpa using hB _ _ cs h h2 hfit (by rw [h1,hc];simp)
  ·cases h
def aHY (P:Program):Ty->TypeId->Bool
 | .sl e,T=>match P.underlying T with
  | some (.slice E)=>IQ P e E && !cG e.size 0
  | _=>false
 | t,T=>IQ P t T||(t.agg&&(cG (P.cellsOf T) t.size&&nS P true T (oZ P t)))
theorem Pf {r:Reach} {b0:Nat} {T:TypeId} {v:Value} {fs:Array Field} (hu:P.underlying T=some (.struct fs)) (h:nB P w r b0 T v):∃ cs,v = .agg cs:=by
 simp only [nB,hu] at h;obtain ⟨cs,hv,_⟩:=h;exact ⟨cs,hv⟩
theorem Sa {r:Reach} {b0:Nat} {t:Ty} {T:TypeId} {v:Value} {d:DataW H} {ps:List MemPlace} (hB:IQ P t T=true) (hv:nB P w r b0 T v) (h:aEu enc P w base spare held T v d ps) :
  ∃ x:t.den,rS w G (iG t x) v:=by
 simp only [IQ,aJ] at hB;obtain ⟨hc,hB⟩:=hB;have hc:=aX hc;obtain ⟨fuel,hf⟩:=h;obtain ⟨y,hy⟩:=(AG (G:=G) t).1 T fuel _ _ hB hc hf;refine ⟨y,?_⟩;cases t with
 | int k =>
  have hu:=Le (by simpa [nS,gP,jM] using hB);obtain ⟨n,rfl⟩:=okWide_int hu hv;obtain ⟨h1,h2⟩:=hy;simp [mX] at h1;subst h1;exact ⟨rfl,h2⟩
 | bool =>
  have hu:=Hz (by simpa [nS,gP,jM] using hB);obtain ⟨b,rfl⟩:=okWide_bool hu hv;have h1:([.bool b]:List Value)=[.bool y]:=hy;cases h1;exact ⟨rfl,trivial⟩
 | fn=>simp [nS,gP,jM] at hB
 | str =>
  have hu:=Lf (by simpa [nS,gP,jM] using hB);obtain ⟨s,rfl⟩:=okWide_string hu hv;obtain ⟨h1,h2⟩:=hy;simp [mX] at h1;subst h1;exact ⟨rfl,h2⟩
 | sl e=>simp [nS,gP,jM] at hB
 | unit =>
  simp only [nS,gP] at hB;split at hB
  ·rename_i fs hu;obtain ⟨cs,rfl⟩:=Pf hu hv;exact ⟨cs.toList,by simp,hy⟩
  ·cases hB
 | cons a b =>
  simp only [nS,gP] at hB;split at hB
  ·rename_i fs hu;obtain ⟨cs,rfl⟩:=Pf hu hv;exact ⟨cs.toList,by simp,hy⟩
  ·cases hB
theorem aHZ {r:Reach} {b0:Nat} {T E:TypeId} {a:Addr} {len cap:Nat} (hu:P.underlying T=some (.slice E)) (hv:nB P w r b0 T (.slice (some a) len cap)):a.spot=none/\a.block<w.heap.size:=by
 simp only [nB,hu,Cell.okWide,Cell.ok] at hv;obtain ⟨_,_,hh⟩:=hv;obtain ⟨_,hs,row,cells,hsh,_⟩:=hh;refine ⟨hs,?_⟩;rcases eK a.block w.heap.size with hlt | hge
 ·exact hlt
 ·simp [zD, cZ hge] at hsh
theorem aIa {r:Reach} {b0:Nat} {t:Ty} {T:TypeId} {v:Value} {d:DataW H} {ps:List MemPlace} (hB:aHY P t T=true) (hv:nB P w r b0 T v) (h:aEu enc P w base spare held T v d ps) :
  ∃ x:t.den,rS w (Good w []) (iG t x) v:=by
 unfold aHY at hB;split at hB
 ·rename_i e;split at hB
  ·rename_i E hu;simp only [aJ,cW] at hB;obtain ⟨a0,len,cap,rfl⟩:=okWide_slice hu hv;obtain ⟨fuel,hf⟩:=h;have hfit:∀ u∈(Value.slice a0 len cap).cells.toList,aB6 w u:=λu hu'=>by
    simp [mX] at hu';subst hu';rintro a l c he;cases he;exact aHZ hu hv
   obtain ⟨u,ys,h1,h2⟩:=FM hu hB.1 (λhz=>by have:=hB.2;rw [hz] at this;simp at this) hfit hf;simp [mX] at h1;subst h1;exact ⟨ys,h2⟩
  ·cases hB
 ·rename_i hns;rw [j8] at hB;rcases hB with hB | hB
  ·exact Sa hB hv h
  ·simp only [aJ] at hB;obtain ⟨ha,hc,hB⟩:=hB;have hc:=aX hc;obtain ⟨fuel,hf⟩:=h;have hB':=hB;unfold nS at hB;simp only at hB;split at hB
   ·rename_i fs hu;simp only [nB,hu] at hv;obtain ⟨cs,rfl,_,hrow⟩:=hv;obtain ⟨y,hy⟩:=(MM t).1 T fuel _ _ (by rw [ha];exact hB') hc (aMZ hrow) (by simpa [mX] using hf);refine ⟨y,?_⟩;cases t with
    | cons a b=>exact ⟨cs.toList,by simp,hy⟩
    | unit=>exact ⟨cs.toList,by simp,hy⟩
    | _=>cases ha
   ·cases hB
theorem Tk {r:Reach} {b0:Nat}:∀ {ts:List Ty} {Ts:List TypeId} {vs:List Value} {ds:List (DataW H)} {ps:List MemPlace},ts.length=Ts.length->(∀ (i:Nat) (t:Ty) (T:TypeId),ts[i]? = some t->Ts[i]? = some T->aHY P t T=true) ->
  (∀ (j:Nat) T v,Ts[j]? = some T->vs[j]? = some v->nB P w r b0 T v)->CF enc P w base spare held Ts vs ds ps ->
  ∃ (x:fX (ts.map nV)) (bss:List (List Nat)),bss.flatten=[]/\BM w (Good w []) (ts.map nV) x vs bss
 | [],[],[],[],_,_,_,_,_=>⟨(),[],rfl,rfl,rfl⟩
 | t :: ts,T :: Ts,v :: vs,d :: ds,ps,hl,hB,hv,h=>by
  obtain ⟨p,q,h1,h2,_⟩:=h;obtain ⟨x,hx⟩:=aIa (hB 0 t T rfl rfl) (hv 0 T v rfl rfl) h1;obtain ⟨y,bss,hb,hy⟩:=Tk (by simpa using hl) (λi t T h1 h2=>hB (i+1) t T (by simpa using h1) (by simpa using h2)) (λj T v h1 h2=>hv (j+1) T v (by simpa using h1) (by simpa using h2)) h2;exact ⟨(x,y),[] :: bss,by simpa using hb,v,vs,[],bss,rfl,rfl,⟨rfl,hx⟩,hy⟩
 | [],_ :: _,_,_,_,hl,_,_,_=>by simp at hl
 | _ :: _,[],_,_,_,hl,_,_,_=>by simp at hl
end
section
variable {H:Type} {enc:TypeId×Value->H} {P:Program} {W W':World}
theorem He (hl:laidOutB P=true) (hb:Below W.heap.size W W'):∀ {ts:List TypeId} {vs:List Value} {ds:List (DataW H)} {ps:List MemPlace},(∀ t∈ts,P.readableRec t=true/\t<P.types.size) ->
  CF enc P W 0 (λ_=>true) true ts vs ds ps->(∀ x∈ps,x.block<W.heap.size)->CF enc P W' 0 (λb=>decide (b<W.heap.size)) true ts vs ds ps
 | [],[],[],_,_,h,_=>h
 | t :: ts,v :: vs,d :: ds,ps,hr,⟨p,q,h1,h2,e⟩,hlt=>by
  obtain ⟨r1,r2⟩:=hr t (aQ ..);refine ⟨p,q,Below.trod hl r1 r2 h1 hb (λx hx=>hlt x (by rw [e];exact bQ _ hx)),He hl hb (λt ht=>hr t (aM _ ht)) h2 (λx hx=>hlt x (by rw [e];exact bF _ hx)),e⟩
 | [],[],_ :: _,_,_,h,_=>h.elim
 | [],_ :: _,_,_,_,h,_=>h.elim
 | _ :: _,[],_,_,_,h,_=>h.elim
 | _ :: _,_ :: _,[],_,_,h,_=>h.elim
theorem NW {base:Nat} {sp:Nat->Bool} {held:Bool}:∀ {ts:List TypeId} {vs:List Value} {ds:List (DataW H)} {ps:List MemPlace},CF enc P W base sp held ts vs ds ps->ds.length=ts.length/\vs.length=ts.length
 | [],[],[],_,h=>⟨rfl,rfl⟩
 | t :: ts,v :: vs,d :: ds,ps,⟨p,q,h1,h2,e⟩=>by obtain ⟨a,b⟩:=NW h2;exact ⟨by simp [a],by simp [b]⟩
 | [],[],_ :: _,_,h=>h.elim
 | [],_ :: _,_,_,h=>h.elim
 | _ :: _,[],_,_,h=>h.elim
 | _ :: _,_ :: _,[],_,h=>h.elim
end
def YQ (P:Program):List Ty->List TypeId->Bool
 | [],[]=>true
 | t :: ts,T :: Ts=>aHY P t T&&YQ P ts Ts
 | _,_=>false
theorem Pg {P:Program}:∀ {ts:List Ty} {Ts:List TypeId},YQ P ts Ts=true->ts.length=Ts.length/\∀ (i:Nat) (t:Ty) (T:TypeId),ts[i]? = some t->Ts[i]? = some T->aHY P t T=true
 | [],[],_=>⟨rfl,λi t T h=>by simp at h⟩
 | t :: ts,T :: Ts,h=>by
  simp only [YQ,aJ] at h;obtain ⟨h1,h2⟩:=Pg h.2;refine ⟨by simp [h1],λi u U hu hU => ?_⟩;cases i with
  | zero=>simp at hu hU;subst hu hU;exact h.1
  | succ i=>exact h2 i u U (by simpa using hu) (by simpa using hU)
 | [],_ :: _,h=>by cases h
 | _ :: _,[],h=>by cases h
def VO (ts:List Ty):Spec:={ sig:=ts.map nV,pre:=λ_=>True,res:=λ_=>[⟨.bool,true⟩] }
theorem aGk {H:Type} {enc:TypeId×Value->H} {C:Checked} {f:FuncId} {fn:Func} {s:ChangeSpec} {apart fresh handsOn:Bool}
  (hl:laidOutB C.prog=true) (hr:(fn.params.toList.all λt=>C.prog.readableRec t&&LA t C.prog.types.size)=true)
  (ts:List Ty) (hts:YQ C.prog ts fn.params.toList=true) {tb:TypeId} (hres:fn.resultTypes = #[tb]) (htb:C.prog.underlying tb=some .bool) (hvars:s.vars=[])
  (hs:∀ ds:List (DataW H),ds.length=fn.params.toList.length->(s.fn H (ds++[])).results=[.lit (.bool true)]/\(s.fn H (ds++[])).args=ds/\(s.fn H (ds++[])).vars=[])
  (hcon:jC C.prog f (VO ts)) {W:World} (hg:CR W) {base:Nat} {args:Array Value} {ds gs:List (DataW H)} {before:List MemPlace}
  (hval:∀ (j:Nat) t v,fn.params[j]? = some t->args[j]? = some v->nB C.prog W .any base t v)
  (hW:DataW.Whole enc C.prog fn.params.toList s.vars apart W args.toList ds gs before) :
  Calls C.prog f args W λe W'=>∃ v,e = .returned v/\s.post enc C.prog fn apart fresh handsOn false W args v W':=by
 have hW':=hW;obtain ⟨p,q,hA,hV,hbef,hfz,hnd⟩:=hW;rw [hvars] at hV;obtain ⟨rfl,rfl⟩:=trodVars_none hV;obtain ⟨hlen,hall⟩:=Pg hts;obtain ⟨x,bss,hb0,hx⟩:=Tk (r := .any) (b0:=base) hlen hall (λj T v h1 h2=>hval j T v (by simpa using h1) (by simpa using h2)) hA;have hcall:=hcon W (Good W []) (Good W []) x args.toList bss (by rw [hb0];exact ⟨hg,hg.size,λb hb=>by cases hb⟩) (by rw [hb0];exact λb hb=>hb) (λb hb=>hb) trivial hx (by rw [hb0];exact fS);rw [hb0] at hcall;refine hcall.mono ?_;rintro e W' ⟨rs,ubs,rbs,F,rfl,hk,hrr,_⟩;have hrs:rs=[.bool true]:=by
  obtain ⟨v,s',b,bs,h1,h2,⟨cs,h3,h4⟩,h5⟩:=hrr;obtain ⟨h3,_⟩:=h3;simp only [zV] at h4;rw [h3] at h4;cases h4;rw [h1,h5.1]
 subst hrs;have hbel:=hk.below;obtain ⟨g1,g2,g3⟩:=hs ds (NW hA).1;have hlt:∀ y∈p,y.block<W.heap.size:=λy hy=>hW'.lt y (by rw [hbef];exact bQ _ hy);have hr':∀ t∈fn.params.toList,C.prog.readableRec t=true/\t<C.prog.types.size:=λt ht=>by
  have:=jH.1 hr t ht;simp only [aJ] at this;exact ⟨this.1,aZ this.2⟩
 refine ⟨.bool true,rfl,ds,[],before,[],p,[],hW',?_,?_,?_,hbel.frame _,λh=>by cases h⟩
 ·rw [hres,g1];exact trodAll_mk1 (shut_bool htb true)
 ·rw [g2];exact He hl hbel hr' hA hlt
 ·rw [hvars,g3];rfl
theorem OD {H:Type} {enc:TypeId×Value->H} {a:Assume} {C:Checked} {os:Os} {f:FuncId} {fn:Func} {s:ChangeSpec} {conds:List PathCond} {apart fresh handsOn:Bool} {laid:List (String×DataW Unit)}
  (own:ownKnob C.prog.godebug=none) (started:os.Started) (noInit:C.prog.inits.idxOf? f=none) (hfn:C.prog.funcs[f]? = some fn)
  (witness:∃ (w:World) (tape:Tape) (i:Input),w.os=os/\(w.forCall tape i).Shaped C.prog/\i.vars=[]/\Input.okWide C.prog (w.forCall tape i) .any w.heap.size f i /\
   ((s.pre enc C.prog fn conds apart (w.forCall tape i).memory i.args/\laidMetH C.prog laid (w.forCall tape i).memory)/\sizedMet enc C.prog fn (OpenSpec.ofChange s) apart (w.forCall tape i).memory i.args)/\a.holds C.prog (lone (Frame.enter C.prog f i.args .normal) [] (w.forCall tape i)))
  (hl:laidOutB C.prog=true) (hr:(fn.params.toList.all λt=>C.prog.readableRec t&&LA t C.prog.types.size)=true)
  (ts:List Ty) (hts:YQ C.prog ts fn.params.toList=true) {tb:TypeId} (hres:fn.resultTypes = #[tb]) (htb:C.prog.underlying tb=some .bool) (hvars:s.vars=[])
  (hs:∀ ds:List (DataW H),ds.length=fn.params.toList.length->(s.fn H (ds++[])).results=[.lit (.bool true)]/\(s.fn H (ds++[])).args=ds/\(s.fn H (ds++[])).vars=[])
  (hg:∀ W:World,W.ShapedOpen C.prog->laidMetH C.prog laid W->CR W) (hcon:jC C.prog f (VO ts)) :
  ReturnsInHanded a C os f .any (λw args=>(s.pre enc C.prog fn conds apart w args/\laidMetH C.prog laid w)/\sizedMet enc C.prog fn (OpenSpec.ofChange s) apart w args) (s.post enc C.prog fn apart fresh handsOn false):=by
 refine returnsInHanded_of_calls own started noInit witness ?_;intro w tape i _ hsh _ hok hpre hholds;obtain ⟨_,_,_,fn',hfn',_,_,_,_,hval⟩:=hok;have e:fn'=fn:=pK (hfn'.symm.trans hfn);subst e;obtain ⟨⟨⟨ds,gs,before,hw,hc⟩,hx⟩,hz⟩:=hpre;have hw':=DataW.Whole.of_heap (w':=w.forCall tape i) (by rfl) hw;have hx':laidMetH C.prog laid (w.forCall tape i):=hx.of_heap (by rfl);refine (aGk (fresh:=fresh) (handsOn:=handsOn) hl hr ts hts hres htb hvars hs hcon (hg _ hsh hx') hval hw').mono λe W' ⟨v,he,hp⟩ => ?_;subst he;exact ChangeSpec.post_blind hp
end Go.Am
namespace Go.Am
def Ph (f:Func):Code:=match f.body with | some c=>c | none => .skip
def xQ:Code->Nat
 | .region id _ _=>id
 | .seq x _=>xQ x
 | .block _ c=>xQ c
 | .loop c=>xQ c
 | .scope c=>xQ c
 | _=>999999
def orL:Option (List Item)->Option (List Item)->Option (List Item)
 | some k,_=>some k
 | none,x=>x
def Pi (id:Nat):Code->List Item->Option (List Item)
 | .seq x y,k=>orL (Pi id x (.code y :: k)) (Pi id y k)
 | .block b c,k=>Pi id c (.inBlock b :: k)
 | .loop c,k=>match cG (xQ c) id with
  | true=>some (.code c :: .inLoop c :: k)
  | false=>Pi id c (.inLoop c :: k)
 | .cond _ x y,k=>orL (Pi id x k) (Pi id y k)
 | .region r ops d,k=>match cG r id with
  | true=>some (.code (.region r ops d) :: k)
  | false=>none
 | _,_=>none
def aXy (c:Code) (id:Nat):List Item:=match Pi id c [] with | some k=>k | none=>[]
def Jn (r i:Nat) (ty:Ty) (EL:eD×bG):eD×bG :=
 match b7 EL.2 r with
 | some A=>match A.ls with
  | some ls=>match ls[i]? with
   | some (.val (.slice none _ _))=>(EL.1,iE (EL.2++[some ⟨ty,[], !ty.flat,none,none⟩]) r (some ⟨A.t,A.xs,A.bor,some (ls.set i (.osl EL.2.length none)),A.sm⟩))
   | _=>EL
  | none=>EL
 | none=>EL
def aPE (t:Nat) (ty:Ty) (EL:eD×bG):eD×bG :=
 match EL.1.get t with
 | .a (.val (.slice none _ _))=>(EL.1.set t (.a (.osl EL.2.length none)),EL.2++[some ⟨ty,[], !ty.flat,none,none⟩])
 | _=>EL
def aB7 (t:Nat) (ty:Ty) (EL:eD×bG):eD×bG :=
 match zC 1000000 t with
 | true=>match EL.1.get (t % 1000000) with
  | .a (.bptr r _ _)=>Jn r (t / 1000000 - 1) ty EL
  | .a (.optr r _ _)=>Jn r (t / 1000000 - 1) ty EL
  | _=>EL
 | false=>aPE t ty EL
def Tl:List (Nat×Ty)->eD×bG->eD×bG
 | [],EL=>EL
 | (t,ty) :: r,EL=>Tl r (aB7 t ty EL)
def Bp (A:hY):hY :=
 match A.t.flat,A.bor with
 | false,false=>match A.ls,A.sm with
  | none,none=>match A.xs.isEmpty with
   | true=>⟨A.t,A.xs,true,none,none⟩
   | false=>A
  | _,_=>A
 | _,_=>A
def borUp (L:bG):bG:=L.map λo=>match o with | some A=>some (Bp A) | none=>none
theorem IR:∀ (L:bG) (s:Nat),b7 (borUp L) s=(b7 L s).map Bp
 | [],_=>rfl
 | some B :: L,0=>rfl
 | none :: L,0=>rfl
 | o :: L,s+1=>IR L s
theorem uV (A:hY):Bp A=A\/(A.xs=[]/\A.ls=none/\A.sm=none/\Bp A=⟨A.t,A.xs,true,none,none⟩):=by
 unfold Bp;split
 ·split
  ·split
   ·rename_i h1 h2 _ h3;exact .inr ⟨lQ.1 h3,h1,h2,rfl⟩
   ·exact .inl rfl
  ·exact .inl rfl
 ·exact .inl rfl
section
variable {P:Program} {n:Nat} {K:jK} {G:Nat->Prop} {w0 w:World} {a:Act} {V:Nat->Value} {own:Nat->List Nat} {f:FuncId} {R:Ending->World->Prop} {E:eD} {L:bG}
theorem bT.reset (hR:bT n K w0 G w a E L V own) {t:Nat} {p:PV} (hp:kH w0 G L V p (a.tmps.getD t undef)):bT n K w0 G w a (E.set t p) L V own :=
 ⟨hR.glob,hR.kept,hR.size,hR.defers,hR.glt,hR.gref,hR.gsub,hR.gold,hR.gup,hR.heap,hR.good,hR.nodup,hR.apart,hR.boxs,hR.small,λi=>by
  rw [eD.get_set];split
  ·rename_i h;subst h;exact hp
  ·exact hR.env i⟩
theorem Tm {V':Nat->Value} {L':bG} {x:fT} {u:Value} (hx:Oi w0 G L' V' x u):∀ {ls:List fT} {cs:List Value} {i:Nat},gV w0 G L' V' ls cs->cs[i]? = some u->gV w0 G L' V' (ls.set i x) cs
 | [],cs,i,h,hi=>h
 | y :: ls,cs,0,⟨v,r,h1,h2,h3⟩,hi=>by
  subst h1;simp at hi;subst hi;exact ⟨v,r,rfl,hx,h3⟩
 | y :: ls,cs,i+1,⟨v,r,h1,h2,h3⟩,hi=>by
  subst h1;exact ⟨v,r,rfl,h2,Tm hx h3 (by simpa using hi)⟩
theorem YR {V':Nat->Value} {L':bG} {x:fT}:∀ {ls:List fT} {cs:List Value} {i:Nat},gV w0 G L' V' ls cs->ls[i]? = some x->∃ u,cs[i]? = some u/\Oi w0 G L' V' x u
 | [],cs,i,h,hi=>by simp at hi
 | y :: ls,cs,0,⟨v,r,h1,h2,h3⟩,hi=>by
  subst h1;simp at hi;subst hi;exact ⟨v,by simp,h2⟩
 | y :: ls,cs,i+1,⟨v,r,h1,h2,h3⟩,hi=>by
  subst h1;obtain ⟨u,h4,h5⟩:=YR h3 (by simpa using hi);exact ⟨u,by simpa using h4,h5⟩
theorem Jo (hR:bT n K w0 G w a E L V own) (r i:Nat) (ty:Ty):∃ V' own',bT n K w0 G w a (Jn r i ty (E,L)).1 (Jn r i ty (E,L)).2 V' own':=by
 unfold Jn;split
 ·rename_i A hA;split
  ·rename_i ls hls;split
   ·rename_i m c hi;have hE:fW w0 G w ⟨ty,[], !ty.flat,none,none⟩ (.slice none 0 0) []:=⟨by simp [maxLen],.inl ⟨_,rfl,rfl,rfl⟩⟩;have hR':=hR.grow hE fS (λb hb=>by cases hb) (λr A hA b hb hm=>by cases hm);have hrl:r<L.length:=uN hA;have hA':b7 (L++[some ⟨ty,[], !ty.flat,none,none⟩]) r=some A:=by
     rw [lI,if_pos hrl];exact hA
    obtain ⟨b,off,cs,h1,h2,h3,h4,h5⟩:=hR'.boxs r A ls hA' hls;obtain ⟨u,hu,hv⟩:=YR h5 hi;obtain ⟨hv,h0,h6⟩:=hv;obtain ⟨h7,h8⟩:=h0;subst h7 h8;subst hv;refine ⟨_,_,hR'.setLs hA' hls ⟨b,off,cs,h1,h2,by rw [List.length_set];exact h3,h4,Tm ?_ h5 hu⟩⟩;exact sJ (w0:=w0) (G:=G) (u:=w0) (G':=G) (w:=w) hE
   ·exact ⟨V,own,hR⟩
  ·exact ⟨V,own,hR⟩
 ·exact ⟨V,own,hR⟩
theorem aGl (hR:bT n K w0 G w a E L V own) (t:Nat) (ty:Ty):∃ V' own',bT n K w0 G w a (aB7 t ty (E,L)).1 (aB7 t ty (E,L)).2 V' own':=by
 unfold aB7;split
 ·split
  ·exact Jo hR _ _ ty
  ·exact Jo hR _ _ ty
  ·exact ⟨V,own,hR⟩
 unfold aPE;split
 ·rename_i m c hg;have hv:=hR.env t;simp only at hg;rw [hg] at hv;obtain ⟨hv,h0,h1⟩:=hv;subst h0 h1;have hE:fW w0 G w ⟨ty,[], !ty.flat,none,none⟩ (.slice none 0 0) []:=⟨by simp [maxLen],.inl ⟨_,rfl,rfl,rfl⟩⟩;have hR':=hR.grow hE fS (λb hb=>by cases hb) (λr A hA b hb hm=>by cases hm);refine ⟨_,_,hR'.reset ?_⟩;rw [hv];exact sJ (w0:=w0) (G:=G) (u:=w0) (G':=G) (w:=w) hE
 ·exact ⟨V,own,hR⟩
theorem Pj:∀ {l:List (Nat×Ty)} {E:eD} {L:bG} {V:Nat->Value} {own:Nat->List Nat},bT n K w0 G w a E L V own->∃ V' own',bT n K w0 G w a (Tl l (E,L)).1 (Tl l (E,L)).2 V' own'
 | [],E,L,V,own,hR=>⟨V,own,hR⟩
 | (t,ty) :: r,E,L,V,own,hR=>by
  obtain ⟨V',own',h⟩:=aGl hR t ty;show ∃ V' own',bT n K w0 G w a (Tl r (aB7 t ty (E,L))).1 (Tl r (aB7 t ty (E,L))).2 V' own';generalize aB7 t ty (E,L)=EL at h;obtain ⟨E1,L1⟩:=EL;exact Pj h
theorem bT.borUp (hR:bT n K w0 G w a E L V own):bT n K w0 G w a E (Am.borUp L) V own:=by
 have hback:∀ s B,b7 (Am.borUp L) s=some B->∃ C,b7 L s=some C/\B=Bp C:=λs B h=>by
  rw [IR] at h;cases hC:b7 L s with
  | none=>rw [hC] at h;cases h
  | some C=>rw [hC] at h;cases h;exact ⟨C,rfl,rfl⟩
 have ht:∀ C,(Bp C).t=C.t:=λC=>by rcases uV C with h | ⟨_,_,_,h⟩ <;> rw [h]
 have hl:∀ C,(Bp C).xs.length=C.xs.length:=λC=>by rcases uV C with h | ⟨_,_,_,h⟩ <;> rw [h]
 have hls:∀ C,(Bp C).ls=C.ls:=λC=>by rcases uV C with h | ⟨_,h2,_,h⟩ <;> rw [h];exact h2.symm
 have hag:∀ s,mN L V (Am.borUp L) V s:=λs=>⟨rfl,λA hA=>⟨Bp A,by rw [IR,hA];rfl,ht A,hl A,λls h=>⟨ls,by rw [hls];exact h⟩⟩⟩;refine ⟨hR.glob,hR.kept,hR.size,hR.defers,hR.glt,hR.gref,hR.gsub,hR.gold,hR.gup,?_,?_,?_,?_,?_,?_,λi => ?_⟩
 ·intro s B hs;obtain ⟨C,h2,rfl⟩:=hback s B hs;have h:=hR.heap s C h2;rcases uV C with e | ⟨e1,e2,e3,e⟩
  ·rw [e];exact h
  ·rw [e];obtain ⟨t,xs,bor,ls,sm⟩:=C;simp only at e1;subst e1;refine ⟨h.1,?_⟩;rcases h.2 with h | ⟨b,off,cap,cur,ty,fz,bss,h1,h2,h3,h4,h5,h6,h7,h8,h9⟩
   ·exact .inl h
   ·exact .inr ⟨b,off,cap,cur,ty,fz,bss,h1,h2,h3,h4,h5,h6,h7,h8,λi x bi hx _=>by simp at hx⟩
 ·intro s B hs;obtain ⟨C,h2,rfl⟩:=hback s B hs;exact hR.good s C h2
 ·intro s B hs;obtain ⟨C,h2,rfl⟩:=hback s B hs;exact hR.nodup s C h2
 ·intro s u B D hs hu hsu;obtain ⟨C,h2,rfl⟩:=hback s B hs;obtain ⟨F,h4,rfl⟩:=hback u D hu;exact hR.apart s u C F h2 h4 hsu
 ·intro s B ls hs hl';obtain ⟨C,h2,rfl⟩:=hback s B hs;rw [hls] at hl';rw [ht];exact (hR.boxs s C ls h2 hl').agree λu _=>hag u
 ·intro s B q hs hq;obtain ⟨C,h2,rfl⟩:=hback s B hs;rcases uV C with e | ⟨_,_,_,e⟩
  ·rw [e] at hq ⊢;exact hR.small s C q h2 hq
  ·rw [e] at hq;cases hq
 ·exact oT (hR.env i) λu _=>hag u
end
instance (k:IntKind) (n:Int):Decidable (cC k n):=inferInstanceAs (Decidable (k.min<=n/\n<=k.max))
theorem BM.wf {w:World} {G:Nat->Prop} {sig:List AT} {x:fX sig} {vs:List Value} {bss:List (List Nat)} (h:BM w G sig x vs bss):NV sig x:=aEJ h
theorem jC.says {P:Program} {f:FuncId} {sig:List AT} {pre pre':fX sig->Prop} {upd:fX sig->List (Option BD)} {res res':fX sig->List aY} {kds:List RK}
  (hc:jC P f { sig:=sig,pre:=pre,upd:=upd,res:=res,kds:=kds }) (h:∀ x,pre' x->NV sig x->pre x/\res x=res' x):jC P f { sig:=sig,pre:=pre',upd:=upd,res:=res',kds:=kds }:=by
 intro w G G0 x vs bss hgo hG hG0 hp ha hn;obtain ⟨h1,h2⟩:=h x hp (Jl ha);have:=hc w G G0 x vs bss hgo hG hG0 h1 ha hn;simp only at this ⊢;rw [h2] at this;exact this
theorem eR (a b:ByteArray):(aB a==aB b)=true↔a=b:=by
 rw [<- beq_toListBytes];obtain ⟨⟨x⟩⟩:=a;obtain ⟨⟨y⟩⟩:=b;show ((⟨x⟩:Array UInt8)==⟨y⟩)=true↔_;simp
theorem n7:∀ {t:Ty} {x y:t.den},t.flat=true->(xM t x y=true↔x=y)
 | .int _,x,y,_=>by simp [xM]
 | .bool,x,y,_=>by simp [xM]
 | .fn,x,y,_=>by simp [xM]
 | .str,x,y,_=>by simp only [xM];exact eR x y
 | .unit,x,y,_=>by simp [xM]
 | .cons a b,x,y,h=>by
  simp only [Gy,aJ] at h;obtain ⟨x1,x2⟩:=x;obtain ⟨y1,y2⟩:=y;simp only [xM,aJ,n7 h.1,n7 h.2,Prod.mk.injEq]
 | .sl _,_,_,h=>by cases h
theorem iV {α:Type} (xs:List α) (i:Nat) (d:α) (h:i<xs.length):xs.getD i d=xs[i]:=by
 rw [bL,bC h];rfl
theorem eH {α:Type} (xs:List α) (i:Nat) (d:α) (h:i<xs.length):xs.drop i=xs.getD i d :: xs.drop (i+1):=by
 rw [iV xs i d h, <- List.drop_eq_getElem_cons h]
theorem gW {α:Type} (xs:List α) (i:Nat) (h:xs.length<=i):xs.drop i=[]:=x6.2 h
theorem fC {α:Type} {xs:List α} (h:xs.length<=maxLen) {i:Nat} (hi:i<xs.length):cC .i64 ((i:Int)+1):=by
 have e1:(cN).min = -9223372036854775808:=by decide
 have e2:(cN).max=9223372036854775807:=by decide
 have hm:maxLen<=9223372036854775807:=by decide
 simp only [cC,e1,e2];omega
theorem aK (n:Int):cC .i64 n ↔ -9223372036854775808<=n/\n<=9223372036854775807:=by
 have e1:(cN).min = -9223372036854775808:=by decide
 have e2:(cN).max=9223372036854775807:=by decide
 simp only [cC,e1,e2]
theorem Pk (n:Int):cC .u8 n↔0<=n/\n<=255:=by
 have e1:(Dx).min=0:=by decide
 have e2:(Dx).max=255:=by decide
 simp only [cC,e1,e2]
theorem uW (s:ByteArray):(cY s).length=s.size:=by simp [cY]
theorem Pl (s:ByteArray) (i:Nat):((aD (Array.toList (rA s)) i 0).toNat:Int)=(cY s).getD i 0:=by
 unfold cY;rw [bL,bL,gZ];cases h:s.data.toList[i]? with
 | none=>rfl
 | some b=>rfl
theorem YS {s t:ByteArray} (h:cY s=cY t):s=t:=by
 obtain ⟨⟨x⟩⟩:=s;obtain ⟨⟨y⟩⟩:=t
 congr 2
 unfold cY at h;simp only at h
 induction x generalizing y with
 | nil=>cases y with
  | nil=>rfl
  | cons b s=>cases h
 | cons a r ih=>cases y with
  | nil=>cases h
  | cons b s =>
   simp only [bP,List.cons.injEq] at h;have h1:a=b:=by
    have:=h.1;exact sW.1 (by omega)
   rw [h1,ih s h.2]
def goL {α β δ:Type} (f:β->α->Except δ β) (fin:β->δ):β->List α->δ
 | b,[]=>fin b
 | b,x :: r=>match f b x with
  | .ok b'=>goL f fin b' r
  | .error d=>d
theorem aGm {α β δ:Type} (xs:List α) (d:α) (f:β->α->Except δ β) (fin:β->δ) (Inv:Nat->β->Prop) (R:Nat->Int->β->δ->Prop)
  (hend:∀ n b,Inv xs.length b->R (n+1) xs.length b (fin b))
  (hstep:∀ n (i:Nat) b,i<xs.length->Inv i b->match f b (xs.getD i d) with
   | .ok b'=>Inv (i+1) b'/\∀ ds,R n (((i:Nat):Int)+1) b' ds->R (n+1) (i:Int) b ds
   | .error ds=>R (n+1) (i:Int) b ds) :
  ∀ (k i:Nat) b,i+k=xs.length->Inv i b->R (k+1) (i:Int) b (goL f fin b (xs.drop i)):=by
 intro k
 induction k with
 | zero =>
  intro i b hi hinv;have:i=xs.length:=by omega
  subst this;rw [gW xs _ (aT _)];exact hend 0 b hinv
 | succ k ih =>
  intro i b hi hinv;have h:=hstep (k+1) i b (by omega) hinv;rw [eH xs i d (by omega)];simp only [goL];split at h
  ·rename_i b' hf;have:=ih (i+1) b' (by omega) h.1;exact h.2 _ (by simpa using this)
  ·exact h
theorem YT {α β δ:Type} (xs:List α) (d:α) (f:β->α->Except δ β) (fin:β->δ) (Inv:Nat->β->Prop) (R:Nat->Int->β->δ->Prop) {b:β} (h0:Inv 0 b)
  (hend:∀ n b,Inv xs.length b->R (n+1) xs.length b (fin b))
  (hstep:∀ n (i:Nat) b,i<xs.length->Inv i b->match f b (xs.getD i d) with
   | .ok b'=>Inv (i+1) b'/\∀ ds,R n (((i:Nat):Int)+1) b' ds->R (n+1) (i:Int) b ds
   | .error ds=>R (n+1) (i:Int) b ds):R (xs.length+1) 0 b (goL f fin b xs):=by
 have:=aGm xs d f fin Inv R hend hstep xs.length 0 b (by omega) h0;simpa using this
theorem aEK {α δ:Type} (q:α->Bool) (no yes:δ):∀ (l:List α) (f:Unit->α->Except δ Unit) (fin:Unit->δ),(∀ x,f () x=if q x=true then .ok () else .error no)->fin ()=yes->goL f fin () l=if l.all q=true then yes else no
 | [],f,fin,hf,hfin=>by simp [goL,hfin]
 | x :: r,f,fin,hf,hfin=>by
  simp only [goL,hf];cases h:q x with
  | true=>simp only [if_true];rw [aEK q no yes r f fin hf hfin];simp [h]
  | false=>simp [h]
theorem Gi {α δ:Type} (xs:List α) (d:α) (q:α->Bool) (no yes:δ) (R:Nat->Int->δ->Prop) (hend:∀ n,R (n+1) xs.length yes)
  (hok:∀ n (i:Nat),i<xs.length->q (xs.getD i d)=true->∀ ds,R n (((i:Nat):Int)+1) ds->R (n+1) (i:Int) ds)
  (hno:∀ n (i:Nat),i<xs.length->q (xs.getD i d)=false->R (n+1) (i:Int) no):R (xs.length+1) 0 (if xs.all q=true then yes else no):=by
 have key:=YT (b:=()) xs d (λ(_:Unit) x=>if q x=true then .ok () else .error no) (λ_=>yes) (λ_ _=>True) (λn i _ ds=>R n i ds) trivial (λn _ _=>hend n) (λn i _ hi _=>by
  cases h:q (xs.getD i d) with
  | true=>exact ⟨trivial,hok n i hi h⟩
  | false=>exact hno n i hi h)
 rw [aEK q no yes _ _ _ (λ_=>rfl) rfl] at key;exact key
def lC {α:Type} (q:Nat->α->Bool):Nat->List α->Bool
 | _,[]=>true
 | i,x :: r=>q i x&&lC q (i+1) r
theorem jU {α δ:Type} (xs:List α) (d:α) (q:Nat->α->Bool) (no yes:δ) (R:Nat->Int->δ->Prop) (hend:∀ n,R (n+1) xs.length yes)
  (hok:∀ n (i:Nat),i<xs.length->q i (xs.getD i d)=true->∀ ds,R n (((i:Nat):Int)+1) ds->R (n+1) (i:Int) ds)
  (hno:∀ n (i:Nat),i<xs.length->q i (xs.getD i d)=false->R (n+1) (i:Int) no):R (xs.length+1) 0 (if lC q 0 xs=true then yes else no):=by
 have key:∀ (k i:Nat),i+k=xs.length->R (k+1) (i:Int) (if lC q i (xs.drop i)=true then yes else no):=by
  intro k
  induction k with
  | zero =>
   intro i hi;have:i=xs.length:=by omega
   subst this;rw [gW xs _ (aT _)];simpa [lC] using hend 0
  | succ k ih =>
   intro i hi;rw [eH xs i d (by omega)];by_cases h:q i (xs.getD i d)=true
   ·have h2:=hok (k+1) i (by omega) h _ (by have:=ih (i+1) (by omega);rwa [show ((i+1:Nat):Int)=(i:Int)+1 from by omega] at this);simp only [lC,h,Bool.true_and];exact h2
   ·have h:=bN.2 h;simp only [lC,h,Bool.false_and,dJ,if_false];exact hno (k+1) i (by omega) h
 have:=key xs.length 0 (by omega);simpa using this
theorem Pm {α:Type} (q:α->Bool):∀ (l:List α) (i:Nat),lC (λ_ x=>q x) i l=l.all q
 | [],_=>rfl
 | x :: r,i=>by simp [lC,Pm q r]
theorem qF {α:Type} {p q:Nat->α->Bool}:∀ (l:List α) (i:Nat),(∀ j x,i<=j->p j x=q j x)->lC p i l=lC q i l
 | [],_,_=>rfl
 | x :: r,i,h=>by
  simp only [lC];rw [h i x (aT _),qF r (i+1) (λj x hj=>h j x (by omega))]
theorem kJ {α δ:Type} (xs:List α) (d:α) (q:α->Bool) (none':δ) (some':Int->δ) (R:Nat->Int->δ->Prop) (hend:∀ n,R (n+1) xs.length none')
  (hgo:∀ n (i:Nat),i<xs.length->q (xs.getD i d)=false->∀ ds,R n (((i:Nat):Int)+1) ds->R (n+1) (i:Int) ds)
  (hhit:∀ n (i:Nat),i<xs.length->q (xs.getD i d)=true->R (n+1) (i:Int) (some' i)):R (xs.length+1) 0 (match xs.findIdx? q with | some k=>some' (k:Nat) | none=>none'):=by
 have key:∀ (k i:Nat),i+k=xs.length->R (k+1) (i:Int) (match (xs.drop i).findIdx? q with | some j=>some' ((i+j:Nat):Int) | none=>none'):=by
  intro k
  induction k with
  | zero =>
   intro i hi;have:i=xs.length:=by omega
   subst this;rw [gW xs _ (aT _)];exact hend 0
  | succ k ih =>
   intro i hi;rw [eH xs i d (by omega),List.findIdx?_cons];cases h:q (xs.getD i d) with
   | true=>simpa using hhit (k+1) i (by omega) h
   | false =>
    have h2:=hgo (k+1) i (by omega) h _ (by have:=ih (i+1) (by omega);simpa using this);simp only [dJ,if_false];cases hf:List.findIdx? q (List.drop (i+1) xs) with
    | none=>rw [hf] at h2;simpa using h2
    | some j =>
     rw [hf] at h2;simp only [Option.map_some] at h2 ⊢;rw [show i+(j+1)=i+1+j from by omega];exact h2
 have:=key xs.length 0 (by omega);simpa using this
def X0:Option Nat->Int
 | some k=>(k:Nat)
 | none => -1
theorem qG {α:Type} (q:α->Bool):∀ (l:List α),X0 (l.findIdx? q)>=0↔l.any q=true:=by
 intro l;have h:=List.findIdx?_isSome (xs:=l) (p:=q);rw [<- h];cases l.findIdx? q with
 | none=>simp [X0]
 | some k=>simp [X0]
theorem dN {α:Type} (xs:List α) (i:Nat) (d:α) (h:i<xs.length):xs.getD i d∈xs:=by
 rw [iV _ _ _ h];exact List.getElem_mem _
end Go.Am
namespace Go.Am
open Go.RowKit (Below)
theorem AH {w:World} {G:Nat->Prop}:∀ {sig:List AT} {x:fX sig} {vs:List Value} {bss:List (List Nat)},aEH sig=true->BM w G sig x vs bss->bss.flatten=[]/\iL sig vs=[]
 | [],_,vs,bss,_,⟨h1,h2⟩=>by subst h1 h2;exact ⟨rfl,rfl⟩
 | .v t :: r,x,vs,bss,h,⟨v,s,b,bs,h1,h2,h3,h4⟩=>by
  subst h1 h2;obtain ⟨e1,e2⟩:=AH (sig:=r) h h4;exact ⟨by rw [bK,h3.1,e1];rfl,e2⟩
 | .p t :: r,x,vs,bss,h,⟨v,s,b,bs,h1,h2,h3,h4⟩=>by
  subst h1 h2;obtain ⟨e1,e2⟩:=AH (sig:=r) h h4;exact ⟨by rw [bK,h3.1,e1];rfl,e2⟩
 | .fn f c :: r,x,vs,bss,h,⟨v,s,b,bs,h1,h2,h3,h4⟩=>by
  subst h1 h2;obtain ⟨e1,e2⟩:=AH (sig:=r) h h4;exact ⟨by rw [bK,h3.1,e1];rfl,e2⟩
 | .fns f :: r,x,vs,bss,h,⟨v,s,b,bs,h1,h2,h3,h4⟩=>by
  subst h1 h2;obtain ⟨e1,e2⟩:=AH (sig:=r) h h4;exact ⟨by rw [bK,h3.1,e1];rfl,e2⟩
 | .own t :: r,_,_,_,h,_=>by cases h
 | .pb t :: r,_,_,_,h,_=>by cases h
 | .po t :: r,_,_,_,h,_=>by cases h
 | .sv t :: r,_,_,_,h,_=>by cases h
theorem xR:∀ {sig:List AT},aEH sig=true->CS sig=true
 | [],_=>rfl
 | .v t :: r,h=>xR (sig:=r) h
 | .p t :: r,h=>xR (sig:=r) h
 | .fn f c :: r,h=>xR (sig:=r) h
 | .fns f :: r,h=>xR (sig:=r) h
 | .own t :: r,h=>by cases h
 | .pb t :: r,h=>by cases h
 | .po t :: r,h=>by cases h
 | .sv t :: r,h=>by cases h
theorem Gj {w:World}:∀ {t:Ty} {x:t.den},t.flat=true->Wf t x->gB w t x (oU t x) []
 | .int _,_,_,h=>⟨rfl,h,rfl⟩
 | .bool,_,_,_=>⟨rfl,rfl⟩
 | .fn,_,_,_=>⟨rfl,rfl⟩
 | .str,_,_,h=>⟨rfl,h,rfl⟩
 | .unit,_,_,_=>⟨rfl,rfl⟩
 | .cons a b,x,hf,h=>by
  simp only [Gy,aJ] at hf;exact ⟨_,_,[],[],rfl,rfl,Gj hf.1 h.1,Gj hf.2 h.2⟩
 | .sl _,_,h,_=>by cases h
theorem YU {w:World} {t:Ty} {x:t.den} {cs:List Value} {bs:List Nat} (h:gB w t x cs bs):zV t cs (gH t cs):=by
 have hl:=h.length;cases t <;> simp only [zV,gH,gP,if_true,if_false,dJ]
 all_goals (match cs,hl with | [c],_=>rfl)
theorem NX {w:World}:∀ {ds:List aY},(∀ d∈ds,d.t.flat=true/\Wf d.t d.x)->Bi w ds (ds.map λd=>gH d.t (oU d.t d.x)) (ds.map λ_=>[])
 | [],_=>⟨rfl,rfl⟩
 | d :: r,h=>by
  obtain ⟨h1,h2⟩:=h d (aQ ..);have ho:=Gj (w:=w) h1 h2;exact ⟨_,_,_,_,_,rfl,rfl,ho,YU ho,NX λd hd=>h d (aM _ hd)⟩
theorem Tn (ds:List aY):(ds.map λ_=>([]:List Nat)).flatten=[]:=by
 induction ds with
 | nil=>rfl
 | cons d r ih=>simp
theorem lL {P:Program} {f:FuncId} {sig:List AT} {pre:fX sig->Prop} {res:fX sig->List aY} (hno:aEH sig=true)
  (h:∀ (w:World) (x:fX sig) (vs:List Value) (bss:List (List Nat)),CR w->pre x->NV sig x->BM w (Good w []) sig x vs bss ->
   (∀ d∈res x,d.t.flat=true/\Wf d.t d.x)/\Calls P f vs.toArray w λe w'=>e = .returned (ER ((res x).map λd=>gH d.t (oU d.t d.x)))/\cE [] w w') :
  jC P f { sig:=sig,pre:=pre,res:=res }:=by
 refine zN.up (xR hno) rfl ?_;intro w x vs bss hgo hp ha hn;obtain ⟨e1,e2⟩:=AH hno ha;have ha':=ha;rw [e1] at ha';obtain ⟨h1,h2⟩:=h w x vs bss hgo.inv hp (aEJ ha) ha';refine h2.mono ?_;rintro e w' ⟨rfl,hk⟩;refine ⟨_,[],_,rfl,by rw [e1];exact hk,NX h1,by rw [e2];exact ⟨rfl,rfl⟩,?_,?_⟩
 ·simp only [Tn,jG,c6];exact fS
 ·simp only [Tn,jG,c6];intro b hb;cases hb
theorem SP.toRep {w:World} {G F:Nat->Prop}:∀ {ds:List aY} {rs:List Value} {rbs:List (List Nat)},SP w G F [] ds rs rbs->Bi w ds rs rbs
 | [],_,_,h=>h
 | d :: r,_,_,⟨v,s,b,bs,h1,h2,⟨cs,h3,h4⟩,h5⟩=>⟨v,s,b,bs,cs,h1,h2,h3,h4,h5.toRep⟩
theorem jC.down {P:Program} {f:FuncId} {S:Spec} (hk:S.kds=[]) (h:jC P f S) (w:World) (x:fX S.sig) (vs:List Value) (bss:List (List Nat)) (hg:E9 w bss.flatten) (hp:S.pre x)
  (ha:BM w (Good w bss.flatten) S.sig x vs bss) (hn:bss.flatten.Nodup) :
  Calls P f vs.toArray w λe w'=>∃ (rs:List Value) (ubs rbs:List (List Nat)),e = .returned (ER rs)/\cE bss.flatten w w'/\Bi w' (S.res x) rs rbs/\True:=by
 refine (h w (Good w bss.flatten) (Good w bss.flatten) x vs bss hg (λ_ h=>h) (λ_ h=>h) hp ha hn).mono ?_;rintro e w' ⟨rs,ubs,rbs,F,h1,h2,h3,_⟩;rw [hk] at h3;exact ⟨rs,ubs,rbs,h1,h2,h3.toRep,trivial⟩
end Go.Am
namespace Go.Am
theorem YV {α β δ:Type} (f:β->α->Except δ β) (g:β->α->β) (fin:β->δ) (hf:∀ b x,f b x = .ok (g b x)):∀ (l:List α) (b:β),goL f fin b l=fin (l.foldl g b)
 | [],_=>rfl
 | x :: r,b=>by
  simp only [goL,hf,dY];exact YV f g fin hf r _
theorem To {α β δ:Type} (xs:List α) (d:α) (g:β->α->β) (fin:β->δ) (Inv:Nat->β->Prop) (R:Nat->Int->β->δ->Prop) {b:β} (h0:Inv 0 b)
  (hend:∀ n b,Inv xs.length b->R (n+1) xs.length b (fin b))
  (hstep:∀ n (i:Nat) b,i<xs.length->Inv i b->Inv (i+1) (g b (xs.getD i d))/\∀ ds,R n (((i:Nat):Int)+1) (g b (xs.getD i d)) ds->R (n+1) (i:Int) b ds):R (xs.length+1) 0 b (fin (xs.foldl g b)):=by
 have key:=YT xs d (λb x => .ok (g b x)) fin Inv R h0 hend (λn i b hi hb=>hstep n i b hi hb)
 rwa [YV _ g _ (λ_ _=>rfl)] at key
theorem IS {α γ:Type} (m:α->γ):∀ (l:List α) (b:List γ),l.foldl (λh x=>h++[m x]) b=b++l.map m
 | [],b=>by simp
 | x :: r,b=>by rw [dY,IS m r];simp
theorem aIb {α:Type} {h:List α} {x:α} {i:Nat} (hl:h.length<=i):(h++[x]).length<=i+1:=by simp;omega
theorem Gk:∀ x:List UInt8,bE x x=false
 | []=>rfl
 | a :: x=>by simp [bE,Gk x]
theorem VP (a b:UInt8) (x y:List UInt8):bE (a :: x) (b :: y)=true↔a.toNat<b.toNat\/(a.toNat=b.toNat/\bE x y=true):=by
 simp only [bE,j8,decide_eq_true_eq,aJ,beq_iff_eq,UInt8.lt_iff_toNat_lt,sW]
theorem Pn:∀ x y z:List UInt8,bE x y=true->bE y z=true->bE x z=true
 | x,y,[],_,h=>by cases y <;> cases h
 | [],y,c :: z,_,_=>rfl
 | a :: x,[],c :: z,h,_=>by cases h
 | a :: x,b :: y,c :: z,h1,h2=>by
  rw [VP] at *;rcases h1 with h1 | ⟨e1,h1⟩
  ·rcases h2 with h2 | ⟨e2,h2⟩
   ·exact .inl (by omega)
   ·exact .inl (by omega)
  ·rcases h2 with h2 | ⟨e2,h2⟩
   ·exact .inl (by omega)
   ·exact .inr ⟨by omega,Pn x y z h1 h2⟩
theorem aB8:∀ x y:List UInt8,bE x y=false->bE y x=false->x=y
 | [],[],_,_=>rfl
 | [],b :: y,h,_=>by cases h
 | a :: x,[],_,h=>by cases h
 | a :: x,b :: y,h1,h2=>by
  have n1:=mt (VP a b x y).2 (by rw [h1];simp);have n2:=mt (VP b a y x).2 (by rw [h2];simp);have e:a.toNat=b.toNat:=by omega
  have e':=sW.1 e;have l1:bE x y=false:=bN.2 λh=>n1 (.inr ⟨e,h⟩);have l2:bE y x=false:=bN.2 λh=>n2 (.inr ⟨e.symm,h⟩);rw [e',aB8 x y l1 l2]
theorem toList_inj {a b:ByteArray} (h:aB a=aB b):a=b:=(eR a b).1 (by rw [h];simp)
def gS (p:Nat->Bool):Nat->Nat->Nat->Nat
 | 0,i,_=>i
 | m+1,i,j=>if i<j then (if p ((i+j) / 2)=true then gS p m ((i+j) / 2+1) j else gS p m i ((i+j) / 2)) else i
def repB (c:UInt8) (n:Nat):ByteArray:=⟨(Lib.repeatL [c] n).toArray⟩
end Go.Am
namespace Go.Am
open Go.RowKit (Below)
theorem Jp {w:World} {t:Ty} (hf:t.flat=true):∀ {xs:List t.den},(∀ x∈xs,Wf t x)->vY (gB w t) t.size xs (xs.map (oU t)) (xs.map λ_=>[])
 | [],_=>⟨rfl,rfl⟩
 | x :: r,h=>by
  have ho:=Gj (w:=w) hf (h x (aQ ..));exact ⟨_,_,_,_,rfl,rfl,ho.length,ho,Jp hf λy hy=>h y (aM _ hy)⟩
theorem Jq {α:Type} (xs:List α):(xs.map λ_=>([]:List Nat)).flatten=[]:=by
 induction xs with
 | nil=>rfl
 | cons x r ih=>simp
theorem Po {w:World} {t:Ty} (hf:t.flat=true) {base:Nat} {e:TypeId} {v:Value} {xs:List t.den} (hw:∀ x∈xs,Wf t x) (hm:xs.length<=maxLen)
  (h:w.ownsRow base e t.size v xs.length (xs.map (oU t)).flatten):∃ bs,gB w (.sl t) xs [v] bs/\bs.Nodup/\∀ b∈bs,base<=b:=by
 rcases h.2 with ⟨rfl,hn⟩ | ⟨g,cap,cur,rfl,hb,hh,h1,h2,h3,h4⟩
 ·have:xs=[]:=b5 hn;subst this;exact ⟨[],⟨_,rfl,by simp,.inl ⟨_,rfl,rfl,rfl⟩⟩,fS,λb hb=>by cases hb⟩
 ·have hrow:=Jp (w:=w) hf hw;have ho:=rE hrow (b:=g) (off:=0) (cap:=cap) (cur:=cur) (ty:=e) (fz:=(0,0)) hm h1 h2 (by rw [cV,h3];exact aT _) hh (AB _ _) (λj c hj=>by
   rw [cV, <- cX];have hl:j<xs.length*t.size:=by
    have:=(bH.1 hj).1;rw [hrow.len.2.2] at this;exact this
   rw [<- h4,eY,if_pos hl] at hj;exact hj)
  rw [Jq] at ho;exact ⟨[g],⟨_,rfl,ho⟩,by simp,λb hb'=>by simp at hb';omega⟩
def bls (xs:List ByteArray):List (List UInt8):=xs.map λs=>s.data.toList
theorem Pp {w:World}:∀ {xs:List ByteArray} {css:List (List Value)} {bss:List (List Nat)},vY (gB w .str) 1 xs css bss->css.flatten=xs.map Value.string/\bss.flatten=[]/\∀ x∈xs,x.size<=maxLen
 | [],css,bss,⟨h1,h2⟩=>by subst h1 h2;exact ⟨rfl,rfl,λx h=>by cases h⟩
 | x :: r,css,bss,⟨c,cs,b,bs,h1,h2,h3,h4,h5⟩=>by
  subst h1 h2;obtain ⟨e1,e2,e3⟩:=Pp h5;obtain ⟨rfl,hx,rfl⟩:=h4;refine ⟨by simp [e1],by simp [e2],λy hy => ?_⟩;rcases aR.1 hy with rfl | hy
  ·exact hx
  ·exact e3 y hy
open Go.Sort in
theorem aIc {w:World} {xs:List ByteArray} {v:Value} {bs:List Nat} (h:gB w (.sl .str) xs [v] bs):(∀ x∈xs,x.size<=maxLen)/\((∃ ad,v = .slice ad 0 0/\xs=[]/\bs=[]) \/
  ∃ b off cap cur ty fz,v = .slice (some ⟨b,off,none⟩) xs.length cap/\xs.length<=cap/\cap<=maxLen/\off+cap<=cur.size/\w.heap[b]? = some (.cells cur ty fz)/\EQ 1 fz cur.size/\bs=[b] /\
   ∀ (j:Nat) (x:ByteArray),xs[j]? = some x->cur[off+j]? = some (.string x)):=by
 obtain ⟨v',hv,h⟩:=h;cases hv;obtain ⟨css,bss,hrow,hcase⟩:=vK.row h;obtain ⟨e1,e2,e3⟩:=Pp hrow;refine ⟨e3,?_⟩;rcases hcase with ⟨ad,h1,h2,h3⟩ | ⟨b,off,cap,cur,ty,fz,h1,h2,h3,h4,h5,h6,h7,h8⟩
 ·exact .inl ⟨ad,h1,h2,h3⟩
 ·refine .inr ⟨b,off,cap,cur,ty,fz,h1,h2,h3,by simpa [jX] using h4,h5,h6,by rw [h7,e2],λj x hx=>h8 j _ ?_⟩;rw [e1,gZ,hx];rfl
end Go.Am
namespace Go.Am
def aXz (h:List Int):List Int:=List.set h (Int.toNat ((↑(aN h):Int) - 1)) (aD h (Int.toNat ((↑(aN h):Int) - 1)) 0+1)
def aQE (xs:List ByteArray) (i:Nat) (x:ByteArray):Bool:=decide (i=0) || !(aB x==aB (xs.getD (i - 1) aC))
def aNb (xs:List ByteArray) (b:(List ByteArray×List Int)×Nat) (x:ByteArray):(List ByteArray×List Int)×Nat :=
 if aQE xs b.2 x=true then ((b.1.1++[x],aXz (b.1.2++[0])),b.2+1) else ((b.1.1,aXz b.1.2),b.2+1)
def bFo (xs:List ByteArray):(List ByteArray×List Int)×Nat:=xs.foldl (aNb xs) (([],[]),0)
end Go.Am
namespace Go.Am
open Go.Sort (grow)
def C0 (n:Int):ByteArray:=⟨(Ck n).toArray⟩
theorem wC (n:Int) (h0 : -9223372036854775808<=n) (h1:n<=9223372036854775807):(C0 n).size<=21:=by
 show (Ck n).toArray.size<=21;rw [dK];exact Lib.itoa_length_le n h0 h1
theorem aGn (w:World) (n:Nat) (os:Array Obj):cE [] w (grow (w.drewN n) os) where
 os:=rfl
 tape:=rfl
 output:=rfl
 size:=by show w.heap.size<=(w.heap++os).size;rw [nA];omega
 block:=λk hk _=>by
  show (w.heap++os)[k]? = w.heap[k]?;exact q9 hk
theorem uE (sep:ByteArray) (save:Nat):∀ (k:Nat) (s y:ByteArray),y∈At sep save k s->y.size<=s.size
 | 0,s,y,h=>by rw [Lib.splitB_zero,bI] at h;rw [h];exact aT _
 | k+1,s,y,h=>by
  unfold At at h;split at h
  ·rw [bI] at h;rw [h];exact aT _
  ·rcases aR.1 h with rfl | h
   ·rw [pB];omega
   ·have:=uE sep save k _ y h;rw [pB] at this;omega
def nL (c:UInt8):List UInt8->List (List UInt8)
 | []=>[[]]
 | b :: r=>if b=c then [] :: nL c r else match nL c r with
  | []=>[[b]]
  | p :: ps=>(b :: p) :: ps
theorem MN (c:UInt8):∀ l,nL c l≠[]
 | []=>by simp [nL]
 | b :: r=>by
  unfold nL;split
  ·simp
  ·split <;> simp
theorem xS (c:UInt8):∀ {p:List UInt8},c ∉ p->nL c p=[p]
 | [],_=>rfl
 | b :: r,h=>by
  have h1:b≠c:=λe=>h (by rw [e];exact aQ ..);have h2:c ∉ r:=λe=>h (aM _ e);unfold nL;rw [if_neg h1,xS c h2]
theorem AI (c:UInt8):∀ {p:List UInt8} (r:List UInt8),c ∉ p->nL c (p++c :: r)=p :: nL c r
 | [],r,_=>by simp [nL]
 | b :: q,r,h=>by
  have h1:b≠c:=λe=>h (by rw [e];exact aQ ..);have h2:c ∉ q:=λe=>h (aM _ e);rw [oC,nL,if_neg h1,AI c r h2]
theorem FN (c:UInt8):∀ {l:List UInt8},c ∉ l->Cl l [c] = -1
 | [],_=>by simp [Cl]
 | b :: r,h=>by
  have h1:b≠c:=λe=>h (by rw [e];exact aQ ..);have h2:c ∉ r:=λe=>h (aM _ e);rw [Cl,FN c h2];simp [E4,jL h1]
theorem Hf (c:UInt8):∀ {p:List UInt8} (r:List UInt8),c ∉ p->Cl (p++c :: r) [c]=(p.length:Int)
 | [],r,_=>by simp [Cl,E4]
 | b :: q,r,h=>by
  have h1:b≠c:=λe=>h (by rw [e];exact aQ ..);have h2:c ∉ q:=λe=>h (aM _ e);rw [oC,Cl,Hf c r h2];have:¬ ((q.length:Int) == -1)=true:=λe=>by have:=beq_iff_eq.1 e;omega
  have h3:([c]:List UInt8).isPrefixOf (b :: (q++c :: r))=false:=by simp [E4,jL h1]
  rw [h3,if_neg (by simp),if_neg this];simp
theorem YW (c:UInt8):∀ (l:List UInt8),c ∉ l\/∃ p r,l=p++c :: r/\c ∉ p
 | [] => .inl (by simp)
 | b :: l=>by
  by_cases h:b=c
  ·exact .inr ⟨[],l,by rw [h];rfl,by simp⟩
  ·rcases YW c l with h1 | ⟨p,r,rfl,h2⟩
   ·exact .inl (λhm=>by rcases aR.1 hm with rfl | hm;exact h rfl;exact h1 hm)
   ·exact .inr ⟨b :: p,r,rfl,λhm=>by rcases aR.1 hm with rfl | hm;exact h rfl;exact h2 hm⟩
theorem Pq (c:UInt8):∀ (k:Nat) (l:List UInt8),l.count c<=k->JI [c] 0 k l=nL c l
 | 0,l,h=>by
  have hn:c ∉ l:=λhm=>by have:=List.count_pos_iff.2 hm;omega
  rw [xS c hn];rfl
 | k+1,l,h=>by
  rcases YW c l with hn | ⟨p,r,rfl,hn⟩
  ·rw [xS c hn,JI,FN c hn,if_pos (by rfl)]
  ·have hc:r.count c<=k:=by
    rw [List.count_append,List.count_cons_self] at h;omega
   rw [AI c r hn,JI,Hf c r hn,if_neg (λe=>by have:=beq_iff_eq.1 e;omega)]
   congr 1
   ·simp
   ·have e:(p++c :: r).drop (((p.length:Int)).toNat+[c].length)=r:=by
     simp only [Int.toNat_natCast,List.length_singleton];rw [List.drop_append,List.drop_of_length_le (by omega),kQ];rfl
    rw [e];exact Pq c k r hc
def bss (ls:List (List UInt8)):List ByteArray:=ls.map λl=>⟨l.toArray⟩
theorem aId (xs:List ByteArray):bss (xs.map λx=>x.data.toList)=xs:=by
 unfold bss;rw [List.map_map]
 conv=>rhs;rw [<- List.map_id xs]
 rfl
theorem Pr (c:UInt8) (s:ByteArray):At ⟨#[c]⟩ 0 (gN s ⟨#[c]⟩) s=bss (nL c s.data.toList):=by
 have h:=Lib.splitB_data ⟨#[c]⟩ 0 (gN s ⟨#[c]⟩) s;have e:gN s ⟨#[c]⟩=s.data.toList.count c:=by
  show Lib.count s.data.toList [c]=_;exact Lib.count_one c _
 have h2:=Pq c (gN s ⟨#[c]⟩) s.data.toList (by rw [e];exact aT _);rw [<- aId (At ⟨#[c]⟩ 0 (gN s ⟨#[c]⟩) s),h];show bss (JI [c] 0 _ _)=_;rw [h2]
end Go.Am
namespace Go.Am
def YX (w:World):List (Nat×List Value)->World
 | []=>w
 | (g,cs) :: r=>YX { w with heap:=w.heap.modify g fun
   | .cells _ t fz => .cells cs.toArray t fz
   | o=>o } r
def aIe:DataW Unit->List Value
 | .agg ps=>ps.filterMap fun
  | .lit (.int k z)=>some (.int k z)
  | _=>none
 | _=>[]
theorem MO {P:Program} {W:World}:∀ {l:List (String×DataW Unit)} {i:Nat} {x:String×DataW Unit},laidMet P l W->l[i]? = some x->∃ r,laidMet P (x :: r) W
 | [],i,x,_,h=>by simp at h
 | y :: l,0,x,h,hi=>by simp at hi;subst hi;exact ⟨l,h⟩
 | y :: l,i+1,x,h,hi=>MO (l:=l) (i:=i) h.tail (by simpa using hi)
theorem YY {P:Program} {W:World} {l:List (String×DataW Unit)} {i:Nat} {name:String} {k:IntKind} {zs:List Int} {g n:Nat} {t e:TypeId} (h:laidMet P l W) (hi:l[i]? = some (name,Lib.tabData k zs))
  (hg:P.globalNamed name=some g) (hty:(P.globals[g]?).map (·.type)=some t) (ht:P.underlying t=some (.array n e)) (he:P.underlying e=some (.int k)) (hce:P.cellsOf e=1) (hct:P.cellsOf t=n):Lib.TabIs P W name k zs:=by
 obtain ⟨r,h⟩:=MO h hi;exact Lib.tabIs_of_head hg hty ht he hce hct h
theorem NY {P:Program} {W:World} {l:List (String×DataW Unit)} {i:Nat} {name nm:String} {text:List UInt8} {g:Nat} {ti tp te ts:TypeId} {ms:Array (String×TypeId)} {f:Field} (h:laidMet P l W) (hi:l[i]? = some (name,.iface nm (.ptr (.agg [.lit (.string text)]))))
  (hg:P.globalNamed name=some g) (ht:(P.globals[g]?).map (·.type)=some ti) (hint:P.underlying ti=some (.interface ms)) (hrow:∀ u,P.typeName? 3 u=some nm->u=tp)
  (hp:P.underlying tp=some (.pointer te)) (he:P.underlying te=some (.struct #[f])) (hft:f.type=ts) (hfo:f.offset=0) (hs:P.underlying ts=some .string) (hc:P.cellsOf te=1) (hcs:P.cellsOf ts=1):vS W g .ifc:=by
 obtain ⟨r,h⟩:=MO h hi;obtain ⟨a,s,hv,_⟩:=laid_sentinel h hg ht hint hrow hp he hft hfo hs hc hcs;unfold World.var? at hv;rw [hg] at hv;have hv:(match W.heap[g]? with | some (.cells cs _ _)=>some cs | _=>none)=some #[Value.iface tp (.pointer (some a))]:=hv;split at hv
 ·rename_i cs t fz he;cases hv;exact ⟨t,fz,_,_,he⟩
 ·cases hv
theorem vS.ifc_cell {W:World} {g:Nat} (h:vS W g .ifc):∃ ev,W.cell? ⟨g,0,none⟩=some ev/\(ev = .nilIface\/∃ te pe,ev = .iface te pe):=by
 obtain ⟨t,fz,u,v,h⟩:=h;exact ⟨.iface u v,by simp [fQ, h],.inr ⟨u,v,rfl⟩⟩
end Go.Am
namespace Go.Am
open Go.RowKit (Below)
theorem DS:∀ {t:Ty} {x:t.den},t.flat=true->∀ u∈oU t x,u.oneCell'=true
 | .int _,_,_,u,hu=>by simp [oU] at hu;subst hu;rfl
 | .bool,_,_,u,hu=>by simp [oU] at hu;subst hu;rfl
 | .fn,x,_,u,hu=>by simp [oU] at hu;subst hu;exact O1 x
 | .str,_,_,u,hu=>by simp [oU] at hu;subst hu;rfl
 | .sl _,_,h,_,_=>by cases h
 | .unit,_,_,u,hu=>by simp [oU] at hu
 | .cons a b,x,hf,u,hu=>by
  simp only [Gy,aJ] at hf;simp only [oU,bU] at hu;rcases hu with hu | hu
  ·exact DS hf.1 u hu
  ·exact DS hf.2 u hu
def pG (t:Ty) (xs:List t.den):List Value:=(xs.map (oU t)).flatten
theorem IT {w:World} {t:Ty} (hf:t.flat=true):∀ {xs:List t.den} {css:List (List Value)} {bss:List (List Nat)},vY (gB w t) t.size xs css bss->css=xs.map (oU t)/\bss.flatten=[]/\∀ x∈xs,Wf t x
 | [],css,bss,⟨h1,h2⟩=>by subst h1 h2;exact ⟨rfl,rfl,λx h=>by cases h⟩
 | x :: r,css,bss,⟨c,cs,b,bs,h1,h2,h3,h4,h5⟩=>by
  subst h1 h2;obtain ⟨e1,e2,e3⟩:=IT hf h5;have e4:b=[]:=(h4.flat (w':=w) (G:=λ_=>True) hf).2;refine ⟨by rw [e1,wA hf h4];rfl,by simp [e2,e4],λy hy => ?_⟩;rcases aR.1 hy with rfl | hy
  ·exact h4.wf
  ·exact e3 y hy
theorem lY {t:Ty} (hf:t.flat=true) {xs:List t.den} (hw:∀ x∈xs,Wf t x):(pG t xs).length=xs.length*t.size :=
 (Jp (w:=default) hf hw).len.2.2
theorem MP {w:World} {G:Nat->Prop} {t:Ty} (hf:t.flat=true) {xs:List t.den} {v:Value} (h:lT w G (dW w G t) t.size xs v) :
  (∀ x∈xs,Wf t x)/\xs.length<=maxLen/\((∃ ad,v = .slice ad 0 0/\xs=[]) \/
   ∃ b off cap,v = .slice (some ⟨b,off,none⟩) xs.length cap/\xs.length<=cap/\cap<=maxLen/\G b/\∀ j u,(pG t xs)[j]? = some u->w.cell? ⟨b,off+j,none⟩=some u):=by
 refine ⟨(Ui (λ_ _=>dW.wf) h).2,h.1,?_⟩;have hl:=h.2;obtain ⟨css,bss,hrow,hflat,hcase⟩:=lT.row h;rcases hcase with ⟨ad,rfl,rfl⟩ | ⟨b',off,cap,rfl,hG,hcells⟩
 ·exact .inl ⟨ad,rfl,rfl⟩
 ·rcases hl with ⟨ad,e,rfl⟩ | ⟨b2,off2,cap2,e,h2,h3,h4,_⟩
  ·simp only [Value.slice.injEq] at e;obtain ⟨e1,e2,e3⟩:=e;exact .inl ⟨some ⟨b',off,none⟩,by rw [e3];rfl,rfl⟩
  ·cases e;refine .inr ⟨b',off,cap,rfl,h2,h3,hG,λj u hj=>hcells j u ?_⟩;have hr:vY (gB w t) t.size xs css bss:=hrow.mono λy c b _ hh=>by
    obtain ⟨g1,g2⟩:=hh;subst g2;exact g1.own hf
   rw [(IT hf hr).1];exact hj
theorem YZ {w:World} {t:Ty} (hf:t.flat=true) {xs:List t.den} {v:Value} {bs:List Nat} (h:gB w (.sl t) xs [v] bs) :
  (∀ x∈xs,Wf t x)/\xs.length<=maxLen/\((∃ ad,v = .slice ad 0 0/\xs=[]/\bs=[]) \/
  ∃ b off cap cur ty fz,v = .slice (some ⟨b,off,none⟩) xs.length cap/\xs.length<=cap/\cap<=maxLen/\off+cap*t.size<=cur.size/\w.heap[b]? = some (.cells cur ty fz)/\EQ t.size fz cur.size/\bs=[b] /\
   ∀ j u,(pG t xs)[j]? = some u->cur[off+j]? = some u):=by
 obtain ⟨v',hv,h⟩:=h;cases hv;have hm:=h.1;obtain ⟨css,bss,hrow,hcase⟩:=vK.row h;obtain ⟨e1,e2,e3⟩:=IT hf hrow;refine ⟨e3,hm,?_⟩;rcases hcase with ⟨ad,h1,h2,h3⟩ | ⟨b,off,cap,cur,ty,fz,h1,h2,h3,h4,h5,h6,h7,h8⟩
 ·exact .inl ⟨ad,h1,h2,h3⟩
 ·exact .inr ⟨b,off,cap,cur,ty,fz,h1,h2,h3,h4,h5,h6,by rw [h7,e2],λj u hj=>h8 j u (by rw [e1];exact hj)⟩
theorem NZ {w:World} {t:Ty} (hf:t.flat=true) {xs:List t.den} (hw:∀ x∈xs,Wf t x) {n b off cap:Nat} {cur:Array Value} {ty:TypeId} {fz:Nat×Nat} (hn:n=xs.length) (h2:xs.length<=cap) (h3:cap<=maxLen) (h4:off+cap*t.size<=cur.size)
  (h5:w.heap[b]? = some (.cells cur ty fz)) (h6:EQ t.size fz cur.size) (h8:∀ j u,(pG t xs)[j]? = some u->cur[off+j]? = some u):gB w (.sl t) xs [.slice (some ⟨b,off,none⟩) n cap] [b]:=by
 subst hn;have hrow:=Jp (w:=w) hf hw;have ho:=rE hrow (b:=b) (off:=off) (cap:=cap) (cur:=cur) (ty:=ty) (fz:=fz) (cO h2 h3) h2 h3 h4 h5 h6 h8;rw [Jq] at ho;exact ⟨_,rfl,ho⟩
def Tp (t:Ty):Spec:={ sig:=[nV (.sl t)],pre:=λ⟨x0,_⟩=>x0.length<=1048576,res:=λ⟨x0,_⟩=>[⟨.sl t,x0⟩] }
theorem Ps {P:Program} {f:FuncId} {t:Ty} {e:TypeId} (hf:t.flat=true)
  (hnil:∀ w:World,Calls P f #[.slice none 0 0] w λe w'=>e = .returned (.slice none 0 0)/\w'=w)
  (hsome:∀ (w:World) (a:Addr) (n c:Nat) (news:List Value),news.length=n*t.size->n<=1048576->(∀ j u,news[j]? = some u->w.cell? (a.add j)=some u)->(∀ u∈news,u.oneCell'=true) ->
   Calls P f #[.slice (some a) n c] w λr w'=>∃ v',r = .returned v'/\w'.ownsRow w.heap.size e t.size v' n news/\Below w.heap.size w w') :
  jC P f (Tp t):=by
 refine zN.up rfl rfl ?_;rintro w ⟨x0,u⟩ vs bss hgo hp ⟨v,s,b,bs,rfl,rfl,⟨rfl,ho⟩,rfl,rfl⟩ hn;have hp:x0.length<=1048576:=hp;have hm:x0.length<=maxLen:=by unfold maxLen;omega
 obtain ⟨hw,_,hcase⟩:=MP hf ho;have hfin:∀ (v':Value) (w':World),w'.ownsRow w.heap.size e t.size v' x0.length (pG t x0)->Below w.heap.size w w' ->
   ∃ rs ubs rbs,E5 v' = .returned (ER rs)/\cE ([[]]:List (List Nat)).flatten w w'/\Bi w' [⟨.sl t,x0⟩] rs rbs/\uP w' [] (iL [nV (.sl t)] [v]) ubs/\(ubs.flatten++rbs.flatten).Nodup/\∀ b∈ubs.flatten++rbs.flatten,¬ Am.Good w ([[]]:List (List Nat)).flatten b:=λv' w' h1 h2=>by
  obtain ⟨bs,g1,g2,g3⟩:=Po hf hw hm h1;refine ⟨[v'],[],[bs],rfl,iD h2,⟨_,_,_,_,_,rfl,rfl,g1,rfl,rfl,rfl⟩,⟨rfl,rfl⟩,by simpa using g2,λb hb hg => ?_⟩;simp at hb;have:=g3 b hb;have:=hg.1;omega
 rcases hcase with ⟨ad,rfl,rfl⟩ | ⟨b',off,cap,rfl,h2,h3,hG,hcells⟩
 ·cases ad with
  | none =>
   refine (hnil w).mono ?_;rintro r w' ⟨rfl,rfl⟩;exact hfin _ _ ⟨by simp [pG],.inl ⟨rfl,rfl⟩⟩ (Below.refl _ _)
  | some a =>
   refine (hsome w a 0 0 [] (by simp) (by omega) (λj u h=>by simp at h) (λu h=>by cases h)).mono ?_;rintro r w' ⟨v',rfl,h1,h2⟩;exact hfin _ _ h1 h2
 ·refine (hsome w ⟨b',off,none⟩ x0.length cap (pG t x0) (lY hf hw) hp (λj u hj=>by rw [fH];exact hcells j u hj) (λu hu => ?_)).mono ?_
  ·obtain ⟨l,hl,hu⟩:=iH.1 hu;obtain ⟨x,_,rfl⟩:=eE.1 hl;exact DS hf u hu
  ·rintro r w' ⟨v',rfl,h1,h2⟩;exact hfin _ _ h1 h2
section
variable {P:Program}
theorem DT (w:World) (dT sT ty elem:TypeId) (k b o dLen dCap:Nat) (a:Addr) (sLen sCap:Nat) (cs:List Value)
  (hu:P.underlying dT=some (.slice elem)) (hs:(P.info? elem).map (·.size)=some k) (hn:cs.length=EB sLen dLen*k)
  (hsrc:∀ j v,cs[j]? = some v->w.cell? (a.add j)=some v) (hc:∀ j,j<cs.length->(w.cell? ⟨b,o+j,none⟩).isSome=true) (hf:∀ j,j<cs.length->w.frozen? ⟨b,o+j,none⟩=false) (h1:∀ v∈cs,v.oneCell'=true) :
  (jS #[dT,sT] ty #[.slice (some ⟨b,o,none⟩) dLen dCap,.slice (some a) sLen sCap]).run P w = .ok (goInt (EB sLen dLen)) (w.setCells b o cs):=by
 have hl:=run_loadCells_list (P:=P) w a cs hsrc;have hst:=run_storeCells_cells (P:=P) b o cs 0 w (by simpa using hc) (by simpa using hf) h1;cases hq:P.info? elem with
 | none=>simp [hq] at hs
 | some i =>
  have hi:i.size=k:=by simpa [hq] using hs
  simp [jS,run_underlying hu,pO,dZ,sizeOf,typeInfo,hq,hi, <- hn,hl,hst]
theorem N0 (t:Ty) (n:Nat):(gG (eF t).toArray n).toList=(b6 n (eF t)).flatten:=by
 have:=PL (eF t).toArray n;unfold gG;rw [this]
end
theorem IU (b:Nat):∀ (vs:List Value) (o:Nat) (w:World) (x:Addr),(w.cell? x).isSome=true->((w.setCells b o vs).cell? x).isSome=true
 | [],_,_,_,h=>h
 | v :: r,o,w,x,h=>by
  refine IU b r (o+1) _ x ?_;obtain ⟨u,hu⟩:=Option.isSome_iff_exists.1 h;by_cases e:(⟨b,o,none⟩:Addr)=x
  ·subst e;rw [World.cell?_setCell_same _ _ _ hu];rfl
  ·rw [World.cell?_setCell_other _ _ _ _ e,hu];rfl
theorem Sb {w:World} {b o:Nat} {v:Value} {cur:Array Value} {ty:TypeId} {fz:Nat×Nat} (h:w.heap[b]? = some (.cells cur ty fz)):(w.setCell ⟨b,o,none⟩ v).heap[b]? = some (.cells (cur.setIfInBounds o v) ty fz)/\(∀ k,k≠b->(w.setCell ⟨b,o,none⟩ v).heap[k]? = w.heap[k]?)/\(w.setCell ⟨b,o,none⟩ v).heap.size=w.heap.size:=by
 refine ⟨?_,λk hk => ?_,?_⟩
 ·simp [nP,mM,h]
 ·simp [nP,mM,jL hk]
 ·simp [nP]
theorem lZ:∀ (vs:List Value) {w:World} {b o:Nat} {cur:Array Value} {ty:TypeId} {fz:Nat×Nat},w.heap[b]? = some (.cells cur ty fz)->o+vs.length<=cur.size ->
  ∃ cur',(w.setCells b o vs).heap[b]? = some (.cells cur' ty fz)/\cur'.size=cur.size/\(∀ j u,vs[j]? = some u->cur'[o+j]? = some u)/\(∀ j,j<o\/o+vs.length<=j->cur'[j]? = cur[j]?) /\
   (∀ k,k≠b->(w.setCells b o vs).heap[k]? = w.heap[k]?)/\(w.setCells b o vs).heap.size=w.heap.size
 | [],w,b,o,cur,ty,fz,h,_=>⟨cur,h,rfl,λj u hj=>by simp at hj,λ_ _=>rfl,λ_ _=>rfl,rfl⟩
 | v :: r,w,b,o,cur,ty,fz,h,hl=>by
  simp only [bA] at hl;obtain ⟨e1,e2,e3⟩:=Sb (o:=o) (v:=v) h;obtain ⟨cur',g1,g2,g3,g4,g5,g6⟩:=lZ r (o:=o+1) e1 (by simp;omega);refine ⟨cur',g1,by rw [g2];simp,λj u hj => ?_,λj hj => ?_,λk hk=>by rw [Rv,g5 k hk,e2 k hk],by rw [Rv,g6,e3]⟩
  ·cases j with
   | zero =>
    simp at hj;subst hj;rw [lE,g4 o (.inl (by omega)),p9 (by omega)]
   | succ j =>
    have:=g3 j u (by simpa using hj)
    rwa [show o+(j+1)=o+1+j by omega]
  ·simp only [bA] at hj;rw [g4 j (by omega),nT (by omega)]
theorem sK (vs:List Value) {w:World} {b o:Nat} {cur:Array Value} {ty:TypeId} {fz:Nat×Nat} (h:w.heap[b]? = some (.cells cur ty fz)) (hl:o+vs.length<=cur.size):cE [b] w (w.setCells b o vs):=by
 obtain ⟨_,_,_,_,_,g5,g6⟩:=lZ vs h hl;have hw:∀ (vs:List Value) (o:Nat) (w:World),(w.setCells b o vs).os=w.os/\(w.setCells b o vs).tape=w.tape/\(w.setCells b o vs).output=w.output:=by
  intro vs
  induction vs with
  | nil=>intro o w;exact ⟨rfl,rfl,rfl⟩
  | cons v r ih =>
   intro o w;obtain ⟨h1,h2,h3⟩:=ih (o+1) (w.setCell ⟨b,o,none⟩ v);exact ⟨h1,h2,h3⟩
 obtain ⟨h1,h2,h3⟩:=hw vs o w;exact ⟨h1,h2,h3,by rw [g6];exact aT _,λk hk hkb=>g5 k (by simpa using hkb)⟩
theorem qH (t:Ty) (xs ys:List t.den):pG t (xs++ys)=pG t xs++pG t ys:=by simp [pG]
structure vN (w:World) (t:Ty) (xs:List t.den) (b off cap:Nat) (cur:Array Value) (ty:TypeId) (fz:Nat×Nat):Prop where
 wf:∀ x∈xs,Wf t x
 len:xs.length<=cap
 capm:cap<=maxLen
 fit:off+cap*t.size<=cur.size
 blk:w.heap[b]? = some (.cells cur ty fz)
 free:EQ t.size fz cur.size
 has:∀ j u,(pG t xs)[j]? = some u->cur[off+j]? = some u
theorem vN.cell {w:World} {t:Ty} {xs:List t.den} {b off cap:Nat} {cur:Array Value} {ty:TypeId} {fz:Nat×Nat} (h:vN w t xs b off cap cur ty fz):∀ j u,(pG t xs)[j]? = some u->w.cell? ⟨b,off+j,none⟩=some u:=λj u hj=>by
 simp only [fQ, h.blk];exact h.has j u hj
theorem vN.some' {w:World} {t:Ty} {xs:List t.den} {b off cap:Nat} {cur:Array Value} {ty:TypeId} {fz:Nat×Nat} (h:vN w t xs b off cap cur ty fz):∀ j,j<cap*t.size->(w.cell? ⟨b,off+j,none⟩).isSome=true:=λj hj=>by
 have:=h.fit;simp only [fQ, h.blk];rw [gJ (by omega)];rfl
theorem vN.unfrozen {w:World} {t:Ty} {xs:List t.den} {b off cap:Nat} {cur:Array Value} {ty:TypeId} {fz:Nat×Nat} (h:vN w t xs b off cap cur ty fz):∀ j,j<cap*t.size->w.frozen? ⟨b,off+j,none⟩=false:=λj hj=>by
 have h1:=h.fit;have h2:=h.free.1 (off+j) (by omega);simp only [World.frozen?, h.blk];rw [bN];intro hh;simp only [aJ,decide_eq_true_eq] at hh;exact h2 hh
theorem vN.lt {w:World} {t:Ty} {xs:List t.den} {b off cap:Nat} {cur:Array Value} {ty:TypeId} {fz:Nat×Nat} (h:vN w t xs b off cap cur ty fz):b<w.heap.size:=by
 rcases eK b w.heap.size with h' | h'
 ·exact h'
 ·have:=h.blk;rw [cZ h'] at this;cases this
theorem aIf {w:World} {t:Ty} (hf:t.flat=true) {xs:List t.den} {v:Value} {bs:List Nat} (h:gB w (.sl t) xs [v] bs) (hne:xs≠[]) :
  ∃ b off cap cur ty fz,v = .slice (some ⟨b,off,none⟩) xs.length cap/\bs=[b]/\vN w t xs b off cap cur ty fz:=by
 obtain ⟨hw,hm,hcase⟩:=YZ hf h;rcases hcase with ⟨ad,rfl,h1,_⟩ | ⟨b,off,cap,cur,ty,fz,h1,h2,h3,h4,h5,h6,h7,h8⟩
 ·exact absurd h1 hne
 ·exact ⟨b,off,cap,cur,ty,fz,h1,h7,hw,h2,h3,h4,h5,h6,h8⟩
theorem FP {t:Ty} (hf:t.flat=true) (xs:List t.den):∀ u∈pG t xs,u.oneCell'=true:=λu hu=>by
 obtain ⟨l,hl,hu⟩:=iH.1 hu;obtain ⟨x,_,rfl⟩:=eE.1 hl;exact DS hf u hu
theorem Y0 {t:Ty} (hf:t.flat=true) {xs:List t.den} (hw:∀ x∈xs,Wf t x) (j:Nat) (hj:j<=xs.length):∀ (k:Nat) (u:Value),(pG t (xs.drop j))[k]? = some u->(pG t xs)[j*t.size+k]? = some u:=λk u hk=>by
 have h1:pG t xs=pG t (xs.take j)++pG t (xs.drop j):=by rw [<- qH,eU]
 have h2:(pG t (xs.take j)).length=j*t.size:=by rw [lY hf (λx hx=>hw x (gI hx)),cJ,yO hj]
 rw [h1,cH (by omega),h2,kQ];exact hk
theorem Y1 {t:Ty} (hf:t.flat=true) {xs:List t.den} (hw:∀ x∈xs,Wf t x) (j:Nat):∀ (k:Nat) (u:Value),(pG t (xs.take j))[k]? = some u->(pG t xs)[k]? = some u:=λk u hk=>by
 have h1:pG t xs=pG t (xs.take j)++pG t (xs.drop j):=by rw [<- qH,eU]
 rw [h1,bV (bH.1 hk).1];exact hk
def Pt (t:Ty):Spec:={ sig:=[tW t,nV (.int .i64),tW t],pre:=λ⟨x0,x1,x2,_⟩=>0<=x1/\x1<=x0.length/\x2.length=1/\x0.length<=1048576,upd:=λ_=>[none,none],res:=λ⟨x0,x1,x2,_⟩=>[⟨.sl t,x0.take x1.toNat++(x2++x0.drop x1.toNat)⟩] }
def aIg (P:Program) (f:FuncId) (t:Ty):Prop:=∀ (w:World) (xs ys:List t.den) (b off cap:Nat) (cur:Array Value) (ty:TypeId) (fz:Nat×Nat) (vb voff vcap:Nat) (vcur:Array Value) (vty:TypeId) (vfz:Nat×Nat) (i:Nat),vN w t xs b off cap cur ty fz->vN w t ys vb voff vcap vcur vty vfz->ys.length=1->vb≠b->i<xs.length->xs.length+1<=cap ->
   Calls P f #[.slice (some ⟨b,off,none⟩) xs.length cap,.int .i64 i,.slice (some ⟨vb,voff,none⟩) 1 vcap] w λr w'=>r = .returned (.slice (some ⟨b,off,none⟩) (xs.length+1) cap) /\
    ∃ q,w'=((w.drewN q).setCells b (off+(i+1)*t.size) (pG t (xs.drop i))).setCells b (off+i*t.size) (pG t ys)
def aPF (P:Program) (f:FuncId) (t:Ty) (e:TypeId):Prop:=∀ (w:World) (xs ys:List t.den) (b off cap:Nat) (cur:Array Value) (ty:TypeId) (fz:Nat×Nat) (vb voff vcap:Nat) (vcur:Array Value) (vty:TypeId) (vfz:Nat×Nat) (i:Nat),vN w t xs b off cap cur ty fz->vN w t ys vb voff vcap vcur vty vfz->ys.length=1->vb≠b->i<xs.length->cap<xs.length+1->xs.length<=1048576 ->
   Calls P f #[.slice (some ⟨b,off,none⟩) xs.length cap,.int .i64 i,.slice (some ⟨vb,voff,none⟩) 1 vcap] w λr w'=>∃ v',r = .returned v'/\w'.ownsRow w.heap.size e t.size v' (xs.length+1) (pG t (xs.take i++(ys++xs.drop i)))/\Below w.heap.size w w'
def aX0 (P:Program) (f:FuncId) (t:Ty):Prop:=∀ (w:World) (xs ys:List t.den) (b off cap:Nat) (cur:Array Value) (ty:TypeId) (fz:Nat×Nat) (vb voff vcap:Nat) (vcur:Array Value) (vty:TypeId) (vfz:Nat×Nat),vN w t xs b off cap cur ty fz->vN w t ys vb voff vcap vcur vty vfz->ys.length=1->vb≠b->xs.length+1<=cap ->
   Calls P f #[.slice (some ⟨b,off,none⟩) xs.length cap,.int .i64 xs.length,.slice (some ⟨vb,voff,none⟩) 1 vcap] w λr w'=>r = .returned (.slice (some ⟨b,off,none⟩) (xs.length+1) cap) /\
    ∃ q,w'=(w.drewN q).setCells b (off+xs.length*t.size) (pG t ys)
def aPG (P:Program) (f:FuncId) (t:Ty) (e:TypeId):Prop:=∀ (w:World) (xs ys:List t.den) (ad:Option Addr) (cap:Nat) (vb voff vcap:Nat) (vcur:Array Value) (vty:TypeId) (vfz:Nat×Nat),(∀ x∈xs,Wf t x)->xs.length<=cap->(ad=none->xs=[])->(∀ a,ad=some a->∀ j u,(pG t xs)[j]? = some u->w.cell? (a.add j)=some u)->vN w t ys vb voff vcap vcur vty vfz->ys.length=1->cap<xs.length+1->xs.length<=1048576 ->
   Calls P f #[.slice ad xs.length cap,.int .i64 xs.length,.slice (some ⟨vb,voff,none⟩) 1 vcap] w λr w'=>∃ v',r = .returned v'/\w'.ownsRow w.heap.size e t.size v' (xs.length+1) (pG t (xs++ys))/\Below w.heap.size w w'
theorem OE {P:Program} {f:FuncId} {t:Ty} {e:TypeId} (hf:t.flat=true) (hshift:aIg P f t) (hgrow:aPF P f t e) (hend:aX0 P f t) (hlast:aPG P f t e) :
  jC P f (Pt t):=by
 refine zN.up rfl rfl ?_;rintro w ⟨z0,z1,z2,u⟩ vs bss hgo hp ⟨v,s,b0,bs0,rfl,rfl,ho,v1,s1,b1,bs1,rfl,rfl,⟨rfl,rfl,_⟩,v2,s2,b2,bs2,rfl,rfl,ho2,rfl,rfl⟩ hn;obtain ⟨x0,rfl⟩:∃ y:List t.den,y=z0:=⟨z0,rfl⟩;obtain ⟨x1,rfl⟩:∃ y:Int,y=z1:=⟨z1,rfl⟩;obtain ⟨x2,rfl⟩:∃ y:List t.den,y=z2:=⟨z2,rfl⟩
 dsimp only
 obtain ⟨p0,p1,p2,p3⟩:0<=x1/\x1<=x0.length/\x2.length=1/\x0.length<=1048576:=hp;obtain ⟨i,rfl⟩:∃ i:Nat,x1=i:=⟨x1.toNat,by omega⟩;have hi:i<=x0.length:=by omega
 have ho':gB w (.sl t) x0 [v] b0:=ho;have ho2':gB w (.sl t) x2 [v2] b2:=ho2;obtain ⟨vb,voff,vcap,vcur,vty,vfz,rfl,rfl,hB⟩:=aIf hf ho2' (by intro e;rw [e] at p2;simp at p2);rw [p2];have hwf2:=hB.wf
 -- a row of one's own
 have fresh:∀ (ys:List t.den) (v':Value) (w':World),ys.length=x0.length+1->(∀ y∈ys,Wf t y)->w'.ownsRow w.heap.size e t.size v' (x0.length+1) (pG t ys)->Below w.heap.size w w' ->
   ∃ rs ubs rbs,E5 v' = .returned (ER rs)/\cE [b0,[],[vb]].flatten w w'/\Bi w' [⟨.sl t,ys⟩] rs rbs/\uP w' [none,none] (iL [tW t,nV (.int .i64),tW t] [v,.int .i64 i,.slice (some ⟨vb,voff,none⟩) 1 vcap]) ubs /\
    (ubs.flatten++rbs.flatten).Nodup/\∀ d∈ubs.flatten++rbs.flatten,¬ Am.Good w [b0,[],[vb]].flatten d:=λys v' w' hl hw h1 h2=>by
  rw [<- hl] at h1;obtain ⟨bs,g1,g2,g3⟩:=Po hf hw (by rw [hl];unfold maxLen;omega) h1;refine ⟨[v'],[[],[]],[bs],rfl,(iD h2).of_nil,⟨_,_,_,_,_,rfl,rfl,g1,rfl,rfl,rfl⟩,⟨_,_,_,rfl,rfl,_,_,_,rfl,rfl,rfl,rfl⟩,by simpa using g2,λd hd hg => ?_⟩;simp at hd;have:=g3 d hd;have:=hg.1;omega
 -- what was there,written anew
 have wf3:∀ y∈x0.take i++(x2++x0.drop i),Wf t y->True:=λ_ _ _=>trivial;obtain ⟨hw0,hm0,hcase⟩:=YZ hf ho';have hws:∀ y∈x0.take i++(x2++x0.drop i),Wf t y:=λy hy=>by
  rcases bU.1 hy with hy | hy
  ·exact hw0 y (gI hy)
  ·rcases bU.1 hy with hy | hy
   ·exact hwf2 y hy
   ·exact hw0 y (iB hy)
 have hlens:(x0.take i++(x2++x0.drop i)).length=x0.length+1:=by
  simp only [aO,cJ,fD,p2];omega
 rcases hcase with ⟨ad,rfl,rfl,rfl⟩ | ⟨b,off,cap,cur,ty,fz,rfl,h2,h3,h4,h5,h6,rfl,h8⟩
 ·have hi0:i=0:=by simpa using hi
  subst hi0;have:=hlast w [] x2 ad 0 vb voff vcap vcur vty vfz (λx h=>by cases h) (aT _) (λ_=>rfl) (λa _ j u hj=>by simp [pG] at hj) hB p2 (by simp) (by simp);refine this.mono ?_;rintro r w' ⟨v',rfl,h1,h2⟩;exact fresh _ v' w' hlens hws (by simpa using h1) h2
 ·have hA:vN w t x0 b off cap cur ty fz:=⟨hw0,h2,h3,h4,h5,h6,h8⟩;have hvb:vb≠b:=by
   simp only [bK,jG,c6,kU,oC,j7,bI] at hn;exact λe=>hn.1 e.symm
  have place:∀ (w':World) (cur':Array Value),cE [b] w w'->w'.heap[b]? = some (.cells cur' ty fz)->cur'.size=cur.size->x0.length+1<=cap->(∀ j u,(pG t (x0.take i++(x2++x0.drop i)))[j]? = some u->cur'[off+j]? = some u) ->
    ∃ rs ubs rbs,E5 (.slice (some ⟨b,off,none⟩) (x0.length+1) cap) = .returned (ER rs)/\cE [[b],[],[vb]].flatten w w'/\Bi w' [⟨.sl t,x0.take i++(x2++x0.drop i)⟩] rs rbs/\uP w' [none,none] (iL [tW t,nV (.int .i64),tW t] [.slice (some ⟨b,off,none⟩) x0.length cap,.int .i64 i,.slice (some ⟨vb,voff,none⟩) 1 vcap]) ubs /\
     (ubs.flatten++rbs.flatten).Nodup/\∀ d∈ubs.flatten++rbs.flatten,¬ Am.Good w [[b],[],[vb]].flatten d:=λw' cur' hk hb hs hr hc=>by
   have hres:=NZ (w:=w') hf hws (n:=x0.length+1) (b:=b) (off:=off) (cap:=cap) (cur:=cur') (ty:=ty) (fz:=fz) hlens.symm (by rw [hlens];exact hr) h3 (by rw [hs];exact h4) hb (by rw [hs];exact h6) hc;refine ⟨[_],[[],[]],[[b]],rfl,hk.mono (λk hk=>by simp at hk;simp [hk]),⟨_,_,_,_,_,rfl,rfl,hres,rfl,rfl,rfl⟩,⟨_,_,_,rfl,rfl,_,_,_,rfl,rfl,rfl,rfl⟩,by simp,λd hd hg => ?_⟩;simp at hd;subst hd;exact hg.2 (by simp)
  have hdr:∀ q,cE [b] w (w.drewN q):=λq=>⟨rfl,rfl,rfl,aT _,λ_ _ _=>rfl⟩;have hlen2:(pG t x2).length=t.size:=by rw [lY hf hwf2,p2,qY]
  by_cases hroom:x0.length+1<=cap
  ·have hle:(x0.length+1)*t.size<=cap*t.size:=dA _ hroom;rw [dL,qY] at hle;by_cases hin:i=x0.length
   ·subst hin;refine (hend w x0 x2 b off cap cur ty fz vb voff vcap vcur vty vfz hA hB p2 hvb hroom).mono ?_;rintro r w' ⟨rfl,q,rfl⟩;have l1:off+x0.length*t.size+(pG t x2).length<=cur.size:=by rw [hlen2];omega
    obtain ⟨c1,g1,g2,g3,g4,g5,g6⟩:=lZ (pG t x2) (show (w.drewN q).heap[b]? = some (.cells cur ty fz) from h5) l1;refine place _ c1 ((hdr q).trans (sK _ h5 l1)) g1 g2 hroom (λj u hu => ?_);rw [gU,My,c6,qH] at hu;have hl0:=lY hf hw0;by_cases hj:j<x0.length*t.size
    ·rw [bV (by omega)] at hu;rw [g4 _ (.inl (by omega))];exact h8 j u hu
    ·rw [cH (by omega),hl0] at hu;have:=g3 _ u hu
     rwa [show off+x0.length*t.size+(j - x0.length*t.size)=off+j by omega] at this
   ·have hlt:i<x0.length:=by omega
    refine (hshift w x0 x2 b off cap cur ty fz vb voff vcap vcur vty vfz i hA hB p2 hvb hlt hroom).mono ?_;rintro r w' ⟨rfl,q,rfl⟩;have hd:(pG t (x0.drop i)).length=(x0.length - i)*t.size:=by rw [lY hf (λx hx=>hw0 x (iB hx)),fD]
    have hti:(pG t (x0.take i)).length=i*t.size:=by rw [lY hf (λx hx=>hw0 x (gI hx)),cJ,yO (by omega)]
    have e1:(i+1)*t.size+(x0.length - i)*t.size=x0.length*t.size+t.size:=by rw [<- dL, <- rJ];congr 1;omega
    have e2:(i+1)*t.size=i*t.size+t.size:=rJ _ _;have l1:off+(i+1)*t.size+(pG t (x0.drop i)).length<=cur.size:=by rw [hd];omega
    obtain ⟨c1,g1,g2,g3,g4,g5,g6⟩:=lZ (pG t (x0.drop i)) (show (w.drewN q).heap[b]? = some (.cells cur ty fz) from h5) l1;have l2:off+i*t.size+(pG t x2).length<=c1.size:=by rw [hlen2,g2];omega
    obtain ⟨c2,k1,k2,k3,k4,k5,k6⟩:=lZ (pG t x2) g1 l2;refine place _ c2 (((hdr q).trans (sK _ h5 l1)).trans (sK _ g1 l2)) k1 (by rw [k2,g2]) hroom (λj u hu => ?_);rw [qH,qH] at hu;by_cases hj:j<i*t.size
    ·rw [bV (by omega)] at hu;rw [k4 _ (.inl (by omega)),g4 _ (.inl (by omega))];exact h8 j u (Y1 hf hw0 i j u hu)
    ·rw [cH (by omega),hti] at hu;by_cases hj2:j<i*t.size+t.size
     ·rw [bV (by omega)] at hu;have:=k3 _ u hu
      rwa [show off+i*t.size+(j - i*t.size)=off+j by omega] at this
     ·rw [cH (by omega),hlen2] at hu;rw [k4 _ (.inr (by rw [hlen2];omega))];have:=g3 _ u hu
      rwa [show off+(i+1)*t.size+(j - i*t.size - t.size)=off+j by omega] at this
  ·by_cases hin:i=x0.length
   ·subst hin;have:=hlast w x0 x2 (some ⟨b,off,none⟩) cap vb voff vcap vcur vty vfz hw0 h2 (λh=>by cases h) (λa ha j u hj=>by cases ha;rw [fH];exact hA.cell j u hj) hB p2 (by omega) p3;refine this.mono ?_;rintro r w' ⟨v',rfl,h1,h2⟩;exact fresh _ v' w' hlens hws (by rw [Int.toNat_natCast,gU,My,c6];exact h1) h2
   ·have hlt:i<x0.length:=by omega
    refine (hgrow w x0 x2 b off cap cur ty fz vb voff vcap vcur vty vfz i hA hB p2 hvb hlt (by omega) p3).mono ?_;rintro r w' ⟨v',rfl,h1,h2⟩;exact fresh _ v' w' hlens hws h1 h2
end Go.Am
namespace Go.Am
theorem getD_all {h:List Int} {n:Int} (hn:0<=n) (hc:∀ c∈h,0<=c/\c<=n) (k:Nat):0<=h.getD k 0/\h.getD k 0<=n:=by
 by_cases hlt:k<h.length
 ·exact hc _ (dN h k 0 hlt)
 ·rw [bL,List.getElem?_eq_none (by omega)];exact ⟨Int.le_refl _,hn⟩
def aX1 (o:Option (List aY×List (Option BD)×List Prop)):Option (List aY×List (Option BD))×Prop :=
 match o with
 | some (ds,us,cs)=>(some (ds,us),eZ cs)
 | none=>(none,True)
theorem a1 {p q:Prop} (x:p) (y:q):p/\q:=⟨x,y⟩
section
variable {P:Program} {f:FuncId} {R:Ending->World->Prop} {n:Nat} {K:jK} {E:eD} {L:bG}
theorem YI.ret {fn:Func} (hf:P.funcs[f]? = some fn) {tab:List TI} {ext:sE} (hT:jP P tab) (hX:nQ P ext) (hm:P.follows .mixedOrders=true) (wr:Bool) (stops:List Nat) {q:Nat->Value} {pins:List Nat} {oks:List AT} {kds:List RK} (ts:List Ty) (path:List Bool) {k:List Item} {ds:List aY} {us:List (Option BD)} {C:Prop}
  (hc:C) (h:aX1 (VN tab ext wr n stops 2000 pins oks kds ts fn.results path k E L)=(some (ds,us),C)):YI P f (Jm kds oks ds us pins q K) n K q pins k E L:=by
 cases hr:VN tab ext wr n stops 2000 pins oks kds ts fn.results path k E L with
 | none=>rw [hr] at h;cases h
 | some y =>
  obtain ⟨d1,u1,cs⟩:=y;rw [hr] at h;cases h;exact YI.fin hf hT hX hm hr hc
end
end Go.Am
