/- Several texts in one: the functions that this law reaches, and their laws. -/
import Derived.Test.YthmimdpgkcadnaaZ3A
import Derived.Test.YthmimdpgkcadnaaZ3B
import Derived.ProofKit
import Derived.Carry
import Derived.HandedShaped
import Derived.Stop.Joined
import Derived.Lib.Repeat
import Derived.Laws.AppendOwn
import Derived.Sort.Row
import Derived.Sort.Grow
import Derived.Lib.Strings
import Derived.Lib.ItoaLen
import Derived.Lib.SplitLaws
import Derived.Lib.Join
import Derived.Lib.LaidTab
import Derived.Stop.LaidErr
import Derived.Laws.IdiomCopy
import Derived.Test.YthmimdpgkcadnaaRows
import Derived.KernelRfl
import Derived.Shelf.Vars
import Derived.WalkKit
import Derived.Lib.Walk
import Derived.Lib.SliceRun
import Derived.Laws.OwnMore
import Derived.Deep.LoopGhost
import Derived.Deep.OwnRows
import Derived.Deep.RegionLaw
import Derived.Deep.AppendLies
import Derived.Deep.Onto
import Derived.Shelf.RegionOpenPlain
import Derived.Laws.IdiomStrings
namespace Go.Am
set_option linter.unusedVariables false
set_option linter.unusedSimpArgs false
def capsA:(caps:List (Bool×Ty))→capsDen caps→List Atom
 | [],_=>[]
 | (true,t) :: r,x => .ptr t x.1 :: capsA r x.2
 | (false,t) :: r,x=>toAtom t x.1 :: capsA r x.2
def argA (k:Nat):(a:AT)→a.den→PV×Heap
 | .v t,x=>(.a (toAtom t x),[])
 | .p t,x=>(.a (.ptr t x),[])
 | .own t,xs=>(.a (.osl k none),[some ⟨t,xs,false,none,none⟩])
 | .pb t,x=>(.a (.optr k 0 []),[some ⟨t,[x],true,none,some true⟩])
 | .po t,x=>match expl k t x with
  | (ls,es)=>(.a (.bptr (k+es.length) 0 t),es++[some ⟨t,[],false,some ls,none⟩])
 | .sv t,x=>match expl k t x with
  | (ls,es)=>(.a (.rcd t ls),es)
 | .fn f caps,x=>(.fn f (capsA caps x),[])
 | .fns fs,_=>(.a (.sl .fn (fs.map some)),[])
def entE:Nat→Nat→(sig:List AT)→sigDen sig→Env
 | _,_,[],_=>[]
 | i,k,a :: r,x=>match argA k a x.1 with
  | (p,es)=>(i,p) :: entE (i+1) (k+es.length) r x.2
def entH:Nat→(sig:List AT)→sigDen sig→Heap
 | _,[],_=>[]
 | k,a :: r,x=>match argA k a x.1 with
  | (_,es)=>es++entH (k+es.length) r x.2
def entL (sig:List AT) (x:sigDen sig):Heap:=entH 0 sig x
def pinsOf:Nat→List AT→List Nat
 | _,[]=>[]
 | i,a :: r=>match isOwn a with
  | true=>i :: pinsOf (i+1) r
  | false=>pinsOf (i+1) r
def wfCaps:(caps:List (Bool×Ty))→capsDen caps→Prop
 | [],_=>True
 | (_,t) :: r,x=>Wf t x.1∧wfCaps r x.2
def wfA:(a:AT)→a.den→Prop
 | .v t,x=>Wf t x
 | .p t,x=>Wf t x
 | .own t,xs=>Wf (.sl t) xs
 | .pb t,x=>Wf t x
 | .po t,x=>Wf t x
 | .sv t,x=>Wf t x
 | .fn _ caps,x=>wfCaps caps x
 | .fns _,_=>True
def wfSig:(sig:List AT)→sigDen sig→Prop
 | [],_=>True
 | a :: r,x=>wfA a x.1∧wfSig r x.2
section
variable {P:Program} {n:Nat} {K:Ctx} {G:Nat→Prop} {w0 w:World} {a:Act} {V:Nat→Value} {own:Nat→List Nat} {f:FuncId} {R:Ending→World→Prop} {E:Env} {L:Heap}
theorem repB_wf {G:Nat→Prop} {t:Ty} {x:t.den} {v:Value} (h:RepB w G (toAtom t x) v):Wf t x:=by
 cases t with
 | int k=>exact h.2
 | bool=>trivial
 | fn=>trivial
 | str=>exact h.2
 | sl e=>exact wf_slAt (fun _ _=>RepC.wf) h
 | unit=>trivial
 | cons a b=>obtain ⟨cs,_,h⟩:=h;exact h.wf
theorem ptr_wf {G:Nat→Prop} {t:Ty} {x:t.den} {v:Value} (h:PtrAt w G t x v):Wf t x:=by
 obtain ⟨_,_,_,_,_,_,h⟩:=h
 exact h.wf
theorem caps_wf {G:Nat→Prop}:∀ {caps:List (Bool×Ty)} {x:capsDen caps} {vs:List Value},CapsRep w G caps x vs→wfCaps caps x
 | [],_,_,_=>trivial
 | (true,t) :: r,x,vs,⟨_,_,_,h,h2⟩=>⟨ptr_wf h,caps_wf h2⟩
 | (false,t) :: r,x,vs,⟨_,_,_,h,h2⟩=>⟨repB_wf h,caps_wf h2⟩
theorem argsK_wf {G G0:Nat→Prop}:∀ {sig:List AT} {x:sigDen sig} {vs:List Value} {bss:List (List Nat)},ArgsK w G G0 sig x vs bss→wfSig sig x
 | [],_,_,_,_=>trivial
 | a :: r,x,vs,bss,⟨_,_,_,_,_,_,h,h2⟩=>by
  refine ⟨?_,argsK_wf h2⟩
  cases a with
  | v t=>exact repB_wf h.2
  | p t=>exact ptr_wf h.2
  | own t=>exact OwnC.wf h
  | pb t=>obtain ⟨b,off,_,h⟩:=h;exact (EntC.wf h).2 _ (List.mem_singleton.2 rfl)
  | po t=>obtain ⟨b,off,_,h⟩:=h;exact (wf_ownSl (fun _ _ _=>OwnC.wf) h).2 _ (List.mem_singleton.2 rfl)
  | sv t=>obtain ⟨cs,_,h⟩:=h;exact h.wf
  | fn g caps=>obtain ⟨_,_,_,h⟩:=h;exact caps_wf h
  | fns _=>trivial
theorem args_wf {G:Nat→Prop} {sig:List AT} {x:sigDen sig} {vs:List Value} {bss:List (List Nat)} (h:ArgsRep w G sig x vs bss):wfSig sig x:=argsK_wf h
theorem repA_ofB {t:Ty} {x:t.den} {v:Value} (h:RepB w0 G (toAtom t x) v):RepA w0 G L V (toAtom t x) v:=by
 cases t <;> exact h
theorem caps_rep:∀ {caps:List (Bool×Ty)} {x:capsDen caps} {vs:List Value},CapsRep w0 G caps x vs→RepAs w0 G L V (capsA caps x) vs
 | [],_,_,h=>h
 | (true,t) :: r,x,vs,⟨v,s,h1,h,h2⟩=>⟨v,s,h1,h,caps_rep h2⟩
 | (false,t) :: r,x,vs,⟨v,s,h1,h,h2⟩=>⟨v,s,h1,repA_ofB h,caps_rep h2⟩
theorem arg_spec (hR:RelV n K w G w a E L V own) {o:AT} {x:o.den} {v:Value} {bs:List Nat} (h:ArgRep w G K.G0 o x v bs) (hn:bs.Nodup) (hg:∀ b∈bs,Out K G b) (hd:∀ r A,hget L r=some A→∀ b∈own r,b ∉ bs) :
  ∃ V' own',RelV n K w G w a E (L++(argA L.length o x).2) V' own'∧Grown L (argA L.length o x).2 V V' own own' bs∧RepP w G (L++(argA L.length o x).2) V' (argA L.length o x).1 v:=by
 cases o with
 | v t =>
  exact ⟨V,own,by simpa [argA] using hR,Grown.refl _ _ _,repA_ofB h.2⟩
 | p t =>
  exact ⟨V,own,by simpa [argA] using hR,Grown.refl _ _ _,h.2⟩
 | fns fs =>
  exact ⟨V,own,by simpa [argA] using hR,Grown.refl _ _ _,repA_ofB (L:=L++[]) (V:=V) (t := .sl .fn) (x:=fs.map some) h.2⟩
 | fn f caps =>
  obtain ⟨_,vs,hv,hh⟩:=h
  exact ⟨V,own,by simpa [argA] using hR,Grown.refl _ _ _,vs,hv,caps_rep hh⟩
 | own t =>
  have hE:EntC w G w ⟨t,x,false,none,none⟩ v bs:=EntC.own.2 h
  obtain ⟨h1,h2⟩:=grow_one hR hE hn hg hd
  exact ⟨_,_,h1,h2,repA_new (w0:=w) (G:=G) (u:=w) (G':=G) hE⟩
 | pb t =>
  obtain ⟨b,off,rfl,hE0⟩:=h
  have hE:EntC w G w ⟨t,[x],true,none,some true⟩ (.slice (some ⟨b,off,none⟩) 1 1) bs:=EntC.keepG (A:=⟨t,[x],true,none,none⟩) hR.gsub (fun _ _=>rfl) (fun _ _=>rfl) hE0
  obtain ⟨h1,h2⟩:=grow_one hR hE hn hg hd (hsm:=fun q hq=>⟨⟨b,off,rfl⟩,fun _=>⟨rfl,hE0⟩⟩)
  refine ⟨_,_,h1,h2,⟨t,[x],true,none,some true⟩,hget_new _ _,by simp,b,off,1,1,0,t,upd1_same _ _ _,rfl,by simp⟩
 | po t =>
  obtain ⟨b,off,rfl,hO⟩:=h
  rcases hO.2 with ⟨_,h1,_,_⟩ | ⟨b2,off2,cap,cur,ty,fz,bss,h1,h2,h3,h4,h5,h6,h7,h8,h9⟩
  ·cases h1
  ·simp only [Value.slice.injEq,Option.some.injEq,Addr.mk.injEq] at h1
   obtain ⟨⟨q1,q2,_⟩,_,q3⟩:=h1
   subst q1 q2 q3
   obtain ⟨bi,rfl⟩:∃ bi,bss=[bi]:=by
    match bss,h7 with
    | [bi],_=>exact ⟨bi,rfl⟩
   obtain ⟨cs,g1,g2,g3⟩:=h9 0 x bi rfl rfl
   have hcells:CellsAt w b off cs:=fun j c hj=>by
    simp only [World.cell?, h5]
    have:=g2 j c hj
    simpa using this
   have h8:bs=b :: bi:=by rw [h8];simp
   subst h8
   obtain ⟨hb,hni⟩:=List.nodup_cons.1 hn
   obtain ⟨V1,own1,r1,k1,l1,n1⟩:=expl_spec hR g3 hni (fun c hc=>hg c (List.mem_cons_of_mem _ hc)) (fun r A hA c hc hm=>hd r A hA c hc (List.mem_cons_of_mem _ hm))
   have hE:EntC w G w ⟨t,[],false,some (expl L.length t x).1,none⟩ (.slice (some ⟨b,off,none⟩) 0 1) [b] :=
    ⟨by simp [maxLen],.inr ⟨b,off,1,cur,ty,fz,[],rfl,Nat.zero_le _,h3,h4,h5,h6,rfl,rfl,fun i y bi hy=>by simp at hy⟩⟩
   have hap:=k1.apart (rest:=[b]) (fun r A hA c hc hm=>hd r A hA c hc (by rw [List.mem_singleton.1 hm];exact List.mem_cons_self ..)) (fun c hc hm=>hb (by rw [← List.mem_singleton.1 hm];exact hc))
   obtain ⟨h10,h11⟩:=grow_one r1 hE (by simp) (fun c hc=>by rw [List.mem_singleton.1 hc];exact hg b (List.mem_cons_self ..)) hap (hbox:=fun l hl=>by cases hl;exact ⟨b,off,cs,rfl,g1,n1,hcells,l1⟩)
   have e2:(argA L.length (.po t) x).2=(expl L.length t x).2++[some ⟨t,[],false,some (expl L.length t x).1,none⟩]:=rfl
   have e1:(argA L.length (.po t) x).1 = .a (.bptr (L.length+(expl L.length t x).2.length) 0 t):=rfl
   rw [e1,e2, ← List.append_assoc]
   have hlen:(L++(expl L.length t x).2).length=L.length+(expl L.length t x).2.length:=by simp
   refine ⟨_,_,h10,k1.trans h11 (fun c hc=>List.mem_cons_of_mem _ hc) (fun c hc=>by rw [List.mem_singleton.1 hc];exact List.mem_cons_self ..),?_⟩
   rw [← hlen]
   exact ⟨_,_,b,off,hget_new _ _,rfl,upd1_same _ _ _,rfl,by simp⟩
 | sv t =>
  obtain ⟨cs,rfl,ho⟩:=h
  obtain ⟨V1,own1,r1,k1,l1,n1⟩:=expl_spec hR ho hn hg hd
  exact ⟨V1,own1,r1,k1,cs,rfl,n1,l1⟩
theorem ent_spec:∀ {sig:List AT} {x:sigDen sig} {vs:List Value} {bss:List (List Nat)} {L:Heap} {V:Nat→Value} {own:Nat→List Nat} {i:Nat},RelV n K w G w a E L V own→ArgsK w G K.G0 sig x vs bss→bss.flatten.Nodup→(∀ b∈bss.flatten,Out K G b)→(∀ r A,hget L r=some A→∀ b∈own r,b ∉ bss.flatten) →
  (∀ j v,vs[j]? = some v→a.tmps.getD (i+j) undef=v) →
  ∃ V' own',RelV n K w G w a E (L++entH L.length sig x) V' own'∧(∀ r,(∃ B,hget L r=some B)→Agree L V (L++entH L.length sig x) V' r)∧∀ j,RepP w G (L++entH L.length sig x) V' ((entE i L.length sig x).get j) (a.tmps.getD j undef)
 | [],x,vs,bss,L,V,own,i,hR,_,_,_,_,_=>⟨V,own,by simpa [entH] using hR,fun r _=>Agree.of_same rfl (by simp [entH]),fun j=>trivial⟩
 | o :: sig,x,vs,bss,L,V,own,i,hR,⟨v,s,b,bs,h1,h2,h,h3⟩,hn,hg,hd,ht=>by
  subst h1 h2
  obtain ⟨hn1,hn2,hn3⟩:=nodup_flatten_cons hn
  obtain ⟨V1,own1,r1,g1,p1⟩:=arg_spec hR h hn1 (fun c hc=>hg c (by simp [hc])) (fun r A hA c hc hm=>hd r A hA c hc (by simp [hm]))
  have hlen:(L++(argA L.length o x.1).2).length=L.length+(argA L.length o x.1).2.length:=by simp
  obtain ⟨V2,own2,r2,a2,p2⟩:=ent_spec (i:=i+1) r1 h3 hn2 (fun c hc=>hg c (by rw [List.flatten_cons];exact List.mem_append_right _ hc)) (g1.apart (fun r A hA c hc hm=>hd r A hA c hc (by rw [List.flatten_cons];exact List.mem_append_right _ hm)) hn3) (fun j u hj=>by
   have:=ht (j+1) u (by simpa using hj)
   rwa [show i+(j+1)=i+1+j from by omega] at this)
  rw [hlen] at r2 a2 p2
  have e1:entH L.length (o :: sig) x=(argA L.length o x.1).2++entH (L.length+(argA L.length o x.1).2.length) sig x.2:=rfl
  have e2:entE i L.length (o :: sig) x=(i,(argA L.length o x.1).1) :: entE (i+1) (L.length+(argA L.length o x.1).2.length) sig x.2:=rfl
  rw [e1,e2, ← List.append_assoc]
  refine ⟨V2,own2,r2,fun r hr => ?_,fun j => ?_⟩
  ·have a1:=g1.agree r hr
   obtain ⟨B,hB⟩:=hr
   obtain ⟨B',hB',_⟩:=a1.2 B hB
   exact a1.trans (a2 r ⟨B',hB'⟩)
  ·simp only [Env.get]
   cases hij:Nat.beq i j with
   | true =>
    obtain rfl:=Nat.eq_of_beq_eq_true hij
    simp only [cond_true]
    have:=ht 0 v rfl
    rw [Nat.add_zero] at this
    rw [this]
    exact repP_agree p1 fun r hr=>a2 r (repP_live p1 r hr)
   | false =>
    simp only [cond_false]
    exact p2 j
theorem own_vals {G G0:Nat→Prop}:∀ {sig:List AT} {x:sigDen sig} {vs:List Value} {bss:List (List Nat)} {i:Nat} {q:Nat→Value},ArgsK w G G0 sig x vs bss→(∀ j v,vs[j]? = some v→q (i+j)=v)→ownVals sig vs=(pinsOf i sig).map q
 | [],x,vs,bss,i,q,h,_=>by obtain ⟨rfl,rfl⟩:=h;rfl
 | a :: r,x,vs,bss,i,q,⟨v,s,b,bs,h1,h2,h,h3⟩,hq=>by
  subst h1 h2
  have h0:q i=v:=by have:=hq 0 v rfl;simpa using this
  have ih:=own_vals (i:=i+1) (q:=q) h3 (fun j u hj=>by have:=hq (j+1) u (by simpa using hj);rw [show i+1+j=i+(j+1) by omega];exact this)
  cases a with
  | v t=>exact ih
  | p t=>exact ih
  | fn g caps=>exact ih
  | fns _=>exact ih
  | own t=>simp only [ownVals,pinsOf,isOwn,List.map_cons,h0,ih]
  | pb t=>simp only [ownVals,pinsOf,isOwn,List.map_cons,h0,ih]
  | po t=>simp only [ownVals,pinsOf,isOwn,List.map_cons,h0,ih]
  | sv t=>simp only [ownVals,pinsOf,isOwn,List.map_cons,h0,ih]
def PostR (kds:List RK) (oks:List AT) (ds:List Dyn) (us:List (Option Lst)) (pins:List Nat) (q:Nat→Value) (K:Ctx) (e:Ending) (w':World):Prop :=
 PostC K.w0 K.O K.Ga K.G0 kds ds oks us (pins.map q) e w'
theorem contract_of {fn:Func} {c:Code} {S:Spec} (hf:P.funcs[f]? = some fn) (hb:fn.body=some c) (hl:S.sig.length≤fn.ntmps)
  (h:∀ x,S.pre x→wfSig S.sig x→∀ K q,AtV P f (PostR S.kds (owns S.sig) (S.res x) (S.upd x) (pinsOf 0 S.sig) q K) fn.ntmps K q (pinsOf 0 S.sig) [.code c] (entE 0 0 S.sig x) (entL S.sig x)):Contract P f S:=by
 intro w G G0 x vs bss hgo hG hG0 hpre hargs hnd
 have hlen:=args_len hargs
 have hget0:∀ j v,vs[j]? = some v→(vs.toArray++Array.replicate (fn.ntmps - vs.toArray.size) undef).getD j undef=v:=fun j v hj=>by
  have hlt:=(List.getElem?_eq_some_iff.1 hj).1
  rw [Array.getD_eq_getD_getElem?, Array.getElem?_append_left (by simpa using hlt)]
  simp [hj]
 let q:Nat→Value:=fun i=>(vs.toArray++Array.replicate (fn.ntmps - vs.toArray.size) undef).getD i undef
 let K:Ctx:=⟨w,bss.flatten,G0,G⟩
 let a0:Act:={ tmps:=vs.toArray++Array.replicate (fn.ntmps - vs.toArray.size) undef,defers:=[] }
 have hov:ownVals S.sig vs=(pinsOf 0 S.sig).map q:=own_vals hargs (fun j v hj=>by rw [Nat.zero_add];exact hget0 j v hj)
 have h0:RelV fn.ntmps K w G w a0 [] [] (fun _=>undef) (fun _=>[]):=by
  refine ⟨hgo,Kept.refl _ _,?_,rfl,fun b hb=>(hG b hb).1,fun _ _=>rfl,hG0,fun b hb=>hG b (hG0 b hb),fun b hb => .inl hb,(fun r A hr=>by cases hr),(fun r A hr=>by cases hr),(fun r A hr=>by cases hr),(fun r s A B hr=>by cases hr),(fun r A ls hr=>by cases hr),(fun r A q hr=>by cases hr),fun i=>trivial⟩
  show (vs.toArray++Array.replicate (fn.ntmps - vs.toArray.size) undef).size=fn.ntmps
  simp [hlen];omega
 obtain ⟨V,own,h1,_,h2⟩:=ent_spec (i:=0) h0 hargs hnd (fun b hb=>⟨fun h=>h.2 hb,fun h=>(hG b h).2 hb⟩) (fun r A hr=>by cases hr) (fun j v hj=>by rw [Nat.zero_add];exact hget0 j v hj)
 have h3:RelV fn.ntmps K w G w a0 (entE 0 0 S.sig x) (entL S.sig x) V own:={ h1 with env:=fun i=>h2 i }
 refine (calls_of_run hf hb (h x hpre (argsK_wf hargs) K q a0 w w G V own h3 (fun t ht=>rfl))).mono ?_
 intro e w' hp
 rw [hov]
 exact hp
def updOne (L:Heap):AT→PV→Option (Lst×List Nat)
 | .own t,.a (.osl k none)=>match hget L k with
  | some A=>match A.bor with
   | false=>some (⟨A.t,A.xs⟩,[k])
   | true=>none
  | none=>none
 | .pb t,.a (.optr k 0 [])=>match hget L k with
  | some A=>match A.sm with
   | some true=>if h:A.t=t then (match one1 (castL h A.xs) with | some x=>some (⟨t,[x]⟩,[k]) | none=>none) else none
   | _=>none
  | none=>none
 | .po t,.a A=>match decPo L t A with
  | some (x,us)=>some (⟨t,[x]⟩,us)
  | none=>none
 | .sv t,.a A=>match decSv L t A with
  | some (x,us)=>some (⟨t,[x]⟩,us)
  | none=>none
 | _,_=>none
def updO (E:Env) (L:Heap) (gone:List Nat):List Nat→List AT→List (Option Lst)×List Nat
 | i :: r,o :: os=>match updO E L gone r os with
  | (us,rs)=>match updOne L o (E.get i) with
   | some (A,ks)=>match disjB ks gone with
    | true=>(some A :: us,ks++rs)
    | false=>(none :: us,rs)
   | none=>(none :: us,rs)
 | _ :: r,[]=>(none :: (updO E L gone r []).1,[])
 | [],_=>([],[])
theorem updOne_spec (hR:RelV n K w0 G w a E L V own) {o:AT} {p:PV} {A:Lst} {ks:List Nat} {v:Value} (hp:RepP w0 G L V p v) (h:updOne L o p=some (A,ks)):UpdOne w K.G0 o A v (ks.map own).flatten∧∀ r∈ks,∃ B,hget L r=some B:=by
 unfold updOne at h
 split at h
 ·rename_i t k
  split at h
  ·rename_i B hB
   split at h
   ·rename_i hbor
    cases h
    obtain ⟨B',hB',h1,_⟩:=hp
    rw [hB] at hB';cases hB'
    have hE:=hR.heap k B hB
    obtain ⟨tB,xB,bB,lB,sB⟩:=B
    simp only at hbor
    subst hbor
    refine ⟨?_,fun r hr=>by rw [List.mem_singleton.1 hr];exact ⟨_,hB⟩⟩
    rw [h1 rfl]
    simp only [List.map_cons,List.map_nil,List.flatten_cons,List.flatten_nil,List.append_nil]
    exact EntC.own.1 hE
   ·cases h
  ·cases h
 ·rename_i t k
  split at h
  ·rename_i B hB
   split at h
   ·rename_i hsm
    split at h
    ·rename_i ht
     split at h
     ·rename_i x hx
      cases h
      obtain ⟨B',hB',hi,b,off,m,cap,po,t',hv,hpp,rfl⟩:=hp
      rw [hB] at hB';cases hB'
      simp only [pathOff,Option.some.injEq,Prod.mk.injEq] at hpp
      obtain ⟨rfl,rfl⟩:=hpp
      obtain ⟨⟨b1,off1,hv1⟩,hsm2⟩:=hR.small k B true hB hsm
      obtain ⟨hbor,hE⟩:=hsm2 rfl
      obtain ⟨tB,xB,bB,lB,sB⟩:=B
      simp only at hbor ht
      subst ht
      have hy:xB=[x]:=one1_eq hx
      subst hbor hy
      rw [hv1] at hv hE
      cases hv
      refine ⟨⟨x,rfl,b,off,by simp,?_⟩,fun r hr=>by rw [List.mem_singleton.1 hr];exact ⟨_,hB⟩⟩
      simp only [List.map_cons,List.map_nil,List.flatten_cons,List.flatten_nil,List.append_nil]
      exact EntC.keepG (A:=⟨tB,[x],true,none,none⟩) (fun _ h=>h) (fun c hc=>hR.gref c (hR.gsub c hc)) (fun _ _=>rfl) hE
     ·cases h
    ·cases h
   ·cases h
  ·cases h
 ·rename_i t A1
  split at h
  ·rename_i x us hpo
   cases h
   obtain ⟨h1,h2,_⟩:=decPo_rep hR (Kept.refl _ _) hp hpo
   exact ⟨⟨x,rfl,h1⟩,h2⟩
  ·cases h
 ·rename_i t A1
  split at h
  ·rename_i x us hsv
   cases h
   obtain ⟨h1,h2⟩:=decSv_rep hR (Kept.refl _ _) hp hsv
   exact ⟨⟨x,rfl,h1⟩,h2⟩
  ·cases h
 ·cases h
theorem updO_spec {q:Nat→Value} {gone:List Nat} (hR:RelV n K w0 G w a E L V own):∀ {ps:List Nat} {os:List AT},ps.length≤os.length→(∀ t∈ps,a.tmps.getD t undef=q t) →
  ∃ ubs,UpdK w K.G0 os (updO E L gone ps os).1 (ps.map q) ubs∧ubs.flatten=((updO E L gone ps os).2.map own).flatten∧∀ r∈(updO E L gone ps os).2,∃ B,hget L r=some B
 | [],os,_,_=>⟨[],by cases os <;> exact ⟨rfl,rfl⟩,by cases os <;> rfl,fun r hr=>by cases os <;> cases hr⟩
 | i :: ps,[],hl,_=>by simp at hl
 | i :: ps,o :: os,hl,hq=>by
  obtain ⟨ubs,h1,h2,h3⟩:=updO_spec hR (ps:=ps) (os:=os) (by simpa using hl) (fun t ht=>hq t (List.mem_cons_of_mem _ ht))
  simp only [updO]
  have skip:∃ ubs,UpdK w K.G0 (o :: os) (none :: (updO E L gone ps os).1) ((i :: ps).map q) ubs∧ubs.flatten=((updO E L gone ps os).2.map own).flatten∧∀ r∈(updO E L gone ps os).2,∃ B,hget L r=some B :=
   ⟨[] :: ubs,⟨_,_,_,rfl,rfl,h1⟩,by simpa using h2,h3⟩
  split
  ·rename_i A ks hk
   split
   ·have hv:=hR.env i
    rw [hq i (List.mem_cons_self ..)] at hv
    obtain ⟨g1,g2⟩:=updOne_spec hR hv hk
    refine ⟨(ks.map own).flatten :: ubs,⟨_,_,_,_,rfl,rfl,g1,h1⟩,by simp [h2],fun r hr => ?_⟩
    rcases List.mem_append.1 hr with hr | hr
    ·exact g2 r hr
    ·exact h3 r hr
   ·exact skip
  ·exact skip
def decO (L:Heap):(t:Ty)→Atom→Option (t.den×List Nat)
 | .sl e,.osl r none=>match hget L r with
  | some A=>match A.bor with
   | true=>none
   | false=>if h:A.t=e then some (castL h A.xs,[r]) else none
  | none=>none
 | .sl e,.osl r (some (lo,hi))=>match hget L r with
  | some A=>match e.flat && !A.bor with
   | true=>if h:A.t=e then some (rgL (some (lo,hi)) (castL h A.xs),[r]) else none
   | false=>none
  | none=>none
 | .sl e,.val (.slice none _ _)=>some ([],[])
 | t,.rcd t' ls=>match decide (t'=t),t.agg with
  | true,true=>ownLs L t ls
  | _,_=>none
 | t,A=>match t.flat with
  | true=>match decB t A with
   | some x=>some (x,[])
   | none=>none
  | false=>none
def decK (L:Heap):RK→(t:Ty)→Atom→Option (t.den×List Nat)
 | .own,t,A=>decO L t A
 | .frz,t,A=>match decB t (stAtom A) with
  | some x=>some (x,[])
  | none=>none
 | .bx,t,A=>match decPb L t A with
  | some (x,us)=>some (x,us)
  | none=>none
def cellA (tab:List TI) (L:Heap) (T:TypeId) (A:Atom):Option Atom :=
 match (tabGet tab T).ty with
 | some t=>loadA L t A
 | none=>none
def finA (tab:List TI) (E:Env) (L:Heap):List RK→List Ty→List ResultVar→Option (List Dyn×List Nat)
 | _,[],[]=>some ([],[])
 | ks,t :: ts,.tmp i :: r=>match E.get i with
  | .a A=>match decK L (RK.hd ks) t A,finA tab E L ks.tail ts r with
   | some (x,us),some (ds,vs)=>some (⟨t,x⟩ :: ds,us++vs)
   | _,_=>none
  | _=>none
 | ks,t :: ts,.cell i T :: r=>match E.get i with
  | .a A=>match cellA tab L T A with
   | some B=>match decK L (RK.hd ks) t B,finA tab E L ks.tail ts r with
    | some (x,us),some (ds,vs)=>some (⟨t,x⟩ :: ds,us++vs)
    | _,_=>none
   | none=>none
  | _=>none
 | _,_,_=>none
def frzF (tab:List TI) (E:Env) (L:Heap):List RK→List ResultVar→List Nat
 | .frz :: ks,.tmp i :: r=>(match E.get i with
  | .a A=>refA A
  | _=>[])++frzF tab E L ks r
 | .frz :: ks,.cell i T :: r=>(match E.get i with
  | .a A=>match cellA tab L T A with
   | some B=>refA B
   | none=>[]
  | _=>[])++frzF tab E L ks r
 | _ :: ks,_ :: r=>frzF tab E L ks r
 | _,_=>[]
theorem isVal_of {t:Ty} {cs:List Value} (hl:cs.length=t.size):IsVal t cs (valOf t cs):=by
 cases t <;> simp only [IsVal,valOf,Ty.agg,if_true,if_false,Bool.false_eq_true]
 all_goals (match cs,hl with | [c],_=>rfl)
theorem cell_run {T:TypeId} {u v:Value} (h:(Instr.loadAt T u).run P w = .ok v w):(do loadVar T (← asAddr u):Sem Value).run P w = .ok v w:=by
 cases u with
 | pointer a =>
  cases a with
  | none=>simp [Instr.loadAt,Instr.sureAddr] at h
  | some a=>simpa [Instr.loadAt,Instr.sureAddr,asAddr] using h
 | _=>simp [Instr.loadAt,Instr.sureAddr] at h
theorem decO_flat (hR:RelV n K w0 G w a E L V own) {t:Ty} {A:Atom} {x:t.den} {us:List Nat} {v:Value} (hv:RepA w0 G L V A v) (h:(match t.flat with | true=>(match decB t A with | some x=>some (x,([]:List Nat)) | none=>none) | false=>none)=some (x,us)) :
  us=[]∧∃ cs,OwnC w t x cs []∧IsVal t cs v:=by
 split at h
 ·rename_i hf
  split at h
  ·rename_i y hd
   cases h
   obtain ⟨cs,hv,_,_,hent⟩:=entR_of_decB (repB_of_decB hv hd) hd false (fun _=>hf)
   exact ⟨rfl,cs,hent w,by rw [hv];exact isVal_of (OwnC.length (hent w))⟩
  ·cases h
 ·cases h
theorem decO_spec (hR:RelV n K w0 G w a E L V own) {t:Ty} {A:Atom} {x:t.den} {us:List Nat} {v:Value} (hv:RepA w0 G L V A v) (h:decO L t A=some (x,us)) :
  (∃ cs,OwnC w t x cs (us.map own).flatten∧IsVal t cs v)∧∀ r∈us,∃ B,hget L r=some B:=by
 unfold decO at h
 split at h
 ·rename_i e r
  have h':slW L e (.osl r none)=some (x,us):=h
  obtain ⟨h1,h2⟩:=slW_rep hR (l := .osl r none) (v:=v) hv h'
  exact ⟨⟨[v],h1,rfl⟩,h2⟩
 ·rename_i e r lo hi
  have h':slW L e (.osl r (some (lo,hi)))=some (x,us):=h
  obtain ⟨h1,h2⟩:=slW_rep hR (l := .osl r (some (lo,hi))) (v:=v) hv h'
  exact ⟨⟨[v],h1,rfl⟩,h2⟩
 ·rename_i e n c
  cases h
  obtain ⟨rfl,hn,hc⟩:=hv
  subst hn hc
  exact ⟨⟨_,⟨_,rfl,by simp [maxLen],.inl ⟨_,rfl,rfl,rfl⟩⟩,rfl⟩,fun r hr=>by cases hr⟩
 ·rename_i t' ls
  split at h
  ·rename_i ht ha
   obtain rfl:=of_decide_eq_true ht
   obtain ⟨cs,rfl,hl,hr⟩:=hv
   obtain ⟨h1,h2⟩:=ownLs_rep hR hr h
   refine ⟨⟨cs,h1,?_⟩,h2⟩
   have:=isVal_of h1.length
   rwa [valOf,if_pos ha] at this
  ·cases h
 ·obtain ⟨rfl,cs,h1,h2⟩:=decO_flat hR hv h
  exact ⟨⟨cs,by simpa using h1,h2⟩,fun r hr=>by cases hr⟩
def NewG (K:Ctx) (G:Nat→Prop) (b:Nat):Prop:=G b∧¬ Good K.w0 K.O b
theorem decK_spec (hR:RelV n K w0 G w a E L V own) {k:RK} {t:Ty} {A:Atom} {x:t.den} {us:List Nat} {v:Value} (hv:RepA w0 G L V A v) (h:decK L k t A=some (x,us)) :
  ResOne w K.Ga (NewG K G) k ⟨t,x⟩ v (us.map own).flatten∧∀ r∈us,∃ B,hget L r=some B:=by
 have hup:∀ b,G b→K.Ga b∨NewG K G b:=fun b hb=>(hR.gup b hb).imp_right fun h=>⟨hb,h⟩
 cases k with
 | own=>exact decO_spec hR hv h
 | frz =>
  simp only [decK] at h
  split at h
  ·rename_i y hd
   cases h
   obtain ⟨cs,hr,hvv⟩:=decB_spec (repB_of_decB (stAtom_rep hv) hd) hd
   refine ⟨⟨rfl,cs,hr.keep hup hR.gref,?_⟩,fun r hr=>by cases hr⟩
   rw [hvv]
   exact isVal_of hr.length
  ·cases h
 | bx =>
  simp only [decK] at h
  split at h
  ·rename_i y us' hd
   cases h
   obtain ⟨⟨b,off,h1,h2⟩,r,B,b',off',e1,_,e3,_⟩:=decPb_rep (q:=false) hR (Kept.refl _ _) hv hd (fun h=>by cases h)
   refine ⟨⟨b,off,h1,EntC.keepG (A:=⟨t,[x],true,none,none⟩) (fun c hc=>hup c hc) (fun _ _=>rfl) (fun _ _=>rfl) h2⟩,fun s hs => ?_⟩
   rw [e1] at hs
   rw [List.mem_singleton.1 hs]
   exact ⟨B,e3⟩
  ·cases h
theorem finA_spec {tab:List TI} (hT:TabOk P tab) (hR:RelV n K w0 G w a E L V own):∀ {ks:List RK} {ts:List Ty} {rv:List ResultVar} {ds:List Dyn} {us:List Nat},finA tab E L ks ts rv=some (ds,us) →
  ∃ rs bss,(rv.mapM fun x=>(match x with | .tmp t=>pure (a.tmps.getD t undef) | .cell b t=>do loadVar t (← asAddr (a.tmps.getD b undef)):Sem Value)).run P w = .ok rs w∧rs.length=rv.length∧ResK w K.Ga (NewG K G) ks ds rs bss∧bss.flatten=(us.map own).flatten∧∀ r∈us,∃ B,hget L r=some B
 | ks,[],[],ds,us,h=>by
  have h':ds=[]∧us=[]:=by cases ks <;> (cases h;exact ⟨rfl,rfl⟩)
  obtain ⟨rfl,rfl⟩:=h'
  exact ⟨[],[],by simp,rfl,by cases ks <;> exact ⟨rfl,rfl⟩,rfl,fun r hr=>by cases hr⟩
 | ks,t :: ts,.tmp i :: rv,ds,us,h=>by
  simp only [finA] at h
  split at h
  ·rename_i A hA
   split at h
   ·rename_i x u ds' vs hd hf
    cases h
    have hv:RepA w0 G L V A (a.tmps.getD i undef):=by
     have:=hR.env i
     rw [hA] at this
     exact this
    obtain ⟨h1,h3⟩:=decK_spec hR hv hd
    obtain ⟨rs,bss,g1,g2,g3,g4,g5⟩:=finA_spec hT hR hf
    refine ⟨a.tmps.getD i undef :: rs,(u.map own).flatten :: bss,?_,by simp [g2],by cases ks <;> exact ⟨_,_,_,_,rfl,rfl,h1,g3⟩,?_,?_⟩
    ·rw [List.mapM_cons]
     simp only [Sem.run_bind,Sem.run_pure,Result.andThen_ok]
     rw [g1]
     rfl
    ·simp [g4]
    ·intro r hr
     rcases List.mem_append.1 hr with hr | hr
     ·exact h3 r hr
     ·exact g5 r hr
   ·cases h
  ·cases h
 | ks,t :: ts,.cell i T :: rv,ds,us,h=>by
  simp only [finA] at h
  split at h
  ·rename_i A hA
   split at h
   ·rename_i B hB
    split at h
    ·rename_i x u ds' vs hd hf
     cases h
     have hv:RepA w0 G L V A (a.tmps.getD i undef):=by
      have:=hR.env i
      rw [hA] at this
      exact this
     unfold cellA at hB
     split at hB
     ·rename_i t0 ht0
      obtain ⟨v,hv',hrun⟩:=loadA_spec (P:=P) hR (TI.ty_ok (hT T) ht0) hv hB
      obtain ⟨h1,h3⟩:=decK_spec hR hv' hd
      obtain ⟨rs,bss,g1,g2,g3,g4,g5⟩:=finA_spec hT hR hf
      refine ⟨v :: rs,(u.map own).flatten :: bss,?_,by simp [g2],by cases ks <;> exact ⟨_,_,_,_,rfl,rfl,h1,g3⟩,?_,?_⟩
      ·have hc:=cell_run (hrun w (Kept.refl _ _))
       rw [List.mapM_cons,Sem.run_bind]
       refine (congrArg (fun r=>Result.andThen r _) hc).trans ?_
       simp only [Result.andThen_ok,Sem.run_bind]
       rw [g1]
       rfl
      ·simp [g4]
      ·intro r hr
       rcases List.mem_append.1 hr with hr | hr
       ·exact h3 r hr
       ·exact g5 r hr
     ·cases hB
    ·cases h
   ·cases h
  ·cases h
 | ks,[],_ :: _,_,_,h=>by cases ks <;> cases h
 | ks,_ :: _,[],_,_,h=>by cases ks <;> cases h
def runF (tab:List TI) (ext:Ext) (wr:Bool) (n:Nat) (stops:List Nat) (m:Nat) (pins:List Nat) (oks:List AT) (kds:List RK) (ts:List Ty) (rv:Array ResultVar) (path:List Bool) (k:List Item) (E:Env) (L:Heap):Option (List Dyn×List (Option Lst)×List Prop) :=
 match runA tab ext wr n stops m true k ⟨path,[],E,L,[],pins⟩ with
 | some (.fin S)=>match frzAll (frzF tab S.E S.L kds rv.toList) (S.E,S.L) with
  | (E1,L1)=>match finA tab E1 L1 kds ts rv.toList with
   | some (ds,us)=>match nodupB ((updO E1 L1 us pins oks).2++us)&&decide (S.pins=pins)&&Nat.ble pins.length oks.length with
    | true=>some (ds,(updO E1 L1 us pins oks).1,S.cs)
    | false=>none
   | none=>none
 | _=>none
def WeakU:List (Option Lst)→List (Option Lst)→Prop
 | [],[]=>True
 | u :: r,u' :: r'=>(u'=u∨u'=none)∧WeakU r r'
 | _,_=>False
theorem PostR.weak {kds:List RK} {oks:List AT} {ds:List Dyn} {us us':List (Option Lst)} {pins:List Nat} {q:Nat→Value} {K:Ctx} {e:Ending} {w':World} (h:PostR kds oks ds us pins q K e w') (hw:WeakU us us'):PostR kds oks ds us' pins q K e w':=by
 obtain ⟨rs,ubs,rbs,F,h1,h2,h3,h4,h5,h6,h7⟩:=h
 have key:∀ (us us':List (Option Lst)) (os:List AT) (vs:List Value) (ubs:List (List Nat)),WeakU us us'→UpdK w' K.G0 os us vs ubs→∃ nbs:List (List Nat),UpdK w' K.G0 os us' vs nbs∧nbs.flatten.Sublist ubs.flatten:=by
  intro us
  induction us with
  | nil =>
   intro us' os vs ubs hw h
   cases us' with
   | nil=>exact ⟨ubs,h,List.Sublist.refl _⟩
   | cons _ _=>cases hw
  | cons u r ih =>
   intro us' os vs ubs hw h
   cases us' with
   | nil=>cases hw
   | cons u' r' =>
    obtain ⟨hu,hw⟩:=hw
    cases os with
    | nil=>cases u <;> exact h.elim
    | cons o os =>
     cases u with
     | none =>
      obtain ⟨v,s,bs,rfl,rfl,h⟩:=h
      obtain ⟨nbs,g1,g2⟩:=ih _ _ _ _ hw h
      have:u'=none:=by rcases hu with h | h <;> exact h
      subst this
      exact ⟨[] :: nbs,⟨_,_,_,rfl,rfl,g1⟩,by simpa using g2⟩
     | some A =>
      obtain ⟨v,s,b,bs,rfl,rfl,h0,h⟩:=h
      obtain ⟨nbs,g1,g2⟩:=ih _ _ _ _ hw h
      rcases hu with rfl | rfl
      ·exact ⟨b :: nbs,⟨_,_,_,_,rfl,rfl,h0,g1⟩,by simpa using g2⟩
      ·exact ⟨[] :: nbs,⟨_,_,_,rfl,rfl,g1⟩,by simpa using g2.trans (List.sublist_append_right _ _)⟩
 obtain ⟨nbs,g1,g2⟩:=key _ _ _ _ _ hw h4
 have g3:(nbs.flatten++rbs.flatten).Sublist (ubs.flatten++rbs.flatten):=g2.append_right _
 refine ⟨rs,nbs,rbs,F,h1,h2,h3,g1,h5.sublist g3,fun b hb=>h6 b (g3.subset hb),fun b hb => ?_⟩
 obtain ⟨k1,k2,k3⟩:=h7 b hb
 exact ⟨k1,k2,fun hm=>k3 (g3.subset hm)⟩
theorem AtV.mono {R':Ending→World→Prop} {q:Nat→Value} {ps:List Nat} {k:List Item} (h:AtV P f R n K q ps k E L) (hm:∀ e w,R e w→R' e w):AtV P f R' n K q ps k E L:=by
 intro a w w0 G V own hR hq b cs hb hk
 obtain ⟨e,w',fr,h1,h2⟩:=h a w w0 G V own hR hq b cs hb hk
 exact ⟨e,w',fr,hm _ _ h1,h2⟩
theorem AtV.weak {kds:List RK} {oks:List AT} {ds:List Dyn} {us us':List (Option Lst)} {q:Nat→Value} {pins ps:List Nat} {k:List Item} (h:AtV P f (PostR kds oks ds us pins q K) n K q ps k E L) (hw:WeakU us us'):AtV P f (PostR kds oks ds us' pins q K) n K q ps k E L :=
 h.mono fun _ _ h=>h.weak hw
theorem AtV.fin {fn:Func} (hf:P.funcs[f]? = some fn) {tab:List TI} {ext:Ext} (hT:TabOk P tab) (hX:ExtOk P ext) (hm:P.follows .mixedOrders=true) {q:Nat→Value} {pins:List Nat} {oks:List AT} {kds:List RK} {wr:Bool} {stops:List Nat} {m:Nat} {ts:List Ty} {path:List Bool} {k:List Item} {ds:List Dyn} {us:List (Option Lst)} {cs:List Prop}
  (h:runF tab ext wr n stops m pins oks kds ts fn.results path k E L=some (ds,us,cs)) (hc:All cs):AtV P f (PostR kds oks ds us pins q K) n K q pins k E L:=by
 intro a w w0 G V own hR hq
 unfold runF at h
 split at h
 ·rename_i S hr
  split at h
  rename_i E1 L1 hfrz
  split at h
  ·rename_i ds' us' hfin
   split at h
   ·rename_i hnd
    simp only [Bool.and_eq_true,decide_eq_true_eq,Nat.ble_eq] at hnd
    obtain ⟨⟨hnd,hp⟩,hpl⟩:=hnd
    cases h
    refine runA_run hT hX hm hr hc hR ⟨fun t d ht=>by simp [lookB] at ht,hq⟩ ?_
    intro a' w' w1 G1 V' own' hR1 hq'
    rw [hp] at hq'
    obtain ⟨w2,G2,hR'⟩:=frzAll_spec (rs:=frzF tab S.E S.L kds fn.results.toList) hR1
    rw [hfrz] at hR'
    obtain ⟨rs,bss,g1,g2,g3,g4,g5⟩:=finA_spec (P:=P) hT hR' hfin
    obtain ⟨ubs,k1,k2,k3⟩:=updO_spec (gone:=us') hR' hpl hq'
    have hall:ubs.flatten++bss.flatten=(((updO E1 L1 us' pins oks).2++us').map own').flatten:=by rw [k2,g4,List.map_append,List.flatten_append]
    have hlive:∀ r∈(updO E1 L1 us' pins oks).2++us',∃ B,hget L1 r=some B:=fun r hr=>by
     rcases List.mem_append.1 hr with hr | hr
     ·exact k3 r hr
     ·exact g5 r hr
    have hout:∀ b∈ubs.flatten++bss.flatten,Am.Out K G2 b:=by
     intro b hb
     rw [hall] at hb
     obtain ⟨l,hl,hb⟩:=List.mem_flatten.1 hb
     obtain ⟨r,hr,rfl⟩:=List.mem_map.1 hl
     obtain ⟨B,hB⟩:=hlive r hr
     exact hR'.good r B hB b hb
    refine ⟨hR'.defers,fn,packV rs,hf,?_,rs,ubs,bss,NewG K G2,rfl,hR'.kept,g3,k1,?_,fun b hb=>(hout b hb).1,fun b hb=>⟨hR'.glt b hb.1,hb.2,fun hm=>(hout b hm).2 hb.1⟩⟩
    ·unfold results
     have hm':(fn.results.mapM fun x=>(match x with | .tmp t=>pure (a'.tmps.getD t undef) | .cell b t=>do loadVar t (← asAddr (a'.tmps.getD b undef)):Sem Value)).run P w' = .ok rs.toArray w':=by
      rw [show fn.results=fn.results.toList.toArray from rfl,List.mapM_toArray]
      simp only [map_eq_pure_bind,Sem.run_bind,g1,Result.andThen_ok,Sem.run_pure]
     simp only [Sem.run_bind]
     refine (congrArg (fun r=>Result.andThen r _) hm').trans ?_
     simp only [Result.andThen_ok,Sem.run_pure]
     congr 1
     match rs with
     | []=>rfl
     | [v]=>rfl
     | _ :: _ :: _=>simp [packV]
    ·rw [hall];exact own_nodup hR' (nodupB_spec hnd) hlive
   ·cases h
  ·cases h
 ·cases h
end
end Go.Am
namespace Go.Am
open Go.ChangeShapes Go.WideShapes Go.ChangeAt Go.RowKit
set_option linter.unusedVariables false
set_option linter.unusedSimpArgs false
def wrapB (P:Program) (agg:Bool) (T:TypeId) (k:TypeId ⊕ (List Field×Nat)→Bool):Bool :=
 match agg with
 | true=>match P.underlying T with
  | some (.struct fs)=>k (.inr (fs.toList,0))
  | _=>false
 | false=>k (.inl T)
def readsB (P:Program):Ty→TypeId ⊕ (List Field×Nat)→Bool
 | .int k,.inl T=>isIntB k (P.underlying T)
 | .bool,.inl T=>isBoolB (P.underlying T)
 | .str,.inl T=>isStrB (P.underlying T)
 | .unit,.inr ([],_)=>true
 | .cons a b,.inr (f :: fs,o)=>Nat.beq f.offset o&&(Nat.beq (P.cellsOf f.type) a.size&&(wrapB P a.agg f.type (readsB P a)&&readsB P b (.inr (fs,o+a.size))))
 | _,_=>false
def readsT (P:Program) (t:Ty) (T:TypeId):Bool:=Nat.beq (P.cellsOf T) t.size&&wrapB P t.agg T (readsB P t)
section
variable {H:Type} {enc:TypeId×Value→H} {P:Program} {w:World} {base:Nat} {spare:Nat→Bool} {held:Bool} {G:Nat→Prop}
def TrodOne (enc:TypeId×Value→H) (P:Program) (w:World) (base:Nat) (spare:Nat→Bool) (held:Bool) (cs:List Value) (f:Field):Prop :=
 ∃ n x,DataW.trod enc P w base spare held n f.type ((cs.drop f.offset).take (P.cellsOf f.type))=some x
theorem trod_fields {T:TypeId} {fs:Array Field} {fuel:Nat} {cs:List Value} {x:DataW H×List MemPlace} (ht:P.underlying T=some (.struct fs)) (h:DataW.trod enc P w base spare held fuel T cs=some x) :
  cs.length=P.cellsOf T∧∀ f∈fs.toList,TrodOne enc P w base spare held cs f:=by
 obtain ⟨xs,n,_,_,hl,hx,hf⟩:=DataW.trod_struct ht h
 refine ⟨hl,fun f hf' => ?_⟩
 obtain ⟨i,hi⟩:=List.getElem?_of_mem hf'
 rw [Array.getElem?_toList] at hi
 have hlt:i<fs.size:=(Array.getElem?_eq_some_iff.1 hi).1
 have:=hf i f hi
 exact ⟨n,xs[i]'(by omega),by rw [this];exact List.getElem?_eq_getElem _⟩
theorem trod_rep:∀ (t:Ty),
  (∀ T fuel cs x,wrapB P t.agg T (readsB P t)=true→P.cellsOf T=t.size→DataW.trod enc P w base spare held fuel T cs=some x→∃ y,RepC w G t y cs) ∧
  (∀ fs o cs,readsB P t (.inr (fs,o))=true→(∀ f∈fs,TrodOne enc P w base spare held cs f)→cs.length=o+t.size→∃ y,RepC w G t y (cs.drop o))
 | .int k=>by
  refine ⟨fun T fuel cs x h _ ht => ?_,fun fs o cs h=>by simp [readsB] at h⟩
  have hu:=isIntB_eq (by simpa [wrapB,Ty.agg,readsB] using h)
  obtain ⟨n,rfl,_,hw⟩:=DataW.trod_int hu ht
  exact ⟨n,rfl,by simpa [Lit.wf,InR] using hw⟩
 | .bool=>by
  refine ⟨fun T fuel cs x h _ ht => ?_,fun fs o cs h=>by simp [readsB] at h⟩
  have hu:=isBoolB_eq (by simpa [wrapB,Ty.agg,readsB] using h)
  obtain ⟨b,rfl,_⟩:=DataW.trod_bool hu ht
  exact ⟨b,rfl⟩
 | .fn=>⟨fun T fuel cs x h=>by simp [wrapB,Ty.agg,readsB] at h,fun fs o cs h=>by simp [readsB] at h⟩
 | .str=>by
  refine ⟨fun T fuel cs x h _ ht => ?_,fun fs o cs h=>by simp [readsB] at h⟩
  have hu:=isStrB_eq (by simpa [wrapB,Ty.agg,readsB] using h)
  obtain ⟨s,rfl,_,hs⟩:=DataW.trod_string hu ht
  exact ⟨s,rfl,hs⟩
 | .sl e=>by
  exact ⟨fun T fuel cs x h=>by simp [wrapB,Ty.agg,readsB] at h,fun fs o cs h=>by simp [readsB] at h⟩
 | .unit=>by
  have hB:∀ fs o cs,readsB P .unit (.inr (fs,o))=true→(∀ f∈fs,TrodOne enc P w base spare held cs f)→cs.length=o+Ty.unit.size→∃ y,RepC w G .unit y (cs.drop o):=by
   intro fs o cs h _ hl
   refine ⟨(),?_⟩
   show cs.drop o=[]
   rw [List.drop_eq_nil_iff]
   simp [Ty.size] at hl
   omega
  refine ⟨fun T fuel cs x h hc ht => ?_,hB⟩
  simp only [wrapB,Ty.agg] at h
  split at h
  ·rename_i fs hu
   obtain ⟨h1,h2⟩:=trod_fields hu ht
   simpa using hB _ _ cs h h2 (by rw [h1,hc];simp)
  ·cases h
 | .cons a b=>by
  obtain ⟨ha,_⟩:=trod_rep a
  obtain ⟨_,hb⟩:=trod_rep b
  have hB:∀ fs o cs,readsB P (.cons a b) (.inr (fs,o))=true→(∀ f∈fs,TrodOne enc P w base spare held cs f)→cs.length=o+(Ty.cons a b).size→∃ y,RepC w G (.cons a b) y (cs.drop o):=by
   intro fs o cs h hf hl
   match fs,h with
   | [],h=>simp [readsB] at h
   | f :: fs,h =>
    simp only [readsB,Bool.and_eq_true] at h
    obtain ⟨h1,h2,h3,h4⟩:=h
    have h1:=Nat.eq_of_beq_eq_true h1
    have h2:=Nat.eq_of_beq_eq_true h2
    simp only [Ty.size] at hl
    obtain ⟨n,x,hx⟩:=hf f (List.mem_cons_self ..)
    rw [h1,h2] at hx
    obtain ⟨y1,hy1⟩:=ha _ _ _ _ h3 h2 hx
    obtain ⟨y2,hy2⟩:=hb fs (o+a.size) cs h4 (fun g hg=>hf g (List.mem_cons_of_mem _ hg)) (by omega)
    refine ⟨(y1,y2),_,_,?_,hy1,hy2⟩
    rw [← List.drop_drop]
    exact (List.take_append_drop _ _).symm
  refine ⟨fun T fuel cs x h hc ht => ?_,hB⟩
  simp only [wrapB,Ty.agg] at h
  split at h
  ·rename_i fs hu
   obtain ⟨h1,h2⟩:=trod_fields hu ht
   simpa using hB _ _ cs h h2 (by rw [h1,hc];simp)
  ·cases h
theorem cells_list {a:Addr} {n:Nat} {cs:List Value} (h:w.cells? base a n=some cs):cs.length=n∧∀ j c,cs[j]? = some c→w.cell? (a.add j)=some c:=by
 unfold World.cells? at h
 split at h
 ·have key:∀ (l:List Nat) (cs:List Value),(l.mapM fun i=>w.cell? (a.add i))=some cs→cs.length=l.length∧∀ (j:Nat) (c:Value) (i:Nat),cs[j]? = some c→l[j]? = some i→w.cell? (a.add i)=some c:=by
   intro l
   induction l with
   | nil=>intro cs h;simp at h;subst h;simp
   | cons i l ih =>
    intro cs h
    rw [List.mapM_cons] at h
    cases hc:w.cell? (a.add i) with
    | none=>simp [hc] at h
    | some c =>
     cases hr:l.mapM fun i=>w.cell? (a.add i) with
     | none=>simp [hc,hr] at h
     | some r =>
      simp [hc,hr] at h
      subst h
      obtain ⟨h1,h2⟩:=ih r hr
      refine ⟨by simp [h1],fun j c' i' hj hi => ?_⟩
      cases j with
      | zero=>simp at hj hi;subst hj hi;exact hc
      | succ j=>exact h2 j c' i' (by simpa using hj) (by simpa using hi)
  obtain ⟨h1,h2⟩:=key _ _ h
  refine ⟨by simpa using h1,fun j c hj=>h2 j c j hj ?_⟩
  have hlt:=(List.getElem?_eq_some_iff.1 hj).1
  have h1':cs.length=n:=by simpa using h1
  rw [List.getElem?_range (by omega)]
 ·cases h
def FitV (w:World) (v:Value):Prop:=∀ a len cap,v = .slice (some a) len cap→a.spot=none∧a.block<w.heap.size
theorem has_fit {r:Reach} {b0:Nat} {a:Addr} {e:TypeId} {n:Nat} (h:w.has P r b0 a e n):a.spot=none∧a.block<w.heap.size:=by
 obtain ⟨_,hs,row,cells,hsh,_⟩:=h
 refine ⟨hs,?_⟩
 rcases Nat.lt_or_ge a.block w.heap.size with hlt | hge
 ·exact hlt
 ·simp [World.shape?, Array.getElem?_eq_none hge] at hsh
theorem cell_fit {r:Reach} {b0:Nat} {u:TypeId} {v:Value} (h:Cell.okWide P w r b0 u v):FitV w v:=by
 rintro a len cap rfl
 unfold Cell.okWide at h
 split at h
 all_goals first
  | (rename_i hv;cases hv;done)
  | skip
 unfold Cell.ok at h
 split at h
 all_goals first
  | (rename_i hv;cases hv;done)
  | (cases h;done)
  | skip
 rename_i hv
 cases hv
 exact has_fit h.2.2
theorem row_fit {r:Reach} {b0:Nat} {T:TypeId} {cs:Array Value} (h:Row.okWide P w r b0 T cs):∀ v∈cs.toList,FitV w v:=by
 obtain ⟨ts,_,_,h⟩:=h
 intro v hv
 obtain ⟨i,hi⟩:=List.getElem?_of_mem hv
 rw [Array.getElem?_toList] at hi
 obtain ⟨u,_,hu⟩:=h i v hi
 exact cell_fit hu
theorem trod_slice_rep {e:Ty} {E T:TypeId} {fuel:Nat} {cs:List Value} {x:DataW H×List MemPlace} (hu:P.underlying T=some (.slice E)) (hr:readsT P e E=true) (hz:e.size≠0) (hf:∀ v∈cs,FitV w v)
  (h:DataW.trod enc P w base spare held fuel T cs=some x):∃ (v:Value) (ys:List e.den),cs=[v]∧SlAt w (Good w []) (RepC w (Good w []) e) e.size ys v:=by
 simp only [readsT,Bool.and_eq_true] at hr
 obtain ⟨hc,hr⟩:=hr
 have hc:=Nat.eq_of_beq_eq_true hc
 rcases DataW.trod_slice hu h with ⟨h1,_⟩ | ⟨a,len,cap,elems,rest,n,_,h1,_,_,hl,hm,hlen,hel,_⟩
 ·exact ⟨_,[],h1,by simp [maxLen],.inl ⟨_,rfl,rfl⟩⟩
 ·subst h1
  obtain ⟨hs,hb⟩:=hf _ (List.mem_singleton.2 rfl) _ _ _ rfl
  obtain ⟨b,off,spot⟩:=a
  simp only at hs hb
  subst hs
  have each:∀ i,i<len→∃ y cs,cs.length=e.size∧(∀ j c,cs[j]? = some c→w.cell? ⟨b,off+i*e.size+j,none⟩=some c)∧RepC w (Good w []) e y cs:=by
   intro i hi
   have hx:=hel i hi
   rw [List.getElem?_eq_getElem (by omega)] at hx
   simp only [Option.bind_eq_some_iff] at hx
   obtain ⟨cs,g1,g2⟩:=hx
   obtain ⟨k1,k2⟩:=cells_list g1
   obtain ⟨y,hy⟩:=(trod_rep (G:=Good w []) e).1 E _ _ _ hr hc g2
   refine ⟨y,cs,by rw [k1,hc],fun j c hj => ?_,hy⟩
   have:=k2 j c hj
   rw [hc] at this
   rw [Addr.add_lit,Addr.add_lit] at this
   exact this
  have build:∀ k,k≤len→∃ ys:List e.den,ys.length=k∧∀ i y,ys[i]? = some y→∃ cs,cs.length=e.size∧(∀ j c,cs[j]? = some c→w.cell? ⟨b,off+i*e.size+j,none⟩=some c)∧RepC w (Good w []) e y cs:=by
   intro k
   induction k with
   | zero=>intro _;exact ⟨[],rfl,fun i y h=>by simp at h⟩
   | succ k ih =>
    intro hk
    obtain ⟨ys,h1,h2⟩:=ih (by omega)
    obtain ⟨y,cs,g1,g2,g3⟩:=each k (by omega)
    refine ⟨ys++[y],by simp [h1],fun i z hz => ?_⟩
    by_cases hi:i<ys.length
    ·rw [List.getElem?_append_left hi] at hz
     exact h2 i z hz
    ·have hlt:=(List.getElem?_eq_some_iff.1 hz).1
     simp at hlt
     have:i=k:=by omega
     subst this
     rw [List.getElem?_append_right (by omega)] at hz
     simp [h1] at hz
     subst hz
     exact ⟨cs,g1,g2,g3⟩
  obtain ⟨ys,h1,h2⟩:=build len (Nat.le_refl _)
  exact ⟨_,ys,rfl,by omega,.inr ⟨b,off,cap,by rw [h1],by omega,by omega,⟨hb,by simp⟩,h2⟩⟩
def readsW (P:Program):Ty→TypeId ⊕ (List Field×Nat)→Bool
 | .sl e,.inl T=>match P.underlying T with
  | some (.slice E)=>readsT P e E && !Nat.beq e.size 0
  | _=>false
 | .unit,.inr ([],_)=>true
 | .cons a b,.inr (f :: fs,o)=>Nat.beq f.offset o&&(Nat.beq (P.cellsOf f.type) a.size&&(wrapB P a.agg f.type (readsW P a)&&readsW P b (.inr (fs,o+a.size))))
 | .int k,x=>readsB P (.int k) x
 | .bool,x=>readsB P .bool x
 | .str,x=>readsB P .str x
 | _,_=>false
theorem trod_repW:∀ (t:Ty),
  (∀ T fuel cs x,wrapB P t.agg T (readsW P t)=true→P.cellsOf T=t.size→(∀ v∈cs,FitV w v)→DataW.trod enc P w base spare held fuel T cs=some x→∃ y,RepC w (Good w []) t y cs) ∧
  (∀ fs o cs,readsW P t (.inr (fs,o))=true→(∀ f∈fs,TrodOne enc P w base spare held cs f)→(∀ v∈cs,FitV w v)→cs.length=o+t.size→∃ y,RepC w (Good w []) t y (cs.drop o))
 | .int k=>by
  refine ⟨fun T fuel cs x h hc _ ht=>(trod_rep (.int k)).1 T fuel cs x ?_ hc ht,fun fs o cs h=>by simp [readsW,readsB] at h⟩
  simpa [wrapB,Ty.agg,readsW] using h
 | .bool=>by
  refine ⟨fun T fuel cs x h hc _ ht=>(trod_rep .bool).1 T fuel cs x ?_ hc ht,fun fs o cs h=>by simp [readsW,readsB] at h⟩
  simpa [wrapB,Ty.agg,readsW] using h
 | .fn=>⟨fun T fuel cs x h=>by simp [wrapB,Ty.agg,readsW] at h,fun fs o cs h=>by simp [readsW] at h⟩
 | .str=>by
  refine ⟨fun T fuel cs x h hc _ ht=>(trod_rep .str).1 T fuel cs x ?_ hc ht,fun fs o cs h=>by simp [readsW,readsB] at h⟩
  simpa [wrapB,Ty.agg,readsW] using h
 | .sl e=>by
  refine ⟨fun T fuel cs x h hc hf ht => ?_,fun fs o cs h=>by simp [readsW] at h⟩
  simp only [wrapB,Ty.agg,readsW] at h
  split at h
  ·rename_i E hu
   simp only [Bool.and_eq_true,Bool.not_eq_true'] at h
   obtain ⟨v,ys,h1,h2⟩:=trod_slice_rep hu h.1 (fun hz=>by have:=h.2;rw [hz] at this;simp at this) hf ht
   exact ⟨ys,v,h1,h2⟩
  ·cases h
 | .unit=>by
  have hB:∀ fs o cs,readsW P .unit (.inr (fs,o))=true→(∀ f∈fs,TrodOne enc P w base spare held cs f)→cs.length=o+Ty.unit.size→∃ y,RepC w (Good w []) .unit y (cs.drop o):=by
   intro fs o cs h _ hl
   refine ⟨(),?_⟩
   show cs.drop o=[]
   rw [List.drop_eq_nil_iff]
   simp [Ty.size] at hl
   omega
  refine ⟨fun T fuel cs x h hc _ ht => ?_,fun fs o cs h1 h2 _ h3=>hB fs o cs h1 h2 h3⟩
  simp only [wrapB,Ty.agg] at h
  split at h
  ·rename_i fs hu
   obtain ⟨h1,h2⟩:=trod_fields hu ht
   simpa using hB _ _ cs h h2 (by rw [h1,hc];simp)
  ·cases h
 | .cons a b=>by
  obtain ⟨ha,_⟩:=trod_repW a
  obtain ⟨_,hb⟩:=trod_repW b
  have hB:∀ fs o cs,readsW P (.cons a b) (.inr (fs,o))=true→(∀ f∈fs,TrodOne enc P w base spare held cs f)→(∀ v∈cs,FitV w v)→cs.length=o+(Ty.cons a b).size→∃ y,RepC w (Good w []) (.cons a b) y (cs.drop o):=by
   intro fs o cs h hf hfit hl
   match fs,h with
   | [],h=>simp [readsW] at h
   | f :: fs,h =>
    simp only [readsW,Bool.and_eq_true] at h
    obtain ⟨h1,h2,h3,h4⟩:=h
    have h1:=Nat.eq_of_beq_eq_true h1
    have h2:=Nat.eq_of_beq_eq_true h2
    simp only [Ty.size] at hl
    obtain ⟨n,x,hx⟩:=hf f (List.mem_cons_self ..)
    rw [h1,h2] at hx
    obtain ⟨y1,hy1⟩:=ha _ _ _ _ h3 h2 (fun v hv=>hfit v (List.mem_of_mem_drop (List.mem_of_mem_take hv))) hx
    obtain ⟨y2,hy2⟩:=hb fs (o+a.size) cs h4 (fun g hg=>hf g (List.mem_cons_of_mem _ hg)) hfit (by omega)
    refine ⟨(y1,y2),_,_,?_,hy1,hy2⟩
    rw [← List.drop_drop]
    exact (List.take_append_drop _ _).symm
  refine ⟨fun T fuel cs x h hc hfit ht => ?_,hB⟩
  simp only [wrapB,Ty.agg] at h
  split at h
  ·rename_i fs hu
   obtain ⟨h1,h2⟩:=trod_fields hu ht
   simpa using hB _ _ cs h h2 hfit (by rw [h1,hc];simp)
  ·cases h
def argB (P:Program):Ty→TypeId→Bool
 | .sl e,T=>match P.underlying T with
  | some (.slice E)=>readsT P e E && !Nat.beq e.size 0
  | _=>false
 | t,T=>readsT P t T||(t.agg&&(Nat.beq (P.cellsOf T) t.size&&wrapB P true T (readsW P t)))
theorem okWide_agg {r:Reach} {b0:Nat} {T:TypeId} {v:Value} {fs:Array Field} (hu:P.underlying T=some (.struct fs)) (h:Value.okWide P w r b0 T v):∃ cs,v = .agg cs:=by
 simp only [Value.okWide,hu] at h
 obtain ⟨cs,hv,_⟩:=h
 exact ⟨cs,hv⟩
theorem trod_flat_arg {r:Reach} {b0:Nat} {t:Ty} {T:TypeId} {v:Value} {d:DataW H} {ps:List MemPlace} (hB:readsT P t T=true) (hv:Value.okWide P w r b0 T v) (h:DataW.Trod enc P w base spare held T v d ps) :
  ∃ x:t.den,RepB w G (toAtom t x) v:=by
 simp only [readsT,Bool.and_eq_true] at hB
 obtain ⟨hc,hB⟩:=hB
 have hc:=Nat.eq_of_beq_eq_true hc
 obtain ⟨fuel,hf⟩:=h
 obtain ⟨y,hy⟩:=(trod_rep (G:=G) t).1 T fuel _ _ hB hc hf
 refine ⟨y,?_⟩
 cases t with
 | int k =>
  have hu:=isIntB_eq (by simpa [wrapB,Ty.agg,readsB] using hB)
  obtain ⟨n,rfl⟩:=okWide_int hu hv
  obtain ⟨h1,h2⟩:=hy
  simp [Value.cells] at h1
  subst h1
  exact ⟨rfl,h2⟩
 | bool =>
  have hu:=isBoolB_eq (by simpa [wrapB,Ty.agg,readsB] using hB)
  obtain ⟨b,rfl⟩:=okWide_bool hu hv
  have h1:([.bool b]:List Value)=[.bool y]:=hy
  cases h1
  exact ⟨rfl,trivial⟩
 | fn=>simp [wrapB,Ty.agg,readsB] at hB
 | str =>
  have hu:=isStrB_eq (by simpa [wrapB,Ty.agg,readsB] using hB)
  obtain ⟨s,rfl⟩:=okWide_string hu hv
  obtain ⟨h1,h2⟩:=hy
  simp [Value.cells] at h1
  subst h1
  exact ⟨rfl,h2⟩
 | sl e=>simp [wrapB,Ty.agg,readsB] at hB
 | unit =>
  simp only [wrapB,Ty.agg] at hB
  split at hB
  ·rename_i fs hu
   obtain ⟨cs,rfl⟩:=okWide_agg hu hv
   exact ⟨cs.toList,by simp,hy⟩
  ·cases hB
 | cons a b =>
  simp only [wrapB,Ty.agg] at hB
  split at hB
  ·rename_i fs hu
   obtain ⟨cs,rfl⟩:=okWide_agg hu hv
   exact ⟨cs.toList,by simp,hy⟩
  ·cases hB
theorem has_spot {r:Reach} {b0:Nat} {T E:TypeId} {a:Addr} {len cap:Nat} (hu:P.underlying T=some (.slice E)) (hv:Value.okWide P w r b0 T (.slice (some a) len cap)):a.spot=none∧a.block<w.heap.size:=by
 simp only [Value.okWide,hu,Cell.okWide,Cell.ok] at hv
 obtain ⟨_,_,hh⟩:=hv
 obtain ⟨_,hs,row,cells,hsh,_⟩:=hh
 refine ⟨hs,?_⟩
 rcases Nat.lt_or_ge a.block w.heap.size with hlt | hge
 ·exact hlt
 ·simp [World.shape?, Array.getElem?_eq_none hge] at hsh
theorem trod_arg {r:Reach} {b0:Nat} {t:Ty} {T:TypeId} {v:Value} {d:DataW H} {ps:List MemPlace} (hB:argB P t T=true) (hv:Value.okWide P w r b0 T v) (h:DataW.Trod enc P w base spare held T v d ps) :
  ∃ x:t.den,RepB w (Good w []) (toAtom t x) v:=by
 unfold argB at hB
 split at hB
 ·rename_i e
  split at hB
  ·rename_i E hu
   simp only [Bool.and_eq_true,Bool.not_eq_true'] at hB
   obtain ⟨a0,len,cap,rfl⟩:=okWide_slice hu hv
   obtain ⟨fuel,hf⟩:=h
   have hfit:∀ u∈(Value.slice a0 len cap).cells.toList,FitV w u:=fun u hu'=>by
    simp [Value.cells] at hu'
    subst hu'
    rintro a l c he
    cases he
    exact has_spot hu hv
   obtain ⟨u,ys,h1,h2⟩:=trod_slice_rep hu hB.1 (fun hz=>by have:=hB.2;rw [hz] at this;simp at this) hfit hf
   simp [Value.cells] at h1
   subst h1
   exact ⟨ys,h2⟩
  ·cases hB
 ·rename_i hns
  rw [Bool.or_eq_true] at hB
  rcases hB with hB | hB
  ·exact trod_flat_arg hB hv h
  ·simp only [Bool.and_eq_true] at hB
   obtain ⟨ha,hc,hB⟩:=hB
   have hc:=Nat.eq_of_beq_eq_true hc
   obtain ⟨fuel,hf⟩:=h
   have hB':=hB
   unfold wrapB at hB
   simp only at hB
   split at hB
   ·rename_i fs hu
    simp only [Value.okWide,hu] at hv
    obtain ⟨cs,rfl,_,hrow⟩:=hv
    obtain ⟨y,hy⟩:=(trod_repW t).1 T fuel _ _ (by rw [ha];exact hB') hc (row_fit hrow) (by simpa [Value.cells] using hf)
    refine ⟨y,?_⟩
    cases t with
    | cons a b=>exact ⟨cs.toList,by simp,hy⟩
    | unit=>exact ⟨cs.toList,by simp,hy⟩
    | _=>cases ha
   ·cases hB
theorem trod_args {r:Reach} {b0:Nat}:∀ {ts:List Ty} {Ts:List TypeId} {vs:List Value} {ds:List (DataW H)} {ps:List MemPlace},ts.length=Ts.length→(∀ (i:Nat) (t:Ty) (T:TypeId),ts[i]? = some t→Ts[i]? = some T→argB P t T=true) →
  (∀ (j:Nat) T v,Ts[j]? = some T→vs[j]? = some v→Value.okWide P w r b0 T v)→DataW.TrodAll enc P w base spare held Ts vs ds ps →
  ∃ (x:sigDen (ts.map AT.v)) (bss:List (List Nat)),bss.flatten=[]∧ArgsRep w (Good w []) (ts.map AT.v) x vs bss
 | [],[],[],[],_,_,_,_,_=>⟨(),[],rfl,rfl,rfl⟩
 | t :: ts,T :: Ts,v :: vs,d :: ds,ps,hl,hB,hv,h=>by
  obtain ⟨p,q,h1,h2,_⟩:=h
  obtain ⟨x,hx⟩:=trod_arg (hB 0 t T rfl rfl) (hv 0 T v rfl rfl) h1
  obtain ⟨y,bss,hb,hy⟩:=trod_args (by simpa using hl) (fun i t T h1 h2=>hB (i+1) t T (by simpa using h1) (by simpa using h2)) (fun j T v h1 h2=>hv (j+1) T v (by simpa using h1) (by simpa using h2)) h2
  exact ⟨(x,y),[] :: bss,by simpa using hb,v,vs,[],bss,rfl,rfl,⟨rfl,hx⟩,hy⟩
 | [],_ :: _,_,_,_,hl,_,_,_=>by simp at hl
 | _ :: _,[],_,_,_,hl,_,_,_=>by simp at hl
end
end Go.Am
namespace Go.Am
open Go.ChangeShapes Go.WideShapes Go.ChangeAt Go.RowKit
set_option linter.unusedVariables false
set_option linter.unusedSimpArgs false
section
variable {H:Type} {enc:TypeId×Value→H} {P:Program} {W W':World}
theorem trodAll_below (hl:laidOutB P=true) (hb:Below W.heap.size W W'):∀ {ts:List TypeId} {vs:List Value} {ds:List (DataW H)} {ps:List MemPlace},(∀ t∈ts,P.readableRec t=true∧t<P.types.size) →
  DataW.TrodAll enc P W 0 (fun _=>true) true ts vs ds ps→(∀ x∈ps,x.block<W.heap.size)→DataW.TrodAll enc P W' 0 (fun b=>decide (b<W.heap.size)) true ts vs ds ps
 | [],[],[],_,_,h,_=>h
 | t :: ts,v :: vs,d :: ds,ps,hr,⟨p,q,h1,h2,e⟩,hlt=>by
  obtain ⟨r1,r2⟩:=hr t (List.mem_cons_self ..)
  refine ⟨p,q,Below.trod hl r1 r2 h1 hb (fun x hx=>hlt x (by rw [e];exact List.mem_append_left _ hx)),trodAll_below hl hb (fun t ht=>hr t (List.mem_cons_of_mem _ ht)) h2 (fun x hx=>hlt x (by rw [e];exact List.mem_append_right _ hx)),e⟩
 | [],[],_ :: _,_,_,h,_=>h.elim
 | [],_ :: _,_,_,_,h,_=>h.elim
 | _ :: _,[],_,_,_,h,_=>h.elim
 | _ :: _,_ :: _,[],_,_,h,_=>h.elim
theorem trodAll_len {base:Nat} {sp:Nat→Bool} {held:Bool}:∀ {ts:List TypeId} {vs:List Value} {ds:List (DataW H)} {ps:List MemPlace},DataW.TrodAll enc P W base sp held ts vs ds ps→ds.length=ts.length∧vs.length=ts.length
 | [],[],[],_,h=>⟨rfl,rfl⟩
 | t :: ts,v :: vs,d :: ds,ps,⟨p,q,h1,h2,e⟩=>by obtain ⟨a,b⟩:=trodAll_len h2;exact ⟨by simp [a],by simp [b]⟩
 | [],[],_ :: _,_,h=>h.elim
 | [],_ :: _,_,_,h=>h.elim
 | _ :: _,[],_,_,h=>h.elim
 | _ :: _,_ :: _,[],_,h=>h.elim
end
def argsB (P:Program):List Ty→List TypeId→Bool
 | [],[]=>true
 | t :: ts,T :: Ts=>argB P t T&&argsB P ts Ts
 | _,_=>false
theorem argsB_spec {P:Program}:∀ {ts:List Ty} {Ts:List TypeId},argsB P ts Ts=true→ts.length=Ts.length∧∀ (i:Nat) (t:Ty) (T:TypeId),ts[i]? = some t→Ts[i]? = some T→argB P t T=true
 | [],[],_=>⟨rfl,fun i t T h=>by simp at h⟩
 | t :: ts,T :: Ts,h=>by
  simp only [argsB,Bool.and_eq_true] at h
  obtain ⟨h1,h2⟩:=argsB_spec h.2
  refine ⟨by simp [h1],fun i u U hu hU => ?_⟩
  cases i with
  | zero=>simp at hu hU;subst hu hU;exact h.1
  | succ i=>exact h2 i u U (by simpa using hu) (by simpa using hU)
 | [],_ :: _,h=>by cases h
 | _ :: _,[],h=>by cases h
def lawSpec (ts:List Ty):Spec:={ sig:=ts.map AT.v,pre:=fun _=>True,res:=fun _=>[⟨.bool,true⟩] }
theorem law_calls {H:Type} {enc:TypeId×Value→H} {C:Checked} {f:FuncId} {fn:Func} {s:ChangeSpec} {apart fresh handsOn:Bool}
  (hl:laidOutB C.prog=true) (hr:(fn.params.toList.all fun t=>C.prog.readableRec t&&Nat.blt t C.prog.types.size)=true)
  (ts:List Ty) (hts:argsB C.prog ts fn.params.toList=true) {tb:TypeId} (hres:fn.resultTypes = #[tb]) (htb:C.prog.underlying tb=some .bool) (hvars:s.vars=[])
  (hs:∀ ds:List (DataW H),ds.length=fn.params.toList.length→(s.fn H (ds++[])).results=[.lit (.bool true)]∧(s.fn H (ds++[])).args=ds∧(s.fn H (ds++[])).vars=[])
  (hcon:Contract C.prog f (lawSpec ts)) {W:World} (hg:GInv W) {base:Nat} {args:Array Value} {ds gs:List (DataW H)} {before:List MemPlace}
  (hval:∀ (j:Nat) t v,fn.params[j]? = some t→args[j]? = some v→Value.okWide C.prog W .any base t v)
  (hW:DataW.Whole enc C.prog fn.params.toList s.vars apart W args.toList ds gs before) :
  Calls C.prog f args W fun e W'=>∃ v,e = .returned v∧s.post enc C.prog fn apart fresh handsOn false W args v W':=by
 have hW':=hW
 obtain ⟨p,q,hA,hV,hbef,hfz,hnd⟩:=hW
 rw [hvars] at hV
 obtain ⟨rfl,rfl⟩:=trodVars_none hV
 obtain ⟨hlen,hall⟩:=argsB_spec hts
 obtain ⟨x,bss,hb0,hx⟩:=trod_args (r := .any) (b0:=base) hlen hall (fun j T v h1 h2=>hval j T v (by simpa using h1) (by simpa using h2)) hA
 have hcall:=hcon W (Good W []) (Good W []) x args.toList bss (by rw [hb0];exact ⟨hg,hg.size,fun b hb=>by cases hb⟩) (by rw [hb0];exact fun b hb=>hb) (fun b hb=>hb) trivial hx (by rw [hb0];exact List.nodup_nil)
 rw [hb0] at hcall
 refine hcall.mono ?_
 rintro e W' ⟨rs,ubs,rbs,F,rfl,hk,hrr,_⟩
 have hrs:rs=[.bool true]:=by
  obtain ⟨v,s',b,bs,h1,h2,⟨cs,h3,h4⟩,h5⟩:=hrr
  obtain ⟨h3,_⟩:=h3
  simp only [IsVal] at h4
  rw [h3] at h4
  cases h4
  rw [h1,h5.1]
 subst hrs
 have hbel:=hk.below
 obtain ⟨g1,g2,g3⟩:=hs ds (trodAll_len hA).1
 have hlt:∀ y∈p,y.block<W.heap.size:=fun y hy=>hW'.lt y (by rw [hbef];exact List.mem_append_left _ hy)
 have hr':∀ t∈fn.params.toList,C.prog.readableRec t=true∧t<C.prog.types.size:=fun t ht=>by
  have:=List.all_eq_true.1 hr t ht
  simp only [Bool.and_eq_true] at this
  exact ⟨this.1,Nat.le_of_ble_eq_true this.2⟩
 refine ⟨.bool true,rfl,ds,[],before,[],p,[],hW',?_,?_,?_,hbel.frame _,fun h=>by cases h⟩
 ·rw [hres,g1]
  exact trodAll_mk1 (shut_bool htb true)
 ·rw [g2]
  exact trodAll_below hl hbel hr' hA hlt
 ·rw [hvars,g3]
  rfl
theorem law_lifted {H:Type} {enc:TypeId×Value→H} {a:Assume} {C:Checked} {os:Os} {f:FuncId} {fn:Func} {s:ChangeSpec} {conds:List PathCond} {apart fresh handsOn:Bool}
  (own:ownKnob C.prog.godebug=none) (started:os.Started) (noInit:C.prog.inits.idxOf? f=none) (hfn:C.prog.funcs[f]? = some fn)
  (witness:∃ (w:World) (tape:Tape) (i:Input),w.os=os∧(w.forCall tape i).Shaped C.prog∧i.vars=[]∧Input.okWide C.prog (w.forCall tape i) .any w.heap.size f i ∧
   s.pre6 enc C.prog fn conds apart (w.forCall tape i).memory i.args∧a.holds C.prog (lone (Frame.enter C.prog f i.args .normal) [] (w.forCall tape i)))
  (hl:laidOutB C.prog=true) (hr:(fn.params.toList.all fun t=>C.prog.readableRec t&&Nat.blt t C.prog.types.size)=true)
  (ts:List Ty) (hts:argsB C.prog ts fn.params.toList=true) {tb:TypeId} (hres:fn.resultTypes = #[tb]) (htb:C.prog.underlying tb=some .bool) (hvars:s.vars=[])
  (hs:∀ ds:List (DataW H),ds.length=fn.params.toList.length→(s.fn H (ds++[])).results=[.lit (.bool true)]∧(s.fn H (ds++[])).args=ds∧(s.fn H (ds++[])).vars=[])
  (hg:∀ W:World,W.ShapedOpen C.prog→GInv W) (hcon:Contract C.prog f (lawSpec ts)) :
  ReturnsInHanded a C os f .any (s.pre6 enc C.prog fn conds apart) (s.post enc C.prog fn apart fresh handsOn false):=by
 refine returnsInHanded_of_change_shaped own started noInit hfn witness ?_
 intro W base args ds gs before hval hW hcnd _ hsh _
 exact law_calls hl hr ts hts hres htb hvars hs hcon (hg W hsh) hval hW
end Go.Am
namespace Go.Am
set_option linter.unusedVariables false
set_option linter.unusedSimpArgs false
def bodyOf (f:Func):Code:=match f.body with | some c=>c | none => .skip
def firstRegion:Code→Nat
 | .region id _ _=>id
 | .seq x _=>firstRegion x
 | .block _ c=>firstRegion c
 | .loop c=>firstRegion c
 | .scope c=>firstRegion c
 | _=>999999
def orL:Option (List Item)→Option (List Item)→Option (List Item)
 | some k,_=>some k
 | none,x=>x
def findC (id:Nat):Code→List Item→Option (List Item)
 | .seq x y,k=>orL (findC id x (.code y :: k)) (findC id y k)
 | .block b c,k=>findC id c (.inBlock b :: k)
 | .loop c,k=>match Nat.beq (firstRegion c) id with
  | true=>some (.code c :: .inLoop c :: k)
  | false=>findC id c (.inLoop c :: k)
 | .cond _ x y,k=>orL (findC id x k) (findC id y k)
 | .region r ops d,k=>match Nat.beq r id with
  | true=>some (.code (.region r ops d) :: k)
  | false=>none
 | _,_=>none
def cutAt (c:Code) (id:Nat):List Item:=match findC id c [] with | some k=>k | none=>[]
def nilLeaf (r i:Nat) (ty:Ty) (EL:Env×Heap):Env×Heap :=
 match hget EL.2 r with
 | some A=>match A.ls with
  | some ls=>match ls[i]? with
   | some (.val (.slice none _ _))=>(EL.1,hset (EL.2++[some ⟨ty,[], !ty.flat,none,none⟩]) r (some ⟨A.t,A.xs,A.bor,some (ls.set i (.osl EL.2.length none)),A.sm⟩))
   | _=>EL
  | none=>EL
 | none=>EL
def nilA0 (t:Nat) (ty:Ty) (EL:Env×Heap):Env×Heap :=
 match EL.1.get t with
 | .a (.val (.slice none _ _))=>(EL.1.set t (.a (.osl EL.2.length none)),EL.2++[some ⟨ty,[], !ty.flat,none,none⟩])
 | _=>EL
def nilA (t:Nat) (ty:Ty) (EL:Env×Heap):Env×Heap :=
 match Nat.ble 1000000 t with
 | true=>match EL.1.get (t % 1000000) with
  | .a (.bptr r _ _)=>nilLeaf r (t / 1000000 - 1) ty EL
  | .a (.optr r _ _)=>nilLeaf r (t / 1000000 - 1) ty EL
  | _=>EL
 | false=>nilA0 t ty EL
def nilsA:List (Nat×Ty)→Env×Heap→Env×Heap
 | [],EL=>EL
 | (t,ty) :: r,EL=>nilsA r (nilA t ty EL)
def borUp1 (A:Arr):Arr :=
 match A.t.flat,A.bor with
 | false,false=>match A.ls,A.sm with
  | none,none=>match A.xs.isEmpty with
   | true=>⟨A.t,A.xs,true,none,none⟩
   | false=>A
  | _,_=>A
 | _,_=>A
def borUp (L:Heap):Heap:=L.map fun o=>match o with | some A=>some (borUp1 A) | none=>none
theorem hget_borUp:∀ (L:Heap) (s:Nat),hget (borUp L) s=(hget L s).map borUp1
 | [],_=>rfl
 | some B :: L,0=>rfl
 | none :: L,0=>rfl
 | o :: L,s+1=>hget_borUp L s
theorem borUp1_cases (A:Arr):borUp1 A=A∨(A.xs=[]∧A.ls=none∧A.sm=none∧borUp1 A=⟨A.t,A.xs,true,none,none⟩):=by
 unfold borUp1
 split
 ·split
  ·split
   ·rename_i h1 h2 _ h3
    exact .inr ⟨List.isEmpty_iff.1 h3,h1,h2,rfl⟩
   ·exact .inl rfl
  ·exact .inl rfl
 ·exact .inl rfl
section
variable {P:Program} {n:Nat} {K:Ctx} {G:Nat→Prop} {w0 w:World} {a:Act} {V:Nat→Value} {own:Nat→List Nat} {f:FuncId} {R:Ending→World→Prop} {E:Env} {L:Heap}
theorem RelV.reset (hR:RelV n K w0 G w a E L V own) {t:Nat} {p:PV} (hp:RepP w0 G L V p (a.tmps.getD t undef)):RelV n K w0 G w a (E.set t p) L V own :=
 ⟨hR.glob,hR.kept,hR.size,hR.defers,hR.glt,hR.gref,hR.gsub,hR.gold,hR.gup,hR.heap,hR.good,hR.nodup,hR.apart,hR.boxs,hR.small,fun i=>by
  rw [Env.get_set]
  split
  ·rename_i h;subst h;exact hp
  ·exact hR.env i⟩
theorem repLs_nil {V':Nat→Value} {L':Heap} {x:Leaf} {u:Value} (hx:RepL w0 G L' V' x u):∀ {ls:List Leaf} {cs:List Value} {i:Nat},RepLs w0 G L' V' ls cs→cs[i]? = some u→RepLs w0 G L' V' (ls.set i x) cs
 | [],cs,i,h,hi=>h
 | y :: ls,cs,0,⟨v,r,h1,h2,h3⟩,hi=>by
  subst h1
  simp at hi
  subst hi
  exact ⟨v,r,rfl,hx,h3⟩
 | y :: ls,cs,i+1,⟨v,r,h1,h2,h3⟩,hi=>by
  subst h1
  exact ⟨v,r,rfl,h2,repLs_nil hx h3 (by simpa using hi)⟩
theorem repLs_at {V':Nat→Value} {L':Heap} {x:Leaf}:∀ {ls:List Leaf} {cs:List Value} {i:Nat},RepLs w0 G L' V' ls cs→ls[i]? = some x→∃ u,cs[i]? = some u∧RepL w0 G L' V' x u
 | [],cs,i,h,hi=>by simp at hi
 | y :: ls,cs,0,⟨v,r,h1,h2,h3⟩,hi=>by
  subst h1
  simp at hi
  subst hi
  exact ⟨v,by simp,h2⟩
 | y :: ls,cs,i+1,⟨v,r,h1,h2,h3⟩,hi=>by
  subst h1
  obtain ⟨u,h4,h5⟩:=repLs_at h3 (by simpa using hi)
  exact ⟨u,by simpa using h4,h5⟩
theorem nilLeaf_spec (hR:RelV n K w0 G w a E L V own) (r i:Nat) (ty:Ty):∃ V' own',RelV n K w0 G w a (nilLeaf r i ty (E,L)).1 (nilLeaf r i ty (E,L)).2 V' own':=by
 unfold nilLeaf
 split
 ·rename_i A hA
  split
  ·rename_i ls hls
   split
   ·rename_i m c hi
    have hE:EntC w0 G w ⟨ty,[], !ty.flat,none,none⟩ (.slice none 0 0) []:=⟨by simp [maxLen],.inl ⟨_,rfl,rfl,rfl⟩⟩
    have hR':=hR.grow hE List.nodup_nil (fun b hb=>by cases hb) (fun r A hA b hb hm=>by cases hm)
    have hrl:r<L.length:=hget_lt hA
    have hA':hget (L++[some ⟨ty,[], !ty.flat,none,none⟩]) r=some A:=by
     rw [hget_append,if_pos hrl]
     exact hA
    obtain ⟨b,off,cs,h1,h2,h3,h4,h5⟩:=hR'.boxs r A ls hA' hls
    obtain ⟨u,hu,hv⟩:=repLs_at h5 hi
    obtain ⟨hv,h0,h6⟩:=hv
    obtain ⟨h7,h8⟩:=h0
    subst h7 h8
    subst hv
    refine ⟨_,_,hR'.setLs hA' hls ⟨b,off,cs,h1,h2,by rw [List.length_set];exact h3,h4,repLs_nil ?_ h5 hu⟩⟩
    exact repA_new (w0:=w0) (G:=G) (u:=w0) (G':=G) (w:=w) hE
   ·exact ⟨V,own,hR⟩
  ·exact ⟨V,own,hR⟩
 ·exact ⟨V,own,hR⟩
theorem nilA_spec (hR:RelV n K w0 G w a E L V own) (t:Nat) (ty:Ty):∃ V' own',RelV n K w0 G w a (nilA t ty (E,L)).1 (nilA t ty (E,L)).2 V' own':=by
 unfold nilA
 split
 ·split
  ·exact nilLeaf_spec hR _ _ ty
  ·exact nilLeaf_spec hR _ _ ty
  ·exact ⟨V,own,hR⟩
 unfold nilA0
 split
 ·rename_i m c hg
  have hv:=hR.env t
  simp only at hg
  rw [hg] at hv
  obtain ⟨hv,h0,h1⟩:=hv
  subst h0 h1
  have hE:EntC w0 G w ⟨ty,[], !ty.flat,none,none⟩ (.slice none 0 0) []:=⟨by simp [maxLen],.inl ⟨_,rfl,rfl,rfl⟩⟩
  have hR':=hR.grow hE List.nodup_nil (fun b hb=>by cases hb) (fun r A hA b hb hm=>by cases hm)
  refine ⟨_,_,hR'.reset ?_⟩
  rw [hv]
  exact repA_new (w0:=w0) (G:=G) (u:=w0) (G':=G) (w:=w) hE
 ·exact ⟨V,own,hR⟩
theorem nilsA_spec:∀ {l:List (Nat×Ty)} {E:Env} {L:Heap} {V:Nat→Value} {own:Nat→List Nat},RelV n K w0 G w a E L V own→∃ V' own',RelV n K w0 G w a (nilsA l (E,L)).1 (nilsA l (E,L)).2 V' own'
 | [],E,L,V,own,hR=>⟨V,own,hR⟩
 | (t,ty) :: r,E,L,V,own,hR=>by
  obtain ⟨V',own',h⟩:=nilA_spec hR t ty
  show ∃ V' own',RelV n K w0 G w a (nilsA r (nilA t ty (E,L))).1 (nilsA r (nilA t ty (E,L))).2 V' own'
  generalize nilA t ty (E,L)=EL at h
  obtain ⟨E1,L1⟩:=EL
  exact nilsA_spec h
theorem RelV.borUp (hR:RelV n K w0 G w a E L V own):RelV n K w0 G w a E (Am.borUp L) V own:=by
 have hback:∀ s B,hget (Am.borUp L) s=some B→∃ C,hget L s=some C∧B=borUp1 C:=fun s B h=>by
  rw [hget_borUp] at h
  cases hC:hget L s with
  | none=>rw [hC] at h;cases h
  | some C=>rw [hC] at h;cases h;exact ⟨C,rfl,rfl⟩
 have ht:∀ C,(borUp1 C).t=C.t:=fun C=>by rcases borUp1_cases C with h | ⟨_,_,_,h⟩ <;> rw [h]
 have hl:∀ C,(borUp1 C).xs.length=C.xs.length:=fun C=>by rcases borUp1_cases C with h | ⟨_,_,_,h⟩ <;> rw [h]
 have hls:∀ C,(borUp1 C).ls=C.ls:=fun C=>by rcases borUp1_cases C with h | ⟨_,h2,_,h⟩ <;> rw [h];exact h2.symm
 have hag:∀ s,Agree L V (Am.borUp L) V s:=fun s=>⟨rfl,fun A hA=>⟨borUp1 A,by rw [hget_borUp,hA];rfl,ht A,hl A,fun ls h=>⟨ls,by rw [hls];exact h⟩⟩⟩
 refine ⟨hR.glob,hR.kept,hR.size,hR.defers,hR.glt,hR.gref,hR.gsub,hR.gold,hR.gup,?_,?_,?_,?_,?_,?_,fun i => ?_⟩
 ·intro s B hs
  obtain ⟨C,h2,rfl⟩:=hback s B hs
  have h:=hR.heap s C h2
  rcases borUp1_cases C with e | ⟨e1,e2,e3,e⟩
  ·rw [e];exact h
  ·rw [e]
   obtain ⟨t,xs,bor,ls,sm⟩:=C
   simp only at e1
   subst e1
   refine ⟨h.1,?_⟩
   rcases h.2 with h | ⟨b,off,cap,cur,ty,fz,bss,h1,h2,h3,h4,h5,h6,h7,h8,h9⟩
   ·exact .inl h
   ·exact .inr ⟨b,off,cap,cur,ty,fz,bss,h1,h2,h3,h4,h5,h6,h7,h8,fun i x bi hx _=>by simp at hx⟩
 ·intro s B hs
  obtain ⟨C,h2,rfl⟩:=hback s B hs
  exact hR.good s C h2
 ·intro s B hs
  obtain ⟨C,h2,rfl⟩:=hback s B hs
  exact hR.nodup s C h2
 ·intro s u B D hs hu hsu
  obtain ⟨C,h2,rfl⟩:=hback s B hs
  obtain ⟨F,h4,rfl⟩:=hback u D hu
  exact hR.apart s u C F h2 h4 hsu
 ·intro s B ls hs hl'
  obtain ⟨C,h2,rfl⟩:=hback s B hs
  rw [hls] at hl'
  rw [ht]
  exact (hR.boxs s C ls h2 hl').agree fun u _=>hag u
 ·intro s B q hs hq
  obtain ⟨C,h2,rfl⟩:=hback s B hs
  rcases borUp1_cases C with e | ⟨_,_,_,e⟩
  ·rw [e] at hq ⊢;exact hR.small s C q h2 hq
  ·rw [e] at hq;cases hq
 ·exact repP_agree (hR.env i) fun u _=>hag u
def runN (tab:List TI) (ext:Ext) (wr:Bool) (n:Nat) (stops:List Nat) (m:Nat) (pins:List Nat) (nils:List (Nat×Ty)) (ks:List Nat) (rs:List Nat) (path:List Bool) (k:List Item) (E:Env) (L:Heap):Option (List Item×Env×Heap×List Prop) :=
 match runA tab ext wr n stops m true k ⟨path,[],E,L,[],pins⟩ with
 | some (.stop k' S)=>match nilsA nils (S.E,S.L) with
  | (E1,L1)=>match nodupB rs&&envIn rs (Am.keepE E1 ks)&&heapIn rs (borUp L1) rs&&decide (S.pins=pins) with
   | true=>some (k',renE rs (Am.keepE E1 ks),pickL rs (borUp L1),S.cs)
   | false=>none
 | _=>none
theorem AtV.runN {tab:List TI} {ext:Ext} (hT:TabOk P tab) (hX:ExtOk P ext) (hm:P.follows .mixedOrders=true) {wr:Bool} {stops:List Nat} {m:Nat} {q:Nat→Value} {pins:List Nat} {nils:List (Nat×Ty)} {ks:List Nat} {rs:List Nat} {path:List Bool} {k k':List Item} {E':Env} {L':Heap} {cs:List Prop}
  (h:Am.runN tab ext wr n stops m pins nils ks rs path k E L=some (k',E',L',cs)) (hc:All cs) (hk:AtV P f R n K q pins k' E' L'):AtV P f R n K q pins k E L:=by
 intro a w w0 G V own hR hq
 unfold Am.runN at h
 split at h
 ·rename_i k1 S hr
  split at h
  rename_i E1 L1 hnil
  split at h
  ·rename_i hb
   simp only [Bool.and_eq_true,decide_eq_true_eq] at hb
   obtain ⟨⟨⟨hn,hb⟩,hh⟩,hp⟩:=hb
   cases h
   refine runA_run hT hX hm hr hc hR ⟨fun t d ht=>by simp [lookB] at ht,hq⟩ ?_
   intro a' w' w1 G1 V' own' hR' hq'
   rw [hp] at hq'
   obtain ⟨V2,own2,hR2⟩:=nilsA_spec (l:=nils) hR'
   rw [hnil] at hR2
   exact hk _ _ _ _ _ _ ((hR2.borUp.keepE ks).renum hn hb hh) hq'
  ·cases h
 ·cases h
end
end Go.Am
namespace Go.Am
set_option linter.unusedVariables false
instance (k:IntKind) (n:Int):Decidable (InR k n):=inferInstanceAs (Decidable (k.min≤n∧n≤k.max))
theorem ArgsRep.wf {w:World} {G:Nat→Prop} {sig:List AT} {x:sigDen sig} {vs:List Value} {bss:List (List Nat)} (h:ArgsRep w G sig x vs bss):wfSig sig x:=args_wf h
theorem Contract.says {P:Program} {f:FuncId} {sig:List AT} {pre pre':sigDen sig→Prop} {upd:sigDen sig→List (Option Lst)} {res res':sigDen sig→List Dyn} {kds:List RK}
  (hc:Contract P f { sig:=sig,pre:=pre,upd:=upd,res:=res,kds:=kds }) (h:∀ x,pre' x→wfSig sig x→pre x∧res x=res' x):Contract P f { sig:=sig,pre:=pre',upd:=upd,res:=res',kds:=kds }:=by
 intro w G G0 x vs bss hgo hG hG0 hp ha hn
 obtain ⟨h1,h2⟩:=h x hp (argsK_wf ha)
 have:=hc w G G0 x vs bss hgo hG hG0 h1 ha hn
 simp only at this ⊢
 rw [h2] at this
 exact this
end Go.Am
namespace Go.Am
set_option linter.unusedVariables false
set_option linter.unusedSimpArgs false
theorem bytes_eq (a b:ByteArray):(ByteArray.toList a==ByteArray.toList b)=true↔a=b:=by
 rw [← beq_toListBytes]
 obtain ⟨⟨x⟩⟩:=a
 obtain ⟨⟨y⟩⟩:=b
 show ((⟨x⟩:Array UInt8)==⟨y⟩)=true↔_
 simp
theorem eqD_eq:∀ {t:Ty} {x y:t.den},t.flat=true→(eqD t x y=true↔x=y)
 | .int _,x,y,_=>by simp [eqD]
 | .bool,x,y,_=>by simp [eqD]
 | .fn,x,y,_=>by simp [eqD]
 | .str,x,y,_=>by simp only [eqD];exact bytes_eq x y
 | .unit,x,y,_=>by simp [eqD]
 | .cons a b,x,y,h=>by
  simp only [Ty.flat,Bool.and_eq_true] at h
  obtain ⟨x1,x2⟩:=x
  obtain ⟨y1,y2⟩:=y
  simp only [eqD,Bool.and_eq_true,eqD_eq h.1,eqD_eq h.2,Prod.mk.injEq]
 | .sl _,_,_,h=>by cases h
theorem getD_lt {α:Type} (xs:List α) (i:Nat) (d:α) (h:i<xs.length):xs.getD i d=xs[i]:=by
 rw [List.getD_eq_getElem?_getD,List.getElem?_eq_getElem h];rfl
theorem drop_get {α:Type} (xs:List α) (i:Nat) (d:α) (h:i<xs.length):xs.drop i=xs.getD i d :: xs.drop (i+1):=by
 rw [getD_lt xs i d h, ← List.drop_eq_getElem_cons h]
theorem drop_end {α:Type} (xs:List α) (i:Nat) (h:xs.length≤i):xs.drop i=[]:=List.drop_eq_nil_iff.2 h
theorem inR_up {α:Type} {xs:List α} (h:xs.length≤maxLen) {i:Nat} (hi:i<xs.length):InR .i64 ((i:Int)+1):=by
 have e1:(IntKind.i64).min = -9223372036854775808:=by decide
 have e2:(IntKind.i64).max=9223372036854775807:=by decide
 have hm:maxLen≤9223372036854775807:=by decide
 simp only [InR,e1,e2]
 omega
theorem i64_iff (n:Int):InR .i64 n ↔ -9223372036854775808≤n∧n≤9223372036854775807:=by
 have e1:(IntKind.i64).min = -9223372036854775808:=by decide
 have e2:(IntKind.i64).max=9223372036854775807:=by decide
 simp only [InR,e1,e2]
theorem u8_iff (n:Int):InR .u8 n↔0≤n∧n≤255:=by
 have e1:(IntKind.u8).min=0:=by decide
 have e2:(IntKind.u8).max=255:=by decide
 simp only [InR,e1,e2]
end Go.Am
namespace Go.Am
set_option linter.unusedVariables false
set_option linter.unusedSimpArgs false
theorem bytesOf_length (s:ByteArray):(bytesOf s).length=s.size:=by simp [bytesOf]
theorem byte_get (s:ByteArray) (i:Nat):((List.getD (Array.toList (ByteArray.data s)) i 0).toNat:Int)=(bytesOf s).getD i 0:=by
 unfold bytesOf
 rw [List.getD_eq_getElem?_getD,List.getD_eq_getElem?_getD,List.getElem?_map]
 cases h:s.data.toList[i]? with
 | none=>rfl
 | some b=>rfl
theorem bytesOf_inj {s t:ByteArray} (h:bytesOf s=bytesOf t):s=t:=by
 obtain ⟨⟨x⟩⟩:=s
 obtain ⟨⟨y⟩⟩:=t
 congr 2
 unfold bytesOf at h
 simp only at h
 induction x generalizing y with
 | nil=>cases y with
  | nil=>rfl
  | cons b s=>cases h
 | cons a r ih=>cases y with
  | nil=>cases h
  | cons b s =>
   simp only [List.map_cons,List.cons.injEq] at h
   have h1:a=b:=by
    have:=h.1
    exact UInt8.toNat_inj.1 (by omega)
   rw [h1,ih s h.2]
def goL {α β δ:Type} (f:β→α→Except δ β) (fin:β→δ):β→List α→δ
 | b,[]=>fin b
 | b,x :: r=>match f b x with
  | .ok b'=>goL f fin b' r
  | .error d=>d
theorem loop_list {α β δ:Type} (xs:List α) (d:α) (f:β→α→Except δ β) (fin:β→δ) (Inv:Nat→β→Prop) (R:Nat→Int→β→δ→Prop)
  (hend:∀ n b,Inv xs.length b→R (n+1) xs.length b (fin b))
  (hstep:∀ n (i:Nat) b,i<xs.length→Inv i b→match f b (xs.getD i d) with
   | .ok b'=>Inv (i+1) b'∧∀ ds,R n (((i:Nat):Int)+1) b' ds→R (n+1) (i:Int) b ds
   | .error ds=>R (n+1) (i:Int) b ds) :
  ∀ (k i:Nat) b,i+k=xs.length→Inv i b→R (k+1) (i:Int) b (goL f fin b (xs.drop i)):=by
 intro k
 induction k with
 | zero =>
  intro i b hi hinv
  have:i=xs.length:=by omega
  subst this
  rw [drop_end xs _ (Nat.le_refl _)]
  exact hend 0 b hinv
 | succ k ih =>
  intro i b hi hinv
  have h:=hstep (k+1) i b (by omega) hinv
  rw [drop_get xs i d (by omega)]
  simp only [goL]
  split at h
  ·rename_i b' hf
   have:=ih (i+1) b' (by omega) h.1
   exact h.2 _ (by simpa using this)
  ·exact h
theorem loop_all {α β δ:Type} (xs:List α) (d:α) (f:β→α→Except δ β) (fin:β→δ) (Inv:Nat→β→Prop) (R:Nat→Int→β→δ→Prop) {b:β} (h0:Inv 0 b)
  (hend:∀ n b,Inv xs.length b→R (n+1) xs.length b (fin b))
  (hstep:∀ n (i:Nat) b,i<xs.length→Inv i b→match f b (xs.getD i d) with
   | .ok b'=>Inv (i+1) b'∧∀ ds,R n (((i:Nat):Int)+1) b' ds→R (n+1) (i:Int) b ds
   | .error ds=>R (n+1) (i:Int) b ds):R (xs.length+1) 0 b (goL f fin b xs):=by
 have:=loop_list xs d f fin Inv R hend hstep xs.length 0 b (by omega) h0
 simpa using this
theorem goL_all {α δ:Type} (q:α→Bool) (no yes:δ):∀ (l:List α) (f:Unit→α→Except δ Unit) (fin:Unit→δ),(∀ x,f () x=if q x=true then .ok () else .error no)→fin ()=yes→goL f fin () l=if l.all q=true then yes else no
 | [],f,fin,hf,hfin=>by simp [goL,hfin]
 | x :: r,f,fin,hf,hfin=>by
  simp only [goL,hf]
  cases h:q x with
  | true=>simp only [if_true];rw [goL_all q no yes r f fin hf hfin];simp [h]
  | false=>simp [h]
theorem loop_test {α δ:Type} (xs:List α) (d:α) (q:α→Bool) (no yes:δ) (R:Nat→Int→δ→Prop) (hend:∀ n,R (n+1) xs.length yes)
  (hok:∀ n (i:Nat),i<xs.length→q (xs.getD i d)=true→∀ ds,R n (((i:Nat):Int)+1) ds→R (n+1) (i:Int) ds)
  (hno:∀ n (i:Nat),i<xs.length→q (xs.getD i d)=false→R (n+1) (i:Int) no):R (xs.length+1) 0 (if xs.all q=true then yes else no):=by
 have key:=loop_all (b:=()) xs d (fun (_:Unit) x=>if q x=true then .ok () else .error no) (fun _=>yes) (fun _ _=>True) (fun n i _ ds=>R n i ds) trivial (fun n _ _=>hend n) (fun n i _ hi _=>by
  cases h:q (xs.getD i d) with
  | true=>exact ⟨trivial,hok n i hi h⟩
  | false=>exact hno n i hi h)
 rw [goL_all q no yes _ _ _ (fun _=>rfl) rfl] at key
 exact key
def allI {α:Type} (q:Nat→α→Bool):Nat→List α→Bool
 | _,[]=>true
 | i,x :: r=>q i x&&allI q (i+1) r
theorem loop_testI {α δ:Type} (xs:List α) (d:α) (q:Nat→α→Bool) (no yes:δ) (R:Nat→Int→δ→Prop) (hend:∀ n,R (n+1) xs.length yes)
  (hok:∀ n (i:Nat),i<xs.length→q i (xs.getD i d)=true→∀ ds,R n (((i:Nat):Int)+1) ds→R (n+1) (i:Int) ds)
  (hno:∀ n (i:Nat),i<xs.length→q i (xs.getD i d)=false→R (n+1) (i:Int) no):R (xs.length+1) 0 (if allI q 0 xs=true then yes else no):=by
 have key:∀ (k i:Nat),i+k=xs.length→R (k+1) (i:Int) (if allI q i (xs.drop i)=true then yes else no):=by
  intro k
  induction k with
  | zero =>
   intro i hi
   have:i=xs.length:=by omega
   subst this
   rw [drop_end xs _ (Nat.le_refl _)]
   simpa [allI] using hend 0
  | succ k ih =>
   intro i hi
   rw [drop_get xs i d (by omega)]
   by_cases h:q i (xs.getD i d)=true
   ·have h2:=hok (k+1) i (by omega) h _ (by have:=ih (i+1) (by omega);rwa [show ((i+1:Nat):Int)=(i:Int)+1 from by omega] at this)
    simp only [allI,h,Bool.true_and]
    exact h2
   ·have h:=Bool.eq_false_iff.2 h
    simp only [allI,h,Bool.false_and,Bool.false_eq_true,if_false]
    exact hno (k+1) i (by omega) h
 have:=key xs.length 0 (by omega)
 simpa using this
theorem allI_plain {α:Type} (q:α→Bool):∀ (l:List α) (i:Nat),allI (fun _ x=>q x) i l=l.all q
 | [],_=>rfl
 | x :: r,i=>by simp [allI,allI_plain q r]
theorem allI_congr {α:Type} {p q:Nat→α→Bool}:∀ (l:List α) (i:Nat),(∀ j x,i≤j→p j x=q j x)→allI p i l=allI q i l
 | [],_,_=>rfl
 | x :: r,i,h=>by
  simp only [allI]
  rw [h i x (Nat.le_refl _),allI_congr r (i+1) (fun j x hj=>h j x (by omega))]
theorem loop_find {α δ:Type} (xs:List α) (d:α) (q:α→Bool) (none':δ) (some':Int→δ) (R:Nat→Int→δ→Prop) (hend:∀ n,R (n+1) xs.length none')
  (hgo:∀ n (i:Nat),i<xs.length→q (xs.getD i d)=false→∀ ds,R n (((i:Nat):Int)+1) ds→R (n+1) (i:Int) ds)
  (hhit:∀ n (i:Nat),i<xs.length→q (xs.getD i d)=true→R (n+1) (i:Int) (some' i)):R (xs.length+1) 0 (match xs.findIdx? q with | some k=>some' (k:Nat) | none=>none'):=by
 have key:∀ (k i:Nat),i+k=xs.length→R (k+1) (i:Int) (match (xs.drop i).findIdx? q with | some j=>some' ((i+j:Nat):Int) | none=>none'):=by
  intro k
  induction k with
  | zero =>
   intro i hi
   have:i=xs.length:=by omega
   subst this
   rw [drop_end xs _ (Nat.le_refl _)]
   exact hend 0
  | succ k ih =>
   intro i hi
   rw [drop_get xs i d (by omega),List.findIdx?_cons]
   cases h:q (xs.getD i d) with
   | true=>simpa using hhit (k+1) i (by omega) h
   | false =>
    have h2:=hgo (k+1) i (by omega) h _ (by have:=ih (i+1) (by omega);simpa using this)
    simp only [Bool.false_eq_true,if_false]
    cases hf:List.findIdx? q (List.drop (i+1) xs) with
    | none=>rw [hf] at h2;simpa using h2
    | some j =>
     rw [hf] at h2
     simp only [Option.map_some] at h2 ⊢
     rw [show i+(j+1)=i+1+j from by omega]
     exact h2
 have:=key xs.length 0 (by omega)
 simpa using this
def idx:Option Nat→Int
 | some k=>(k:Nat)
 | none => -1
theorem findIdx_any {α:Type} (q:α→Bool):∀ (l:List α),idx (l.findIdx? q)≥0↔l.any q=true:=by
 intro l
 have h:=List.findIdx?_isSome (xs:=l) (p:=q)
 rw [← h]
 cases l.findIdx? q with
 | none=>simp [idx]
 | some k=>simp [idx]
theorem mem_getD {α:Type} (xs:List α) (i:Nat) (d:α) (h:i<xs.length):xs.getD i d∈xs:=by
 rw [getD_lt _ _ _ h];exact List.getElem_mem _
end Go.Am
namespace Go.Am
set_option linter.unusedVariables false
set_option linter.unusedSimpArgs false
open Go.RowKit (Below)
theorem own_of_wf {w:World}:∀ {t:Ty} {x:t.den},t.flat=true→Wf t x→OwnC w t x (fcells t x) []
 | .int _,_,_,h=>⟨rfl,h,rfl⟩
 | .bool,_,_,_=>⟨rfl,rfl⟩
 | .fn,_,_,_=>⟨rfl,rfl⟩
 | .str,_,_,h=>⟨rfl,h,rfl⟩
 | .unit,_,_,_=>⟨rfl,rfl⟩
 | .cons a b,x,hf,h=>by
  simp only [Ty.flat,Bool.and_eq_true] at hf
  exact ⟨_,_,[],[],rfl,rfl,own_of_wf hf.1 h.1,own_of_wf hf.2 h.2⟩
 | .sl _,_,h,_=>by cases h
end Go.Am
namespace Go.Am
set_option linter.unusedVariables false
set_option linter.unusedSimpArgs false
end Go.Am
namespace Go.Am
set_option linter.unusedVariables false
set_option linter.unusedSimpArgs false
theorem bl_irrefl:∀ x:List UInt8,Op.bytesLess x x=false
 | []=>rfl
 | a :: x=>by simp [Op.bytesLess,bl_irrefl x]
theorem bl_cons (a b:UInt8) (x y:List UInt8):Op.bytesLess (a :: x) (b :: y)=true↔a.toNat<b.toNat∨(a.toNat=b.toNat∧Op.bytesLess x y=true):=by
 simp only [Op.bytesLess,Bool.or_eq_true,decide_eq_true_eq,Bool.and_eq_true,beq_iff_eq,UInt8.lt_iff_toNat_lt,UInt8.toNat_inj]
theorem bl_trans:∀ x y z:List UInt8,Op.bytesLess x y=true→Op.bytesLess y z=true→Op.bytesLess x z=true
 | x,y,[],_,h=>by cases y <;> cases h
 | [],y,c :: z,_,_=>rfl
 | a :: x,[],c :: z,h,_=>by cases h
 | a :: x,b :: y,c :: z,h1,h2=>by
  rw [bl_cons] at *
  rcases h1 with h1 | ⟨e1,h1⟩
  ·rcases h2 with h2 | ⟨e2,h2⟩
   ·exact .inl (by omega)
   ·exact .inl (by omega)
  ·rcases h2 with h2 | ⟨e2,h2⟩
   ·exact .inl (by omega)
   ·exact .inr ⟨by omega,bl_trans x y z h1 h2⟩
theorem bl_tri:∀ x y:List UInt8,Op.bytesLess x y=false→Op.bytesLess y x=false→x=y
 | [],[],_,_=>rfl
 | [],b :: y,h,_=>by cases h
 | a :: x,[],_,h=>by cases h
 | a :: x,b :: y,h1,h2=>by
  have n1:=mt (bl_cons a b x y).2 (by rw [h1];simp)
  have n2:=mt (bl_cons b a y x).2 (by rw [h2];simp)
  have e:a.toNat=b.toNat:=by omega
  have e':=UInt8.toNat_inj.1 e
  have l1:Op.bytesLess x y=false:=Bool.eq_false_iff.2 fun h=>n1 (.inr ⟨e,h⟩)
  have l2:Op.bytesLess y x=false:=Bool.eq_false_iff.2 fun h=>n2 (.inr ⟨e.symm,h⟩)
  rw [e',bl_tri x y l1 l2]
def sless (a b:ByteArray):Bool:=Op.bytesLess (ByteArray.toList a) (ByteArray.toList b)
theorem toList_inj {a b:ByteArray} (h:ByteArray.toList a=ByteArray.toList b):a=b:=(bytes_eq a b).1 (by rw [h];simp)
theorem sless_irrefl (a:ByteArray):sless a a=false:=bl_irrefl _
theorem sless_trans {a b c:ByteArray} (h1:sless a b=true) (h2:sless b c=true):sless a c=true:=bl_trans _ _ _ h1 h2
theorem sless_tri {a b:ByteArray} (h1:sless a b=false) (h2:sless b a=false):a=b:=toList_inj (bl_tri _ _ h1 h2)
def bsearch (p:Nat→Bool):Nat→Nat→Nat→Nat
 | 0,i,_=>i
 | m+1,i,j=>if i<j then (if p ((i+j) / 2)=true then bsearch p m ((i+j) / 2+1) j else bsearch p m i ((i+j) / 2)) else i
end Go.Am
namespace Go.Am
set_option linter.unusedVariables false
set_option linter.unusedSimpArgs false
end Go.Am
namespace Go.Am
set_option linter.unusedVariables false
set_option linter.unusedSimpArgs false
def repB (c:UInt8) (n:Nat):ByteArray:=⟨(Lib.repeatL [c] n).toArray⟩
end Go.Am
namespace Go.Am
set_option linter.unusedVariables false
set_option linter.unusedSimpArgs false
open Go.RowKit (Below)
theorem row_flat {w:World} {t:Ty} (hf:t.flat=true):∀ {xs:List t.den},(∀ x∈xs,Wf t x)→Row (OwnC w t) t.size xs (xs.map (fcells t)) (xs.map fun _=>[])
 | [],_=>⟨rfl,rfl⟩
 | x :: r,h=>by
  have ho:=own_of_wf (w:=w) hf (h x (List.mem_cons_self ..))
  exact ⟨_,_,_,_,rfl,rfl,ho.length,ho,row_flat hf fun y hy=>h y (List.mem_cons_of_mem _ hy)⟩
theorem nils_flatten {α:Type} (xs:List α):(xs.map fun _=>([]:List Nat)).flatten=[]:=by
 induction xs with
 | nil=>rfl
 | cons x r ih=>simp
theorem own_of_row {w:World} {t:Ty} (hf:t.flat=true) {base:Nat} {e:TypeId} {v:Value} {xs:List t.den} (hw:∀ x∈xs,Wf t x) (hm:xs.length≤maxLen)
  (h:w.ownsRow base e t.size v xs.length (xs.map (fcells t)).flatten):∃ bs,OwnC w (.sl t) xs [v] bs∧bs.Nodup∧∀ b∈bs,base≤b:=by
 rcases h.2 with ⟨rfl,hn⟩ | ⟨g,cap,cur,rfl,hb,hh,h1,h2,h3,h4⟩
 ·have:xs=[]:=List.eq_nil_of_length_eq_zero hn
  subst this
  exact ⟨[],⟨_,rfl,by simp,.inl ⟨_,rfl,rfl,rfl⟩⟩,List.nodup_nil,fun b hb=>by cases hb⟩
 ·have hrow:=row_flat (w:=w) hf hw
  have ho:=ownSl_of_row hrow (b:=g) (off:=0) (cap:=cap) (cur:=cur) (ty:=e) (fz:=(0,0)) hm h1 h2 (by rw [Nat.zero_add,h3];exact Nat.le_refl _) hh (freeS_zero _ _) (fun j c hj=>by
   rw [Nat.zero_add, ← Array.getElem?_toList]
   have hl:j<xs.length*t.size:=by
    have:=(List.getElem?_eq_some_iff.1 hj).1
    rw [hrow.len.2.2] at this
    exact this
   rw [← h4,List.getElem?_take,if_pos hl] at hj
   exact hj)
  rw [nils_flatten] at ho
  exact ⟨[g],⟨_,rfl,ho⟩,by simp,fun b hb'=>by simp at hb';omega⟩
def bls (xs:List ByteArray):List (List UInt8):=xs.map fun s=>s.data.toList
def sbl (ss:List (List UInt8)):List ByteArray:=ss.map fun l=>⟨l.toArray⟩
theorem sbl_bls (xs:List ByteArray):sbl (bls xs)=xs:=by
 unfold sbl bls
 rw [List.map_map]
 conv=>rhs;rw [← List.map_id xs]
 rfl
theorem strs_cells {w:World}:∀ {xs:List ByteArray} {css:List (List Value)} {bss:List (List Nat)},Row (OwnC w .str) 1 xs css bss→css.flatten=xs.map Value.string∧bss.flatten=[]∧∀ x∈xs,x.size≤maxLen
 | [],css,bss,⟨h1,h2⟩=>by subst h1 h2;exact ⟨rfl,rfl,fun x h=>by cases h⟩
 | x :: r,css,bss,⟨c,cs,b,bs,h1,h2,h3,h4,h5⟩=>by
  subst h1 h2
  obtain ⟨e1,e2,e3⟩:=strs_cells h5
  obtain ⟨rfl,hx,rfl⟩:=h4
  refine ⟨by simp [e1],by simp [e2],fun y hy => ?_⟩
  rcases List.mem_cons.1 hy with rfl | hy
  ·exact hx
  ·exact e3 y hy
open Go.Sort in
theorem strs_own {w:World} {xs:List ByteArray} {v:Value} {bs:List Nat} (h:OwnC w (.sl .str) xs [v] bs):(∀ x∈xs,x.size≤maxLen)∧((∃ ad,v = .slice ad 0 0∧xs=[]∧bs=[]) ∨
  ∃ b off cap cur ty fz,v = .slice (some ⟨b,off,none⟩) xs.length cap∧xs.length≤cap∧cap≤maxLen∧off+cap≤cur.size∧w.heap[b]? = some (.cells cur ty fz)∧FreeS 1 fz cur.size∧bs=[b] ∧
   ∀ (j:Nat) (x:ByteArray),xs[j]? = some x→cur[off+j]? = some (.string x)):=by
 obtain ⟨v',hv,h⟩:=h
 cases hv
 obtain ⟨css,bss,hrow,hcase⟩:=OwnSl.row h
 obtain ⟨e1,e2,e3⟩:=strs_cells hrow
 refine ⟨e3,?_⟩
 rcases hcase with ⟨ad,h1,h2,h3⟩ | ⟨b,off,cap,cur,ty,fz,h1,h2,h3,h4,h5,h6,h7,h8⟩
 ·exact .inl ⟨ad,h1,h2,h3⟩
 ·refine .inr ⟨b,off,cap,cur,ty,fz,h1,h2,h3,by simpa [Ty.size] using h4,h5,h6,by rw [h7,e2],fun j x hx=>h8 j _ ?_⟩
  rw [e1,List.getElem?_map,hx]
  rfl
theorem bls_get (xs:List ByteArray) (j:Nat) (h:j<(bls xs).toArray.size):∃ x,xs[j]? = some x∧Value.string ⟨((bls xs).toArray[j]!).toArray⟩ = .string x:=by
 have hl:j<xs.length:=by simpa [bls] using h
 refine ⟨xs[j],List.getElem?_eq_getElem hl,?_⟩
 rw [getElem!_pos _ j h]
 simp [bls]
open Go.Sort in
theorem strs_holds {w:World} {xs:List ByteArray} {b off:Nat} {cur:Array Value} {ty:TypeId} {fz:Nat×Nat} (h5:w.heap[b]? = some (.cells cur ty fz)) (h6:FreeS 1 fz cur.size)
  (h8:∀ (j:Nat) (x:ByteArray),xs[j]? = some x→cur[off+j]? = some (.string x)):Holds (fun l:List UInt8=>Value.string ⟨l.toArray⟩) w b off (bls xs).toArray:=by
 intro j hj
 obtain ⟨x,hx,he⟩:=bls_get xs j hj
 have hc:=h8 j x hx
 refine ⟨?_,?_⟩
 ·show _=some (Value.string ⟨((bls xs).toArray[j]!).toArray⟩)
  rw [he]
  simp only [World.cell?, h5]
  exact hc
 ·simp only [World.frozen?, h5]
  have hlt:off+j<cur.size:=(Array.getElem?_eq_some_iff.1 hc).1
  have:=h6.1 (off+j) hlt
  rw [Bool.eq_false_iff]
  intro hh
  simp only [Bool.and_eq_true,decide_eq_true_eq] at hh
  exact this hh
open Go.Sort in
theorem strs_turned {w w':World} {xs ys:List ByteArray} {b off cap:Nat} {cur:Array Value} {ty:TypeId} {fz:Nat×Nat} {n:Nat} {os:Array Obj} (hl:ys.length=xs.length) (hm:xs.length≤maxLen) (hs:∀ y∈ys,y.size≤maxLen)
  (h2:xs.length≤cap) (h3:cap≤maxLen) (h4:off+cap≤cur.size) (h5:w.heap[b]? = some (.cells cur ty fz)) (h6:FreeS 1 fz cur.size)
  (hw:w'=grow (putRow (fun l:List UInt8=>Value.string ⟨l.toArray⟩) (Sort.ahead w n) b off (bls ys).toArray) os) :
  OwnC w' (.sl .str) ys [.slice (some ⟨b,off,none⟩) xs.length cap] [b]∧Kept [b] w w':=by
 have hb:b<w.heap.size:=by
  rcases Nat.lt_or_ge b w.heap.size with h | h
  ·exact h
  ·rw [Array.getElem?_eq_none h] at h5;cases h5
 have hheap:∀ k,k<w.heap.size→w'.heap[k]? = if b=k then (w.heap[k]?).map (onCells (putCells (fun l:List UInt8=>Value.string ⟨l.toArray⟩) off (bls ys).toArray)) else w.heap[k]? := fun k hk=>by
  rw [hw]
  have hk':k<(putRow (fun l:List UInt8=>Value.string ⟨l.toArray⟩) (Sort.ahead w n) b off (bls ys).toArray).heap.size:=by rw [size_putRow];exact hk
  show ((putRow _ (Sort.ahead w n) b off (bls ys).toArray).heap++os)[k]? = _
  rw [Array.getElem?_append_left hk']
  simp only [putRow,mapBlock,Sort.ahead,Array.getElem?_modify]
 refine ⟨?_,?_⟩
 ·have hcell:=hheap b hb
  rw [if_pos rfl,h5] at hcell
  simp only [Option.map_some,onCells] at hcell
  have hsz:(putCells (fun l:List UInt8=>Value.string ⟨l.toArray⟩) off (bls ys).toArray cur).size=cur.size:=by simp [putCells]
  have hrow:=row_flat (w:=w') (t := .str) rfl (xs:=ys) hs
  have ho:=ownSl_of_row hrow (b:=b) (off:=off) (cap:=cap) (cur:=putCells (fun l:List UInt8=>Value.string ⟨l.toArray⟩) off (bls ys).toArray cur) (ty:=ty) (fz:=fz) (by omega) (by omega) h3 (by rw [hsz];simpa [Ty.size] using h4) hcell (by rw [hsz];exact h6) (fun j c hj=>by
   have e1:=(strs_cells hrow).1
   rw [e1,List.getElem?_map] at hj
   have hjl:j<ys.length:=by
    rcases Nat.lt_or_ge j ys.length with h | h
    ·exact h
    ·rw [List.getElem?_eq_none h] at hj;cases hj
   have hbl:j<(bls ys).toArray.size:=by simpa [bls] using hjl
   obtain ⟨x,hx,he⟩:=bls_get ys j hbl
   rw [hx] at hj
   simp only [Option.map_some,Option.some.injEq] at hj
   have hlt:off+j<cur.size:=by omega
   simp only [putCells,Array.getElem?_mapIdx,Array.getElem?_eq_getElem hlt,Option.map_some]
   rw [if_pos ⟨by omega,by omega⟩,Nat.add_sub_cancel_left,he,hj])
  rw [nils_flatten,hl] at ho
  exact ⟨_,rfl,ho⟩
 ·refine ⟨by rw [hw];rfl,by rw [hw];rfl,by rw [hw];rfl,?_,fun k hk hkb => ?_⟩
  ·rw [hw]
   show _≤((putRow _ (Sort.ahead w n) b off (bls ys).toArray).heap++os).size
   rw [Array.size_append,size_putRow]
   show w.heap.size≤w.heap.size+_
   omega
  ·rw [hheap k hk,if_neg (fun e=>hkb (by rw [e];simp))]
end Go.Am
namespace Go.Am
set_option linter.unusedVariables false
set_option linter.unusedSimpArgs false
theorem bl_lt:∀ x y:List UInt8,Op.bytesLess x y=true↔x<y
 | x,[]=>by cases x <;> simp [Op.bytesLess]
 | [],b :: y=>by simp [Op.bytesLess]
 | a :: x,b :: y=>by
  rw [bl_cons,List.cons_lt_cons_iff,bl_lt x y,UInt8.lt_iff_toNat_lt,UInt8.toNat_inj]
def sle (a b:ByteArray):Prop:=sless b a=false
def sortB (xs:List ByteArray):List ByteArray:=sbl ((bls xs).mergeSort fun x y=>decide (x≤y))
theorem sortB_perm (x0:List ByteArray):(sortB x0).Perm x0:=by
 have h:=(List.mergeSort_perm (bls x0) fun x y=>decide (x≤y)).map (fun l=>(⟨l.toArray⟩:ByteArray))
 have e:(bls x0).map (fun l=>(⟨l.toArray⟩:ByteArray))=x0:=sbl_bls x0
 rw [e] at h
 exact h
theorem le_iff (x y:List UInt8):x≤y↔Op.bytesLess y x=false:=by
 rw [Bool.eq_false_iff,ne_eq,bl_lt]
 exact Iff.rfl
theorem sortB_sorted (x0:List ByteArray):(sortB x0).Pairwise sle:=by
 have h:=List.pairwise_mergeSort (le:=fun x y:List UInt8=>decide (x≤y)) (fun a b c h1 h2=>by
   simp only [decide_eq_true_eq,le_iff] at *
   cases h:Op.bytesLess c a with
   | false=>rfl
   | true =>
    exfalso
    cases h3:Op.bytesLess a b with
    | true=>rw [bl_trans _ _ _ h h3] at h2;cases h2
    | false =>
     have:=bl_tri _ _ h3 h1
     subst this
     rw [h] at h2
     cases h2) (fun a b=>by
   simp only [Bool.or_eq_true,decide_eq_true_eq,le_iff]
   cases h:Op.bytesLess b a with
   | false=>exact .inl rfl
   | true =>
    refine .inr ?_
    cases h2:Op.bytesLess a b with
    | false=>rfl
    | true =>
     have:=bl_trans _ _ _ h h2
     rw [bl_irrefl] at this
     cases this) (bls x0)
 unfold sortB sbl
 rw [List.pairwise_map]
 refine h.imp fun {a b} hab => ?_
 simp only [decide_eq_true_eq,le_iff] at hab
 unfold sle sless
 rw [Lib.toList_data,Lib.toList_data]
 exact hab
end Go.Am
namespace Go.Am
set_option linter.unusedVariables false
set_option linter.unusedSimpArgs false
def bump (h:List Int):List Int:=List.set h (Int.toNat ((↑(List.length h):Int) - 1)) (List.getD h (Int.toNat ((↑(List.length h):Int) - 1)) 0+1)
def cntNew (xs:List ByteArray) (i:Nat) (x:ByteArray):Bool:=decide (i=0) || !(ByteArray.toList x==ByteArray.toList (xs.getD (i - 1) ByteArray.empty))
def cntStep (xs:List ByteArray) (b:(List ByteArray×List Int)×Nat) (x:ByteArray):(List ByteArray×List Int)×Nat :=
 if cntNew xs b.2 x=true then ((b.1.1++[x],bump (b.1.2++[0])),b.2+1) else ((b.1.1,bump b.1.2),b.2+1)
def counted (xs:List ByteArray):(List ByteArray×List Int)×Nat:=xs.foldl (cntStep xs) (([],[]),0)
end Go.Am
namespace Go.Am
set_option linter.unusedVariables false
set_option linter.unusedSimpArgs false
open Go.Sort (grow)
def bss (ls:List (List UInt8)):List ByteArray:=ls.map fun l=>⟨l.toArray⟩
end Go.Am
namespace Go.Am
set_option linter.unusedVariables false
set_option linter.unusedSimpArgs false
end Go.Am
namespace Go.Am
set_option linter.unusedVariables false
set_option linter.unusedSimpArgs false
open Go.RowKit (Below)
theorem fcells_one:∀ {t:Ty} {x:t.den},t.flat=true→∀ u∈fcells t x,u.oneCell'=true
 | .int _,_,_,u,hu=>by simp [fcells] at hu;subst hu;rfl
 | .bool,_,_,u,hu=>by simp [fcells] at hu;subst hu;rfl
 | .fn,x,_,u,hu=>by simp [fcells] at hu;subst hu;exact fnV_one x
 | .str,_,_,u,hu=>by simp [fcells] at hu;subst hu;rfl
 | .sl _,_,h,_,_=>by cases h
 | .unit,_,_,u,hu=>by simp [fcells] at hu
 | .cons a b,x,hf,u,hu=>by
  simp only [Ty.flat,Bool.and_eq_true] at hf
  simp only [fcells,List.mem_append] at hu
  rcases hu with hu | hu
  ·exact fcells_one hf.1 u hu
  ·exact fcells_one hf.2 u hu
def fcs (t:Ty) (xs:List t.den):List Value:=(xs.map (fcells t)).flatten
theorem row_fcells {w:World} {t:Ty} (hf:t.flat=true):∀ {xs:List t.den} {css:List (List Value)} {bss:List (List Nat)},Row (OwnC w t) t.size xs css bss→css=xs.map (fcells t)∧bss.flatten=[]∧∀ x∈xs,Wf t x
 | [],css,bss,⟨h1,h2⟩=>by subst h1 h2;exact ⟨rfl,rfl,fun x h=>by cases h⟩
 | x :: r,css,bss,⟨c,cs,b,bs,h1,h2,h3,h4,h5⟩=>by
  subst h1 h2
  obtain ⟨e1,e2,e3⟩:=row_fcells hf h5
  have e4:b=[]:=(h4.flat (w':=w) (G:=fun _=>True) hf).2
  refine ⟨by rw [e1,own_fcells hf h4];rfl,by simp [e2,e4],fun y hy => ?_⟩
  rcases List.mem_cons.1 hy with rfl | hy
  ·exact h4.wf
  ·exact e3 y hy
theorem fcs_length {t:Ty} (hf:t.flat=true) {xs:List t.den} (hw:∀ x∈xs,Wf t x):(fcs t xs).length=xs.length*t.size :=
 (row_flat (w:=default) hf hw).len.2.2
theorem slAt_flat {w:World} {G:Nat→Prop} {t:Ty} (hf:t.flat=true) {xs:List t.den} {v:Value} (h:SlAt w G (RepC w G t) t.size xs v) :
  (∀ x∈xs,Wf t x)∧xs.length≤maxLen∧((∃ ad,v = .slice ad 0 0∧xs=[]) ∨
   ∃ b off cap,v = .slice (some ⟨b,off,none⟩) xs.length cap∧xs.length≤cap∧cap≤maxLen∧G b∧∀ j u,(fcs t xs)[j]? = some u→w.cell? ⟨b,off+j,none⟩=some u):=by
 refine ⟨(wf_slAt (fun _ _=>RepC.wf) h).2,h.1,?_⟩
 have hl:=h.2
 obtain ⟨css,bss,hrow,hflat,hcase⟩:=SlAt.row h
 rcases hcase with ⟨ad,rfl,rfl⟩ | ⟨b',off,cap,rfl,hG,hcells⟩
 ·exact .inl ⟨ad,rfl,rfl⟩
 ·rcases hl with ⟨ad,e,rfl⟩ | ⟨b2,off2,cap2,e,h2,h3,h4,_⟩
  ·simp only [Value.slice.injEq] at e
   obtain ⟨e1,e2,e3⟩:=e
   exact .inl ⟨some ⟨b',off,none⟩,by rw [e3];rfl,rfl⟩
  ·cases e
   refine .inr ⟨b',off,cap,rfl,h2,h3,hG,fun j u hj=>hcells j u ?_⟩
   have hr:Row (OwnC w t) t.size xs css bss:=hrow.mono fun y c b _ hh=>by
    obtain ⟨g1,g2⟩:=hh
    subst g2
    exact g1.own hf
   rw [(row_fcells hf hr).1]
   exact hj
theorem own_flat {w:World} {t:Ty} (hf:t.flat=true) {xs:List t.den} {v:Value} {bs:List Nat} (h:OwnC w (.sl t) xs [v] bs) :
  (∀ x∈xs,Wf t x)∧xs.length≤maxLen∧((∃ ad,v = .slice ad 0 0∧xs=[]∧bs=[]) ∨
  ∃ b off cap cur ty fz,v = .slice (some ⟨b,off,none⟩) xs.length cap∧xs.length≤cap∧cap≤maxLen∧off+cap*t.size≤cur.size∧w.heap[b]? = some (.cells cur ty fz)∧FreeS t.size fz cur.size∧bs=[b] ∧
   ∀ j u,(fcs t xs)[j]? = some u→cur[off+j]? = some u):=by
 obtain ⟨v',hv,h⟩:=h
 cases hv
 have hm:=h.1
 obtain ⟨css,bss,hrow,hcase⟩:=OwnSl.row h
 obtain ⟨e1,e2,e3⟩:=row_fcells hf hrow
 refine ⟨e3,hm,?_⟩
 rcases hcase with ⟨ad,h1,h2,h3⟩ | ⟨b,off,cap,cur,ty,fz,h1,h2,h3,h4,h5,h6,h7,h8⟩
 ·exact .inl ⟨ad,h1,h2,h3⟩
 ·exact .inr ⟨b,off,cap,cur,ty,fz,h1,h2,h3,h4,h5,h6,by rw [h7,e2],fun j u hj=>h8 j u (by rw [e1];exact hj)⟩
theorem own_flat_mk {w:World} {t:Ty} (hf:t.flat=true) {xs:List t.den} (hw:∀ x∈xs,Wf t x) {n b off cap:Nat} {cur:Array Value} {ty:TypeId} {fz:Nat×Nat} (hn:n=xs.length) (h2:xs.length≤cap) (h3:cap≤maxLen) (h4:off+cap*t.size≤cur.size)
  (h5:w.heap[b]? = some (.cells cur ty fz)) (h6:FreeS t.size fz cur.size) (h8:∀ j u,(fcs t xs)[j]? = some u→cur[off+j]? = some u):OwnC w (.sl t) xs [.slice (some ⟨b,off,none⟩) n cap] [b]:=by
 subst hn
 have hrow:=row_flat (w:=w) hf hw
 have ho:=ownSl_of_row hrow (b:=b) (off:=off) (cap:=cap) (cur:=cur) (ty:=ty) (fz:=fz) (Nat.le_trans h2 h3) h2 h3 h4 h5 h6 h8
 rw [nils_flatten] at ho
 exact ⟨_,rfl,ho⟩
def cloneSpec (t:Ty):Spec:={ sig:=[AT.v (.sl t)],pre:=fun ⟨x0,_⟩=>x0.length≤1048576,res:=fun ⟨x0,_⟩=>[⟨.sl t,x0⟩] }
theorem clone_contract {P:Program} {f:FuncId} {t:Ty} {e:TypeId} (hf:t.flat=true)
  (hnil:∀ w:World,Calls P f #[.slice none 0 0] w fun e w'=>e = .returned (.slice none 0 0)∧w'=w)
  (hsome:∀ (w:World) (a:Addr) (n c:Nat) (news:List Value),news.length=n*t.size→n≤1048576→(∀ j u,news[j]? = some u→w.cell? (a.add j)=some u)→(∀ u∈news,u.oneCell'=true) →
   Calls P f #[.slice (some a) n c] w fun r w'=>∃ v',r = .returned v'∧w'.ownsRow w.heap.size e t.size v' n news∧Below w.heap.size w w') :
  Contract P f (cloneSpec t):=by
 refine Contract0.up rfl rfl ?_
 rintro w ⟨x0,u⟩ vs bss hgo hp ⟨v,s,b,bs,rfl,rfl,⟨rfl,ho⟩,rfl,rfl⟩ hn
 have hp:x0.length≤1048576:=hp
 have hm:x0.length≤maxLen:=by unfold maxLen;omega
 obtain ⟨hw,_,hcase⟩:=slAt_flat hf ho
 have hfin:∀ (v':Value) (w':World),w'.ownsRow w.heap.size e t.size v' x0.length (fcs t x0)→Below w.heap.size w w' →
   ∃ rs ubs rbs,Ending.returned v' = .returned (packV rs)∧Kept ([[]]:List (List Nat)).flatten w w'∧ResRep w' [⟨.sl t,x0⟩] rs rbs∧UpdRep w' [] (ownVals [AT.v (.sl t)] [v]) ubs∧(ubs.flatten++rbs.flatten).Nodup∧∀ b∈ubs.flatten++rbs.flatten,¬ Am.Good w ([[]]:List (List Nat)).flatten b:=fun v' w' h1 h2=>by
  obtain ⟨bs,g1,g2,g3⟩:=own_of_row hf hw hm h1
  refine ⟨[v'],[],[bs],rfl,Kept.of_below h2,⟨_,_,_,_,_,rfl,rfl,g1,rfl,rfl,rfl⟩,⟨rfl,rfl⟩,by simpa using g2,fun b hb hg => ?_⟩
  simp at hb
  have:=g3 b hb
  have:=hg.1
  omega
 rcases hcase with ⟨ad,rfl,rfl⟩ | ⟨b',off,cap,rfl,h2,h3,hG,hcells⟩
 ·cases ad with
  | none =>
   refine (hnil w).mono ?_
   rintro r w' ⟨rfl,rfl⟩
   exact hfin _ _ ⟨by simp [fcs],.inl ⟨rfl,rfl⟩⟩ (Below.refl _ _)
  | some a =>
   refine (hsome w a 0 0 [] (by simp) (by omega) (fun j u h=>by simp at h) (fun u h=>by cases h)).mono ?_
   rintro r w' ⟨v',rfl,h1,h2⟩
   exact hfin _ _ h1 h2
 ·refine (hsome w ⟨b',off,none⟩ x0.length cap (fcs t x0) (fcs_length hf hw) hp (fun j u hj=>by rw [Addr.add_lit];exact hcells j u hj) (fun u hu => ?_)).mono ?_
  ·obtain ⟨l,hl,hu⟩:=List.mem_flatten.1 hu
   obtain ⟨x,_,rfl⟩:=List.mem_map.1 hl
   exact fcells_one hf u hu
  ·rintro r w' ⟨v',rfl,h1,h2⟩
   exact hfin _ _ h1 h2
end Go.Am
namespace Go.Am
set_option linter.unusedVariables false
set_option linter.unusedSimpArgs false
open Go.RowKit (Below)
section
variable {P:Program}
theorem run_copy_k (w:World) (dT sT ty elem:TypeId) (k b o dLen dCap:Nat) (a:Addr) (sLen sCap:Nat) (cs:List Value)
  (hu:P.underlying dT=some (.slice elem)) (hs:(P.info? elem).map (·.size)=some k) (hn:cs.length=Nat.min sLen dLen*k)
  (hsrc:∀ j v,cs[j]? = some v→w.cell? (a.add j)=some v) (hc:∀ j,j<cs.length→(w.cell? ⟨b,o+j,none⟩).isSome=true) (hf:∀ j,j<cs.length→w.frozen? ⟨b,o+j,none⟩=false) (h1:∀ v∈cs,v.oneCell'=true) :
  (Builtin.copy_ #[dT,sT] ty #[.slice (some ⟨b,o,none⟩) dLen dCap,.slice (some a) sLen sCap]).run P w = .ok (goInt (Nat.min sLen dLen)) (w.setCells b o cs):=by
 have hl:=run_loadCells_list (P:=P) w a cs hsrc
 have hst:=run_storeCells_cells (P:=P) b o cs 0 w (by simpa using hc) (by simpa using hf) h1
 cases hq:P.info? elem with
 | none=>simp [hq] at hs
 | some i =>
  have hi:i.size=k:=by simpa [hq] using hs
  simp [Builtin.copy_,run_underlying hu,Builtin.lenOf,Builtin.firstCells,sizeOf,typeInfo,hq,hi, ← hn,hl,hst]
theorem run_clear_k (w:World) (t e ty:TypeId) (z:Value) (ht:P.underlying t=some (.slice e)) (hv:∀ w,(zeroValue e).run P w = .ok z w) (b o n c:Nat) (hn:0<n) (zs:List Value) (hzs:(Builtin.zeroCells z.cells n).toList=zs)
  (h1:∀ v∈zs,v.oneCell'=true) (hc:∀ j,j<zs.length→(w.cell? ⟨b,o+j,none⟩).isSome=true) (hf:∀ j,j<zs.length→w.frozen? ⟨b,o+j,none⟩=false) :
  (Builtin.clear_ #[t] ty #[.slice (some ⟨b,o,none⟩) n c]).run P w = .ok (.tuple #[]) (w.setCells b o zs):=by
 have hst:=run_storeCells_cells (P:=P) b o zs 0 w (by simpa using hc) (by simpa using hf) h1
 simp only [Nat.add_zero] at hst
 obtain ⟨m,rfl⟩:∃ m,n=m+1:=⟨n - 1,by omega⟩
 simp [Builtin.clear_,run_underlying ht,hv,hzs,hst]
theorem zeroCells_k (t:Ty) (n:Nat):(Builtin.zeroCells (dcells t).toArray n).toList=(List.replicate n (dcells t)).flatten:=by
 have:=zeros_flat (dcells t).toArray n
 unfold Builtin.zeroCells
 rw [this]
end
theorem dcells_one:∀ (t:Ty),∀ v∈dcells t,v.oneCell'=true
 | .int _,v,h=>by simp [dcells] at h;subst h;rfl
 | .bool,v,h=>by simp [dcells] at h;subst h;rfl
 | .fn,v,h=>by simp [dcells] at h;subst h;rfl
 | .str,v,h=>by simp [dcells] at h;subst h;rfl
 | .sl _,v,h=>by simp [dcells] at h;subst h;rfl
 | .unit,v,h=>by simp [dcells] at h
 | .cons a b,v,h=>by
  simp only [dcells,List.mem_append] at h
  rcases h with h | h
  ·exact dcells_one a v h
  ·exact dcells_one b v h
theorem isSome_put (b:Nat):∀ (vs:List Value) (o:Nat) (w:World) (x:Addr),(w.cell? x).isSome=true→((w.setCells b o vs).cell? x).isSome=true
 | [],_,_,_,h=>h
 | v :: r,o,w,x,h=>by
  refine isSome_put b r (o+1) _ x ?_
  obtain ⟨u,hu⟩:=Option.isSome_iff_exists.1 h
  by_cases e:(⟨b,o,none⟩:Addr)=x
  ·subst e;rw [World.cell?_setCell_same _ _ _ hu];rfl
  ·rw [World.cell?_setCell_other _ _ _ _ e,hu];rfl
theorem setCell_block {w:World} {b o:Nat} {v:Value} {cur:Array Value} {ty:TypeId} {fz:Nat×Nat} (h:w.heap[b]? = some (.cells cur ty fz)):(w.setCell ⟨b,o,none⟩ v).heap[b]? = some (.cells (cur.setIfInBounds o v) ty fz)∧(∀ k,k≠b→(w.setCell ⟨b,o,none⟩ v).heap[k]? = w.heap[k]?)∧(w.setCell ⟨b,o,none⟩ v).heap.size=w.heap.size:=by
 refine ⟨?_,fun k hk => ?_,?_⟩
 ·simp [World.setCell,Array.getElem?_modify,h]
 ·simp [World.setCell,Array.getElem?_modify,Ne.symm hk]
 ·simp [World.setCell]
theorem setCells_block:∀ (vs:List Value) {w:World} {b o:Nat} {cur:Array Value} {ty:TypeId} {fz:Nat×Nat},w.heap[b]? = some (.cells cur ty fz)→o+vs.length≤cur.size →
  ∃ cur',(w.setCells b o vs).heap[b]? = some (.cells cur' ty fz)∧cur'.size=cur.size∧(∀ j u,vs[j]? = some u→cur'[o+j]? = some u)∧(∀ j,j<o∨o+vs.length≤j→cur'[j]? = cur[j]?) ∧
   (∀ k,k≠b→(w.setCells b o vs).heap[k]? = w.heap[k]?)∧(w.setCells b o vs).heap.size=w.heap.size
 | [],w,b,o,cur,ty,fz,h,_=>⟨cur,h,rfl,fun j u hj=>by simp at hj,fun _ _=>rfl,fun _ _=>rfl,rfl⟩
 | v :: r,w,b,o,cur,ty,fz,h,hl=>by
  simp only [List.length_cons] at hl
  obtain ⟨e1,e2,e3⟩:=setCell_block (o:=o) (v:=v) h
  obtain ⟨cur',g1,g2,g3,g4,g5,g6⟩:=setCells_block r (o:=o+1) e1 (by simp;omega)
  refine ⟨cur',g1,by rw [g2];simp,fun j u hj => ?_,fun j hj => ?_,fun k hk=>by rw [World.setCells,g5 k hk,e2 k hk],by rw [World.setCells,g6,e3]⟩
  ·cases j with
   | zero =>
    simp at hj
    subst hj
    rw [Nat.add_zero,g4 o (.inl (by omega)),Array.getElem?_setIfInBounds_self_of_lt (by omega)]
   | succ j =>
    have:=g3 j u (by simpa using hj)
    rwa [show o+(j+1)=o+1+j by omega]
  ·simp only [List.length_cons] at hj
   rw [g4 j (by omega),Array.getElem?_setIfInBounds_ne (by omega)]
theorem setCells_kept (vs:List Value) {w:World} {b o:Nat} {cur:Array Value} {ty:TypeId} {fz:Nat×Nat} (h:w.heap[b]? = some (.cells cur ty fz)) (hl:o+vs.length≤cur.size):Kept [b] w (w.setCells b o vs):=by
 obtain ⟨_,_,_,_,_,g5,g6⟩:=setCells_block vs h hl
 have hw:∀ (vs:List Value) (o:Nat) (w:World),(w.setCells b o vs).os=w.os∧(w.setCells b o vs).tape=w.tape∧(w.setCells b o vs).output=w.output:=by
  intro vs
  induction vs with
  | nil=>intro o w;exact ⟨rfl,rfl,rfl⟩
  | cons v r ih =>
   intro o w
   obtain ⟨h1,h2,h3⟩:=ih (o+1) (w.setCell ⟨b,o,none⟩ v)
   exact ⟨h1,h2,h3⟩
 obtain ⟨h1,h2,h3⟩:=hw vs o w
 exact ⟨h1,h2,h3,by rw [g6];exact Nat.le_refl _,fun k hk hkb=>g5 k (by simpa using hkb)⟩
theorem fcs_append (t:Ty) (xs ys:List t.den):fcs t (xs++ys)=fcs t xs++fcs t ys:=by simp [fcs]
structure OwnAt (w:World) (t:Ty) (xs:List t.den) (b off cap:Nat) (cur:Array Value) (ty:TypeId) (fz:Nat×Nat):Prop where
 wf:∀ x∈xs,Wf t x
 len:xs.length≤cap
 capm:cap≤maxLen
 fit:off+cap*t.size≤cur.size
 blk:w.heap[b]? = some (.cells cur ty fz)
 free:FreeS t.size fz cur.size
 has:∀ j u,(fcs t xs)[j]? = some u→cur[off+j]? = some u
theorem OwnAt.cell {w:World} {t:Ty} {xs:List t.den} {b off cap:Nat} {cur:Array Value} {ty:TypeId} {fz:Nat×Nat} (h:OwnAt w t xs b off cap cur ty fz):∀ j u,(fcs t xs)[j]? = some u→w.cell? ⟨b,off+j,none⟩=some u:=fun j u hj=>by
 simp only [World.cell?, h.blk]
 exact h.has j u hj
theorem OwnAt.some' {w:World} {t:Ty} {xs:List t.den} {b off cap:Nat} {cur:Array Value} {ty:TypeId} {fz:Nat×Nat} (h:OwnAt w t xs b off cap cur ty fz):∀ j,j<cap*t.size→(w.cell? ⟨b,off+j,none⟩).isSome=true:=fun j hj=>by
 have:=h.fit
 simp only [World.cell?, h.blk]
 rw [Array.getElem?_eq_getElem (by omega)]
 rfl
theorem OwnAt.unfrozen {w:World} {t:Ty} {xs:List t.den} {b off cap:Nat} {cur:Array Value} {ty:TypeId} {fz:Nat×Nat} (h:OwnAt w t xs b off cap cur ty fz):∀ j,j<cap*t.size→w.frozen? ⟨b,off+j,none⟩=false:=fun j hj=>by
 have h1:=h.fit
 have h2:=h.free.1 (off+j) (by omega)
 simp only [World.frozen?, h.blk]
 rw [Bool.eq_false_iff]
 intro hh
 simp only [Bool.and_eq_true,decide_eq_true_eq] at hh
 exact h2 hh
theorem OwnAt.lt {w:World} {t:Ty} {xs:List t.den} {b off cap:Nat} {cur:Array Value} {ty:TypeId} {fz:Nat×Nat} (h:OwnAt w t xs b off cap cur ty fz):b<w.heap.size:=by
 rcases Nat.lt_or_ge b w.heap.size with h' | h'
 ·exact h'
 ·have:=h.blk
  rw [Array.getElem?_eq_none h'] at this;cases this
theorem ownAt_of {w:World} {t:Ty} (hf:t.flat=true) {xs:List t.den} {v:Value} {bs:List Nat} (h:OwnC w (.sl t) xs [v] bs) (hne:xs≠[]) :
  ∃ b off cap cur ty fz,v = .slice (some ⟨b,off,none⟩) xs.length cap∧bs=[b]∧OwnAt w t xs b off cap cur ty fz:=by
 obtain ⟨hw,hm,hcase⟩:=own_flat hf h
 rcases hcase with ⟨ad,rfl,h1,_⟩ | ⟨b,off,cap,cur,ty,fz,h1,h2,h3,h4,h5,h6,h7,h8⟩
 ·exact absurd h1 hne
 ·exact ⟨b,off,cap,cur,ty,fz,h1,h7,hw,h2,h3,h4,h5,h6,h8⟩
theorem fcells_ones {t:Ty} (hf:t.flat=true) (xs:List t.den):∀ u∈fcs t xs,u.oneCell'=true:=fun u hu=>by
 obtain ⟨l,hl,hu⟩:=List.mem_flatten.1 hu
 obtain ⟨x,_,rfl⟩:=List.mem_map.1 hl
 exact fcells_one hf u hu
theorem fcs_drop {t:Ty} (hf:t.flat=true) {xs:List t.den} (hw:∀ x∈xs,Wf t x) (j:Nat) (hj:j≤xs.length):∀ (k:Nat) (u:Value),(fcs t (xs.drop j))[k]? = some u→(fcs t xs)[j*t.size+k]? = some u:=fun k u hk=>by
 have h1:fcs t xs=fcs t (xs.take j)++fcs t (xs.drop j):=by rw [← fcs_append,List.take_append_drop]
 have h2:(fcs t (xs.take j)).length=j*t.size:=by rw [fcs_length hf (fun x hx=>hw x (List.mem_of_mem_take hx)),List.length_take,Nat.min_eq_left hj]
 rw [h1,List.getElem?_append_right (by omega),h2,Nat.add_sub_cancel_left]
 exact hk
theorem fcs_take {t:Ty} (hf:t.flat=true) {xs:List t.den} (hw:∀ x∈xs,Wf t x) (j:Nat):∀ (k:Nat) (u:Value),(fcs t (xs.take j))[k]? = some u→(fcs t xs)[k]? = some u:=fun k u hk=>by
 have h1:fcs t xs=fcs t (xs.take j)++fcs t (xs.drop j):=by rw [← fcs_append,List.take_append_drop]
 rw [h1,List.getElem?_append_left (List.getElem?_eq_some_iff.1 hk).1]
 exact hk
def deleteSpec (t:Ty):Spec:={ sig:=[AT.own t,AT.v (.int .i64),AT.v (.int .i64)],pre:=fun ⟨x0,x1,x2,_⟩=>0≤x1∧x1<x2∧x2≤x0.length,upd:=fun _=>[none],res:=fun ⟨x0,x1,x2,_⟩=>[⟨.sl t,x0.take x1.toNat++x0.drop x2.toNat⟩] }
theorem delete_contract {P:Program} {f:FuncId} {t:Ty} (hf:t.flat=true)
  (hrun:∀ (w:World) (xs:List t.den) (b off cap:Nat) (cur:Array Value) (ty:TypeId) (fz:Nat×Nat) (i j:Nat),OwnAt w t xs b off cap cur ty fz→i<j→j≤xs.length →
   Calls P f #[.slice (some ⟨b,off,none⟩) xs.length cap,.int .i64 i,.int .i64 j] w fun r w'=>r = .returned (.slice (some ⟨b,off,none⟩) (xs.length - (j - i)) cap) ∧
    ∃ q zs,zs.length=(j - i)*t.size∧w'=((w.drewN q).setCells b (off+i*t.size) (fcs t (xs.drop j))).setCells b (off+(xs.length - (j - i))*t.size) zs) :
  Contract P f (deleteSpec t):=by
 refine Contract0.up rfl rfl ?_
 rintro w ⟨z0,z1,z2,u⟩ vs bss hgo hp ⟨v,s,b0,bs0,rfl,rfl,ho,v1,s1,b1,bs1,rfl,rfl,⟨rfl,rfl,_⟩,v2,s2,b2,bs2,rfl,rfl,⟨rfl,rfl,_⟩,rfl,rfl⟩ hn
 obtain ⟨x0,rfl⟩:∃ y:List t.den,y=z0:=⟨z0,rfl⟩
 obtain ⟨x1,rfl⟩:∃ y:Int,y=z1:=⟨z1,rfl⟩
 obtain ⟨x2,rfl⟩:∃ y:Int,y=z2:=⟨z2,rfl⟩
 dsimp only
 have ho':OwnC w (.sl t) x0 [v] b0:=ho
 obtain ⟨p0,p1,p2⟩:0≤x1∧x1<x2∧x2≤x0.length:=hp
 obtain ⟨i,rfl⟩:∃ i:Nat,x1=i:=⟨x1.toNat,by omega⟩
 obtain ⟨j,rfl⟩:∃ j:Nat,x2=j:=⟨x2.toNat,by omega⟩
 have hij:i<j:=by omega
 have hj:j≤x0.length:=by omega
 obtain ⟨b,off,cap,cur,ty,fz,rfl,rfl,hA⟩:=ownAt_of hf ho' (by intro e;rw [e] at hj;simp at hj;omega)
 refine (hrun w x0 b off cap cur ty fz i j hA hij hj).mono ?_
 rintro r w' ⟨rfl,q,zs,hz,rfl⟩
 have hlen:=fcs_length hf hA.wf
 have hd:(fcs t (x0.drop j)).length=(x0.length - j)*t.size:=by rw [fcs_length hf (fun x hx=>hA.wf x (List.mem_of_mem_drop hx)),List.length_drop]
 have hfit:=hA.fit
 have hle:x0.length*t.size≤cap*t.size:=Nat.mul_le_mul_right _ hA.len
 have e1:i*t.size+(x0.length - j)*t.size=(x0.length - (j - i))*t.size:=by rw [← Nat.add_mul];congr 1;omega
 have e2:(x0.length - (j - i))*t.size+(j - i)*t.size=x0.length*t.size:=by rw [← Nat.add_mul];congr 1;omega
 have hblk:(w.drewN q).heap[b]? = some (.cells cur ty fz):=hA.blk
 have l1:off+i*t.size+(fcs t (x0.drop j)).length≤cur.size:=by rw [hd];omega
 obtain ⟨c1,g1,g2,g3,g4,g5,g6⟩:=setCells_block (fcs t (x0.drop j)) hblk l1
 have l2:off+(x0.length - (j - i))*t.size+zs.length≤c1.size:=by rw [hz,g2];omega
 obtain ⟨c2,k1,k2,k3,k4,k5,k6⟩:=setCells_block zs g1 l2
 have hkept:Kept [b] w (((w.drewN q).setCells b (off+i*t.size) (fcs t (x0.drop j))).setCells b (off+(x0.length - (j - i))*t.size) zs) :=
  ((show Kept [b] w (w.drewN q) from ⟨rfl,rfl,rfl,Nat.le_refl _,fun _ _ _=>rfl⟩).trans (setCells_kept _ hblk l1)).trans (setCells_kept _ g1 l2)
 have hti:(fcs t (x0.take i)).length=i*t.size:=by rw [fcs_length hf (fun x hx=>hA.wf x (List.mem_of_mem_take hx)),List.length_take,Nat.min_eq_left (by omega)]
 have hres:OwnC (((w.drewN q).setCells b (off+i*t.size) (fcs t (x0.drop j))).setCells b (off+(x0.length - (j - i))*t.size) zs) (.sl t) (x0.take i++x0.drop j) [.slice (some ⟨b,off,none⟩) (x0.length - (j - i)) cap] [b]:=by
  refine own_flat_mk hf (cur:=c2) (ty:=ty) (fz:=fz) (fun x hx => ?_) (by simp only [List.length_append,List.length_take,List.length_drop];omega) (by have:=hA.len;simp only [List.length_append,List.length_take,List.length_drop];omega) hA.capm (by rw [k2,g2];exact hA.fit) k1 (by rw [k2,g2];exact hA.free) (fun n u hu => ?_)
  ·rcases List.mem_append.1 hx with hx | hx
   ·exact hA.wf x (List.mem_of_mem_take hx)
   ·exact hA.wf x (List.mem_of_mem_drop hx)
  ·rw [fcs_append] at hu
   have hun:=(List.getElem?_eq_some_iff.1 hu).1
   rw [List.length_append,hti,hd] at hun
   rw [k4 (off+n) (.inl (by omega))]
   by_cases hni:n<i*t.size
   ·rw [List.getElem?_append_left (by omega)] at hu
    rw [g4 (off+n) (.inl (by omega))]
    exact hA.has n u (fcs_take hf hA.wf i n u hu)
   ·rw [List.getElem?_append_right (by omega),hti] at hu
    have:=g3 _ u hu
    rwa [show off+i*t.size+(n - i*t.size)=off+n by omega] at this
 refine ⟨[_],[[]],[[b]],rfl,by simpa using hkept,⟨_,_,_,_,_,rfl,rfl,hres,rfl,rfl,rfl⟩,⟨_,_,_,rfl,rfl,rfl,rfl⟩,by simp,fun d hd hg => ?_⟩
 simp at hd
 subst hd
 exact hg.2 (by simp)
end Go.Am
namespace Go.Am
set_option linter.unusedVariables false
set_option linter.unusedSimpArgs false
open Go.RowKit (Below)
def insertSpec (t:Ty):Spec:={ sig:=[AT.own t,AT.v (.int .i64),AT.own t],pre:=fun ⟨x0,x1,x2,_⟩=>0≤x1∧x1≤x0.length∧x2.length=1∧x0.length≤1048576,upd:=fun _=>[none,none],res:=fun ⟨x0,x1,x2,_⟩=>[⟨.sl t,x0.take x1.toNat++(x2++x0.drop x1.toNat)⟩] }
theorem insert_contract {P:Program} {f:FuncId} {t:Ty} {e:TypeId} (hf:t.flat=true)
  (hshift:∀ (w:World) (xs ys:List t.den) (b off cap:Nat) (cur:Array Value) (ty:TypeId) (fz:Nat×Nat) (vb voff vcap:Nat) (vcur:Array Value) (vty:TypeId) (vfz:Nat×Nat) (i:Nat),OwnAt w t xs b off cap cur ty fz→OwnAt w t ys vb voff vcap vcur vty vfz→ys.length=1→vb≠b→i<xs.length→xs.length+1≤cap →
   Calls P f #[.slice (some ⟨b,off,none⟩) xs.length cap,.int .i64 i,.slice (some ⟨vb,voff,none⟩) 1 vcap] w fun r w'=>r = .returned (.slice (some ⟨b,off,none⟩) (xs.length+1) cap) ∧
    ∃ q,w'=((w.drewN q).setCells b (off+(i+1)*t.size) (fcs t (xs.drop i))).setCells b (off+i*t.size) (fcs t ys))
  (hgrow:∀ (w:World) (xs ys:List t.den) (b off cap:Nat) (cur:Array Value) (ty:TypeId) (fz:Nat×Nat) (vb voff vcap:Nat) (vcur:Array Value) (vty:TypeId) (vfz:Nat×Nat) (i:Nat),OwnAt w t xs b off cap cur ty fz→OwnAt w t ys vb voff vcap vcur vty vfz→ys.length=1→vb≠b→i<xs.length→cap<xs.length+1→xs.length≤1048576 →
   Calls P f #[.slice (some ⟨b,off,none⟩) xs.length cap,.int .i64 i,.slice (some ⟨vb,voff,none⟩) 1 vcap] w fun r w'=>∃ v',r = .returned v'∧w'.ownsRow w.heap.size e t.size v' (xs.length+1) (fcs t (xs.take i++(ys++xs.drop i)))∧Below w.heap.size w w')
  (hend:∀ (w:World) (xs ys:List t.den) (b off cap:Nat) (cur:Array Value) (ty:TypeId) (fz:Nat×Nat) (vb voff vcap:Nat) (vcur:Array Value) (vty:TypeId) (vfz:Nat×Nat),OwnAt w t xs b off cap cur ty fz→OwnAt w t ys vb voff vcap vcur vty vfz→ys.length=1→vb≠b→xs.length+1≤cap →
   Calls P f #[.slice (some ⟨b,off,none⟩) xs.length cap,.int .i64 xs.length,.slice (some ⟨vb,voff,none⟩) 1 vcap] w fun r w'=>r = .returned (.slice (some ⟨b,off,none⟩) (xs.length+1) cap) ∧
    ∃ q,w'=(w.drewN q).setCells b (off+xs.length*t.size) (fcs t ys))
  (hlast:∀ (w:World) (xs ys:List t.den) (ad:Option Addr) (cap:Nat) (vb voff vcap:Nat) (vcur:Array Value) (vty:TypeId) (vfz:Nat×Nat),(∀ x∈xs,Wf t x)→xs.length≤cap→(ad=none→xs=[])→(∀ a,ad=some a→∀ j u,(fcs t xs)[j]? = some u→w.cell? (a.add j)=some u)→OwnAt w t ys vb voff vcap vcur vty vfz→ys.length=1→cap<xs.length+1→xs.length≤1048576 →
   Calls P f #[.slice ad xs.length cap,.int .i64 xs.length,.slice (some ⟨vb,voff,none⟩) 1 vcap] w fun r w'=>∃ v',r = .returned v'∧w'.ownsRow w.heap.size e t.size v' (xs.length+1) (fcs t (xs++ys))∧Below w.heap.size w w') :
  Contract P f (insertSpec t):=by
 refine Contract0.up rfl rfl ?_
 rintro w ⟨z0,z1,z2,u⟩ vs bss hgo hp ⟨v,s,b0,bs0,rfl,rfl,ho,v1,s1,b1,bs1,rfl,rfl,⟨rfl,rfl,_⟩,v2,s2,b2,bs2,rfl,rfl,ho2,rfl,rfl⟩ hn
 obtain ⟨x0,rfl⟩:∃ y:List t.den,y=z0:=⟨z0,rfl⟩
 obtain ⟨x1,rfl⟩:∃ y:Int,y=z1:=⟨z1,rfl⟩
 obtain ⟨x2,rfl⟩:∃ y:List t.den,y=z2:=⟨z2,rfl⟩
 dsimp only
 obtain ⟨p0,p1,p2,p3⟩:0≤x1∧x1≤x0.length∧x2.length=1∧x0.length≤1048576:=hp
 obtain ⟨i,rfl⟩:∃ i:Nat,x1=i:=⟨x1.toNat,by omega⟩
 have hi:i≤x0.length:=by omega
 have ho':OwnC w (.sl t) x0 [v] b0:=ho
 have ho2':OwnC w (.sl t) x2 [v2] b2:=ho2
 obtain ⟨vb,voff,vcap,vcur,vty,vfz,rfl,rfl,hB⟩:=ownAt_of hf ho2' (by intro e;rw [e] at p2;simp at p2)
 rw [p2]
 have hwf2:=hB.wf
 -- a row of one's own
 have fresh:∀ (ys:List t.den) (v':Value) (w':World),ys.length=x0.length+1→(∀ y∈ys,Wf t y)→w'.ownsRow w.heap.size e t.size v' (x0.length+1) (fcs t ys)→Below w.heap.size w w' →
   ∃ rs ubs rbs,Ending.returned v' = .returned (packV rs)∧Kept [b0,[],[vb]].flatten w w'∧ResRep w' [⟨.sl t,ys⟩] rs rbs∧UpdRep w' [none,none] (ownVals [AT.own t,AT.v (.int .i64),AT.own t] [v,.int .i64 i,.slice (some ⟨vb,voff,none⟩) 1 vcap]) ubs ∧
    (ubs.flatten++rbs.flatten).Nodup∧∀ d∈ubs.flatten++rbs.flatten,¬ Am.Good w [b0,[],[vb]].flatten d:=fun ys v' w' hl hw h1 h2=>by
  rw [← hl] at h1
  obtain ⟨bs,g1,g2,g3⟩:=own_of_row hf hw (by rw [hl];unfold maxLen;omega) h1
  refine ⟨[v'],[[],[]],[bs],rfl,(Kept.of_below h2).of_nil,⟨_,_,_,_,_,rfl,rfl,g1,rfl,rfl,rfl⟩,⟨_,_,_,rfl,rfl,_,_,_,rfl,rfl,rfl,rfl⟩,by simpa using g2,fun d hd hg => ?_⟩
  simp at hd
  have:=g3 d hd
  have:=hg.1
  omega
 -- what was there,written anew
 have wf3:∀ y∈x0.take i++(x2++x0.drop i),Wf t y→True:=fun _ _ _=>trivial
 obtain ⟨hw0,hm0,hcase⟩:=own_flat hf ho'
 have hws:∀ y∈x0.take i++(x2++x0.drop i),Wf t y:=fun y hy=>by
  rcases List.mem_append.1 hy with hy | hy
  ·exact hw0 y (List.mem_of_mem_take hy)
  ·rcases List.mem_append.1 hy with hy | hy
   ·exact hwf2 y hy
   ·exact hw0 y (List.mem_of_mem_drop hy)
 have hlens:(x0.take i++(x2++x0.drop i)).length=x0.length+1:=by
  simp only [List.length_append,List.length_take,List.length_drop,p2]
  omega
 rcases hcase with ⟨ad,rfl,rfl,rfl⟩ | ⟨b,off,cap,cur,ty,fz,rfl,h2,h3,h4,h5,h6,rfl,h8⟩
 ·have hi0:i=0:=by simpa using hi
  subst hi0
  have:=hlast w [] x2 ad 0 vb voff vcap vcur vty vfz (fun x h=>by cases h) (Nat.le_refl _) (fun _=>rfl) (fun a _ j u hj=>by simp [fcs] at hj) hB p2 (by simp) (by simp)
  refine this.mono ?_
  rintro r w' ⟨v',rfl,h1,h2⟩
  exact fresh _ v' w' hlens hws (by simpa using h1) h2
 ·have hA:OwnAt w t x0 b off cap cur ty fz:=⟨hw0,h2,h3,h4,h5,h6,h8⟩
  have hvb:vb≠b:=by
   simp only [List.flatten_cons,List.flatten_nil,List.append_nil,List.nil_append,List.cons_append,List.nodup_cons,List.mem_singleton] at hn
   exact fun e=>hn.1 e.symm
  have place:∀ (w':World) (cur':Array Value),Kept [b] w w'→w'.heap[b]? = some (.cells cur' ty fz)→cur'.size=cur.size→x0.length+1≤cap→(∀ j u,(fcs t (x0.take i++(x2++x0.drop i)))[j]? = some u→cur'[off+j]? = some u) →
    ∃ rs ubs rbs,Ending.returned (.slice (some ⟨b,off,none⟩) (x0.length+1) cap) = .returned (packV rs)∧Kept [[b],[],[vb]].flatten w w'∧ResRep w' [⟨.sl t,x0.take i++(x2++x0.drop i)⟩] rs rbs∧UpdRep w' [none,none] (ownVals [AT.own t,AT.v (.int .i64),AT.own t] [.slice (some ⟨b,off,none⟩) x0.length cap,.int .i64 i,.slice (some ⟨vb,voff,none⟩) 1 vcap]) ubs ∧
     (ubs.flatten++rbs.flatten).Nodup∧∀ d∈ubs.flatten++rbs.flatten,¬ Am.Good w [[b],[],[vb]].flatten d:=fun w' cur' hk hb hs hr hc=>by
   have hres:=own_flat_mk (w:=w') hf hws (n:=x0.length+1) (b:=b) (off:=off) (cap:=cap) (cur:=cur') (ty:=ty) (fz:=fz) hlens.symm (by rw [hlens];exact hr) h3 (by rw [hs];exact h4) hb (by rw [hs];exact h6) hc
   refine ⟨[_],[[],[]],[[b]],rfl,hk.mono (fun k hk=>by simp at hk;simp [hk]),⟨_,_,_,_,_,rfl,rfl,hres,rfl,rfl,rfl⟩,⟨_,_,_,rfl,rfl,_,_,_,rfl,rfl,rfl,rfl⟩,by simp,fun d hd hg => ?_⟩
   simp at hd
   subst hd
   exact hg.2 (by simp)
  have hdr:∀ q,Kept [b] w (w.drewN q):=fun q=>⟨rfl,rfl,rfl,Nat.le_refl _,fun _ _ _=>rfl⟩
  have hlen2:(fcs t x2).length=t.size:=by rw [fcs_length hf hwf2,p2,Nat.one_mul]
  by_cases hroom:x0.length+1≤cap
  ·have hle:(x0.length+1)*t.size≤cap*t.size:=Nat.mul_le_mul_right _ hroom
   rw [Nat.add_mul,Nat.one_mul] at hle
   by_cases hin:i=x0.length
   ·subst hin
    refine (hend w x0 x2 b off cap cur ty fz vb voff vcap vcur vty vfz hA hB p2 hvb hroom).mono ?_
    rintro r w' ⟨rfl,q,rfl⟩
    have l1:off+x0.length*t.size+(fcs t x2).length≤cur.size:=by rw [hlen2];omega
    obtain ⟨c1,g1,g2,g3,g4,g5,g6⟩:=setCells_block (fcs t x2) (show (w.drewN q).heap[b]? = some (.cells cur ty fz) from h5) l1
    refine place _ c1 ((hdr q).trans (setCells_kept _ h5 l1)) g1 g2 hroom (fun j u hu => ?_)
    rw [List.take_length,List.drop_length,List.append_nil,fcs_append] at hu
    have hl0:=fcs_length hf hw0
    by_cases hj:j<x0.length*t.size
    ·rw [List.getElem?_append_left (by omega)] at hu
     rw [g4 _ (.inl (by omega))]
     exact h8 j u hu
    ·rw [List.getElem?_append_right (by omega),hl0] at hu
     have:=g3 _ u hu
     rwa [show off+x0.length*t.size+(j - x0.length*t.size)=off+j by omega] at this
   ·have hlt:i<x0.length:=by omega
    refine (hshift w x0 x2 b off cap cur ty fz vb voff vcap vcur vty vfz i hA hB p2 hvb hlt hroom).mono ?_
    rintro r w' ⟨rfl,q,rfl⟩
    have hd:(fcs t (x0.drop i)).length=(x0.length - i)*t.size:=by rw [fcs_length hf (fun x hx=>hw0 x (List.mem_of_mem_drop hx)),List.length_drop]
    have hti:(fcs t (x0.take i)).length=i*t.size:=by rw [fcs_length hf (fun x hx=>hw0 x (List.mem_of_mem_take hx)),List.length_take,Nat.min_eq_left (by omega)]
    have e1:(i+1)*t.size+(x0.length - i)*t.size=x0.length*t.size+t.size:=by rw [← Nat.add_mul, ← Nat.succ_mul];congr 1;omega
    have e2:(i+1)*t.size=i*t.size+t.size:=Nat.succ_mul _ _
    have l1:off+(i+1)*t.size+(fcs t (x0.drop i)).length≤cur.size:=by rw [hd];omega
    obtain ⟨c1,g1,g2,g3,g4,g5,g6⟩:=setCells_block (fcs t (x0.drop i)) (show (w.drewN q).heap[b]? = some (.cells cur ty fz) from h5) l1
    have l2:off+i*t.size+(fcs t x2).length≤c1.size:=by rw [hlen2,g2];omega
    obtain ⟨c2,k1,k2,k3,k4,k5,k6⟩:=setCells_block (fcs t x2) g1 l2
    refine place _ c2 (((hdr q).trans (setCells_kept _ h5 l1)).trans (setCells_kept _ g1 l2)) k1 (by rw [k2,g2]) hroom (fun j u hu => ?_)
    rw [fcs_append,fcs_append] at hu
    by_cases hj:j<i*t.size
    ·rw [List.getElem?_append_left (by omega)] at hu
     rw [k4 _ (.inl (by omega)),g4 _ (.inl (by omega))]
     exact h8 j u (fcs_take hf hw0 i j u hu)
    ·rw [List.getElem?_append_right (by omega),hti] at hu
     by_cases hj2:j<i*t.size+t.size
     ·rw [List.getElem?_append_left (by omega)] at hu
      have:=k3 _ u hu
      rwa [show off+i*t.size+(j - i*t.size)=off+j by omega] at this
     ·rw [List.getElem?_append_right (by omega),hlen2] at hu
      rw [k4 _ (.inr (by rw [hlen2];omega))]
      have:=g3 _ u hu
      rwa [show off+(i+1)*t.size+(j - i*t.size - t.size)=off+j by omega] at this
  ·by_cases hin:i=x0.length
   ·subst hin
    have:=hlast w x0 x2 (some ⟨b,off,none⟩) cap vb voff vcap vcur vty vfz hw0 h2 (fun h=>by cases h) (fun a ha j u hj=>by cases ha;rw [Addr.add_lit];exact hA.cell j u hj) hB p2 (by omega) p3
    refine this.mono ?_
    rintro r w' ⟨v',rfl,h1,h2⟩
    exact fresh _ v' w' hlens hws (by rw [Int.toNat_natCast,List.take_length,List.drop_length,List.append_nil];exact h1) h2
   ·have hlt:i<x0.length:=by omega
    refine (hgrow w x0 x2 b off cap cur ty fz vb voff vcap vcur vty vfz i hA hB p2 hvb hlt (by omega) p3).mono ?_
    rintro r w' ⟨v',rfl,h1,h2⟩
    exact fresh _ v' w' hlens hws h1 h2
end Go.Am
namespace Go.Am
set_option linter.unusedVariables false
noncomputable def sel2 {α β:Type} (a:α) (b:β) (Q:α→β→Prop):α×β :=
 @dite _ (∃ p:α×β,Q p.1 p.2) (Classical.propDecidable _) (fun h=>Classical.choose h) (fun _=>(a,b))
theorem sel2_spec {α β:Type} {a:α} {b:β} {Q:α→β→Prop} {x:α} {y:β} (h:Q x y):Q (sel2 a b Q).1 (sel2 a b Q).2:=by
 have hp:∃ p:α×β,Q p.1 p.2:=⟨(x,y),h⟩
 unfold sel2
 rw [dif_pos hp]
 exact Classical.choose_spec hp
end Go.Am
namespace Go.Am
set_option linter.unusedVariables false
set_option linter.unusedSimpArgs false
def runCN (o:Option (List Item×Env×Heap×List Prop)):Option (List Item×Env×Heap)×Prop :=
 match o with
 | some (k,E,L,cs)=>(some (k,E,L),All cs)
 | none=>(none,True)
def runCF (o:Option (List Dyn×List (Option Lst)×List Prop)):Option (List Dyn×List (Option Lst))×Prop :=
 match o with
 | some (ds,us,cs)=>(some (ds,us),All cs)
 | none=>(none,True)
theorem a1 {p q:Prop} (x:p) (y:q):p∧q:=⟨x,y⟩
section
variable {P:Program} {f:FuncId} {R:Ending→World→Prop} {n:Nat} {K:Ctx} {E:Env} {L:Heap}
theorem AtV.go {tab:List TI} {ext:Ext} (hT:TabOk P tab) (hX:ExtOk P ext) (hm:P.follows .mixedOrders=true) (wr:Bool) (stops:List Nat) {q:Nat→Value} {pins:List Nat} (nils:List (Nat×Ty)) (ks:List Nat) (rs:List Nat) (path:List Bool) {k k':List Item} {E':Env} {L':Heap} {C:Prop}
  (hc:C) (hk:AtV P f R n K q pins k' E' L') (h:runCN (Am.runN tab ext wr n stops 2000 pins nils ks rs path k E L)=(some (k',E',L'),C)):AtV P f R n K q pins k E L:=by
 cases hr:Am.runN tab ext wr n stops 2000 pins nils ks rs path k E L with
 | none=>rw [hr] at h;cases h
 | some y =>
  obtain ⟨k1,E1,L1,cs⟩:=y
  rw [hr] at h
  cases h
  exact AtV.runN hT hX hm hr hc hk
theorem AtV.ret {fn:Func} (hf:P.funcs[f]? = some fn) {tab:List TI} {ext:Ext} (hT:TabOk P tab) (hX:ExtOk P ext) (hm:P.follows .mixedOrders=true) (wr:Bool) (stops:List Nat) {q:Nat→Value} {pins:List Nat} {oks:List AT} {kds:List RK} (ts:List Ty) (path:List Bool) {k:List Item} {ds:List Dyn} {us:List (Option Lst)} {C:Prop}
  (hc:C) (h:runCF (runF tab ext wr n stops 2000 pins oks kds ts fn.results path k E L)=(some (ds,us),C)):AtV P f (PostR kds oks ds us pins q K) n K q pins k E L:=by
 cases hr:runF tab ext wr n stops 2000 pins oks kds ts fn.results path k E L with
 | none=>rw [hr] at h;cases h
 | some y =>
  obtain ⟨d1,u1,cs⟩:=y
  rw [hr] at h
  cases h
  exact AtV.fin hf hT hX hm hr hc
end
end Go.Am
set_option linter.unusedVariables false
set_option linter.unusedSimpArgs false
set_option maxRecDepth 100000
namespace Go.Proofs.Ythmimdpgkcadnaa
open Go Go.Am Go.Proofs
def tab:List TI:=[TI.other,
 TI.scal (Ty.fn),
 TI.scal (Ty.int IntKind.i64),
 TI.scal (Ty.int IntKind.i64),
 TI.scal (Ty.bool),
 TI.scal (Ty.int IntKind.u8),
 TI.scal (Ty.int IntKind.u8),
 TI.struct (Ty.cons (Ty.int IntKind.i64) (Ty.cons (Ty.int IntKind.i64) (Ty.cons Ty.bool (Ty.cons (Ty.int IntKind.u8) Ty.unit)))),
 TI.struct (Ty.cons (Ty.int IntKind.i64) (Ty.cons (Ty.int IntKind.i64) (Ty.cons Ty.bool (Ty.cons (Ty.int IntKind.u8) Ty.unit)))),
 TI.scal (Ty.str),
 TI.scal (Ty.str),
 TI.scal (Ty.str),
 TI.scal (Ty.int IntKind.u64),
 TI.other,
 TI.other,
 TI.other,
 TI.other,
 TI.other,
 TI.other,
 TI.other,
 TI.other,
 TI.scal (Ty.int IntKind.i32),
 TI.slice 5 (Ty.int IntKind.u8) 1,
 TI.scal (Ty.fn),
 TI.slice 40 (Ty.cons Ty.str (Ty.cons (Ty.sl Ty.str) Ty.unit)) 40,
 TI.slice 27 (Ty.cons Ty.str (Ty.cons Ty.str (Ty.cons (Ty.int IntKind.i64) Ty.unit))) 40,
 TI.struct (Ty.cons Ty.str (Ty.cons Ty.str (Ty.cons (Ty.int IntKind.i64) Ty.unit))),
 TI.struct (Ty.cons Ty.str (Ty.cons Ty.str (Ty.cons (Ty.int IntKind.i64) Ty.unit))),
 TI.other,
 TI.scal (Ty.fn),
 TI.other,
 TI.scal (Ty.fn),
 TI.scal (Ty.fn),
 TI.scal (Ty.fn),
 TI.slice 2 (Ty.int IntKind.i64) 8,
 TI.other,
 TI.scal (Ty.fn),
 TI.scal (Ty.fn),
 TI.slice 9 (Ty.str) 16,
 TI.struct (Ty.cons Ty.str (Ty.cons (Ty.sl Ty.str) Ty.unit)),
 TI.struct (Ty.cons Ty.str (Ty.cons (Ty.sl Ty.str) Ty.unit)),
 TI.other,
 TI.scal (Ty.fn),
 TI.other,
 TI.scal (Ty.fn),
 TI.scal (Ty.fn),
 TI.scal (Ty.fn),
 TI.other,
 TI.scal (Ty.fn),
 TI.other,
 TI.scal (Ty.fn),
 TI.scal (Ty.fn),
 TI.scal (Ty.fn),
 TI.other,
 TI.scal (Ty.fn),
 TI.scal (Ty.fn),
 TI.scal (Ty.fn),
 TI.scal (Ty.fn),
 TI.scal (Ty.fn),
 TI.scal (Ty.fn),
 TI.scal (Ty.fn),
 TI.scal (Ty.fn),
 TI.scal (Ty.fn),
 TI.scal (Ty.fn),
 TI.scal (Ty.fn),
 TI.scal (Ty.fn),
 TI.scal (Ty.fn),
 TI.scal (Ty.fn),
 TI.scal (Ty.fn),
 TI.scal (Ty.fn),
 TI.scal (Ty.int IntKind.u64),
 TI.struct (Ty.cons (Ty.sl (Ty.int IntKind.u8)) (Ty.cons (Ty.int IntKind.i64) (Ty.cons (Ty.int IntKind.u64) Ty.unit))),
 TI.struct (Ty.cons (Ty.sl (Ty.int IntKind.u8)) (Ty.cons (Ty.int IntKind.i64) (Ty.cons (Ty.int IntKind.u64) Ty.unit))),
 TI.scal (Ty.fn),
 TI.scal (Ty.fn),
 TI.scal (Ty.fn),
 TI.scal (Ty.fn),
 TI.scal (Ty.fn),
 TI.scal (Ty.int IntKind.u64),
 TI.scal (Ty.fn),
 TI.scal (Ty.fn),
 TI.scal (Ty.fn),
 TI.scal (Ty.fn),
 TI.scal (Ty.fn),
 TI.scal (Ty.fn),
 TI.other,
 TI.scal (Ty.fn),
 TI.scal (Ty.fn),
 TI.slice 4 (Ty.bool) 1,
 TI.scal (Ty.fn),
 TI.slice 25 (Ty.sl (Ty.cons Ty.str (Ty.cons Ty.str (Ty.cons (Ty.int IntKind.i64) Ty.unit)))) 24,
 TI.scal (Ty.fn),
 TI.scal (Ty.fn),
 TI.scal (Ty.fn),
 TI.scal (Ty.fn),
 TI.scal (Ty.fn),
 TI.scal (Ty.fn),
 TI.scal (Ty.fn),
 TI.slice 3 (Ty.int IntKind.i64) 8,
 TI.scal (Ty.fn),
 TI.scal (Ty.fn),
 TI.scal (Ty.fn),
 TI.scal (Ty.fn),
 TI.scal (Ty.fn),
 TI.scal (Ty.fn),
 TI.scal (Ty.fn),
 TI.scal (Ty.fn),
 TI.scal (Ty.fn),
 TI.scal (Ty.fn),
 TI.scal (Ty.int IntKind.i64),
 TI.other,
 TI.scal (Ty.fn),
 TI.scal (Ty.fn),
 TI.scal (Ty.fn),
 TI.scal (Ty.fn),
 TI.scal (Ty.fn),
 TI.scal (Ty.fn),
 TI.scal (Ty.int IntKind.u32),
 TI.scal (Ty.fn),
 TI.scal (Ty.int IntKind.u64),
 TI.scal (Ty.fn),
 TI.scal (Ty.fn),
 TI.scal (Ty.fn),
 TI.other,
 TI.scal (Ty.fn),
 TI.other,
 TI.other,
 TI.scal (Ty.fn),
 TI.scal (Ty.fn),
 TI.other,
 TI.other,
 TI.other,
 TI.other,
 TI.other,
 TI.scal (Ty.fn),
 TI.scal (Ty.int IntKind.u8),
 TI.scal (Ty.int IntKind.u8),
 TI.scal (Ty.fn),
 TI.other,
 TI.scal (Ty.int IntKind.i32),
 TI.scal (Ty.int IntKind.i32)]
theorem tabOk:TabOk Try.prog tab:=tabOk_of_check (by kernel_rfl)
theorem mixed:Try.prog.follows .mixedOrders=true:=by kernel_rfl
theorem ginv (W:World) (h:W.ShapedOpen Try.prog)  : GInv W:=trivial
@[reducible] def TyB0:Type:=ByteArray×ByteArray×Int×Unit
theorem ca4:Callable Try.prog 4:=⟨Try.f4,Try.func4,by kernel_rfl,by kernel_rfl⟩
theorem ca5:Callable Try.prog 5:=⟨Try.f5,Try.func5,by kernel_rfl,by kernel_rfl⟩
theorem ca6:Callable Try.prog 6:=⟨Try.f6,Try.func6,by kernel_rfl,by kernel_rfl⟩
theorem ca7:Callable Try.prog 7:=⟨Try.f7,Try.func7,by kernel_rfl,by kernel_rfl⟩
theorem ca8:Callable Try.prog 8:=⟨Try.f8,Try.func8,by kernel_rfl,by kernel_rfl⟩
theorem ca9:Callable Try.prog 9:=⟨Try.f9,Try.func9,by kernel_rfl,by kernel_rfl⟩
theorem ca10:Callable Try.prog 10:=⟨Try.f10,Try.func10,by kernel_rfl,by kernel_rfl⟩
theorem ca11:Callable Try.prog 11:=⟨Try.f11,Try.func11,by kernel_rfl,by kernel_rfl⟩
theorem ca12:Callable Try.prog 12:=⟨Try.f12,Try.func12,by kernel_rfl,by kernel_rfl⟩
theorem ca13:Callable Try.prog 13:=⟨Try.f13,Try.func13,by kernel_rfl,by kernel_rfl⟩
theorem ca14:Callable Try.prog 14:=⟨Try.f14,Try.func14,by kernel_rfl,by kernel_rfl⟩
theorem ca15:Callable Try.prog 15:=⟨Try.f15,Try.func15,by kernel_rfl,by kernel_rfl⟩
theorem ca16:Callable Try.prog 16:=⟨Try.f16,Try.func16,by kernel_rfl,by kernel_rfl⟩
theorem ca17:Callable Try.prog 17:=⟨Try.f17,Try.func17,by kernel_rfl,by kernel_rfl⟩
theorem ca18:Callable Try.prog 18:=⟨Try.f18,Try.func18,by kernel_rfl,by kernel_rfl⟩
theorem ca19:Callable Try.prog 19:=⟨Try.f19,Try.func19,by kernel_rfl,by kernel_rfl⟩
theorem ca20:Callable Try.prog 20:=⟨Try.f20,Try.func20,by kernel_rfl,by kernel_rfl⟩
theorem ca21:Callable Try.prog 21:=⟨Try.f21,Try.func21,by kernel_rfl,by kernel_rfl⟩
theorem ca22:Callable Try.prog 22:=⟨Try.f22,Try.func22,by kernel_rfl,by kernel_rfl⟩
theorem ca23:Callable Try.prog 23:=⟨Try.f23,Try.func23,by kernel_rfl,by kernel_rfl⟩
theorem ca24:Callable Try.prog 24:=⟨Try.f24,Try.func24,by kernel_rfl,by kernel_rfl⟩
theorem ca25:Callable Try.prog 25:=⟨Try.f25,Try.func25,by kernel_rfl,by kernel_rfl⟩
theorem ca26:Callable Try.prog 26:=⟨Try.f26,Try.func26,by kernel_rfl,by kernel_rfl⟩
theorem ca27:Callable Try.prog 27:=⟨Try.f27,Try.func27,by kernel_rfl,by kernel_rfl⟩
theorem ca28:Callable Try.prog 28:=⟨Try.f28,Try.func28,by kernel_rfl,by kernel_rfl⟩
theorem ca29:Callable Try.prog 29:=⟨Try.f29,Try.func29,by kernel_rfl,by kernel_rfl⟩
theorem ca30:Callable Try.prog 30:=⟨Try.f30,Try.func30,by kernel_rfl,by kernel_rfl⟩
theorem ca31:Callable Try.prog 31:=⟨Try.f31,Try.func31,by kernel_rfl,by kernel_rfl⟩
theorem ca32:Callable Try.prog 32:=⟨Try.f32,Try.func32,by kernel_rfl,by kernel_rfl⟩
theorem ca33:Callable Try.prog 33:=⟨Try.f33,Try.func33,by kernel_rfl,by kernel_rfl⟩
theorem ca34:Callable Try.prog 34:=⟨Try.f34,Try.func34,by kernel_rfl,by kernel_rfl⟩
theorem ca35:Callable Try.prog 35:=⟨Try.f35,Try.func35,by kernel_rfl,by kernel_rfl⟩
theorem ca36:Callable Try.prog 36:=⟨Try.f36,Try.func36,by kernel_rfl,by kernel_rfl⟩
theorem ca37:Callable Try.prog 37:=⟨Try.f37,Try.func37,by kernel_rfl,by kernel_rfl⟩
theorem ca38:Callable Try.prog 38:=⟨Try.f38,Try.func38,by kernel_rfl,by kernel_rfl⟩
theorem ca39:Callable Try.prog 39:=⟨Try.f39,Try.func39,by kernel_rfl,by kernel_rfl⟩
theorem ca40:Callable Try.prog 40:=⟨Try.f40,Try.func40,by kernel_rfl,by kernel_rfl⟩
theorem ca41:Callable Try.prog 41:=⟨Try.f41,Try.func41,by kernel_rfl,by kernel_rfl⟩
theorem ca42:Callable Try.prog 42:=⟨Try.f42,Try.func42,by kernel_rfl,by kernel_rfl⟩
theorem ca43:Callable Try.prog 43:=⟨Try.f43,Try.func43,by kernel_rfl,by kernel_rfl⟩
theorem ca44:Callable Try.prog 44:=⟨Try.f44,Try.func44,by kernel_rfl,by kernel_rfl⟩
theorem ca45:Callable Try.prog 45:=⟨Try.f45,Try.func45,by kernel_rfl,by kernel_rfl⟩
theorem ca46:Callable Try.prog 46:=⟨Try.f46,Try.func46,by kernel_rfl,by kernel_rfl⟩
theorem ca47:Callable Try.prog 47:=⟨Try.f47,Try.func47,by kernel_rfl,by kernel_rfl⟩
theorem ca48:Callable Try.prog 48:=⟨Try.f48,Try.func48,by kernel_rfl,by kernel_rfl⟩
theorem ca49:Callable Try.prog 49:=⟨Try.f49,Try.func49,by kernel_rfl,by kernel_rfl⟩
theorem ca50:Callable Try.prog 50:=⟨Try.f50,Try.func50,by kernel_rfl,by kernel_rfl⟩
theorem ca51:Callable Try.prog 51:=⟨Try.f51,Try.func51,by kernel_rfl,by kernel_rfl⟩
theorem ca52:Callable Try.prog 52:=⟨Try.f52,Try.func52,by kernel_rfl,by kernel_rfl⟩
theorem ca55:Callable Try.prog 55:=⟨Try.f55,Try.func55,by kernel_rfl,by kernel_rfl⟩
theorem ca56:Callable Try.prog 56:=⟨Try.f56,Try.func56,by kernel_rfl,by kernel_rfl⟩
theorem ca57:Callable Try.prog 57:=⟨Try.f57,Try.func57,by kernel_rfl,by kernel_rfl⟩
theorem ca58:Callable Try.prog 58:=⟨Try.f58,Try.func58,by kernel_rfl,by kernel_rfl⟩
theorem ca59:Callable Try.prog 59:=⟨Try.f59,Try.func59,by kernel_rfl,by kernel_rfl⟩
theorem ca61:Callable Try.prog 61:=⟨Try.f61,Try.func61,by kernel_rfl,by kernel_rfl⟩
theorem ca62:Callable Try.prog 62:=⟨Try.f62,Try.func62,by kernel_rfl,by kernel_rfl⟩
theorem ca63:Callable Try.prog 63:=⟨Try.f63,Try.func63,by kernel_rfl,by kernel_rfl⟩
theorem ca64:Callable Try.prog 64:=⟨Try.f64,Try.func64,by kernel_rfl,by kernel_rfl⟩
theorem ca65:Callable Try.prog 65:=⟨Try.f65,Try.func65,by kernel_rfl,by kernel_rfl⟩
theorem ca66:Callable Try.prog 66:=⟨Try.f66,Try.func66,by kernel_rfl,by kernel_rfl⟩
theorem ca67:Callable Try.prog 67:=⟨Try.f67,Try.func67,by kernel_rfl,by kernel_rfl⟩
theorem ca68:Callable Try.prog 68:=⟨Try.f68,Try.func68,by kernel_rfl,by kernel_rfl⟩
theorem ca69:Callable Try.prog 69:=⟨Try.f69,Try.func69,by kernel_rfl,by kernel_rfl⟩
theorem ca70:Callable Try.prog 70:=⟨Try.f70,Try.func70,by kernel_rfl,by kernel_rfl⟩
theorem ca71:Callable Try.prog 71:=⟨Try.f71,Try.func71,by kernel_rfl,by kernel_rfl⟩
theorem ca72:Callable Try.prog 72:=⟨Try.f72,Try.func72,by kernel_rfl,by kernel_rfl⟩
theorem ca73:Callable Try.prog 73:=⟨Try.f73,Try.func73,by kernel_rfl,by kernel_rfl⟩
theorem ca74:Callable Try.prog 74:=⟨Try.f74,Try.func74,by kernel_rfl,by kernel_rfl⟩
theorem ca75:Callable Try.prog 75:=⟨Try.f75,Try.func75,by kernel_rfl,by kernel_rfl⟩
theorem ca76:Callable Try.prog 76:=⟨Try.f76,Try.func76,by kernel_rfl,by kernel_rfl⟩
theorem ca78:Callable Try.prog 78:=⟨Try.f78,Try.func78,by kernel_rfl,by kernel_rfl⟩
theorem ca81:Callable Try.prog 81:=⟨Try.f81,Try.func81,by kernel_rfl,by kernel_rfl⟩
theorem ca82:Callable Try.prog 82:=⟨Try.f82,Try.func82,by kernel_rfl,by kernel_rfl⟩
theorem ca83:Callable Try.prog 83:=⟨Try.f83,Try.func83,by kernel_rfl,by kernel_rfl⟩
theorem ca85:Callable Try.prog 85:=⟨Try.f85,Try.func85,by kernel_rfl,by kernel_rfl⟩
theorem ca86:Callable Try.prog 86:=⟨Try.f86,Try.func86,by kernel_rfl,by kernel_rfl⟩
@[reducible] def YA0:Ty:=Ty.cons (Ty.sl (Ty.int .u8)) (Ty.cons (Ty.int .i64) (Ty.cons (Ty.int .u64) Ty.unit))
@[reducible] def YA1:Ty:=Ty.cons Ty.str (Ty.cons Ty.str (Ty.cons (Ty.int .i64) Ty.unit))
@[reducible] def YA2:Ty:=Ty.cons (Ty.int .i64) (Ty.cons (Ty.int .u64) Ty.unit)
@[reducible] def YA3:Ty:=Ty.cons Ty.str (Ty.cons (Ty.sl Ty.str) Ty.unit)
@[reducible] def YA4:Ty:=Ty.cons Ty.str (Ty.cons (Ty.int .i64) Ty.unit)
theorem bl_ {a b:Nat} (h:Nat.ble a b=true):a≤b:=Nat.le_of_ble_eq_true h
theorem bf_ {b:Bool} (h:¬ b=true):b=false:=Bool.eq_false_iff.2 h
noncomputable section
def ext4:Ext:=[]
theorem ext4Ok:ExtOk Try.prog ext4:=trivial
noncomputable def b4:Code:=bodyOf Try.f4
theorem hb4:Try.f4.body=some b4:=by kernel_rfl
def sig4:List AT:=[AT.v (.sl (.int .u8))]
def tys4:List Ty:=[.bool]
def kds4:List RK:=[]
def oks4:List AT:=owns sig4
def P4 (x0:List Int):Prop:=True
def g4_0 (x0:List Int):Bool:=decide ((x0.length:Int)>1048576)
theorem at4 (x0:List Int) (h:P4 x0) (K:Ctx) (q:Nat→Value):AtV Try.prog 4 (PostR kds4 oks4 [⟨.bool,g4_0 x0⟩] [] [] q K) 6 K q [] [.code b4] (entE 0 0 sig4 (x0,())) (entL sig4 (x0,())):=by
 unfold P4 at h
 unfold g4_0
 exact AtV.ret Try.func4 tabOk ext4Ok mixed false [] tys4 [] trivial (by kernel_rfl)
def S4:Am.Spec:={ sig:=sig4,pre:=fun ⟨x0,_⟩=>P4 x0,res:=fun ⟨x0,_⟩=>[⟨.bool,g4_0 x0⟩],kds:=kds4 }
theorem con4:Contract Try.prog 4 S4:=contract_of Try.func4 hb4 (bl_ (by kernel_rfl)) (fun ⟨x0,_⟩ h _ K q=>at4 x0 h K q)
end
noncomputable section
def ext16:Ext:=[]
theorem ext16Ok:ExtOk Try.prog ext16:=trivial
noncomputable def b16:Code:=bodyOf Try.f16
theorem hb16:Try.f16.body=some b16:=by kernel_rfl
def sig16:List AT:=[AT.v (.sl (.int .u8))]
def tys16:List Ty:=[.cons (.sl (.int .u8)) YA2]
def kds16:List RK:=[.bx]
def oks16:List AT:=owns sig16
def P16 (x0:List Int):Prop:=True
def g16_0 (x0:List Int):List Int×Int×Int×Unit:=(x0,0,0,())
theorem at16 (x0:List Int) (h:P16 x0) (K:Ctx) (q:Nat→Value):AtV Try.prog 16 (PostR kds16 oks16 [⟨.cons (.sl (.int .u8)) YA2,g16_0 x0⟩] [] [] q K) 6 K q [] [.code b16] (entE 0 0 sig16 (x0,())) (entL sig16 (x0,())):=by
 unfold P16 at h
 unfold g16_0
 exact AtV.ret Try.func16 tabOk ext16Ok mixed false [] tys16 [] trivial (by kernel_rfl)
def S16:Am.Spec:={ sig:=sig16,pre:=fun ⟨x0,_⟩=>P16 x0,res:=fun ⟨x0,_⟩=>[⟨.cons (.sl (.int .u8)) YA2,g16_0 x0⟩],kds:=kds16 }
theorem con16:Contract Try.prog 16 S16:=contract_of Try.func16 hb16 (bl_ (by kernel_rfl)) (fun ⟨x0,_⟩ h _ K q=>at16 x0 h K q)
end
noncomputable section
def ext68:Ext:=[]
theorem ext68Ok:ExtOk Try.prog ext68:=trivial
noncomputable def b68:Code:=bodyOf Try.f68
theorem hb68:Try.f68.body=some b68:=by kernel_rfl
def sig68:List AT:=[AT.pb YA0]
def tys68:List Ty:=[.int .i64]
def kds68:List RK:=[]
def oks68:List AT:=owns sig68
def P68 (x0:List Int×Int×Int×Unit):Prop:=(if (decide (x0.2.1<(x0.1.length:Int)))=true then ((0≤x0.2.1)∧(x0.2.1<(x0.1.length:Int))∧(if (decide (IntKind.wrap IntKind.i64 (x0.2.1+1)≤(x0.1.length:Int)))=true then True else ((InR .u64 (Int.fdiv (IntKind.wrap IntKind.u64 (IntKind.wrap IntKind.u64 (IntKind.wrap IntKind.u64 (x0.2.2.1*6364136223846793005)+IntKind.wrap IntKind.u64 (IntKind.wrap IntKind.i64 (List.getD x0.1 (Int.toNat x0.2.1) 0)))+1442695040888963407)) 1099511627776))∧True))) else (if (decide (IntKind.wrap IntKind.i64 (x0.2.1+1)≤(x0.1.length:Int)))=true then True else ((InR .u64 (Int.fdiv (IntKind.wrap IntKind.u64 (IntKind.wrap IntKind.u64 (IntKind.wrap IntKind.u64 (x0.2.2.1*6364136223846793005)+0)+1442695040888963407)) 1099511627776))∧True)))
def g68_0 (x0:List Int×Int×Int×Unit):Int:=(if (decide (x0.2.1<(x0.1.length:Int)))=true then (if (decide (IntKind.wrap IntKind.i64 (x0.2.1+1)≤(x0.1.length:Int)))=true then IntKind.wrap IntKind.i64 (List.getD x0.1 (Int.toNat x0.2.1) 0) else IntKind.wrap IntKind.i64 (IntKind.wrap IntKind.u64 (↑(BitVec.toNat (BitVec.ofInt 64 (Int.fdiv (IntKind.wrap IntKind.u64 (IntKind.wrap IntKind.u64 (IntKind.wrap IntKind.u64 (x0.2.2.1*6364136223846793005)+IntKind.wrap IntKind.u64 (IntKind.wrap IntKind.i64 (List.getD x0.1 (Int.toNat x0.2.1) 0)))+1442695040888963407)) 1099511627776) &&& BitVec.ofInt 64 255)):Int))) else (if (decide (IntKind.wrap IntKind.i64 (x0.2.1+1)≤(x0.1.length:Int)))=true then 0 else IntKind.wrap IntKind.i64 (IntKind.wrap IntKind.u64 (↑(BitVec.toNat (BitVec.ofInt 64 (Int.fdiv (IntKind.wrap IntKind.u64 (IntKind.wrap IntKind.u64 (IntKind.wrap IntKind.u64 (x0.2.2.1*6364136223846793005)+0)+1442695040888963407)) 1099511627776) &&& BitVec.ofInt 64 255)):Int))))
def u68_0 (x0:List Int×Int×Int×Unit):List Int×Int×Int×Unit:=(if (decide (x0.2.1<(x0.1.length:Int)))=true then (if (decide (IntKind.wrap IntKind.i64 (x0.2.1+1)≤(x0.1.length:Int)))=true then (x0.1,IntKind.wrap IntKind.i64 (x0.2.1+1),IntKind.wrap IntKind.u64 (IntKind.wrap IntKind.u64 (IntKind.wrap IntKind.u64 (x0.2.2.1*6364136223846793005)+IntKind.wrap IntKind.u64 (IntKind.wrap IntKind.i64 (List.getD x0.1 (Int.toNat x0.2.1) 0)))+1442695040888963407),()) else (x0.1,IntKind.wrap IntKind.i64 (x0.2.1+1),IntKind.wrap IntKind.u64 (IntKind.wrap IntKind.u64 (IntKind.wrap IntKind.u64 (x0.2.2.1*6364136223846793005)+IntKind.wrap IntKind.u64 (IntKind.wrap IntKind.i64 (List.getD x0.1 (Int.toNat x0.2.1) 0)))+1442695040888963407),())) else (if (decide (IntKind.wrap IntKind.i64 (x0.2.1+1)≤(x0.1.length:Int)))=true then (x0.1,IntKind.wrap IntKind.i64 (x0.2.1+1),IntKind.wrap IntKind.u64 (IntKind.wrap IntKind.u64 (IntKind.wrap IntKind.u64 (x0.2.2.1*6364136223846793005)+0)+1442695040888963407),()) else (x0.1,IntKind.wrap IntKind.i64 (x0.2.1+1),IntKind.wrap IntKind.u64 (IntKind.wrap IntKind.u64 (IntKind.wrap IntKind.u64 (x0.2.2.1*6364136223846793005)+0)+1442695040888963407),())))
theorem at68 (x0:List Int×Int×Int×Unit) (h:P68 x0) (K:Ctx) (q:Nat→Value):AtV Try.prog 68 (PostR kds68 oks68 [⟨.int .i64,g68_0 x0⟩] [some ⟨.cons (.sl (.int .u8)) YA2,[u68_0 x0]⟩] [0] q K) 62 K q [0] [.code b68] (entE 0 0 sig68 (x0,())) (entL sig68 (x0,())):=by
 unfold P68 at h
 unfold g68_0 u68_0
 by_cases b0:(decide (x0.2.1<(x0.1.length:Int)))=true
 ·try simp only [if_pos b0] at h ⊢
  obtain ⟨s0,s1,h⟩:=h
  by_cases b1:(decide (IntKind.wrap IntKind.i64 (x0.2.1+1)≤(x0.1.length:Int)))=true
  ·try simp only [if_pos b1] at h ⊢
   exact AtV.weak (AtV.ret (us:=[Option.some (Lst.mk YA0 [(x0.1,IntKind.wrap IntKind.i64 (x0.2.1+1),IntKind.wrap IntKind.u64 (IntKind.wrap IntKind.u64 (IntKind.wrap IntKind.u64 (x0.2.2.1*6364136223846793005)+IntKind.wrap IntKind.u64 (IntKind.wrap IntKind.i64 (List.getD x0.1 (Int.toNat x0.2.1) 0)))+1442695040888963407),())])]) Try.func68 tabOk ext68Ok mixed true [] tys68 [true,true] (a1 b0 (a1 s0 (a1 s1 (a1 b1 trivial)))) (by kernel_rfl)) ⟨.inl rfl,trivial⟩
  ·try simp only [if_neg b1] at h ⊢
   replace b1:=bf_ b1
   obtain ⟨s2,h⟩:=h
   exact AtV.weak (AtV.ret (us:=[Option.some (Lst.mk YA0 [(x0.1,IntKind.wrap IntKind.i64 (x0.2.1+1),IntKind.wrap IntKind.u64 (IntKind.wrap IntKind.u64 (IntKind.wrap IntKind.u64 (x0.2.2.1*6364136223846793005)+IntKind.wrap IntKind.u64 (IntKind.wrap IntKind.i64 (List.getD x0.1 (Int.toNat x0.2.1) 0)))+1442695040888963407),())])]) Try.func68 tabOk ext68Ok mixed true [] tys68 [true,false] (a1 b0 (a1 s0 (a1 s1 (a1 b1 (a1 ((by decide):(0:Int)≤(40:Int)) (a1 s2 trivial)))))) (by kernel_rfl)) ⟨.inl rfl,trivial⟩
 ·try simp only [if_neg b0] at h ⊢
  replace b0:=bf_ b0
  by_cases b1:(decide (IntKind.wrap IntKind.i64 (x0.2.1+1)≤(x0.1.length:Int)))=true
  ·try simp only [if_pos b1] at h ⊢
   exact AtV.weak (AtV.ret (us:=[Option.some (Lst.mk YA0 [(x0.1,IntKind.wrap IntKind.i64 (x0.2.1+1),IntKind.wrap IntKind.u64 (IntKind.wrap IntKind.u64 (IntKind.wrap IntKind.u64 (x0.2.2.1*6364136223846793005)+0)+1442695040888963407),())])]) Try.func68 tabOk ext68Ok mixed true [] tys68 [false,true] (a1 b0 (a1 b1 trivial)) (by kernel_rfl)) ⟨.inl rfl,trivial⟩
  ·try simp only [if_neg b1] at h ⊢
   replace b1:=bf_ b1
   obtain ⟨s0,h⟩:=h
   exact AtV.weak (AtV.ret (us:=[Option.some (Lst.mk YA0 [(x0.1,IntKind.wrap IntKind.i64 (x0.2.1+1),IntKind.wrap IntKind.u64 (IntKind.wrap IntKind.u64 (IntKind.wrap IntKind.u64 (x0.2.2.1*6364136223846793005)+0)+1442695040888963407),())])]) Try.func68 tabOk ext68Ok mixed true [] tys68 [false,false] (a1 b0 (a1 b1 (a1 ((by decide):(0:Int)≤(40:Int)) (a1 s0 trivial)))) (by kernel_rfl)) ⟨.inl rfl,trivial⟩
def S68:Am.Spec:={ sig:=sig68,pre:=fun ⟨x0,_⟩=>P68 x0,upd:=fun ⟨x0,_⟩=>[some ⟨.cons (.sl (.int .u8)) YA2,[u68_0 x0]⟩],res:=fun ⟨x0,_⟩=>[⟨.int .i64,g68_0 x0⟩],kds:=kds68 }
theorem con68:Contract Try.prog 68 S68:=contract_of Try.func68 hb68 (bl_ (by kernel_rfl)) (fun ⟨x0,_⟩ h _ K q=>at68 x0 h K q)
end
noncomputable section
def ext41:Ext:=[(68,S68)]
theorem ext41Ok:ExtOk Try.prog ext41:=⟨⟨ca68,con68⟩,trivial⟩
noncomputable def b41:Code:=bodyOf Try.f41
theorem hb41:Try.f41.body=some b41:=by kernel_rfl
def sig41:List AT:=[AT.pb YA0,AT.v (.int .i64)]
def tys41:List Ty:=[.int .i64]
def kds41:List RK:=[]
def oks41:List AT:=owns sig41
def P41 (x0:List Int×Int×Int×Unit) (x1:Int):Prop:=(if (decide (x1≤1))=true then True else ((P68 x0)∧(if (decide (x1>200))=true then ((InR .i64 (g68_0 x0*256))∧((P68 (u68_0 x0))∧((InR .i64 (g68_0 x0*256+g68_0 (u68_0 x0)))∧((x1≠0)∧(InR .i64 (Int.tmod (g68_0 x0*256+g68_0 (u68_0 x0)) x1))∧True)))) else ((x1≠0)∧(InR .i64 (Int.tmod (g68_0 x0) x1))∧True))))
def g41_0 (x0:List Int×Int×Int×Unit) (x1:Int):Int:=(if (decide (x1≤1))=true then 0 else (if (decide (x1>200))=true then Int.tmod (g68_0 x0*256+g68_0 (u68_0 x0)) x1 else Int.tmod (g68_0 x0) x1))
def u41_0 (x0:List Int×Int×Int×Unit) (x1:Int):List Int×Int×Int×Unit:=(if (decide (x1≤1))=true then x0 else (if (decide (x1>200))=true then u68_0 (u68_0 x0) else u68_0 x0))
theorem at41 (x0:List Int×Int×Int×Unit) (x1:Int) (h:P41 x0 x1) (K:Ctx) (q:Nat→Value):AtV Try.prog 41 (PostR kds41 oks41 [⟨.int .i64,g41_0 x0 x1⟩] [some ⟨.cons (.sl (.int .u8)) YA2,[u41_0 x0 x1]⟩] [0] q K) 20 K q [0] [.code b41] (entE 0 0 sig41 (x0,x1,())) (entL sig41 (x0,x1,())):=by
 unfold P41 at h
 unfold g41_0 u41_0
 by_cases b0:(decide (x1≤1))=true
 ·try simp only [if_pos b0] at h ⊢
  exact AtV.weak (AtV.ret (us:=[Option.some (Lst.mk YA0 [x0])]) Try.func41 tabOk ext41Ok mixed false [] tys41 [true] (a1 b0 trivial) (by kernel_rfl)) ⟨.inl rfl,trivial⟩
 ·try simp only [if_neg b0] at h ⊢
  replace b0:=bf_ b0
  obtain ⟨s0,h⟩:=h
  by_cases b1:(decide (x1>200))=true
  ·try simp only [if_pos b1] at h ⊢
   obtain ⟨s1,h⟩:=h
   obtain ⟨s2,h⟩:=h
   obtain ⟨s3,h⟩:=h
   obtain ⟨s4,s5,h⟩:=h
   exact AtV.weak (AtV.ret (us:=[Option.some (Lst.mk YA0 [u68_0 (u68_0 x0)])]) Try.func41 tabOk ext41Ok mixed false [] tys41 [false,true] (a1 b0 (a1 s0 (a1 b1 (a1 s1 (a1 s2 (a1 s3 (a1 s4 (a1 s5 trivial)))))))) (by kernel_rfl)) ⟨.inl rfl,trivial⟩
  ·try simp only [if_neg b1] at h ⊢
   replace b1:=bf_ b1
   obtain ⟨s1,s2,h⟩:=h
   exact AtV.weak (AtV.ret (us:=[Option.some (Lst.mk YA0 [u68_0 x0])]) Try.func41 tabOk ext41Ok mixed false [] tys41 [false,false] (a1 b0 (a1 s0 (a1 b1 (a1 s1 (a1 s2 trivial))))) (by kernel_rfl)) ⟨.inl rfl,trivial⟩
def S41:Am.Spec:={ sig:=sig41,pre:=fun ⟨x0,x1,_⟩=>P41 x0 x1,upd:=fun ⟨x0,x1,_⟩=>[some ⟨.cons (.sl (.int .u8)) YA2,[u41_0 x0 x1]⟩],res:=fun ⟨x0,x1,_⟩=>[⟨.int .i64,g41_0 x0 x1⟩],kds:=kds41 }
theorem con41:Contract Try.prog 41 S41:=contract_of Try.func41 hb41 (bl_ (by kernel_rfl)) (fun ⟨x0,x1,_⟩ h _ K q=>at41 x0 x1 h K q)
end
noncomputable section
def ext18:Ext:=[(41,S41)]
theorem ext18Ok:ExtOk Try.prog ext18:=⟨⟨ca41,con41⟩,trivial⟩
noncomputable def b18:Code:=bodyOf Try.f18
theorem hb18:Try.f18.body=some b18:=by kernel_rfl
def sig18:List AT:=[AT.pb YA0,AT.v (.int .i64)]
def tys18:List Ty:=[.bool]
def kds18:List RK:=[]
def oks18:List AT:=owns sig18
def P18 (x0:List Int×Int×Int×Unit) (x1:Int):Prop:=((P41 x0 x1)∧True)
def g18_0 (x0:List Int×Int×Int×Unit) (x1:Int):Bool:=g41_0 x0 x1==0
def u18_0 (x0:List Int×Int×Int×Unit) (x1:Int):List Int×Int×Int×Unit:=u41_0 x0 x1
theorem at18 (x0:List Int×Int×Int×Unit) (x1:Int) (h:P18 x0 x1) (K:Ctx) (q:Nat→Value):AtV Try.prog 18 (PostR kds18 oks18 [⟨.bool,g18_0 x0 x1⟩] [some ⟨.cons (.sl (.int .u8)) YA2,[u18_0 x0 x1]⟩] [0] q K) 9 K q [0] [.code b18] (entE 0 0 sig18 (x0,x1,())) (entL sig18 (x0,x1,())):=by
 unfold P18 at h
 unfold g18_0 u18_0
 obtain ⟨s0,h⟩:=h
 exact AtV.weak (AtV.ret (us:=[Option.some (Lst.mk YA0 [u41_0 x0 x1])]) Try.func18 tabOk ext18Ok mixed false [] tys18 [] (a1 s0 trivial) (by kernel_rfl)) ⟨.inl rfl,trivial⟩
def S18:Am.Spec:={ sig:=sig18,pre:=fun ⟨x0,x1,_⟩=>P18 x0 x1,upd:=fun ⟨x0,x1,_⟩=>[some ⟨.cons (.sl (.int .u8)) YA2,[u18_0 x0 x1]⟩],res:=fun ⟨x0,x1,_⟩=>[⟨.bool,g18_0 x0 x1⟩],kds:=kds18 }
theorem con18:Contract Try.prog 18 S18:=contract_of Try.func18 hb18 (bl_ (by kernel_rfl)) (fun ⟨x0,x1,_⟩ h _ K q=>at18 x0 x1 h K q)
end
noncomputable section
def ext43:Ext:=[(41,S41)]
theorem ext43Ok:ExtOk Try.prog ext43:=⟨⟨ca41,con41⟩,trivial⟩
noncomputable def b43:Code:=bodyOf Try.f43
theorem hb43:Try.f43.body=some b43:=by kernel_rfl
def sig43:List AT:=[AT.pb YA0,AT.v (.sl (.int .i64))]
def tys43:List Ty:=[.int .i64]
def kds43:List RK:=[]
def oks43:List AT:=owns sig43
def P43 (x0:List Int×Int×Int×Unit) (x1:List Int):Prop:=((P41 x0 (x1.length:Int))∧((0≤g41_0 x0 (x1.length:Int))∧(g41_0 x0 (x1.length:Int)<(x1.length:Int))∧True))
def g43_0 (x0:List Int×Int×Int×Unit) (x1:List Int):Int:=List.getD x1 (Int.toNat (g41_0 x0 (x1.length:Int))) 0
def u43_0 (x0:List Int×Int×Int×Unit) (x1:List Int):List Int×Int×Int×Unit:=u41_0 x0 (x1.length:Int)
theorem at43 (x0:List Int×Int×Int×Unit) (x1:List Int) (h:P43 x0 x1) (K:Ctx) (q:Nat→Value):AtV Try.prog 43 (PostR kds43 oks43 [⟨.int .i64,g43_0 x0 x1⟩] [some ⟨.cons (.sl (.int .u8)) YA2,[u43_0 x0 x1]⟩] [0] q K) 12 K q [0] [.code b43] (entE 0 0 sig43 (x0,x1,())) (entL sig43 (x0,x1,())):=by
 unfold P43 at h
 unfold g43_0 u43_0
 obtain ⟨s0,h⟩:=h
 obtain ⟨s1,s2,h⟩:=h
 exact AtV.weak (AtV.ret (us:=[Option.some (Lst.mk YA0 [u41_0 x0 (x1.length:Int)])]) Try.func43 tabOk ext43Ok mixed false [] tys43 [] (a1 s0 (a1 s1 (a1 s2 trivial))) (by kernel_rfl)) ⟨.inl rfl,trivial⟩
def S43:Am.Spec:={ sig:=sig43,pre:=fun ⟨x0,x1,_⟩=>P43 x0 x1,upd:=fun ⟨x0,x1,_⟩=>[some ⟨.cons (.sl (.int .u8)) YA2,[u43_0 x0 x1]⟩],res:=fun ⟨x0,x1,_⟩=>[⟨.int .i64,g43_0 x0 x1⟩],kds:=kds43 }
theorem con43:Contract Try.prog 43 S43:=contract_of Try.func43 hb43 (bl_ (by kernel_rfl)) (fun ⟨x0,x1,_⟩ h _ K q=>at43 x0 x1 h K q)
end
noncomputable section
def ext45:Ext:=[(41,S41)]
theorem ext45Ok:ExtOk Try.prog ext45:=⟨⟨ca41,con41⟩,trivial⟩
noncomputable def b45:Code:=bodyOf Try.f45
theorem hb45:Try.f45.body=some b45:=by kernel_rfl
def sig45:List AT:=[AT.pb YA0,AT.v (.sl .str)]
def tys45:List Ty:=[.str]
def kds45:List RK:=[]
def oks45:List AT:=owns sig45
def P45 (x0:List Int×Int×Int×Unit) (x1:List ByteArray):Prop:=((P41 x0 (x1.length:Int))∧((0≤g41_0 x0 (x1.length:Int))∧(g41_0 x0 (x1.length:Int)<(x1.length:Int))∧True))
def g45_0 (x0:List Int×Int×Int×Unit) (x1:List ByteArray):ByteArray:=List.getD x1 (Int.toNat (g41_0 x0 (x1.length:Int))) ByteArray.empty
def u45_0 (x0:List Int×Int×Int×Unit) (x1:List ByteArray):List Int×Int×Int×Unit:=u41_0 x0 (x1.length:Int)
theorem at45 (x0:List Int×Int×Int×Unit) (x1:List ByteArray) (h:P45 x0 x1) (K:Ctx) (q:Nat→Value):AtV Try.prog 45 (PostR kds45 oks45 [⟨.str,g45_0 x0 x1⟩] [some ⟨.cons (.sl (.int .u8)) YA2,[u45_0 x0 x1]⟩] [0] q K) 12 K q [0] [.code b45] (entE 0 0 sig45 (x0,x1,())) (entL sig45 (x0,x1,())):=by
 unfold P45 at h
 unfold g45_0 u45_0
 obtain ⟨s0,h⟩:=h
 obtain ⟨s1,s2,h⟩:=h
 exact AtV.weak (AtV.ret (us:=[Option.some (Lst.mk YA0 [u41_0 x0 (x1.length:Int)])]) Try.func45 tabOk ext45Ok mixed false [] tys45 [] (a1 s0 (a1 s1 (a1 s2 trivial))) (by kernel_rfl)) ⟨.inl rfl,trivial⟩
def S45:Am.Spec:={ sig:=sig45,pre:=fun ⟨x0,x1,_⟩=>P45 x0 x1,upd:=fun ⟨x0,x1,_⟩=>[some ⟨.cons (.sl (.int .u8)) YA2,[u45_0 x0 x1]⟩],res:=fun ⟨x0,x1,_⟩=>[⟨.str,g45_0 x0 x1⟩],kds:=kds45 }
theorem con45:Contract Try.prog 45 S45:=contract_of Try.func45 hb45 (bl_ (by kernel_rfl)) (fun ⟨x0,x1,_⟩ h _ K q=>at45 x0 x1 h K q)
end
def SrcOk (n:Int) (s:List Int×Int×Int×Unit):Prop:=(∀ b∈s.1,0≤b∧b≤255)∧0≤s.2.1∧s.2.1≤n
theorem SrcOk.up {n m:Int} {s:List Int×Int×Int×Unit} (h:SrcOk n s) (hm:n≤m):SrcOk m s:=⟨h.1,h.2.1,Int.le_trans h.2.2 hm⟩
theorem src_start {x:List Int} (hw:Wf (.sl (.int .u8)) x):SrcOk 0 (x,0,0,()):=by
 refine ⟨fun b hb => ?_,Int.le_refl _,Int.le_refl _⟩
 have:=hw.2 b hb
 exact (u8_iff b).1 this
theorem wrap_small {n:Int} (h1 : -9223372036854775808≤n) (h2:n≤9223372036854775807):IntKind.wrap .i64 n=n:=wrap_of_inR ((i64_iff n).2 ⟨h1,h2⟩)
theorem src_u64 (n:Int):InR .u64 n↔0≤n∧n≤18446744073709551615:=by
 have e1:(IntKind.u64).min=0:=by decide
 have e2:(IntKind.u64).max=18446744073709551615:=by decide
 simp only [InR,e1,e2]
theorem seed_in (z:Int):InR .u64 (Int.fdiv (IntKind.wrap .u64 z) 1099511627776):=by
 have h:=(src_u64 _).1 (wrap_inR .u64 z)
 rw [src_u64,Int.fdiv_eq_ediv_of_nonneg _ (by decide)]
 omega
theorem low_byte (z:Int):0≤IntKind.wrap .i64 (IntKind.wrap .u64 ((BitVec.toNat (BitVec.ofInt 64 z &&& BitVec.ofInt 64 255):Nat):Int))∧IntKind.wrap .i64 (IntKind.wrap .u64 ((BitVec.toNat (BitVec.ofInt 64 z &&& BitVec.ofInt 64 255):Nat):Int))≤255:=by
 have h:BitVec.toNat (BitVec.ofInt 64 z &&& BitVec.ofInt 64 255)≤255:=by
  rw [BitVec.toNat_and]
  exact Nat.le_trans Nat.and_le_right (by decide)
 have e:IntKind.wrap .u64 ((BitVec.toNat (BitVec.ofInt 64 z &&& BitVec.ofInt 64 255):Nat):Int)=((BitVec.toNat (BitVec.ofInt 64 z &&& BitVec.ofInt 64 255):Nat):Int):=wrap_of_inR ((src_u64 _).2 (by omega))
 rw [e,wrap_small (by omega) (by omega)]
 omega
theorem next_ok {n:Int} {s:List Int×Int×Int×Unit} (h:SrcOk n s) (hn:n≤4611686018427387904) :
  P68 s∧SrcOk (n+1) (u68_0 s)∧0≤g68_0 s∧g68_0 s≤255:=by
 obtain ⟨h1,h2,h3⟩:=h
 have e:IntKind.wrap .i64 (s.2.1+1)=s.2.1+1:=wrap_small (by omega) (by omega)
 unfold P68 u68_0 g68_0 SrcOk
 by_cases hc:s.2.1<(s.1.length:Int)
 ·have hb:=h1 _ (mem_getD s.1 s.2.1.toNat 0 (by omega))
  have eb:IntKind.wrap .i64 (s.1.getD s.2.1.toNat 0)=s.1.getD s.2.1.toNat 0:=wrap_small (by omega) (by omega)
  by_cases hd:s.2.1+1≤(s.1.length:Int)
  ·simp only [hc,e,hd,decide_true,if_true,eb]
   exact ⟨⟨h2,trivial,trivial⟩,⟨h1,by omega,by omega⟩,hb⟩
  ·omega
 ·by_cases hd:s.2.1+1≤(s.1.length:Int)
  ·omega
  ·simp only [hc,e,hd,decide_false,Bool.false_eq_true,if_false]
   exact ⟨⟨seed_in _,trivial⟩,⟨h1,by omega,by omega⟩,low_byte _⟩
theorem tmod_in {x m:Int} (hx:0≤x) (hx2:x≤65535) (hm:1≤m):InR .i64 (Int.tmod x m)∧0≤Int.tmod x m∧Int.tmod x m<m:=by
 rw [Int.tmod_eq_emod_of_nonneg hx,i64_iff]
 have h1:=Int.emod_nonneg x (show m≠0 by omega)
 have h2:=Int.emod_lt_of_pos x (show 0<m by omega)
 have h3:x % m≤x:=by
  rcases Int.lt_or_le x m with h | h
  ·rw [Int.emod_eq_of_lt hx h];exact Int.le_refl _
  ·omega
 exact ⟨⟨by omega,by omega⟩,h1,h2⟩
theorem pick_ok {n:Int} {s:List Int×Int×Int×Unit} (h:SrcOk n s) (m:Int) (hn:n≤4611686018427387902) :
  P41 s m∧SrcOk (n+2) (u41_0 s m)∧0≤g41_0 s m∧(1≤m→g41_0 s m<m)∧(m≤1→g41_0 s m=0):=by
 obtain ⟨p1,s1,a1,b1⟩:=next_ok h (by omega)
 obtain ⟨p2,s2,a2,b2⟩:=next_ok s1 (by omega)
 unfold P41 u41_0 g41_0
 by_cases hm:m≤1
 ·simp only [hm,decide_true,if_true]
  exact ⟨trivial,h.up (by omega),by omega,fun _=>by omega,by first | trivial | exact fun _=>rfl⟩
 ·by_cases hb:m>200
  ·simp only [hm,hb,decide_true,decide_false,Bool.false_eq_true,if_true,if_false]
   obtain ⟨t1,t2,t3⟩:=tmod_in (x:=g68_0 s*256+g68_0 (u68_0 s)) (m:=m) (by omega) (by omega) (by omega)
   exact ⟨⟨p1,by rw [i64_iff];omega,p2,by rw [i64_iff];omega,by omega,t1,trivial⟩,s2.up (by omega),t2,fun _=>t3,by first | trivial | exact fun h=>absurd h (by simp)⟩
  ·simp only [hm,hb,decide_true,decide_false,Bool.false_eq_true,if_true,if_false]
   obtain ⟨t1,t2,t3⟩:=tmod_in (x:=g68_0 s) (m:=m) a1 (by omega) (by omega)
   exact ⟨⟨p1,by omega,t1,trivial⟩,s1.up (by omega),t2,fun _=>t3,by first | trivial | exact fun h=>absurd h (by simp)⟩
theorem SrcOk.self {n:Int} {s:(List Int×Int×Int×Unit)} (h:SrcOk n s):SrcOk s.2.1 s:=⟨h.1,h.2.1,Int.le_refl _⟩
theorem SrcOk.at_le {n:Int} {s:(List Int×Int×Int×Unit)} (h:SrcOk n s):s.2.1≤n:=h.2.2
theorem text_ok {n:Int} {s:(List Int×Int×Int×Unit)} (h:SrcOk n s) (l:List ByteArray) (hl:1≤l.length) (hn:n≤4611686018427387902) :
  P45 s l∧SrcOk (n+2) (u45_0 s l)∧g45_0 s l∈l:=by
 obtain ⟨p,s1,a,b,_⟩:=pick_ok h (l.length:Int) hn
 have b:=b (by omega)
 exact ⟨⟨p,a,b,trivial⟩,s1,mem_getD l _ ByteArray.empty (by omega)⟩
theorem one_ok {n:Int} {s:List Int×Int×Int×Unit} (h:SrcOk n s) (m:Int) (hn:n≤4611686018427387902) :
  P18 s m∧SrcOk (n+2) (u18_0 s m):=by
 obtain ⟨p,s1,_⟩:=pick_ok h m hn
 exact ⟨⟨p,trivial⟩,s1⟩
theorem among_ok {n:Int} {s:List Int×Int×Int×Unit} (h:SrcOk n s) (l:List Int) (hl:1≤l.length) (hn:n≤4611686018427387902) :
  P43 s l∧SrcOk (n+2) (u43_0 s l)∧g43_0 s l∈l:=by
 obtain ⟨p,s1,a,b,_⟩:=pick_ok h (l.length:Int) hn
 have b:=b (by omega)
 exact ⟨⟨p,a,b,trivial⟩,s1,mem_getD l _ 0 (by omega)⟩
end Go.Proofs.Ythmimdpgkcadnaa
-- facts: srcText srcOne srcAmong
set_option linter.unusedVariables false
set_option linter.unusedSimpArgs false
set_option maxRecDepth 100000
namespace Go.Proofs.Ythmimdpgkcadnaa
open Go Go.Am Go.Proofs Go.RowKit
noncomputable section
abbrev RL40:=ByteArray×List ByteArray×Unit
abbrev RY40:Ty := .cons .str (.cons (.sl .str) .unit)
def row40:List RL40→List Value→List Value
 | x :: xs,u :: us => .string x.1 :: u :: row40 xs us
 | _,_=>[]
theorem rowApp40:∀ (xs:List RL40) (us:List Value) (x:RL40) (u:Value),us.length=xs.length→row40 (xs++[x]) (us++[u])=row40 xs us++[.string x.1,u]
 | [],[],x,u,h=>rfl
 | [],_ :: _,x,u,h=>by simp at h
 | y :: xs,[],x,u,h=>by simp at h
 | y :: xs,v :: us,x,u,h=>by
  have:=rowApp40 xs us x u (by simpa using h)
  simp only [List.cons_append,row40,this]
theorem rowGet40:∀ (xs:List RL40) (us:List Value) (k:Nat) (x:RL40) (u:Value),xs[k]? = some x→us[k]? = some u→(row40 xs us)[2*k]? = some (.string x.1)∧(row40 xs us)[2*k+1]? = some u
 | [],us,k,x,u,h,h'=>by simp at h
 | y :: xs,[],k,x,u,h,h'=>by simp at h'
 | y :: xs,v :: us,0,x,u,h,h'=>by
  simp at h h'
  subst h h'
  exact ⟨rfl,rfl⟩
 | y :: xs,v :: us,k+1,x,u,h,h'=>by
  obtain ⟨h1,h2⟩:=rowGet40 xs us k x u (by simpa using h) (by simpa using h')
  rw [show 2*(k+1)=2*k+1+1 by omega]
  exact ⟨h1,h2⟩
theorem rowSet40:∀ (xs:List RL40) (us:List Value) (k:Nat) (x:RL40) (ys:List ByteArray) (u':Value),xs[k]? = some x→us.length=xs.length→row40 (xs.set k (x.1,ys,())) (us.set k u')=(row40 xs us).set (2*k+1) u'
 | [],us,k,x,ys,u',h,hl=>by simp at h
 | y :: xs,[],k,x,ys,u',h,hl=>by simp at hl
 | y :: xs,v :: us,0,x,ys,u',h,hl=>by
  simp at h
  subst h
  rfl
 | y :: xs,v :: us,k+1,x,ys,u',h,hl=>by
  have:=rowSet40 xs us k x ys u' (by simpa using h) (by simpa using hl)
  rw [show 2*(k+1)+1=2*k+1+1+1 by omega]
  simp only [List.set_cons_succ,row40,this]
structure Rs40 (w wr:World) (v:Value) (xs:List RL40) (us:List Value):Prop where
 own:wr.ownsRow w.heap.size 40 2 v xs.length (row40 xs us)
 len:us.length=xs.length
 inn:∀ (j:Nat) (x:RL40) (u:Value),xs[j]? = some x→us[j]? = some u→wr.ownsRow w.heap.size 9 1 u x.2.1.length (fcs .str x.2.1)
 dis:∀ (i j:Nat) (u v:Value) (b:Nat),us[i]? = some u→us[j]? = some v→u.ownBlock=some b→v.ownBlock=some b→i=j
theorem obj40 {w:World} {lo:Nat} {e:TypeId} {sz:Nat} {v:Value} {n:Nat} {xs:List Value} (h:w.ownsRow lo e sz v n xs) {g:Nat} (hg:v.ownBlock=some g):∃ cur,w.heap[g]? = some (.cells cur e (0,0)):=by
 rcases h.2 with ⟨rfl,_⟩ | ⟨g',cap,cur,rfl,hb,hh,_⟩
 ·cases hg
 ·cases hg
  exact ⟨cur,hh⟩
theorem apart40 {w:World} {lo lo':Nat} {e e':TypeId} {sz sz':Nat} {v v':Value} {n n':Nat} {xs xs':List Value} (h:w.ownsRow lo e sz v n xs) (h':w.ownsRow lo' e' sz' v' n' xs') (hne:e≠e'):v.ownBlock=none∨v.ownBlock≠v'.ownBlock:=by
 cases hv:v.ownBlock with
 | none=>exact .inl rfl
 | some g =>
  refine .inr fun he => ?_
  obtain ⟨c1,h1⟩:=obj40 h hv
  obtain ⟨c2,h2⟩:=obj40 h' he.symm
  rw [h1] at h2
  cases h2
  exact hne rfl
theorem Rs40.keep {w wr w2:World} {v:Value} {xs:List RL40} {us:List Value} {r:Option Nat} (h:Rs40 w wr v xs us) (hg:wr.grownBy w2 r) (hr:∀ b,r=some b→b<w.heap.size):Rs40 w w2 v xs us:=by
 have key:∀ {e:TypeId} {sz:Nat} {v:Value} {n:Nat} {xs:List Value},wr.ownsRow w.heap.size e sz v n xs→w2.ownsRow w.heap.size e sz v n xs:=fun {e sz v n xs} ho=>ho.kept hg (by
  cases hv:v.ownBlock with
  | none=>exact .inl rfl
  | some b =>
   refine .inr fun he => ?_
   have h1:=(ho.lt b hv).1
   have h2:=hr b he.symm
   omega)
 exact ⟨key h.own,h.len,fun j x u hx hu=>key (h.inn j x u hx hu),h.dis⟩
theorem Rs40.push {w wr w1 w2:World} {v v2:Value} {xs:List RL40} {us:List Value} {x:RL40} {u:Value} (h:Rs40 w wr v xs us) (hg1:wr.grownBy w1 none) (hu:w1.ownsRow w.heap.size 9 1 u x.2.1.length (fcs .str x.2.1))
  (hnew:∀ b,u.ownBlock=some b→wr.heap.size≤b) (hg:w1.grownBy w2 v.ownBlock) (ho:w2.ownsRow w.heap.size 40 2 v2 (xs.length+1) (row40 xs us++[.string x.1,u])):Rs40 w w2 v2 (xs++[x]) (us++[u]):=by
 have h1:=h.keep hg1 (fun b hb=>by cases hb)
 have hl:=h.len
 refine ⟨by rw [List.length_append,rowApp40 _ _ _ _ hl];exact ho,by simp [hl],fun j y t hy ht => ?_,fun i j a b q ha hb hqa hqb => ?_⟩
 ·by_cases hj:j<xs.length
  ·rw [List.getElem?_append_left hj] at hy
   rw [List.getElem?_append_left (by omega)] at ht
   have h2:=h1.inn j y t hy ht
   exact h2.kept hg (apart40 h2 h1.own (by decide))
  ·have hj':j=xs.length:=by
    have:=(List.getElem?_eq_some_iff.1 hy).1
    simp at this
    omega
   subst hj'
   rw [List.getElem?_append_right (Nat.le_refl _)] at hy
   rw [← hl,List.getElem?_append_right (Nat.le_refl _)] at ht
   simp at hy ht
   subst hy ht
   exact hu.kept hg (apart40 hu h1.own (by decide))
 ·have lo:∀ (k:Nat) (t:Value) (q:Nat),us[k]? = some t→t.ownBlock=some q→q<wr.heap.size:=fun k t q hk hq=>by
   have hlt:=(List.getElem?_eq_some_iff.1 hk).1
   exact ((h.inn k _ t (List.getElem?_eq_getElem (by omega)) hk).lt q hq).2
  have cs:∀ (k:Nat) (t:Value),(us++[u])[k]? = some t→us[k]? = some t∨k=us.length∧t=u:=fun k t hk=>by
   by_cases hlt:k<us.length
   ·rw [List.getElem?_append_left hlt] at hk
    exact .inl hk
   ·have:=(List.getElem?_eq_some_iff.1 hk).1
    simp at this
    have hk':k=us.length:=by omega
    subst hk'
    rw [List.getElem?_append_right (Nat.le_refl _)] at hk
    simp at hk
    exact .inr ⟨rfl,hk.symm⟩
  rcases cs i a ha with ha' | ⟨rfl,rfl⟩ <;> rcases cs j b hb with hb' | ⟨rfl,rfl⟩
  ·exact h.dis i j a b q ha' hb' hqa hqb
  ·have:=lo i a q ha' hqa;have:=hnew q hqb;omega
  ·have:=lo j b q hb' hqb;have:=hnew q hqa;omega
  ·rfl
theorem Rs40.put {w wr w1:World} {G cap:Nat} {xs:List RL40} {us:List Value} {k:Nat} {x:RL40} {u u':Value} {ys:List ByteArray} (h:Rs40 w wr (.slice (some ⟨G,0,none⟩) xs.length cap) xs us) (hx:xs[k]? = some x) (hu:us[k]? = some u)
  (hg:wr.grownBy w1 u.ownBlock) (ho:w1.ownsRow w.heap.size 9 1 u' ys.length (fcs .str ys)) (hat:∀ b,u'.ownBlock=some b→u.ownBlock=some b∨wr.heap.size≤b) :
  Rs40 w (w1.setCell ⟨G,2*k+1,none⟩ u') (.slice (some ⟨G,0,none⟩) xs.length cap) (xs.set k (x.1,ys,())) (us.set k u')∧w1.grownBy (w1.setCell ⟨G,2*k+1,none⟩ u') (some G):=by
 have hl:=h.len
 have hku:=(List.getElem?_eq_some_iff.1 hu).1
 have i2:=h.inn k x u hx hu
 have o1:=h.own.kept hg (apart40 h.own i2 (by decide))
 obtain ⟨o2,g2⟩:=o1.stored (2*k+1) u'
 refine ⟨⟨by rw [List.length_set,rowSet40 _ _ _ _ _ _ hx hl];exact o2,by simp [hl],fun j y t hy ht => ?_,fun i j a b q ha hb hqa hqb => ?_⟩,g2⟩
 ·by_cases hjk:k=j
  ·subst hjk
   rw [List.getElem?_set_self (by omega)] at hy ht
   cases hy
   cases ht
   exact ho.kept g2 (apart40 ho o1 (by decide))
  ·rw [List.getElem?_set_ne hjk] at hy ht
   have h2:=h.inn j y t hy ht
   have h3:=h2.kept hg (by
    cases ht':t.ownBlock with
    | none=>exact .inl rfl
    | some q =>
     refine .inr fun he=>hjk ?_
     exact h.dis k j u t q hu ht he.symm ht')
   exact h3.kept g2 (apart40 h3 o1 (by decide))
 ·have lo:∀ (k:Nat) (t:Value) (q:Nat),us[k]? = some t→t.ownBlock=some q→q<wr.heap.size:=fun k t q hk hq=>by
   have hlt:=(List.getElem?_eq_some_iff.1 hk).1
   exact ((h.inn k _ t (List.getElem?_eq_getElem (by omega)) hk).lt q hq).2
  have far:∀ (j:Nat) (t:Value) (q:Nat),k≠j→us[j]? = some t→t.ownBlock=some q→u'.ownBlock=some q→False:=fun j t q hne ht hq hq'=>by
   rcases hat q hq' with h1 | h1
   ·exact hne (h.dis k j u t q hu ht h1 hq)
   ·have:=lo j t q ht hq
    omega
  by_cases hik:k=i
  ·by_cases hjk:k=j
   ·omega
   ·subst hik
    rw [List.getElem?_set_self hku] at ha
    cases ha
    rw [List.getElem?_set_ne hjk] at hb
    exact (far j b q hjk hb hqb hqa).elim
  ·by_cases hjk:k=j
   ·subst hjk
    rw [List.getElem?_set_self hku] at hb
    cases hb
    rw [List.getElem?_set_ne hik] at ha
    exact (far i a q hik ha hqa hqb).elim
   ·rw [List.getElem?_set_ne hik] at ha
    rw [List.getElem?_set_ne hjk] at hb
    exact h.dis i j a b q ha hb hqa hqb
theorem form40 {w:World} {lo:Nat} {e:TypeId} {sz:Nat} {v:Value} {n:Nat} {xs:List Value} (h:w.ownsRow lo e sz v n xs):∃ ad cap,v = .slice ad n cap∧(0<n→∃ G,ad=some ⟨G,0,none⟩):=by
 rcases h.2 with ⟨rfl,rfl⟩ | ⟨g,cap,cur,rfl,_⟩
 ·exact ⟨none,0,rfl,fun h=>absurd h (by decide)⟩
 ·exact ⟨_,cap,rfl,fun _=>⟨g,rfl⟩⟩
theorem fcsget40:∀ (x:List ByteArray) (j:Nat),(fcs .str x)[j]? = (x[j]?).map .string
 | [],j=>by simp [fcs]
 | a :: l,0=>rfl
 | a :: l,j+1=>by
  have e:fcs .str (a :: l) = .string a :: fcs .str l:=rfl
  rw [e]
  simpa using fcsget40 l j
theorem slOf40 {w:World} {lo:Nat} {u:Value} {x:List ByteArray} {Q:Nat→Prop} (h:w.ownsRow lo 9 1 u x.length (fcs .str x)) (hQ:∀ b,lo≤b→b<w.heap.size→Q b) (hm:x.length≤maxLen) (hw:∀ y∈x,y.size≤maxLen):SlAt w Q (RepC w Q .str) 1 x u:=by
 refine ⟨hm,?_⟩
 rcases h.2 with ⟨rfl,hn⟩ | ⟨g,cap,cur,rfl,hb,hg,hnc,hcm,hcs,htake⟩
 ·exact .inl ⟨_,rfl,List.eq_nil_of_length_eq_zero hn⟩
 ·refine .inr ⟨g,0,cap,rfl,hnc,hcm,hQ g hb (Array.getElem?_eq_some_iff.1 hg).1,fun i y hy=>⟨[.string y],rfl,fun j c hj => ?_,rfl,hw y (List.mem_of_getElem? hy)⟩⟩
  have hi:=(List.getElem?_eq_some_iff.1 hy).1
  have hj0:j=0:=by have:=(List.getElem?_eq_some_iff.1 hj).1;simp at this;omega
  subst hj0
  simp at hj
  subst hj
  rw [show 0+i*1+0=i by omega,h.cellAt i (by omega),fcsget40,hy]
  rfl
theorem Rs40.rep {w wr:World} {v:Value} {xs:List RL40} {us:List Value} {Q:Nat→Prop} (h:Rs40 w wr v xs us) (hQ:∀ b,w.heap.size≤b→b<wr.heap.size→Q b) (hm:xs.length≤maxLen) (hw:∀ x∈xs,x.1.size≤maxLen∧x.2.1.length≤maxLen∧∀ y∈x.2.1,y.size≤maxLen) :
  SlAt wr Q (RepC wr Q RY40) 2 xs v:=by
 have hl:=h.len
 refine ⟨hm,?_⟩
 rcases h.own.2 with ⟨rfl,hn⟩ | ⟨g,cap,cur,rfl,hb,hg,hnc,hcm,hcs,htake⟩
 ·exact .inl ⟨_,rfl,List.eq_nil_of_length_eq_zero hn⟩
 ·refine .inr ⟨g,0,cap,rfl,hnc,hcm,hQ g hb (Array.getElem?_eq_some_iff.1 hg).1,fun i x hx => ?_⟩
  have hi:=(List.getElem?_eq_some_iff.1 hx).1
  have hu:us[i]? = some (us[i]'(by omega)):=List.getElem?_eq_getElem (by omega)
  obtain ⟨c1,c2⟩:=rowGet40 xs us i x _ hx hu
  obtain ⟨w1,w2,w3⟩:=hw x (List.mem_of_getElem? hx)
  refine ⟨[.string x.1,us[i]'(by omega)],rfl,fun j c hj => ?_,[.string x.1],[us[i]'(by omega)],rfl,⟨rfl,w1⟩,[us[i]'(by omega)],[],rfl,⟨_,rfl,slOf40 (h.inn i x _ hx hu) hQ w2 w3⟩,rfl⟩
  have hj2:j<2:=by simpa using (List.getElem?_eq_some_iff.1 hj).1
  rw [h.own.cellAt (0+i*2+j) (by omega)]
  rcases j with _ | _ | j
  ·simp at hj
   subst hj
   rw [show 0+i*2+0=2*i by omega]
   exact c1
  ·simp at hj
   subst hj
   rw [show 0+i*2+1=2*i+1 by omega]
   exact c2
  ·omega
theorem pbS40 {w:World} {G0:Nat→Prop} {t:Ty} {x:t.den} {b off:Nat} {bs:List Nat} (h:PbAt w G0 t x (.pointer (some ⟨b,off,none⟩)) bs):bs=[b]:=by
 obtain ⟨b',off',he,hm,h⟩:=h
 cases he
 rcases h with ⟨ad,_,h0,_⟩ | ⟨b2,off2,cap,cur,ty,fz,bss,hv,hc,_,hz,hh,hf,hl,hbs,hr⟩
 ·cases h0
 ·simp only [Value.slice.injEq,Option.some.injEq,Addr.mk.injEq,and_true] at hv
  obtain ⟨⟨rfl,rfl⟩,_,rfl⟩:=hv
  rcases bss with _ | ⟨bi,_ | ⟨bj,r⟩⟩
  ·simp at hl
  ·obtain ⟨cs,_,_,_,h4⟩:=hr 0 x bi rfl rfl
   rw [hbs,h4]
   rfl
  ·simp at hl
structure St40 (w wr:World) (G0:Nat→Prop) (S off:Nat) (s:(List Int×Int×Int×Unit)):Prop where
 src:PbAt wr G0 (.cons (.sl (.int .u8)) (.cons (.int .i64) (.cons (.int .u64) .unit))) s (.pointer (some ⟨S,off,none⟩)) [S]
 low:Kept [S] w wr
theorem St40.grown {w wr w2:World} {G0:Nat→Prop} {S off:Nat} {s:(List Int×Int×Int×Unit)} {r:Option Nat} (h:St40 w wr G0 S off s) (hS:S<w.heap.size) (hG:∀ b,G0 b→b<w.heap.size) (hg:wr.grownBy w2 r) (hr:∀ b,r=some b→w.heap.size≤b):St40 w w2 G0 S off s where
 src:=by
  obtain ⟨b,o,e,h1⟩:=h.src
  have key:∀ q,q<w.heap.size→w2.heap[q]? = wr.heap[q]? := fun q hq=>hg.block q (Nat.lt_of_lt_of_le hq h.low.size) (fun he=>by have:=hr q he.symm;omega)
  exact ⟨b,o,e,h1.keepG (fun _ h=>h) (fun q hq=>key q (hG q hq)) (fun q hq=>by simp at hq;subst hq;exact key _ hS)⟩
 low:=⟨hg.os.trans h.low.os,hg.tape.trans h.low.tape,hg.output.trans h.low.output,Nat.le_trans h.low.size hg.size,fun q hq ho=>(hg.block q (Nat.lt_of_lt_of_le hq h.low.size) (fun he=>by have:=hr q he.symm;omega)).trans (h.low.block q hq ho)⟩
theorem gokK40 {O:List Nat} {w W:World} (h:GOk w O) (hk:Kept O w W):GOk W O where
 inv:=h.inv.keep fun b hb hs=>hk.block b hs fun ho=>by have:=h.out b ho;omega
 size:=Nat.le_trans h.size hk.size
 out:=h.out
theorem kg40 {S:Nat} {w W:World} (h:Kept [S] w W):w.grownBy W (some S):=⟨h.os,h.tape,h.output,h.size,fun q hq hr=>h.block q hq (fun hm=>hr (by simp at hm;rw [hm]))⟩
theorem one40 (W:World) (G0:Nat→Prop) (S off:Nat) (s:(List Int×Int×Int×Unit)) (n:Int) (hgo:GOk W [S]) (hG:∀ b,G0 b→Am.Good W [S] b) (hs:PbAt W G0 (.cons (.sl (.int .u8)) (.cons (.int .i64) (.cons (.int .u64) .unit))) s (.pointer (some ⟨S,off,none⟩)) [S]) (hn:InR .i64 n) (hp:P18 s n) :
  Calls Try.prog 18 #[.pointer (some ⟨S,off,none⟩),.int .i64 n] W fun e w'=>e = .returned (.bool (g18_0 s n))∧Kept [S] W w'∧PbAt w' G0 (.cons (.sl (.int .u8)) (.cons (.int .i64) (.cons (.int .u64) .unit))) (u18_0 s n) (.pointer (some ⟨S,off,none⟩)) [S]:=by
 have h:=con18 W (Am.Good W [S]) G0 (s,n,()) [.pointer (some ⟨S,off,none⟩),.int .i64 n] [[S],[]] hgo (fun _ h=>h) hG hp
  ⟨_,_,_,_,rfl,rfl,hs,_,_,_,_,rfl,rfl,⟨rfl,rfl,hn⟩,rfl,rfl⟩ (by simp)
 refine h.mono ?_
 rintro e w' ⟨rs,ubs,rbs,Fz,rfl,hk,⟨v,s,b,bs,rfl,rfl,⟨cs,ho,hi⟩,rfl,rfl⟩,⟨v1,s1,b1,bs1,hv1,rfl,⟨y1,hy1,hp1⟩,_⟩,_⟩
 obtain ⟨ho,_⟩:=ho
 have hi:cs=[v]:=hi
 rw [ho] at hi
 cases hi
 cases hv1
 cases hy1
 have hb:=pbS40 hp1
 subst hb
 exact ⟨rfl,hk,hp1⟩
theorem pick40 (W:World) (G0:Nat→Prop) (S off:Nat) (s:(List Int×Int×Int×Unit)) (n:Int) (hgo:GOk W [S]) (hG:∀ b,G0 b→Am.Good W [S] b) (hs:PbAt W G0 (.cons (.sl (.int .u8)) (.cons (.int .i64) (.cons (.int .u64) .unit))) s (.pointer (some ⟨S,off,none⟩)) [S]) (hn:InR .i64 n) (hp:P41 s n) :
  Calls Try.prog 41 #[.pointer (some ⟨S,off,none⟩),.int .i64 n] W fun e w'=>e = .returned (.int .i64 (g41_0 s n))∧Kept [S] W w'∧PbAt w' G0 (.cons (.sl (.int .u8)) (.cons (.int .i64) (.cons (.int .u64) .unit))) (u41_0 s n) (.pointer (some ⟨S,off,none⟩)) [S]:=by
 have h:=con41 W (Am.Good W [S]) G0 (s,n,()) [.pointer (some ⟨S,off,none⟩),.int .i64 n] [[S],[]] hgo (fun _ h=>h) hG hp
  ⟨_,_,_,_,rfl,rfl,hs,_,_,_,_,rfl,rfl,⟨rfl,rfl,hn⟩,rfl,rfl⟩ (by simp)
 refine h.mono ?_
 rintro e w' ⟨rs,ubs,rbs,Fz,rfl,hk,⟨v,s,b,bs,rfl,rfl,⟨cs,ho,hi⟩,rfl,rfl⟩,⟨v1,s1,b1,bs1,hv1,rfl,⟨y1,hy1,hp1⟩,_⟩,_⟩
 obtain ⟨ho,_⟩:=ho
 have hi:cs=[v]:=hi
 rw [ho] at hi
 cases hi
 cases hv1
 cases hy1
 have hb:=pbS40 hp1
 subst hb
 exact ⟨rfl,hk,hp1⟩
theorem among40 (W:World) (G0:Nat→Prop) (S off:Nat) (s:(List Int×Int×Int×Unit)) (l:List Int) (v:Value) (hgo:GOk W [S]) (hG:∀ b,G0 b→Am.Good W [S] b) (hs:PbAt W G0 (.cons (.sl (.int .u8)) (.cons (.int .i64) (.cons (.int .u64) .unit))) s (.pointer (some ⟨S,off,none⟩)) [S]) (hl:SlAt W (Am.Good W [S]) (RepC W (Am.Good W [S]) (.int .i64)) 1 l v) (hp:P43 s l) :
  Calls Try.prog 43 #[.pointer (some ⟨S,off,none⟩),v] W fun e w'=>e = .returned (.int .i64 (g43_0 s l))∧Kept [S] W w'∧PbAt w' G0 (.cons (.sl (.int .u8)) (.cons (.int .i64) (.cons (.int .u64) .unit))) (u43_0 s l) (.pointer (some ⟨S,off,none⟩)) [S]:=by
 have h:=con43 W (Am.Good W [S]) G0 (s,l,()) [.pointer (some ⟨S,off,none⟩),v] [[S],[]] hgo (fun _ h=>h) hG hp
  ⟨_,_,_,_,rfl,rfl,hs,_,_,_,_,rfl,rfl,⟨rfl,hl⟩,rfl,rfl⟩ (by simp)
 refine h.mono ?_
 rintro e w' ⟨rs,ubs,rbs,Fz,rfl,hk,⟨v,s,b,bs,rfl,rfl,⟨cs,ho,hi⟩,rfl,rfl⟩,⟨v1,s1,b1,bs1,hv1,rfl,⟨y1,hy1,hp1⟩,_⟩,_⟩
 obtain ⟨ho,_⟩:=ho
 have hi:cs=[v]:=hi
 rw [ho] at hi
 cases hi
 cases hv1
 cases hy1
 have hb:=pbS40 hp1
 subst hb
 exact ⟨rfl,hk,hp1⟩
theorem text40 (W:World) (G0:Nat→Prop) (S off:Nat) (s:(List Int×Int×Int×Unit)) (l:List ByteArray) (v:Value) (hgo:GOk W [S]) (hG:∀ b,G0 b→Am.Good W [S] b) (hs:PbAt W G0 (.cons (.sl (.int .u8)) (.cons (.int .i64) (.cons (.int .u64) .unit))) s (.pointer (some ⟨S,off,none⟩)) [S]) (hl:SlAt W (Am.Good W [S]) (RepC W (Am.Good W [S]) .str) 1 l v) (hp:P45 s l) :
  Calls Try.prog 45 #[.pointer (some ⟨S,off,none⟩),v] W fun e w'=>e = .returned (.string (g45_0 s l))∧Kept [S] W w'∧PbAt w' G0 (.cons (.sl (.int .u8)) (.cons (.int .i64) (.cons (.int .u64) .unit))) (u45_0 s l) (.pointer (some ⟨S,off,none⟩)) [S]:=by
 have h:=con45 W (Am.Good W [S]) G0 (s,l,()) [.pointer (some ⟨S,off,none⟩),v] [[S],[]] hgo (fun _ h=>h) hG hp
  ⟨_,_,_,_,rfl,rfl,hs,_,_,_,_,rfl,rfl,⟨rfl,hl⟩,rfl,rfl⟩ (by simp)
 refine h.mono ?_
 rintro e w' ⟨rs,ubs,rbs,Fz,rfl,hk,⟨v,s,b,bs,rfl,rfl,⟨cs,ho,hi⟩,rfl,rfl⟩,⟨v1,s1,b1,bs1,hv1,rfl,⟨y1,hy1,hp1⟩,_⟩,_⟩
 obtain ⟨ho,_⟩:=ho
 have hi:cs=[v]:=hi
 rw [ho] at hi
 cases hi
 cases hv1
 cases hy1
 have hb:=pbS40 hp1
 subst hb
 exact ⟨rfl,hk,hp1⟩
theorem app40 (hinfo:TIOk Try.prog 24 (tabGet tab 24)) {wr:World} (base:Nat) {v:Value} {n:Nat} {xs:List Value} (ho:wr.ownsRow base 40 2 v n xs) (b' off' cap':Nat) {m:Nat} (news:List Value) (hl:news.length=m*2) (hc:∀ j u,news[j]? = some u→wr.cell? ⟨b',off'+j,none⟩=some u) (h1:∀ u∈news,u.oneCell'=true) (hnm:n+m≤1048576) (hbase:base≤wr.heap.size)
  {ops:Array Oper} {rest:List Oper} {o:Oper} {a:Act} {Q:Exit→Act→World→Prop} {s x:Operand} (hgd:o.guard=none) (hop:o.op = .call { callee := .builtin .append,args := #[s,x],argTypes := #[24,24] }) (hs:a.eval s=v) (hx:a.eval x = .slice (some ⟨b',off',none⟩) m cap')
  (h:∀ v' w',w'.ownsRow base 40 2 v' (n+m) (xs++news)→wr.grownBy w' v.ownBlock→wpList Try.prog ops Q rest (a.put o.dst v') w'):wpList Try.prog ops Q (o :: rest) a wr:=by
 obtain ⟨_,_,⟨_,⟨i0,hi0,hz1,z,hz0,hzs,_⟩⟩,hby⟩:=hinfo
 rw [hi0] at hby
 simp only [Option.map_some,Option.some.injEq] at hby
 have hzs':z.cells.size=2:=by rw [← Array.length_toList,hzs];rfl
 have hb16:i0.bytes=40:=hby
 refine wpList_append_own _ hgd s x 24 hop base 40 i0 z 2 i0.bytes Try.underlying24 hi0 hz0 hz1 rfl hzs' (by decide) v n xs hs ho ⟨b',off',none⟩ m cap' news hx hl (fun j u hj=>by rw [Addr.add_lit];exact hc j u hj) h1 (by unfold maxLen;omega) (by rw [hb16];omega) hbase (fun v' w' h1 h2 _=>h v' w' h1 h2)
abbrev SS40:=(List Int×Int×Int×Unit)×List RL40
def dr40:RL40:=(ByteArray.empty,[],())
def nm40:List ByteArray:=[ByteArray.mk #[99,104,105,101,102],ByteArray.mk #[100,114,105,118,101,114],ByteArray.mk #[103,117,97,114,100],ByteArray.mk #[112,117,112,105,108],ByteArray.mk #[119,97,114,100,101,110]]
def zz40:List ByteArray:=[ByteArray.mk #[122,122],ByteArray.mk #[99,104,105,101,102],ByteArray.mk #[119,97,114,100,101,110]]
def a40 (st:SS40) (n:ByteArray):SS40:=(u18_0 st.1 5,if g18_0 st.1 5=true then st.2 else st.2++[(n,[],())])
def b40 (i:Nat) (st:SS40) (k:Nat):SS40:=(u18_0 st.1 3,if g18_0 st.1 3=true then st.2.set i ((st.2.getD i dr40).1,(st.2.getD i dr40).2.1++[(st.2.getD k dr40).1],()) else st.2)
def bs40 (i:Nat):Nat→SS40→SS40
 | 0,st=>st
 | m+1,st=>b40 i (bs40 i m st) (i+1+m)
def bb40 (st:SS40) (i:Nat):SS40:=bs40 i (st.2.length - (i+1)) st
def es40:Nat→SS40→SS40
 | 0,st=>st
 | n+1,st=>bb40 (es40 n st) n
def cs40 (x:(List Int×Int×Int×Unit)):Nat→SS40
 | 0=>(x,[])
 | k+1=>a40 (cs40 x k) (nm40.getD k ByteArray.empty)
def many40:Nat→List RL40
 | 0=>[]
 | k+1=>many40 k++[(ByteArray.mk #[110,UInt8.ofNat (97+k)],[],())]
def fi40 (st : SS40) : SS40 :=
  if g41_0 st.1 24 = 0 then (u41_0 st.1 24, if 1 < st.2.length then st.2.set (st.2.length - 1) ((st.2.getD (st.2.length - 1) dr40).1, [(st.2.getD 0 dr40).1], ()) else st.2)
  else if g41_0 st.1 24 = 1 then (if 0 < st.2.length then
      (u45_0 (u41_0 (u41_0 st.1 24) (st.2.length : Int)) zz40,
       st.2.set (g41_0 (u41_0 st.1 24) (st.2.length : Int)).toNat ((st.2.getD (g41_0 (u41_0 st.1 24) (st.2.length : Int)).toNat dr40).1, [g45_0 (u41_0 (u41_0 st.1 24) (st.2.length : Int)) zz40], ()))
    else (u41_0 st.1 24, st.2))
  else if g41_0 st.1 24 = 2 then (u43_0 (u41_0 st.1 24) [12, 13], many40 (g43_0 (u41_0 st.1 24) [12, 13]).toNat)
  else (u41_0 st.1 24, st.2)
def dn40 (x:(List Int×Int×Int×Unit)):SS40:=fi40 (es40 (cs40 x 5).2.length (cs40 x 5))
def g40_0 (x0:(List Int×Int×Int×Unit)):List RL40:=(dn40 x0).2
def u40_0 (x0:(List Int×Int×Int×Unit)):(List Int×Int×Int×Unit):=(dn40 x0).1
def P40 (x0:(List Int×Int×Int×Unit)):Prop:=SrcOk 800000000 x0
def small40 (y:List RL40):Prop:=y.length≤13∧∀ r∈y,r.1.size≤100∧r.2.1.length≤13∧∀ n∈r.2.1,n.size≤100
def In40 (i j:Nat) (xs:List RL40):Prop:=∀ (m:Nat) (r:RL40),xs[m]? = some r→r.1.size≤100∧(∀ y∈r.2.1,ByteArray.size y≤100)∧(m<i→r.2.1.length≤5)∧(m=i→r.2.1.length≤j)∧(i<m→r.2.1=[])
theorem nmSize40 (k:Nat):(nm40.getD k ByteArray.empty).size≤100:=by
 rcases k with _ | _ | _ | _ | _ | k <;> first | decide | (simp [nm40])
theorem cs_ok40 {x:(List Int×Int×Int×Unit)} {N:Int} (h:SrcOk N x) (hN:N≤1000000000):∀ k:Nat,k≤5→SrcOk (N+2*k) (cs40 x k).1∧(cs40 x k).2.length≤k∧In40 0 0 (cs40 x k).2
 | 0,_=>⟨h.up (by omega),Nat.le_refl _,fun m r hr=>by simp [cs40] at hr⟩
 | k+1,hk=>by
  obtain ⟨h1,h2,h3⟩:=cs_ok40 h hN k (by omega)
  obtain ⟨p,s⟩:=one_ok h1 5 (by omega)
  refine ⟨s.up (by push_cast;omega),?_,?_⟩
  ·show List.length (if _ then _ else _)≤k+1
   split
   ·omega
   ·rw [List.length_append,List.length_singleton];omega
  ·show In40 0 0 (if _ then _ else _)
   split
   ·exact h3
   ·intro m r hr
    by_cases hm:m<(cs40 x k).2.length
    ·rw [List.getElem?_append_left hm] at hr
     exact h3 m r hr
    ·rw [List.getElem?_append_right (by omega)] at hr
     have:m - (cs40 x k).2.length=0:=by
      have:=(List.getElem?_eq_some_iff.1 hr).1
      simp at this
      omega
     rw [this] at hr
     simp at hr
     subst hr
     exact ⟨nmSize40 k,fun y hy=>by simp at hy,fun _=>by simp,fun _=>by simp,fun _=>rfl⟩
theorem b_len40 (i:Nat) (st:SS40) (k:Nat):(b40 i st k).2.length=st.2.length:=by
 show List.length (if _ then _ else _)=_
 split
 ·simp
 ·rfl
theorem bs_len40 (i m:Nat) (st:SS40):(bs40 i m st).2.length=st.2.length:=by
 induction m with
 | zero=>rfl
 | succ m ih=>rw [bs40,b_len40,ih]
theorem es_len40 (n:Nat) (st:SS40):(es40 n st).2.length=st.2.length:=by
 induction n with
 | zero=>rfl
 | succ n ih=>rw [es40,bb40,bs_len40,ih]
theorem bs_ok40 {i:Nat} {st:SS40} {N:Int} (h:SrcOk N st.1) (hN:N≤1000000000) (hi:i<st.2.length) (h0:In40 i 0 st.2):∀ m:Nat,i+m<st.2.length→m≤5→SrcOk (N+2*m) (bs40 i m st).1∧In40 i m (bs40 i m st).2
 | 0,_,_=>⟨h.up (by omega),h0⟩
 | m+1,hm,h5=>by
  obtain ⟨h1,h2⟩:=bs_ok40 h hN hi h0 m (by omega) (by omega)
  have hl:=bs_len40 i m st
  obtain ⟨p,s⟩:=one_ok h1 3 (by omega)
  refine ⟨s.up (by push_cast;omega),?_⟩
  rw [bs40]
  generalize bs40 i m st=t at *
  show In40 i (m+1) (if _ then _ else _)
  split
  ·have gi:t.2[i]? = some (t.2.getD i dr40):=by rw [List.getD_eq_getElem?_getD,List.getElem?_eq_getElem (by omega)];rfl
   have gk:t.2[i+1+m]? = some (t.2.getD (i+1+m) dr40):=by rw [List.getD_eq_getElem?_getD,List.getElem?_eq_getElem (by omega)];rfl
   obtain ⟨q1,q2,q3,q4,q5⟩:=h2 i _ gi
   intro j r hr
   by_cases hj:i=j
   ·subst hj
    rw [List.getElem?_set_self (by omega)] at hr
    cases hr
    refine ⟨q1,fun y hy => ?_,fun h=>absurd h (Nat.lt_irrefl _),fun _ => ?_,fun h=>absurd h (Nat.lt_irrefl _)⟩
    ·rcases List.mem_append.1 hy with hy | hy
     ·exact q2 y hy
     ·simp at hy
      subst hy
      exact (h2 _ _ gk).1
    ·have:=q4 rfl
     show List.length (_++[_])≤_
     rw [List.length_append,List.length_singleton]
     omega
   ·rw [List.getElem?_set_ne hj] at hr
    obtain ⟨z1,z2,z3,z4,z5⟩:=h2 j r hr
    exact ⟨z1,z2,z3,fun e=>absurd e.symm hj,z5⟩
  ·intro j r hr
   obtain ⟨z1,z2,z3,z4,z5⟩:=h2 j r hr
   exact ⟨z1,z2,z3,fun e=>by have:=z4 e;omega,z5⟩
theorem In40.next {i j:Nat} {xs:List RL40} (h:In40 i j xs) (hj:j≤5):In40 (i+1) 0 xs:=fun m r hr=>by
 obtain ⟨z1,z2,z3,z4,z5⟩:=h m r hr
 refine ⟨z1,z2,fun hm => ?_,fun hm=>by rw [z5 (by omega)];simp,fun hm=>z5 (by omega)⟩
 by_cases he:m=i
 ·have:=z4 he;omega
 ·exact z3 (by omega)
theorem es_ok40 {st:SS40} {N:Int} (h:SrcOk N st.1) (hN:N≤900000000) (hl:st.2.length≤5) (h0:In40 0 0 st.2):∀ n:Nat,n≤st.2.length→SrcOk (N+10*n) (es40 n st).1∧In40 n 0 (es40 n st).2
 | 0,_=>⟨h.up (by omega),h0⟩
 | n+1,hn=>by
  obtain ⟨h1,h2⟩:=es_ok40 h hN hl h0 n (by omega)
  have e:=es_len40 n st
  obtain ⟨h3,h4⟩:=bs_ok40 h1 (by omega) (by omega) h2 ((es40 n st).2.length - (n+1)) (by omega) (by omega)
  exact ⟨h3.up (by push_cast;omega),h4.next (by omega)⟩
theorem many_ok40:∀ k,k≤13→small40 (many40 k)∧(many40 k).length=k
 | 0,_=>⟨⟨by simp [many40],fun r hr=>by simp [many40] at hr⟩,rfl⟩
 | k+1,hk=>by
  obtain ⟨⟨h1,h2⟩,h3⟩:=many_ok40 k (by omega)
  have e:(many40 (k+1)).length=k+1:=by rw [many40,List.length_append,List.length_singleton,h3]
  refine ⟨⟨by omega,fun r hr => ?_⟩,e⟩
  rw [many40] at hr
  rcases List.mem_append.1 hr with hr | hr
  ·exact h2 r hr
  ·simp at hr
   subst hr
   exact ⟨by show 2≤100;decide,by simp,by simp⟩
theorem dn_ok40 (x:(List Int×Int×Int×Unit)) (h:P40 x) (N:Int) (hN:SrcOk N x) (hN2:N≤800000000):SrcOk (N+10) (cs40 x 5).1∧(cs40 x 5).2.length≤5∧In40 0 0 (cs40 x 5).2∧SrcOk (N+60) (es40 (cs40 x 5).2.length (cs40 x 5)).1∧In40 5 0 (es40 (cs40 x 5).2.length (cs40 x 5)).2:=by
 obtain ⟨h1,h2,h3⟩:=cs_ok40 hN (by omega) 5 (Nat.le_refl _)
 obtain ⟨h4,h5⟩:=es_ok40 h1 (by omega) h2 h3 _ (Nat.le_refl _)
 refine ⟨h1,h2,h3,h4.up (by omega),fun m r hr => ?_⟩
 obtain ⟨z1,z2,z3,z4,z5⟩:=h5 m r hr
 have hm:=(List.getElem?_eq_some_iff.1 hr).1
 rw [es_len40] at hm
 exact ⟨z1,z2,fun _=>z3 hm,fun he=>absurd he (by omega),fun he=>absurd he (by omega)⟩
theorem In40.small {xs:List RL40} (h:In40 5 0 xs) (hl:xs.length≤5):small40 xs:=by
 refine ⟨by omega,fun r hr => ?_⟩
 obtain ⟨m,hm⟩:=List.getElem?_of_mem hr
 obtain ⟨z1,z2,z3,z4,z5⟩:=h m r hm
 have:=(List.getElem?_eq_some_iff.1 hm).1
 have:=z3 (by omega)
 exact ⟨z1,by omega,z2⟩
theorem set_small40 {xs:List RL40} (h:small40 xs) (k:Nat) (y:ByteArray) (hy:y.size≤100) (hk:k<xs.length):small40 (xs.set k ((xs.getD k dr40).1,[y],())):=by
 refine ⟨by rw [List.length_set];exact h.1,fun r hr => ?_⟩
 rcases List.mem_or_eq_of_mem_set hr with hr | rfl
 ·exact h.2 r hr
 ·exact ⟨(h.2 _ (mem_getD xs k _ hk)).1,by simp,fun n hn=>by simp at hn;subst hn;exact hy⟩
theorem fi_ok40 {st:SS40} {N:Int} (h:SrcOk N st.1) (hN:N≤1000000000) (hl:st.2.length≤5) (hs:small40 st.2):SrcOk (N+10) (fi40 st).1∧small40 (fi40 st).2:=by
 obtain ⟨p1,s1,a1,_⟩:=pick_ok h 24 (by omega)
 unfold fi40
 by_cases c0:g41_0 st.1 24=0
 ·rw [if_pos c0]
  refine ⟨s1.up (by omega),?_⟩
  show small40 (if _ then _ else _)
  split
  ·exact set_small40 hs _ _ (hs.2 _ (mem_getD st.2 0 _ (by omega))).1 (by omega)
  ·exact hs
 rw [if_neg c0]
 by_cases c1:g41_0 st.1 24=1
 ·rw [if_pos c1]
  by_cases c:0<st.2.length
  ·rw [if_pos c]
   obtain ⟨p2,s2,a2,b2,_⟩:=pick_ok s1 (st.2.length:Int) (by omega)
   obtain ⟨p3,s3,m3⟩:=text_ok s2 zz40 (by decide) (by omega)
   have b2:=b2 (by omega)
   refine ⟨s3.up (by omega),set_small40 hs _ _ ?_ (by omega)⟩
   have:∀ y∈zz40,ByteArray.size y≤100:=by
    intro y hy
    simp [zz40] at hy
    rcases hy with rfl | rfl | rfl <;> decide
   exact this _ m3
  ·rw [if_neg c]
   exact ⟨s1.up (by omega),hs⟩
 rw [if_neg c1]
 by_cases c2:g41_0 st.1 24=2
 ·rw [if_pos c2]
  obtain ⟨p2,s2,m2⟩:=among_ok s1 [12,13] (by decide) (by omega)
  refine ⟨s2.up (by omega),(many_ok40 _ ?_).1⟩
  simp at m2
  omega
 ·rw [if_neg c2]
  exact ⟨s1.up (by omega),hs⟩
theorem q40 (x0:(List Int×Int×Int×Unit)) (h:P40 x0):SrcOk (x0.2.1+1000) (u40_0 x0)∧small40 (g40_0 x0):=by
 have h':SrcOk 800000000 x0:=h
 obtain ⟨h1,h2,h3,h4,h5⟩:=dn_ok40 x0 h x0.2.1 h'.self h'.at_le
 have hl:=es_len40 (cs40 x0 5).2.length (cs40 x0 5)
 obtain ⟨k1,k2⟩:=fi_ok40 h4 (by have:=h'.at_le;omega) (by omega) (h5.small (by omega))
 exact ⟨k1.up (by omega),k2⟩
theorem gb40 {w W:World} (h:Below w.heap.size w W):w.grownBy W none:=⟨h.1,h.2,h.3,h.4,fun q hq _=>h.5 q hq⟩
theorem gba40 (w:World) (o:Obj):w.grownBy (w.alloc o) none:=gb40 ((Below.refl _ w).alloc (Nat.le_refl _) o)
theorem cel40 {w:World} {b:Nat} {cs:Array Value} {ty:TypeId} (h:w.heap[b]? = some (.cells cs ty)) (j:Nat) (u:Value) (hj:cs[j]? = some u):w.cell? ⟨b,j,none⟩=some u:=by
 unfold World.cell?
 rw [show w.heap[(⟨b,j,none⟩:Addr).block]? = _ from h]
 exact hj
def nv40:Array Value := #[.string (ByteArray.mk #[99,104,105,101,102]),.string (ByteArray.mk #[100,114,105,118,101,114]),.string (ByteArray.mk #[103,117,97,114,100]),.string (ByteArray.mk #[112,117,112,105,108]),.string (ByteArray.mk #[119,97,114,100,101,110])]
theorem news240 (w1:World) (o:Obj) (cs:Array Value) (t:TypeId):∀ j u,cs.toList[j]? = some u→((w1.alloc o).alloc (.cells cs t)).cell? ⟨w1.heap.size+1,0+j,none⟩=some u:=fun j u hj=>by
 have e:(w1.alloc o).heap.size=w1.heap.size+1:=by simp
 have h:=heap_alloc_new (w1.alloc o) (.cells cs t)
 rw [e] at h
 exact cel40 h (0+j) u (by rw [Nat.zero_add];simpa using hj)
theorem nw40 {w w1 w2:World} {u v':Value} {xs:List RL40} {us:List Value} (h:Rs40 w w1 u xs us) (hw:w.heap.size≤w1.heap.size) (y:ByteArray)
  (hown:w2.ownsRow w.heap.size 40 2 v' (xs.length+1) (row40 xs us++[.string y,.slice (some ⟨w1.heap.size,0,none⟩) 0 0])) (hgrow:((w1.alloc (.cells #[] 9)).alloc (.cells #[.string y,.slice (some ⟨w1.heap.size,0,none⟩) 0 0] 40)).grownBy w2 u.ownBlock) :
  Rs40 w w2 v' (xs++[(y,[],())]) (us++[.slice (some ⟨w1.heap.size,0,none⟩) 0 0]) :=
 h.push (x:=(y,[],())) (gb40 (((Below.refl _ w1).alloc (Nat.le_refl _) _).alloc (by simp) _)) (World.ownsRow.alloc (World.ownsRow_lit (base:=w.heap.size) (size:=1) w1 #[] 0 hw (by simp) rfl) _)
  (fun b hb=>by simp [Value.ownBlock] at hb;omega) hgrow hown
theorem gal40 {w w1:World} {o:Obj} {row:Option Nat} (h:((w.alloc o).drew).grownBy w1 row):w.grownBy w1 row :=
 ⟨h.os,h.tape,h.output,Nat.le_trans (show w.heap.size≤(w.alloc o).heap.size by simp) h.size,fun q hq hr=>(h.block q (Nat.lt_of_lt_of_le hq (show w.heap.size≤(w.alloc o).heap.size by simp)) hr).trans (Below.heap_alloc _ _ _ hq)⟩
theorem getDr40 {xs:List RL40} {i:Nat} (hi:i<xs.length):xs[i]? = some (xs.getD i dr40):=by rw [List.getD_eq_getElem?_getD,List.getElem?_eq_getElem hi];rfl
theorem name40 {w wr:World} {G cp:Nat} {xs:List RL40} {us:List Value} (h:Rs40 w wr (.slice (some ⟨G,0,none⟩) xs.length cp) xs us) {i:Nat} (hi:i<xs.length):wr.cell? ⟨G,i*2,none⟩=some (.string (xs.getD i dr40).1):=by
 have hl:=h.len
 rw [h.own.cellAt (i*2) (by omega),Nat.mul_comm]
 exact (rowGet40 xs us i _ _ (getDr40 hi) (List.getElem?_eq_getElem (by omega))).1
theorem fx40 {w wr:World} {G cp S off:Nat} {G0:Nat→Prop} {s:(List Int×Int×Int×Unit)} {xs:List RL40} {us:List Value} (h:Rs40 w wr (.slice (some ⟨G,0,none⟩) xs.length cp) xs us) (hst:St40 w wr G0 S off s) (hS:S<w.heap.size) (hG0:∀ b,G0 b→b<w.heap.size) {i:Nat} (hi:i<xs.length) (y:ByteArray) :
  ∃ u L xs0,wr.cell? ⟨G,i*2+1,none⟩=some u∧L=(xs.getD i dr40).2.1.length∧G<wr.heap.size∧Aside (wr.ownsRow w.heap.size 9 1 u L xs0) ∧
   Aside (∀ o w1,((wr.alloc o).drew).grownBy w1 u.ownBlock→w1.frozen? ⟨G,i*2+1,none⟩=false∧w1.cell? ⟨G,i*2+1,none⟩=some u) ∧
   Aside (∀ o w1 gg c1,((wr.alloc o).drew).grownBy w1 u.ownBlock→w1.ownsRow w.heap.size 9 1 (.slice (some ⟨gg,0,none⟩) (L+1) c1) (L+1) (xs0++[.string y])→(u.ownBlock=some gg∨gg=wr.heap.size+1) →
    ∃ us',Rs40 w (w1.setCell ⟨G,i*2+1,none⟩ (.slice (some ⟨gg,0,none⟩) (L+1) c1)) (.slice (some ⟨G,0,none⟩) xs.length cp) (xs.set i ((xs.getD i dr40).1,(xs.getD i dr40).2.1++[y],())) us' ∧
     St40 w (w1.setCell ⟨G,i*2+1,none⟩ (.slice (some ⟨gg,0,none⟩) (L+1) c1)) G0 S off s):=by
 have hl:=h.len
 have hu:us[i]? = some (us[i]'(by omega)):=List.getElem?_eq_getElem (by omega)
 have hx:=getDr40 hi
 have i2:=h.inn i _ _ hx hu
 refine ⟨us[i]'(by omega),_,_,?_,rfl,(h.own.lt _ rfl).2,i2,fun o w1 hg => ?_,fun o w1 gg c1 hg ho hat => ?_⟩
 ·rw [h.own.cellAt (i*2+1) (by omega),Nat.mul_comm]
  exact (rowGet40 xs us i _ _ hx hu).2
 ·have h':=(World.ownsRow.drew (World.ownsRow.alloc h.own o)).kept hg (apart40 h.own i2 (by decide))
  refine ⟨h'.frozenAt _,(h'.cellAt _ (by omega)).trans ?_⟩
  rw [Nat.mul_comm]
  exact (rowGet40 xs us i _ _ hx hu).2
 ·have el:((xs.getD i dr40).2.1++[y]).length=(xs.getD i dr40).2.1.length+1:=by simp
  have ef:fcs .str ((xs.getD i dr40).2.1++[y])=fcs .str (xs.getD i dr40).2.1++[.string y]:=by unfold fcs;simp [fcells]
  have hg':=gal40 hg
  obtain ⟨r1,r2⟩:=h.put (ys:=(xs.getD i dr40).2.1++[y]) hx hu hg' (by rw [el,ef];exact ho) (fun b hb=>by
   simp [Value.ownBlock] at hb
   subst hb
   rcases hat with he | he
   ·exact .inl he
   ·exact .inr (by omega))
  rw [Nat.mul_comm]
  exact ⟨_,r1,(hst.grown hS hG0 hg' (fun b hb=>(i2.lt b hb).1)).grown hS hG0 r2 (fun b hb=>by cases hb;exact (h.own.lt _ rfl).1)⟩
theorem gmono40 {w w1:World} (h:w.grownBy w1 none) (r:Option Nat):w.grownBy w1 r:=⟨h.os,h.tape,h.output,h.size,fun q hq _=>h.block q hq (by simp)⟩
theorem fy40 {w wr:World} {G cp S off:Nat} {G0:Nat→Prop} {s:(List Int×Int×Int×Unit)} {xs:List RL40} {us:List Value} (h:Rs40 w wr (.slice (some ⟨G,0,none⟩) xs.length cp) xs us) (hst:St40 w wr G0 S off s) (hS:S<w.heap.size) (hG0:∀ b,G0 b→b<w.heap.size) {i:Nat} (hi:i<xs.length) (y:ByteArray) :
  ∃ u,wr.cell? ⟨G,i*2+1,none⟩=some u∧G<wr.heap.size∧wr.frozen? ⟨G,i*2+1,none⟩=false ∧
   Aside (∃ us',Rs40 w ((wr.setCell ⟨G,i*2+1,none⟩ (.slice (some ⟨wr.heap.size,0,none⟩) 1 1)).alloc (.cells #[.string y] 9)) (.slice (some ⟨G,0,none⟩) xs.length cp) (xs.set i ((xs.getD i dr40).1,[y],())) us' ∧
     St40 w ((wr.setCell ⟨G,i*2+1,none⟩ (.slice (some ⟨wr.heap.size,0,none⟩) 1 1)).alloc (.cells #[.string y] 9)) G0 S off s):=by
 have hl:=h.len
 have hu:us[i]? = some (us[i]'(by omega)):=List.getElem?_eq_getElem (by omega)
 have hx:=getDr40 hi
 refine ⟨us[i]'(by omega),?_,(h.own.lt _ rfl).2,h.own.frozenAt _,?_⟩
 ·rw [h.own.cellAt (i*2+1) (by omega),Nat.mul_comm]
  exact (rowGet40 xs us i _ _ hx hu).2
 ·have i2:=h.inn i _ _ hx hu
  obtain ⟨r1,r2⟩:=h.put (ys:=[y]) hx hu (gmono40 (gba40 wr (.cells #[.string y] 9)) _) (World.ownsRow_lit (base:=w.heap.size) (size:=1) wr #[.string y] 1 hst.low.size (by decide) rfl) (fun b hb => .inr (by simp [Value.ownBlock] at hb;omega))
  rw [← World.setCell_alloc_past _ _ _ _ (h.own.lt _ rfl).2,Nat.mul_comm]
  exact ⟨_,r1,(hst.grown hS hG0 (gba40 wr _) (fun b hb=>by cases hb)).grown hS hG0 r2 (fun b hb=>by cases hb;exact (h.own.lt _ rfl).1)⟩
theorem lz40 {w w2:World} {S:Nat} (hw:w.heap.size≤w2.heap.size) (hS:S<w.heap.size) :
  SlAt (w2.alloc (.cells #[.string (ByteArray.mk #[122,122]),.string (ByteArray.mk #[99,104,105,101,102]),.string (ByteArray.mk #[119,97,114,100,101,110])] 9)) (Am.Good (w2.alloc (.cells #[.string (ByteArray.mk #[122,122]),.string (ByteArray.mk #[99,104,105,101,102]),.string (ByteArray.mk #[119,97,114,100,101,110])] 9)) [S])
   (RepC (w2.alloc (.cells #[.string (ByteArray.mk #[122,122]),.string (ByteArray.mk #[99,104,105,101,102]),.string (ByteArray.mk #[119,97,114,100,101,110])] 9)) (Am.Good (w2.alloc (.cells #[.string (ByteArray.mk #[122,122]),.string (ByteArray.mk #[99,104,105,101,102]),.string (ByteArray.mk #[119,97,114,100,101,110])] 9)) [S]) .str) 1 zz40 (.slice (some ⟨w2.heap.size,0,none⟩) 3 3):=by
 have h:=World.ownsRow_lit (base:=w.heap.size) (size:=1) (e:=9) w2 #[.string (ByteArray.mk #[122,122]),.string (ByteArray.mk #[99,104,105,101,102]),.string (ByteArray.mk #[119,97,114,100,101,110])] 3 hw (by decide) rfl
 exact slOf40 (x:=zz40) h (fun b h1 h2=>⟨h2,by simp;omega⟩) (by decide) (by
  intro y hy
  simp [zz40] at hy
  rcases hy with rfl | rfl | rfl <;> decide)
theorem la40 {w w2:World} {S:Nat} (hw:w.heap.size≤w2.heap.size) (hS:S<w.heap.size) :
  SlAt (w2.alloc (.cells #[.int .i64 12,.int .i64 13] 2)) (Am.Good (w2.alloc (.cells #[.int .i64 12,.int .i64 13] 2)) [S]) (RepC (w2.alloc (.cells #[.int .i64 12,.int .i64 13] 2)) (Am.Good (w2.alloc (.cells #[.int .i64 12,.int .i64 13] 2)) [S]) (.int .i64)) 1 [12,13] (.slice (some ⟨w2.heap.size,0,none⟩) 2 2):=by
 have h:=heap_alloc_new w2 (.cells #[.int .i64 12,.int .i64 13] 2)
 refine ⟨by decide,.inr ⟨w2.heap.size,0,2,rfl,Nat.le_refl _,by decide,⟨by simp,by simp;omega⟩,fun i x hx => ?_⟩⟩
 rcases i with _ | _ | i
 ·simp at hx
  subst hx
  refine ⟨[.int .i64 12],rfl,fun j c hj => ?_,rfl,by show InR .i64 12;rw [i64_iff];omega⟩
  rcases j with _ | j
  ·simp at hj;subst hj;exact cel40 h 0 _ rfl
  ·simp at hj
 ·simp at hx
  subst hx
  refine ⟨[.int .i64 13],rfl,fun j c hj => ?_,rfl,by show InR .i64 13;rw [i64_iff];omega⟩
  rcases j with _ | j
  ·simp at hj;subst hj;exact cel40 h 1 _ rfl
  ·simp at hj
 ·simp at hx
theorem cv40 (wr:World) (k:Nat) (hk:k≤13):(convert 22 9 (.slice (some ⟨wr.heap.size,0,none⟩) 1 1)).run Try.prog (wr.alloc (.cells #[.int .u8 (97+(k:Int))] 5)) = .ok (.string (ByteArray.mk #[UInt8.ofNat (97+k)])) (wr.alloc (.cells #[.int .u8 (97+(k:Int))] 5)):=by
 refine run_convert_bytes_back (P:=Try.prog) _ 22 9 5 ⟨wr.heap.size,0,none⟩ 1 [UInt8.ofNat (97+k)] Try.underlying22 Try.underlying5 Try.underlying9 (fun j hj => ?_)
 have hj0:j=0:=by simpa using hj
 subst hj0
 refine (cel40 (heap_alloc_new wr (.cells #[.int .u8 (97+(k:Int))] 5)) 0 (.int .u8 (97+(k:Int))) rfl).trans ?_
 have:(UInt8.ofNat (97+k)).toNat=97+k:=by
  show (97+k) % 256=97+k
  omega
 show some (Value.int .u8 (97+(k:Int)))=some (.int .u8 ((UInt8.ofNat (97+k)).toNat:Int))
 rw [this]
 rfl
theorem nw040 {w w1 w2:World} {u v':Value} {xs:List RL40} {us:List Value} {o:Obj} (h:Rs40 w w1 u xs us) (y:ByteArray)
  (hown:w2.ownsRow w.heap.size 40 2 v' (xs.length+1) (row40 xs us++[.string y,.slice none 0 0])) (hgrow:((w1.alloc o).alloc (.cells #[.string y,.slice none 0 0] 40)).grownBy w2 u.ownBlock) :
  Rs40 w w2 v' (xs++[(y,[],())]) (us++[.slice none 0 0]) :=
 h.push (x:=(y,[],())) (gb40 (((Below.refl _ w1).alloc (Nat.le_refl _) _).alloc (by simp) _)) (World.ownsRow_nil _ _ _ _) (fun b hb=>by simp [Value.ownBlock] at hb) hgrow hown
theorem nvGet40 (k:Nat) (hk:k<5):nv40[k]? = some (.string (nm40.getD k ByteArray.empty)):=by
 rcases k with _ | _ | _ | _ | _ | k <;> first | rfl | omega
def Fin40 (w:World) (G0:Nat→Prop) (S off:Nat) (x:(List Int×Int×Int×Unit)) (e:Ending) (w':World):Prop :=
 ∃ v us,e = .returned v∧Rs40 w w' v (g40_0 x) us∧St40 w w' G0 S off (u40_0 x)
set_option maxHeartbeats 2000000 in
theorem walk40 (w:World) (G0:Nat→Prop) (S off:Nat) (x:(List Int×Int×Int×Unit)) (hgo:GOk w [S]) (hG:∀ b,G0 b→Am.Good w [S] b) (hs:PbAt w G0 (.cons (.sl (.int .u8)) (.cons (.int .i64) (.cons (.int .u64) .unit))) x (.pointer (some ⟨S,off,none⟩)) [S]) (hp:P40 x) :
  Calls Try.prog 40 #[.pointer (some ⟨S,off,none⟩)] w (Fin40 w G0 S off x):=by
 have lS:S<w.heap.size:=by obtain ⟨_,_,_,h1⟩:=hs;exact h1.lt S (by simp)
 have HG:Aside (GOk w [S]):=hgo
 have HGG:Aside (∀ b,G0 b→Am.Good w [S] b):=hG
 have HP:Aside (PbAt w G0 (.cons (.sl (.int .u8)) (.cons (.int .i64) (.cons (.int .u64) .unit))) x (.pointer (some ⟨S,off,none⟩)) [S]):=hs
 have HX:Aside (P40 x):=hp
 have gs:∀ {W},Kept [S] w W→∀ b,G0 b→Am.Good W [S] b:=fun h b hb=>⟨Nat.lt_of_lt_of_le (hG b hb).1 h.size,(hG b hb).2⟩
 clear hgo hG hs hp
 have mixed:=mixed
 go_enter Try.func40,Try.ntmps40
 go_wp2
 go_loopw [5,4] (fun kv v wr=>∃ (k:Nat) (us:List Value),k≤5∧kv = .int .i64 k∧Rs40 w wr v (cs40 x k).2 us∧St40 w wr G0 S off (cs40 x k).1∧wr.heap[w.heap.size]? = some (.cells nv40 9)) (fun kv _ _=>5 - (intOf kv).toNat)
 case atStart =>
  refine ⟨0,[],by omega,rfl,⟨?_,rfl,fun j x u h=>by simp [cs40] at h,fun i j a b q h=>by simp at h⟩,⟨?_,((Kept.refl _ w).alloc _).alloc _⟩,?_⟩
  ·have h:=World.ownsRow_lit (base:=w.heap.size) (e:=40) (size:=2) (w.alloc (.cells nv40 9)) #[] 0 (by simp) (by simp) rfl
   rw [World.size_alloc] at h
   exact h
  ·exact (St40.grown (St40.grown ⟨HP.out,Kept.refl _ w⟩ lS (fun b hb=>(HGG.out b hb).1) (gba40 w _) (fun b hb=>by cases hb)) lS (fun b hb=>(HGG.out b hb).1) (gba40 _ _) (fun b hb=>by cases hb)).src
  ·exact (Below.heap_alloc _ _ _ (by simp)).trans (heap_alloc_new w _)
 case round =>
  obtain ⟨k,us,hk,rfl,hr,hst,hnb⟩:=hrel
  have HR:Aside (Rs40 w wr u4 (cs40 x k).2 us):=hr
  have HS:Aside (St40 w wr G0 S off (cs40 x k).1):=hst
  obtain ⟨ad,cp,rfl,hGG⟩:=form40 hr.own
  have hsz:w.heap.size<wr.heap.size:=(Array.getElem?_eq_some_iff.1 hnb).1
  clear hr hst
  by_cases hlt:k<5
  ·have p0:wr.cell? ⟨w.heap.size,k,none⟩=some (.string (nm40.getD k ByteArray.empty)):=cel40 hnb k _ (nvGet40 k hlt)
   obtain ⟨o1,o2,o3⟩:=cs_ok40 (show SrcOk 800000000 x from HX.out) (by omega) k hk
   obtain ⟨op,os⟩:=one_ok o1 5 (by omega)
   have HN:Aside (cs40 x (k+1)=a40 (cs40 x k) (nm40.getD k ByteArray.empty)):=rfl
   have HNB:Aside (nv40[k]? = some (.string (nm40.getD k ByteArray.empty))):=nvGet40 k hlt
   clear p0 o1 o3 os
   generalize nm40.getD k ByteArray.empty=y at *
   generalize cs40 x k=st at *
   obtain ⟨s,xs⟩:=st
   have HC:Aside (∀ W,Kept [S] w W→PbAt W G0 (.cons (.sl (.int .u8)) (.cons (.int .i64) (.cons (.int .u64) .unit))) s (.pointer (some ⟨S,off,none⟩)) [S]→_):=fun W h1 h2=>one40 W G0 S off s 5 (gokK40 HG.out h1) (gs h1) h2 (by rw [i64_iff];omega) op
   have hxl:xs.length≤k:=o2
   clear op o2
   have HI:Aside (TIOk Try.prog 24 (tabGet tab 24)):=tabOk 24
   cases hb:g18_0 s 5 with
   | true =>
    have HN2:Aside (cs40 x (k+1)=(u18_0 s 5,xs)):=by
     refine HN.out.trans ?_
     unfold a40
     rw [if_pos hb]
    go_wp2_with (go_at_call 18;refine (HC.out _ HS.out.low HS.out.src).mono ?_;rintro e w1 ⟨rfl,k1,s1⟩;rw [hb])
    refine ⟨⟨k+1,us,by omega,by simp,?_,?_,(k1.block _ hsz (by simp;omega)).trans hnb⟩,by simp [intOf];omega⟩
    ·rw [HN2.out]
     exact HR.out.keep (kg40 k1) (fun b hb=>by cases hb;exact lS)
    ·rw [HN2.out]
     exact ⟨s1,HS.out.low.trans k1⟩
   | false =>
    have HN2:Aside (cs40 x (k+1)=(u18_0 s 5,xs++[(y,[],())])):=by
     refine HN.out.trans ?_
     unfold a40
     rw [if_neg (by rw [hb];decide)]
    go_wp2_with (first
     | (go_at_call 18;refine (HC.out _ HS.out.low HS.out.src).mono ?_;rintro e w1 ⟨rfl,k1,s1⟩;rw [hb];have hnb1:w1.heap[w.heap.size]? = _:=(k1.block _ hsz (by simp;omega)).trans hnb;have p1:=cel40 hnb1 k _ HNB.out;have hsz1:w.heap.size≤w1.heap.size:=Nat.le_trans (Nat.le_of_lt hsz) k1.size;have HR1:Aside (Rs40 w w1 _ xs us):=HR.out.keep (kg40 k1) (fun b hb=>by cases hb;exact lS))
     | (at_builtin;go_loud (refine app40 HI.out w.heap.size (World.ownsRow.alloc (World.ownsRow.alloc HR1.out.own _) _) (w1.heap.size+1) 0 1 [.string y,.slice (some ⟨w1.heap.size,0,none⟩) 0 0] rfl (news240 w1 _ _ _) (by simp [Value.oneCell']) (by omega) (by simp;omega) rfl rfl rfl rfl ?_);intro v' w2 hown hgrow))
    have hne:some w.heap.size≠(Value.slice ad xs.length cp).ownBlock:=fun he=>by
     obtain ⟨cur,hc⟩:=obj40 HR1.out.own he.symm
     rw [hnb1] at hc
     cases hc
    refine ⟨⟨k+1,us++[.slice (some ⟨w1.heap.size,0,none⟩) 0 0],by omega,by simp,?_,?_,?_⟩,by simp [intOf];omega⟩
    ·rw [HN2.out]
     exact nw40 HR1.out hsz1 y hown hgrow
    ·rw [HN2.out]
     exact St40.grown (St40.grown (St40.grown ⟨s1,HS.out.low.trans k1⟩ lS (fun b hb=>(HGG.out b hb).1) (gba40 _ _) (fun b hb=>by cases hb)) lS (fun b hb=>(HGG.out b hb).1) (gba40 _ _) (fun b hb=>by cases hb)) lS (fun b hb=>(HGG.out b hb).1) hgrow (fun b hb=>(HR1.out.own.lt b hb).1)
    ·have hlt1:w.heap.size<w1.heap.size:=Nat.lt_of_lt_of_le hsz k1.size
     exact (hgrow.block _ (by simp;omega) hne).trans ((Below.heap_alloc _ _ _ (by simp;omega)).trans ((Below.heap_alloc _ _ _ hlt1).trans hnb1))
  ·have e5:cs40 x 5=cs40 x k:=by rw [show k=5 by omega]
   obtain ⟨o1,o2,o3,o4,o5⟩:=dn_ok40 x HX.out 800000000 HX.out (by omega)
   have HD:Aside (dn40 x=fi40 (es40 (cs40 x 5).2.length (cs40 x 5))):=rfl
   rw [e5] at o1 o2 o3 o4 o5 HD
   clear e5 hnb hsz
   generalize cs40 x k=c at *
   have HO1:Aside (SrcOk (800000000+10) c.1):=o1
   have HO3:Aside (In40 0 0 c.2):=o3
   have HO4:Aside (SrcOk (800000000+60) (es40 c.2.length c).1):=o4
   have HO5:Aside (In40 5 0 (es40 c.2.length c).2):=o5
   clear o1 o3 o4 o5
   have hn5:c.2.length≤5:=o2
   clear o2
   go_wp2_with fail
   go_loopw [6] (fun iv wr=>∃ (i:Nat) (us:List Value),i≤c.2.length∧iv = .int .i64 i∧Rs40 w wr (.slice ad c.2.length cp) (es40 i c).2 us∧St40 w wr G0 S off (es40 i c).1) (fun iv _=>c.2.length - (intOf iv).toNat)
   case atStart=>exact ⟨0,us,Nat.zero_le _,rfl,HR.out,HS.out⟩
   case round =>
    obtain ⟨i,us,hi,rfl,hr,hst⟩:=hrel
    have HR:Aside (Rs40 w wr (.slice ad c.2.length cp) (es40 i c).2 us):=hr
    have HS:Aside (St40 w wr G0 S off (es40 i c).1):=hst
    clear hr hst
    by_cases hlt:i<c.2.length
    ·obtain ⟨G,rfl⟩:=hGG (by omega)
     obtain ⟨t1,t2⟩:=es_ok40 HO1.out (by omega) hn5 HO3.out i hi
     have tl:=es_len40 i c
     have HE:Aside (es40 (i+1) c=bs40 i (c.2.length - (i+1)) (es40 i c)):=by
      show bs40 _ _ _=_
      rw [tl]
     have HT1:Aside (SrcOk (800000000+10+10*i) (es40 i c).1):=t1
     have HT2:Aside (In40 i 0 (es40 i c).2):=t2
     have HTL:Aside ((es40 i c).2.length=c.2.length):=tl
     clear t1 t2 tl
     generalize es40 i c=T at *
     generalize c.2.length=n at *
     go_wp2_with fail
     go_loopw [7] (fun kv wr=>∃ (k m:Nat) (us:List Value),k=i+1+m∧k≤n∧kv = .int .i64 k∧Rs40 w wr (.slice (some ⟨G,0,none⟩) n cp) (bs40 i m T).2 us∧St40 w wr G0 S off (bs40 i m T).1) (fun kv _=>n - (intOf kv).toNat)
     case atStart=>exact ⟨i+1,0,us,rfl,hlt,by simp,HR.out,HS.out⟩
     case round =>
      obtain ⟨k,m,us,hkm,hkn,rfl,hr,hst⟩:=hrel
      have HR:Aside (Rs40 w wr (.slice (some ⟨G,0,none⟩) n cp) (bs40 i m T).2 us):=hr
      have HS:Aside (St40 w wr G0 S off (bs40 i m T).1):=hst
      clear hr hst
      by_cases hk:k<n
      ·obtain ⟨o1,o2⟩:=bs_ok40 HT1.out (by omega) (by rw [HTL.out];exact hlt) HT2.out m (by rw [HTL.out];omega) (by omega)
       obtain ⟨op,os⟩:=one_ok o1 3 (by omega)
       have hzl:=(bs_len40 i m T).trans HTL.out
       have HN:Aside (bs40 i (m+1) T=b40 i (bs40 i m T) k):=by
        show _=_
        rw [hkm]
        rfl
       have HLE:Aside (((bs40 i m T).2.getD i dr40).2.1.length≤100):=Nat.le_trans ((o2 i _ (getDr40 (by rw [hzl];exact hlt))).2.2.2.1 rfl) (by omega)
       clear o1 o2 os
       generalize bs40 i m T=st at *
       obtain ⟨s,xs⟩:=st
       have hzl:xs.length=n:=hzl
       have HC:Aside (∀ W,Kept [S] w W→PbAt W G0 (.cons (.sl (.int .u8)) (.cons (.int .i64) (.cons (.int .u64) .unit))) s (.pointer (some ⟨S,off,none⟩)) [S]→_):=fun W h1 h2=>one40 W G0 S off s 3 (gokK40 HG.out h1) (gs h1) h2 (by rw [i64_iff];omega) op
       have HKM:Aside (k=i+1+m):=hkm
       clear op hkm
       cases hb:g18_0 s 3 with
       | false =>
        have HN2:Aside (bs40 i (m+1) T=(u18_0 s 3,xs)):=by
         refine HN.out.trans ?_
         unfold b40
         rw [if_neg (by rw [hb];decide)]
        go_wp2_with (go_at_call 18;refine (HC.out _ HS.out.low HS.out.src).mono ?_;rintro e w1 ⟨rfl,k1,s1⟩;rw [hb])
        have hkm:=HKM.out
        refine ⟨⟨k+1,m+1,us,by omega,by omega,by simp,?_,?_⟩,by simp [intOf];omega⟩
        ·rw [HN2.out]
         exact HR.out.keep (kg40 k1) (fun b hb=>by cases hb;exact lS)
        ·rw [HN2.out]
         exact ⟨s1,HS.out.low.trans k1⟩
       | true =>
        have HN2:Aside (bs40 i (m+1) T=(u18_0 s 3,xs.set i ((xs.getD i dr40).1,(xs.getD i dr40).2.1++[(xs.getD k dr40).1],()))):=by
         refine HN.out.trans ?_
         unfold b40
         rw [if_pos hb]
        have hG0:Aside (∀ b,G0 b→b<w.heap.size):=fun b hb=>(HGG.out b hb).1
        have hinfo:TIOk Try.prog 38 (tabGet tab 38):=tabOk 38
        obtain ⟨_,_,⟨_,⟨i0,hi0,hz1,z,hz0,hzs,_⟩⟩,hby⟩:=hinfo
        rw [hi0] at hby
        simp only [Option.map_some,Option.some.injEq] at hby
        have hz2:i0.bytes=16:=hby
        have hzz:z.cells.size=1:=by rw [← Array.length_toList,hzs];rfl
        clear hby hzs
        have HZ:Aside (xs.length=n):=hzl
        subst hzl
        go_wp2_with (go_at_call 18;refine (HC.out _ HS.out.low HS.out.src).mono ?_;rintro e w1 ⟨rfl,k1,s1⟩;rw [hb];have HR1:Aside (Rs40 w w1 (.slice (some ⟨G,0,none⟩) xs.length cp) xs us):=HR.out.keep (kg40 k1) (fun b hb=>by cases hb;exact lS);have hS1:Aside (St40 w w1 G0 S off (u18_0 s 3)):=⟨s1,HS.out.low.trans k1⟩;obtain ⟨u,L,xs0,p1,hL,hGl,HO,HFZ,HNX⟩:=fx40 HR1.out hS1.out lS hG0.out hlt (xs.getD k dr40).1;have p2:=name40 HR1.out hk;have hsz1:w.heap.size≤w1.heap.size:=hS1.out.low.size;have hL2:L≤100:=hL ▸ HLE.out;clear hL)
        generalize (xs.getD k dr40).1=y at *
        have hq2:(0:Int)≤(i:Int):=by omega
        have hq3:(i:Int)<(xs.length:Int):=by omega
        have hq5:(0:Int)≤(k:Int):=by omega
        have hq6:(k:Int)<(xs.length:Int):=by omega
        go_region_law (refine step_append_lies _ (by rfl) _ _ _ (by rfl) w.heap.size 9 i0 _ 1 16 Try.underlying38 hi0 hz0 hz1 hz2 hzz (by omega) u L xs0 (by rfl) (World.ownsRow.drew (World.ownsRow.alloc HO.out _)) ⟨w1.heap.size,0,none⟩ 1 1 [.string y] (by rfl) (by rfl) (World.news_of_block (cs := #[.string y]) (t:=9) (fr:=(0,0)) (heap_alloc_new w1 _)) (by simp [Value.oneCell']) (by omega) (by unfold maxLen;omega) (by omega) (by have:=hsz1;simp;omega) (w1.heap.size+1) (by simp) ?_;intro gg cap1 w2 hown1 hgrow hat hlt1;obtain ⟨hfz,hcz⟩:=HFZ.out _ w2 hgrow)
        all_goals go_wp2
        all_goals
         have hkm:=HKM.out
         obtain ⟨us',r1,r2⟩:=HNX.out _ w2 gg cap1 hgrow hown1 hat
         refine ⟨⟨k+1,m+1,us',by omega,by omega,by simp,?_,?_⟩,by simp [intOf];omega⟩
         ·rw [HN2.out]
          exact r1
         ·rw [HN2.out]
          exact r2
      ·have HKM:Aside (k=i+1+m):=hkm
       have HE2:Aside (es40 (i+1) c=bs40 i m T):=by
        refine HE.out.trans ?_
        rw [show n - (i+1)=m by omega]
       clear hkm
       go_wp2
       refine ⟨⟨i+1,us,by omega,by simp,?_,?_⟩,by simp [intOf];omega⟩
       ·rw [HE2.out]
        exact HR.out
       ·rw [HE2.out]
        exact HS.out
    ·have e6:es40 c.2.length c=es40 i c:=by rw [show c.2.length=i by omega]
     have hT:=es_len40 c.2.length c
     obtain ⟨p1',s1',a1',b1',_⟩:=pick_ok HO4.out 24 (by omega)
     have HO4:=HO4.out
     have HO5:=HO5.out
     have HD:=HD.out
     rw [e6] at hT HO4 HO5 HD p1' s1' a1' b1'
     clear e6
     have HG1:Aside (∀ b,G0 b→b<w.heap.size):=fun b hb=>(HGG.out b hb).1
     generalize es40 i c=T at *
     generalize c.2.length=n at *
     obtain ⟨s,xs⟩:=T
     have hT:xs.length=n:=hT
     have HC:Aside (∀ W,Kept [S] w W→PbAt W G0 (.cons (.sl (.int .u8)) (.cons (.int .i64) (.cons (.int .u64) .unit))) s (.pointer (some ⟨S,off,none⟩)) [S]→_):=fun W h1 h2=>pick40 W G0 S off s 24 (gokK40 HG.out h1) (gs h1) h2 (by rw [i64_iff];omega) p1'
     have HF:Aside (∀ v us w',Rs40 w w' v (fi40 (s,xs)).2 us→St40 w w' G0 S off (fi40 (s,xs)).1→Fin40 w G0 S off x (.returned v) w'):=fun v us w' h1 h2=>by
      refine ⟨v,us,rfl,?_,?_⟩
      ·unfold g40_0
       rw [HD]
       exact h1
      ·unfold u40_0
       rw [HD]
       exact h2
     have HO4:Aside (SrcOk (800000000+60) s):=HO4
     have HS1:Aside (SrcOk (800000000+60+2) (u41_0 s 24)):=s1'
     clear HO5 HD p1' s1' a1' b1'
     by_cases c0:g41_0 s 24=0
     ·by_cases hn:1<n
      ·obtain ⟨m,hm⟩:∃ m,n=m+1:=⟨n - 1,by omega⟩
       subst hm
       obtain ⟨G,rfl⟩:=hGG (by omega)
       have HZ:Aside (xs.length=m+1):=hT
       have HFI:Aside (fi40 (s,xs)=(u41_0 s 24,xs.set m ((xs.getD m dr40).1,[(xs.getD 0 dr40).1],()))):=by
        show _=_
        unfold fi40
        rw [if_pos c0,if_pos (by show 1<xs.length;omega)]
        show (_,xs.set (xs.length - 1) _)=_
        rw [hT]
        rfl
       have HR2:Aside (Rs40 w wr (.slice (some ⟨G,0,none⟩) xs.length cp) xs us):=by rw [HZ.out];exact HR.out
       have hq1:IntKind.i64.wrap ((m:Int)+1 - 1)=(m:Int):=by rw [IntKind.wrap_i64];omega
       have hq7:IntKind.i64.wrap (m:Int)=(m:Int):=by rw [IntKind.wrap_i64];omega
       have hq8:((m:Int)).toNat=m:=by simp
       have hq9:(1:Int)<(m:Int)+1:=by omega
       clear hT hGG
       have HNM:Aside (∀ w1,Rs40 w w1 (.slice (some ⟨G,0,none⟩) xs.length cp) xs us→w1.cell? ⟨G,0*2,none⟩=some (.string (xs.getD 0 dr40).1)):=fun w1 h=>name40 h (i:=0) (by rw [HZ.out];omega)
       generalize (xs.getD 0 dr40).1=y at *
       go_wp2_with (go_at_call 41;refine (HC.out _ HS.out.low HS.out.src).mono ?_;rintro e w1 ⟨rfl,k1,s1⟩;rw [c0];have HR1:Aside (Rs40 w w1 (.slice (some ⟨G,0,none⟩) xs.length cp) xs us):=HR2.out.keep (kg40 k1) (fun b hb=>by cases hb;exact lS);have hS1:Aside (St40 w w1 G0 S off (u41_0 s 24)):=⟨s1,HS.out.low.trans k1⟩;have p2:=HNM.out w1 HR1.out;rw [Nat.zero_mul] at p2;obtain ⟨u,p1,hGl,pf,HNX⟩:=fy40 HR1.out hS1.out lS HG1.out (i:=m) (by rw [HZ.out];omega) y)
       obtain ⟨us',r1,r2⟩:=HNX.out
       rw [HZ.out] at r1
       go_ret
       refine HF.out _ us' _ ?_ ?_
       ·rw [HFI.out]
        exact r1
       ·rw [HFI.out]
        exact r2
      ·have HFI:Aside (fi40 (s,xs)=(u41_0 s 24,xs)):=by
        show _=_
        unfold fi40
        rw [if_pos c0,if_neg (by show ¬ 1<xs.length;omega)]
       go_wp2_with (go_at_call 41;refine (HC.out _ HS.out.low HS.out.src).mono ?_;rintro e w1 ⟨rfl,k1,s1⟩;rw [c0])
       go_ret
       refine HF.out _ us _ ?_ ?_
       ·rw [HFI.out]
        exact HR.out.keep (kg40 k1) (fun b hb=>by cases hb;exact lS)
       ·rw [HFI.out]
        exact ⟨s1,HS.out.low.trans k1⟩
     ·by_cases c1:g41_0 s 24=1
      ·by_cases hn:0<n
       ·obtain ⟨G,rfl⟩:=hGG hn
        obtain ⟨p2',s2',a2',b2',_⟩:=pick_ok HS1.out (n:Int) (by omega)
        obtain ⟨p3',s3',m3'⟩:=text_ok s2' zz40 (by decide) (by omega)
        have b2':=b2' (by omega)
        have HZ:Aside (xs.length=n):=hT
        have HFI:Aside (fi40 (s,xs)=(u45_0 (u41_0 (u41_0 s 24) (n:Int)) zz40,xs.set (g41_0 (u41_0 s 24) (n:Int)).toNat ((xs.getD (g41_0 (u41_0 s 24) (n:Int)).toNat dr40).1,[g45_0 (u41_0 (u41_0 s 24) (n:Int)) zz40],()))):=by
         show _=_
         unfold fi40
         rw [if_neg c0,if_pos c1,if_pos (by show 0<xs.length;omega)]
         show (u45_0 (u41_0 _ (xs.length:Int)) _,_)=_
         rw [hT]
        have HC2:Aside (∀ W,Kept [S] w W→PbAt W G0 (.cons (.sl (.int .u8)) (.cons (.int .i64) (.cons (.int .u64) .unit))) (u41_0 s 24) (.pointer (some ⟨S,off,none⟩)) [S]→_):=fun W h1 h2=>pick40 W G0 S off _ (n:Int) (gokK40 HG.out h1) (gs h1) h2 (by rw [i64_iff];omega) p2'
        obtain ⟨j,hj⟩:=Int.eq_ofNat_of_zero_le a2'
        rw [hj] at HFI b2'
        rw [Int.toNat_natCast] at HFI
        have HC3:Aside (∀ W v,Kept [S] w W→PbAt W G0 (.cons (.sl (.int .u8)) (.cons (.int .i64) (.cons (.int .u64) .unit))) (u41_0 (u41_0 s 24) (n:Int)) (.pointer (some ⟨S,off,none⟩)) [S]→SlAt W (Am.Good W [S]) (RepC W (Am.Good W [S]) .str) 1 zz40 v→_):=fun W v h1 h2 h3=>text40 W G0 S off _ zz40 v (gokK40 HG.out h1) (gs h1) h2 h3 p3'
        have hjn:(j:Int)<(n:Int):=b2'
        clear p2' s2' a2' p3' s3' m3' hT hGG b2'
        have hq5:(0:Int)≤(j:Int):=by omega
        have hq6:((0:Int)<(n:Int)):=by omega
        have HJ:Aside (j<xs.length):=by rw [HZ.out];show j<n;omega
        have HR2:Aside (Rs40 w wr (.slice (some ⟨G,0,none⟩) xs.length cp) xs us):=by rw [HZ.out];exact HR.out
        have hjn':j<n:=by omega
        go_wp2_with (first
         | (go_at_call 45;go_loud (refine (HC3.out _ _ ((HT2.out.grown lS HG1.out (gba40 w2 _) (fun b hb=>by cases hb)).low) ((HT2.out.grown lS HG1.out (gba40 w2 _) (fun b hb=>by cases hb)).src) (lz40 HT2.out.low.size lS)).mono ?_);rintro e w3 ⟨rfl,k3,s3⟩;have HR4:Aside (Rs40 w w3 (.slice (some ⟨G,0,none⟩) xs.length cp) xs us):=(HR3.out.keep (gba40 w2 _) (fun b hb=>by cases hb)).keep (kg40 k3) (fun b hb=>by cases hb;exact lS);have HT3:Aside (St40 w w3 G0 S off (u45_0 (u41_0 (u41_0 s 24) (n:Int)) zz40)):=⟨s3,(HT2.out.grown lS HG1.out (gba40 w2 _) (fun b hb=>by cases hb)).low.trans k3⟩;obtain ⟨u,p1,hGl,pf,HNX⟩:=fy40 HR4.out HT3.out lS HG1.out (i:=j) HJ.out (g45_0 (u41_0 (u41_0 s 24) (n:Int)) zz40))
         | (go_at_call 41;refine (HC2.out _ HT1.out.low HT1.out.src).mono ?_;rintro e w2 ⟨rfl,k2,s2⟩;rw [hj];have HR3:Aside (Rs40 w w2 (.slice (some ⟨G,0,none⟩) xs.length cp) xs us):=HR1.out.keep (kg40 k2) (fun b hb=>by cases hb;exact lS);have HT2:Aside (St40 w w2 G0 S off (u41_0 (u41_0 s 24) (n:Int))):=⟨s2,HT1.out.low.trans k2⟩)
         | (go_at_call 41;refine (HC.out _ HS.out.low HS.out.src).mono ?_;rintro e w1 ⟨rfl,k1,s1⟩;rw [c1];have HR1:Aside (Rs40 w w1 (.slice (some ⟨G,0,none⟩) xs.length cp) xs us):=HR2.out.keep (kg40 k1) (fun b hb=>by cases hb;exact lS);have HT1:Aside (St40 w w1 G0 S off (u41_0 s 24)):=⟨s1,HS.out.low.trans k1⟩))
        obtain ⟨us',r1,r2⟩:=HNX.out
        rw [HZ.out] at r1
        go_ret
        refine HF.out _ us' _ ?_ ?_
        ·rw [HFI.out]
         exact r1
        ·rw [HFI.out]
         exact r2
       ·have HFI:Aside (fi40 (s,xs)=(u41_0 s 24,xs)):=by
         show _=_
         unfold fi40
         rw [if_neg c0,if_pos c1,if_neg (by show ¬ 0<xs.length;omega)]
        go_wp2_with (go_at_call 41;refine (HC.out _ HS.out.low HS.out.src).mono ?_;rintro e w1 ⟨rfl,k1,s1⟩;rw [c1])
        go_ret
        refine HF.out _ us _ ?_ ?_
        ·rw [HFI.out]
         exact HR.out.keep (kg40 k1) (fun b hb=>by cases hb;exact lS)
        ·rw [HFI.out]
         exact ⟨s1,HS.out.low.trans k1⟩
      ·by_cases c2:g41_0 s 24=2
       ·obtain ⟨p2',s2',m2'⟩:=among_ok HS1.out [12,13] (by decide) (by omega)
        have HFI:Aside (fi40 (s,xs)=(u43_0 (u41_0 s 24) [12,13],many40 (g43_0 (u41_0 s 24) [12,13]).toNat)):=by
         show _=_
         unfold fi40
         rw [if_neg c0,if_neg c1,if_pos c2]
        have HC3:Aside (∀ W v,Kept [S] w W→PbAt W G0 (.cons (.sl (.int .u8)) (.cons (.int .i64) (.cons (.int .u64) .unit))) (u41_0 s 24) (.pointer (some ⟨S,off,none⟩)) [S]→SlAt W (Am.Good W [S]) (RepC W (Am.Good W [S]) (.int .i64)) 1 [12,13] v→_):=fun W v h1 h2 h3=>among40 W G0 S off _ [12,13] v (gokK40 HG.out h1) (gs h1) h2 h3 p2'
        have hM:0≤g43_0 (u41_0 s 24) [12,13]∧g43_0 (u41_0 s 24) [12,13]≤13:=by
         simp at m2'
         omega
        obtain ⟨M,hMe⟩:=Int.eq_ofNat_of_zero_le hM.1
        rw [hMe] at HFI hM
        rw [Int.toNat_natCast] at HFI
        have hM13:M≤13:=by omega
        have HT:Aside (Rs40 w wr (.slice ad n cp) xs us):=HR.out
        clear p2' s2' m2' hT hGG hM HR
        go_wp2_with (first
         | (go_at_call 43;go_loud (refine (HC3.out _ _ ((HT1.out.grown lS HG1.out (gba40 w1 _) (fun b hb=>by cases hb)).low) ((HT1.out.grown lS HG1.out (gba40 w1 _) (fun b hb=>by cases hb)).src) (la40 HT1.out.low.size lS)).mono ?_);rintro e w3 ⟨rfl,k3,s3⟩;rw [hMe];have HT3:Aside (St40 w w3 G0 S off (u43_0 (u41_0 s 24) [12,13])):=⟨s3,(HT1.out.grown lS HG1.out (gba40 w1 _) (fun b hb=>by cases hb)).low.trans k3⟩)
         | (go_at_call 41;refine (HC.out _ HS.out.low HS.out.src).mono ?_;rintro e w1 ⟨rfl,k1,s1⟩;rw [c2];have HT1:Aside (St40 w w1 G0 S off (u41_0 s 24)):=⟨s1,HS.out.low.trans k1⟩))
        clear HC HC3 HS HT
        generalize u43_0 (u41_0 s 24) [12,13]=s' at *
        go_loopw [10,4] (fun kv v wr=>∃ (k:Nat) (us:List Value),k≤M∧kv = .int .i64 k∧Rs40 w wr v (many40 k) us∧St40 w wr G0 S off s') (fun kv _ _=>M - (intOf kv).toNat)
        case atStart =>
         refine ⟨0,[],by omega,rfl,⟨World.ownsRow_lit (base:=w.heap.size) (size:=2) w3 #[] 0 HT3.out.low.size (by simp) rfl,rfl,fun j x u h=>by simp [many40] at h,fun i j a b q h=>by simp at h⟩,?_⟩
         exact HT3.out.grown lS HG1.out (gba40 w3 _) (fun b hb=>by cases hb)
        case round =>
         obtain ⟨k,us,hk,rfl,hr,hst⟩:=hrel
         have HR:Aside (Rs40 w wr u4 (many40 k) us):=hr
         have HS:Aside (St40 w wr G0 S off s'):=hst
         obtain ⟨ad,cp,rfl,hGG⟩:=form40 hr.own
         have hsz:w.heap.size≤wr.heap.size:=hst.low.size
         have hml:(many40 k).length≤13:=(many_ok40 k (by omega)).1.1
         clear hr hst
         by_cases hkM:k<M
         ·have HN:Aside (many40 (k+1)=many40 k++[(ByteArray.mk #[110,UInt8.ofNat (97+k)],[],())]):=rfl
          have hcv:=cv40 wr k (by omega)
          have HZZ:Aside (ByteArray.mk #[110]++ByteArray.mk #[UInt8.ofNat (97+k)]=ByteArray.mk #[110,UInt8.ofNat (97+k)]):=rfl
          have hzs:(ByteArray.mk #[UInt8.ofNat (97+k)]).size=1:=rfl
          generalize many40 k=xs at *
          generalize ByteArray.mk #[UInt8.ofNat (97+k)]=z at *
          have HI:Aside (TIOk Try.prog 24 (tabGet tab 24)):=tabOk 24
          go_wp2_with (at_builtin;go_loud (refine app40 HI.out w.heap.size (World.ownsRow.alloc (World.ownsRow.alloc HR.out.own _) _) (wr.heap.size+1) 0 1 [.string (ByteArray.mk #[110]++z),.slice none 0 0] rfl (news240 wr _ _ _) (by simp [Value.oneCell']) (by omega) (by simp;omega) rfl rfl rfl rfl ?_);intro v' w2 hown hgrow)
          refine ⟨⟨k+1,us++[.slice none 0 0],by omega,by simp,?_,?_⟩,by simp [intOf];omega⟩
          ·rw [HN, ← HZZ.out]
           exact nw040 HR.out _ hown hgrow
          ·exact St40.grown (St40.grown (St40.grown HS.out lS HG1.out (gba40 _ _) (fun b hb=>by cases hb)) lS HG1.out (gba40 _ _) (fun b hb=>by cases hb)) lS HG1.out hgrow (fun b hb=>(HR.out.own.lt b hb).1)
         ·have HKM:Aside (k=M):=by show k=M;omega
          go_wp2
          go_ret
          refine HF.out _ us _ ?_ ?_
          ·rw [HFI.out, ← HKM.out]
           exact HR.out
          ·rw [HFI.out]
           exact HS.out
       ·have HFI:Aside (fi40 (s,xs)=(u41_0 s 24,xs)):=by
         show _=_
         unfold fi40
         rw [if_neg c0,if_neg c1,if_neg c2]
        generalize g41_0 s 24=q at *
        have hb0:(q==0)=false:=by simpa using c0
        have hb1:(q==1)=false:=by simpa using c1
        have hb2:(q==2)=false:=by simpa using c2
        go_wp2_with (go_at_call 41;refine (HC.out _ HS.out.low HS.out.src).mono ?_;rintro e w1 ⟨rfl,k1,s1⟩)
        go_ret
        refine HF.out _ us _ ?_ ?_
        ·rw [HFI.out]
         exact HR.out.keep (kg40 k1) (fun b hb=>by cases hb;exact lS)
        ·rw [HFI.out]
         exact ⟨s1,HS.out.low.trans k1⟩
def kds40:List RK:=[.frz]
def sig40:List AT:=[AT.pb (.cons (.sl (.int .u8)) (.cons (.int .i64) (.cons (.int .u64) .unit)))]
def S40:Am.Spec:={ sig:=sig40,pre:=fun ⟨x0,_⟩=>P40 x0,upd:=fun ⟨x0,_⟩=>[some ⟨(.cons (.sl (.int .u8)) (.cons (.int .i64) (.cons (.int .u64) .unit))),[u40_0 x0]⟩],res:=fun ⟨x0,_⟩=>[⟨.sl RY40,g40_0 x0⟩],kds:=kds40 }
theorem con40:Contract Try.prog 40 S40:=by
 rintro w G G0 ⟨x0,u⟩ vs bss hgo hG hG0 hp ⟨v,s,b,bs,rfl,rfl,h0,rfl,rfl⟩ hnd
 have h0:PbAt w G0 (.cons (.sl (.int .u8)) (.cons (.int .i64) (.cons (.int .u64) .unit))) x0 v b:=h0
 have hv:=h0
 obtain ⟨S,off,rfl,_⟩:=hv
 have hb:=pbS40 h0
 subst hb
 have hgo:GOk w [S]:=hgo
 have lS:S<w.heap.size:=by obtain ⟨_,_,_,h1⟩:=h0;exact h1.lt S (by simp)
 refine (walk40 w G0 S off x0 hgo (fun b hb=>hG b (hG0 b hb)) h0 hp).mono ?_
 rintro e w' ⟨v,us,rfl,hr,hst⟩
 obtain ⟨_,hq1,hq2⟩:=q40 x0 hp
 have hrep:=hr.rep (Q:=fun k=>G k∨(w.heap.size≤k∧k<w'.heap.size)) (fun b h1 h2 => .inr ⟨h1,h2⟩) (by unfold maxLen;omega) (fun r hr=>by
  obtain ⟨a1,a2,a3⟩:=hq2 r hr
  exact ⟨by unfold maxLen;omega,by unfold maxLen;omega,fun y hy=>by have:=a3 y hy;unfold maxLen;omega⟩)
 refine ⟨[v],[[S]],[[]],fun k=>w.heap.size≤k∧k<w'.heap.size,rfl,hst.low,⟨v,[],[],[],rfl,rfl,⟨rfl,[v],⟨v,rfl,hrep⟩,rfl⟩,rfl,rfl⟩,⟨_,_,_,_,rfl,rfl,⟨_,rfl,hst.src⟩,rfl,rfl⟩,by simp,fun b hb => ?_,fun b hb=>⟨hb.2,fun hg => ?_,fun hm => ?_⟩⟩
 ·simp at hb
  subst hb
  exact fun hg=>hg.2 (by simp)
 ·exact absurd hg.1 (Nat.not_lt.2 hb.1)
 ·simp at hm
  subst hm
  exact absurd hb.1 (Nat.not_le.2 lS)
end
noncomputable section
def ext44:Ext:=[(45,S45)]
theorem ext44Ok:ExtOk Try.prog ext44:=⟨⟨ca45,con45⟩,trivial⟩
noncomputable def b44:Code:=bodyOf Try.f44
theorem hb44:Try.f44.body=some b44:=by kernel_rfl
def sig44:List AT:=[AT.pb YA0]
def tys44:List Ty:=[.str]
def kds44:List RK:=[]
def oks44:List AT:=owns sig44
def P44 (x0:List Int×Int×Int×Unit):Prop:=((P45 x0 [ByteArray.mk #[98,114,97,107,101],ByteArray.mk #[114,111,112,101],ByteArray.mk #[115,116,111,99,107]])∧True)
def g44_0 (x0:List Int×Int×Int×Unit):ByteArray:=g45_0 x0 [ByteArray.mk #[98,114,97,107,101],ByteArray.mk #[114,111,112,101],ByteArray.mk #[115,116,111,99,107]]
def u44_0 (x0:List Int×Int×Int×Unit):List Int×Int×Int×Unit:=u45_0 x0 [ByteArray.mk #[98,114,97,107,101],ByteArray.mk #[114,111,112,101],ByteArray.mk #[115,116,111,99,107]]
theorem at44 (x0:List Int×Int×Int×Unit) (h:P44 x0) (K:Ctx) (q:Nat→Value):AtV Try.prog 44 (PostR kds44 oks44 [⟨.str,g44_0 x0⟩] [some ⟨.cons (.sl (.int .u8)) YA2,[u44_0 x0]⟩] [0] q K) 6 K q [0] [.code b44] (entE 0 0 sig44 (x0,())) (entL sig44 (x0,())):=by
 unfold P44 at h
 unfold g44_0 u44_0
 obtain ⟨s0,h⟩:=h
 exact AtV.weak (AtV.ret (us:=[Option.some (Lst.mk YA0 [u45_0 x0 [ByteArray.mk #[98,114,97,107,101],ByteArray.mk #[114,111,112,101],ByteArray.mk #[115,116,111,99,107]]])]) Try.func44 tabOk ext44Ok mixed false [] tys44 [] (a1 s0 trivial) (by kernel_rfl)) ⟨.inl rfl,trivial⟩
def S44:Am.Spec:={ sig:=sig44,pre:=fun ⟨x0,_⟩=>P44 x0,upd:=fun ⟨x0,_⟩=>[some ⟨.cons (.sl (.int .u8)) YA2,[u44_0 x0]⟩],res:=fun ⟨x0,_⟩=>[⟨.str,g44_0 x0⟩],kds:=kds44 }
theorem con44:Contract Try.prog 44 S44:=contract_of Try.func44 hb44 (bl_ (by kernel_rfl)) (fun ⟨x0,_⟩ h _ K q=>at44 x0 h K q)
end
noncomputable section
def ext19:Ext:=[(44,S44),(41,S41),(43,S43),(45,S45)]
theorem ext19Ok:ExtOk Try.prog ext19:=⟨⟨ca44,con44⟩,⟨ca41,con41⟩,⟨ca43,con43⟩,⟨ca45,con45⟩,trivial⟩
noncomputable def b19:Code:=bodyOf Try.f19
theorem hb19:Try.f19.body=some b19:=by kernel_rfl
def sig19:List AT:=[AT.pb YA0,AT.v (.sl YA3)]
def tys19:List Ty:=[.cons .str YA4]
def kds19:List RK:=[]
def oks19:List AT:=owns sig19
def P19 (x0:List Int×Int×Int×Unit) (x1:List (ByteArray×List ByteArray×Unit)):Prop:=((P44 x0)∧((P41 (u44_0 x0) 3)∧((InR .i64 (1+g41_0 (u44_0 x0) 3))∧(if (decide ((x1.length:Int)>0))=true then ((P41 (u41_0 (u44_0 x0) 3) (x1.length:Int))∧((0≤g41_0 (u41_0 (u44_0 x0) 3) (x1.length:Int))∧(g41_0 (u41_0 (u44_0 x0) 3) (x1.length:Int)<(x1.length:Int))∧((P41 (u41_0 (u41_0 (u44_0 x0) 3) (x1.length:Int)) 24)∧(if (g41_0 (u41_0 (u41_0 (u44_0 x0) 3) (x1.length:Int)) 24==0)=true then ((P43 (u41_0 (u41_0 (u41_0 (u44_0 x0) 3) (x1.length:Int)) 24) [0,4])∧True) else (if (g41_0 (u41_0 (u41_0 (u44_0 x0) 3) (x1.length:Int)) 24==1)=true then ((P45 (u41_0 (u41_0 (u41_0 (u44_0 x0) 3) (x1.length:Int)) 24) [ByteArray.mk #[122,122],ByteArray.mk #[]])∧True) else (if (g41_0 (u41_0 (u41_0 (u44_0 x0) 3) (x1.length:Int)) 24==2)=true then ((P45 (u41_0 (u41_0 (u41_0 (u44_0 x0) 3) (x1.length:Int)) 24) [ByteArray.mk #[],ByteArray.mk #[66]])∧True) else True)))))) else ((P41 (u41_0 (u44_0 x0) 3) 24)∧(if (g41_0 (u41_0 (u44_0 x0) 3) 24==0)=true then ((P43 (u41_0 (u41_0 (u44_0 x0) 3) 24) [0,4])∧True) else (if (g41_0 (u41_0 (u44_0 x0) 3) 24==1)=true then ((P45 (u41_0 (u41_0 (u44_0 x0) 3) 24) [ByteArray.mk #[122,122],ByteArray.mk #[]])∧True) else (if (g41_0 (u41_0 (u44_0 x0) 3) 24==2)=true then ((P45 (u41_0 (u41_0 (u44_0 x0) 3) 24) [ByteArray.mk #[],ByteArray.mk #[66]])∧True) else True))))))))
def g19_0 (x0:List Int×Int×Int×Unit) (x1:List (ByteArray×List ByteArray×Unit)):ByteArray×ByteArray×Int×Unit:=(if (decide ((x1.length:Int)>0))=true then (if (g41_0 (u41_0 (u41_0 (u44_0 x0) 3) (x1.length:Int)) 24==0)=true then ((List.getD x1 (Int.toNat (g41_0 (u41_0 (u44_0 x0) 3) (x1.length:Int))) (ByteArray.empty,[],())).1,g44_0 x0,g43_0 (u41_0 (u41_0 (u41_0 (u44_0 x0) 3) (x1.length:Int)) 24) [0,4],()) else (if (g41_0 (u41_0 (u41_0 (u44_0 x0) 3) (x1.length:Int)) 24==1)=true then (g45_0 (u41_0 (u41_0 (u41_0 (u44_0 x0) 3) (x1.length:Int)) 24) [ByteArray.mk #[122,122],ByteArray.mk #[]],g44_0 x0,1+g41_0 (u44_0 x0) 3,()) else (if (g41_0 (u41_0 (u41_0 (u44_0 x0) 3) (x1.length:Int)) 24==2)=true then ((List.getD x1 (Int.toNat (g41_0 (u41_0 (u44_0 x0) 3) (x1.length:Int))) (ByteArray.empty,[],())).1,g45_0 (u41_0 (u41_0 (u41_0 (u44_0 x0) 3) (x1.length:Int)) 24) [ByteArray.mk #[],ByteArray.mk #[66]],1+g41_0 (u44_0 x0) 3,()) else ((List.getD x1 (Int.toNat (g41_0 (u41_0 (u44_0 x0) 3) (x1.length:Int))) (ByteArray.empty,[],())).1,g44_0 x0,1+g41_0 (u44_0 x0) 3,())))) else (if (g41_0 (u41_0 (u44_0 x0) 3) 24==0)=true then (ByteArray.mk #[100,114,105,118,101,114],g44_0 x0,g43_0 (u41_0 (u41_0 (u44_0 x0) 3) 24) [0,4],()) else (if (g41_0 (u41_0 (u44_0 x0) 3) 24==1)=true then (g45_0 (u41_0 (u41_0 (u44_0 x0) 3) 24) [ByteArray.mk #[122,122],ByteArray.mk #[]],g44_0 x0,1+g41_0 (u44_0 x0) 3,()) else (if (g41_0 (u41_0 (u44_0 x0) 3) 24==2)=true then (ByteArray.mk #[100,114,105,118,101,114],g45_0 (u41_0 (u41_0 (u44_0 x0) 3) 24) [ByteArray.mk #[],ByteArray.mk #[66]],1+g41_0 (u44_0 x0) 3,()) else (ByteArray.mk #[100,114,105,118,101,114],g44_0 x0,1+g41_0 (u44_0 x0) 3,())))))
def u19_0 (x0:List Int×Int×Int×Unit) (x1:List (ByteArray×List ByteArray×Unit)):List Int×Int×Int×Unit:=(if (decide ((x1.length:Int)>0))=true then (if (g41_0 (u41_0 (u41_0 (u44_0 x0) 3) (x1.length:Int)) 24==0)=true then u43_0 (u41_0 (u41_0 (u41_0 (u44_0 x0) 3) (x1.length:Int)) 24) [0,4] else (if (g41_0 (u41_0 (u41_0 (u44_0 x0) 3) (x1.length:Int)) 24==1)=true then u45_0 (u41_0 (u41_0 (u41_0 (u44_0 x0) 3) (x1.length:Int)) 24) [ByteArray.mk #[122,122],ByteArray.mk #[]] else (if (g41_0 (u41_0 (u41_0 (u44_0 x0) 3) (x1.length:Int)) 24==2)=true then u45_0 (u41_0 (u41_0 (u41_0 (u44_0 x0) 3) (x1.length:Int)) 24) [ByteArray.mk #[],ByteArray.mk #[66]] else u41_0 (u41_0 (u41_0 (u44_0 x0) 3) (x1.length:Int)) 24))) else (if (g41_0 (u41_0 (u44_0 x0) 3) 24==0)=true then u43_0 (u41_0 (u41_0 (u44_0 x0) 3) 24) [0,4] else (if (g41_0 (u41_0 (u44_0 x0) 3) 24==1)=true then u45_0 (u41_0 (u41_0 (u44_0 x0) 3) 24) [ByteArray.mk #[122,122],ByteArray.mk #[]] else (if (g41_0 (u41_0 (u44_0 x0) 3) 24==2)=true then u45_0 (u41_0 (u41_0 (u44_0 x0) 3) 24) [ByteArray.mk #[],ByteArray.mk #[66]] else u41_0 (u41_0 (u44_0 x0) 3) 24))))
theorem at19 (x0:List Int×Int×Int×Unit) (x1:List (ByteArray×List ByteArray×Unit)) (h:P19 x0 x1) (K:Ctx) (q:Nat→Value):AtV Try.prog 19 (PostR kds19 oks19 [⟨.cons .str YA4,g19_0 x0 x1⟩] [some ⟨.cons (.sl (.int .u8)) YA2,[u19_0 x0 x1]⟩] [0] q K) 45 K q [0] [.code b19] (entE 0 0 sig19 (x0,x1,())) (entL sig19 (x0,x1,())):=by
 unfold P19 at h
 unfold g19_0 u19_0
 obtain ⟨s0,h⟩:=h
 obtain ⟨s1,h⟩:=h
 obtain ⟨s2,h⟩:=h
 by_cases b0:(decide ((x1.length:Int)>0))=true
 ·try simp only [if_pos b0] at h ⊢
  obtain ⟨s3,h⟩:=h
  obtain ⟨s4,s5,h⟩:=h
  obtain ⟨s6,h⟩:=h
  by_cases b1:(g41_0 (u41_0 (u41_0 (u44_0 x0) 3) (x1.length:Int)) 24==0)=true
  ·try simp only [if_pos b1] at h ⊢
   obtain ⟨s7,h⟩:=h
   exact AtV.weak (AtV.ret (us:=[Option.some (Lst.mk YA0 [u43_0 (u41_0 (u41_0 (u41_0 (u44_0 x0) 3) (x1.length:Int)) 24) [0,4]])]) Try.func19 tabOk ext19Ok mixed false [] tys19 [true,true] (a1 s0 (a1 s1 (a1 s2 (a1 b0 (a1 s3 (a1 s4 (a1 s5 (a1 s6 (a1 b1 (a1 s7 trivial)))))))))) (by kernel_rfl)) ⟨.inl rfl,trivial⟩
  ·try simp only [if_neg b1] at h ⊢
   replace b1:=bf_ b1
   by_cases b2:(g41_0 (u41_0 (u41_0 (u44_0 x0) 3) (x1.length:Int)) 24==1)=true
   ·try simp only [if_pos b2] at h ⊢
    obtain ⟨s7,h⟩:=h
    exact AtV.weak (AtV.ret (us:=[Option.some (Lst.mk YA0 [u45_0 (u41_0 (u41_0 (u41_0 (u44_0 x0) 3) (x1.length:Int)) 24) [ByteArray.mk #[122,122],ByteArray.mk #[]]])]) Try.func19 tabOk ext19Ok mixed false [] tys19 [true,false,true] (a1 s0 (a1 s1 (a1 s2 (a1 b0 (a1 s3 (a1 s4 (a1 s5 (a1 s6 (a1 b1 (a1 b2 (a1 s7 trivial))))))))))) (by kernel_rfl)) ⟨.inl rfl,trivial⟩
   ·try simp only [if_neg b2] at h ⊢
    replace b2:=bf_ b2
    by_cases b3:(g41_0 (u41_0 (u41_0 (u44_0 x0) 3) (x1.length:Int)) 24==2)=true
    ·try simp only [if_pos b3] at h ⊢
     obtain ⟨s7,h⟩:=h
     exact AtV.weak (AtV.ret (us:=[Option.some (Lst.mk YA0 [u45_0 (u41_0 (u41_0 (u41_0 (u44_0 x0) 3) (x1.length:Int)) 24) [ByteArray.mk #[],ByteArray.mk #[66]]])]) Try.func19 tabOk ext19Ok mixed false [] tys19 [true,false,false,true] (a1 s0 (a1 s1 (a1 s2 (a1 b0 (a1 s3 (a1 s4 (a1 s5 (a1 s6 (a1 b1 (a1 b2 (a1 b3 (a1 s7 trivial)))))))))))) (by kernel_rfl)) ⟨.inl rfl,trivial⟩
    ·try simp only [if_neg b3] at h ⊢
     replace b3:=bf_ b3
     exact AtV.weak (AtV.ret (us:=[Option.some (Lst.mk YA0 [u41_0 (u41_0 (u41_0 (u44_0 x0) 3) (x1.length:Int)) 24])]) Try.func19 tabOk ext19Ok mixed false [] tys19 [true,false,false,false] (a1 s0 (a1 s1 (a1 s2 (a1 b0 (a1 s3 (a1 s4 (a1 s5 (a1 s6 (a1 b1 (a1 b2 (a1 b3 trivial))))))))))) (by kernel_rfl)) ⟨.inl rfl,trivial⟩
 ·try simp only [if_neg b0] at h ⊢
  replace b0:=bf_ b0
  obtain ⟨s3,h⟩:=h
  by_cases b1:(g41_0 (u41_0 (u44_0 x0) 3) 24==0)=true
  ·try simp only [if_pos b1] at h ⊢
   obtain ⟨s4,h⟩:=h
   exact AtV.weak (AtV.ret (us:=[Option.some (Lst.mk YA0 [u43_0 (u41_0 (u41_0 (u44_0 x0) 3) 24) [0,4]])]) Try.func19 tabOk ext19Ok mixed false [] tys19 [false,true] (a1 s0 (a1 s1 (a1 s2 (a1 b0 (a1 s3 (a1 b1 (a1 s4 trivial))))))) (by kernel_rfl)) ⟨.inl rfl,trivial⟩
  ·try simp only [if_neg b1] at h ⊢
   replace b1:=bf_ b1
   by_cases b2:(g41_0 (u41_0 (u44_0 x0) 3) 24==1)=true
   ·try simp only [if_pos b2] at h ⊢
    obtain ⟨s4,h⟩:=h
    exact AtV.weak (AtV.ret (us:=[Option.some (Lst.mk YA0 [u45_0 (u41_0 (u41_0 (u44_0 x0) 3) 24) [ByteArray.mk #[122,122],ByteArray.mk #[]]])]) Try.func19 tabOk ext19Ok mixed false [] tys19 [false,false,true] (a1 s0 (a1 s1 (a1 s2 (a1 b0 (a1 s3 (a1 b1 (a1 b2 (a1 s4 trivial)))))))) (by kernel_rfl)) ⟨.inl rfl,trivial⟩
   ·try simp only [if_neg b2] at h ⊢
    replace b2:=bf_ b2
    by_cases b3:(g41_0 (u41_0 (u44_0 x0) 3) 24==2)=true
    ·try simp only [if_pos b3] at h ⊢
     obtain ⟨s4,h⟩:=h
     exact AtV.weak (AtV.ret (us:=[Option.some (Lst.mk YA0 [u45_0 (u41_0 (u41_0 (u44_0 x0) 3) 24) [ByteArray.mk #[],ByteArray.mk #[66]]])]) Try.func19 tabOk ext19Ok mixed false [] tys19 [false,false,false,true] (a1 s0 (a1 s1 (a1 s2 (a1 b0 (a1 s3 (a1 b1 (a1 b2 (a1 b3 (a1 s4 trivial))))))))) (by kernel_rfl)) ⟨.inl rfl,trivial⟩
    ·try simp only [if_neg b3] at h ⊢
     replace b3:=bf_ b3
     exact AtV.weak (AtV.ret (us:=[Option.some (Lst.mk YA0 [u41_0 (u41_0 (u44_0 x0) 3) 24])]) Try.func19 tabOk ext19Ok mixed false [] tys19 [false,false,false,false] (a1 s0 (a1 s1 (a1 s2 (a1 b0 (a1 s3 (a1 b1 (a1 b2 (a1 b3 trivial)))))))) (by kernel_rfl)) ⟨.inl rfl,trivial⟩
def S19:Am.Spec:={ sig:=sig19,pre:=fun ⟨x0,x1,_⟩=>P19 x0 x1,upd:=fun ⟨x0,x1,_⟩=>[some ⟨.cons (.sl (.int .u8)) YA2,[u19_0 x0 x1]⟩],res:=fun ⟨x0,x1,_⟩=>[⟨.cons .str YA4,g19_0 x0 x1⟩],kds:=kds19 }
theorem con19:Contract Try.prog 19 S19:=contract_of Try.func19 hb19 (bl_ (by kernel_rfl)) (fun ⟨x0,x1,_⟩ h _ K q=>at19 x0 x1 h K q)
end
noncomputable section
def ext85:Ext:=[]
theorem ext85Ok:ExtOk Try.prog ext85:=trivial
noncomputable def b85:Code:=bodyOf Try.f85
theorem hb85:Try.f85.body=some b85:=by kernel_rfl
def sig85:List AT:=[AT.v (.int .u8)]
def tys85:List Ty:=[.bool]
def kds85:List RK:=[]
def oks85:List AT:=owns sig85
def P85 (x0:Int):Prop:=True
def g85_0 (x0:Int):Bool:=(if (decide (x0≥97))=true then decide (x0≤122) else false)
theorem at85 (x0:Int) (h:P85 x0) (K:Ctx) (q:Nat→Value):AtV Try.prog 85 (PostR kds85 oks85 [⟨.bool,g85_0 x0⟩] [] [] q K) 9 K q [] [.code b85] (entE 0 0 sig85 (x0,())) (entL sig85 (x0,())):=by
 unfold P85 at h
 unfold g85_0
 by_cases b0:(decide (x0≥97))=true
 ·try simp only [if_pos b0] at h ⊢
  exact AtV.ret Try.func85 tabOk ext85Ok mixed false [] tys85 [true] (a1 b0 trivial) (by kernel_rfl)
 ·try simp only [if_neg b0] at h ⊢
  replace b0:=bf_ b0
  exact AtV.ret Try.func85 tabOk ext85Ok mixed false [] tys85 [false] (a1 b0 trivial) (by kernel_rfl)
def S85:Am.Spec:={ sig:=sig85,pre:=fun ⟨x0,_⟩=>P85 x0,res:=fun ⟨x0,_⟩=>[⟨.bool,g85_0 x0⟩],kds:=kds85 }
theorem con85:Contract Try.prog 85 S85:=contract_of Try.func85 hb85 (bl_ (by kernel_rfl)) (fun ⟨x0,_⟩ h _ K q=>at85 x0 h K q)
end
noncomputable section
def ext86:Ext:=[]
theorem ext86Ok:ExtOk Try.prog ext86:=trivial
noncomputable def b86:Code:=bodyOf Try.f86
theorem hb86:Try.f86.body=some b86:=by kernel_rfl
def sig86:List AT:=[AT.v (.int .u8)]
def tys86:List Ty:=[.bool]
def kds86:List RK:=[]
def oks86:List AT:=owns sig86
def P86 (x0:Int):Prop:=True
def g86_0 (x0:Int):Bool:=(if (decide (x0≥48))=true then decide (x0≤57) else false)
theorem at86 (x0:Int) (h:P86 x0) (K:Ctx) (q:Nat→Value):AtV Try.prog 86 (PostR kds86 oks86 [⟨.bool,g86_0 x0⟩] [] [] q K) 9 K q [] [.code b86] (entE 0 0 sig86 (x0,())) (entL sig86 (x0,())):=by
 unfold P86 at h
 unfold g86_0
 by_cases b0:(decide (x0≥48))=true
 ·try simp only [if_pos b0] at h ⊢
  exact AtV.ret Try.func86 tabOk ext86Ok mixed false [] tys86 [true] (a1 b0 trivial) (by kernel_rfl)
 ·try simp only [if_neg b0] at h ⊢
  replace b0:=bf_ b0
  exact AtV.ret Try.func86 tabOk ext86Ok mixed false [] tys86 [false] (a1 b0 trivial) (by kernel_rfl)
def S86:Am.Spec:={ sig:=sig86,pre:=fun ⟨x0,_⟩=>P86 x0,res:=fun ⟨x0,_⟩=>[⟨.bool,g86_0 x0⟩],kds:=kds86 }
theorem con86:Contract Try.prog 86 S86:=contract_of Try.func86 hb86 (bl_ (by kernel_rfl)) (fun ⟨x0,_⟩ h _ K q=>at86 x0 h K q)
end
noncomputable section
def ext78:Ext:=[(85,S85),(86,S86)]
theorem ext78Ok:ExtOk Try.prog ext78:=⟨⟨ca85,con85⟩,⟨ca86,con86⟩,trivial⟩
noncomputable def b78:Code:=bodyOf Try.f78
theorem hb78:Try.f78.body=some b78:=by kernel_rfl
def sig78:List AT:=[AT.v (.str)]
def tys78:List Ty:=[.bool]
def kds78:List RK:=[]
def oks78:List AT:=owns sig78
def E78_4 (v3:Int) (x0:ByteArray):Env:=[(0,.a (.val (.string x0))),(3,.a (.val (.int .i64 v3)))]
def L78_4 (v3:Int) (x0:ByteArray):Heap:=[]
mutual
def R78:Nat→ByteArray→List Dyn→Prop
 | 0,_,_=>False
 | n+1,x0,ds=>(if (ByteArray.toList x0==ByteArray.toList (ByteArray.mk #[]))=true then (ds=[Dyn.mk .bool false]) else (if (decide ((↑(ByteArray.size x0):Int)>10))=true then (ds=[Dyn.mk .bool false]) else ((0<(↑(ByteArray.size x0):Int))∧(if (!g85_0 (↑(UInt8.toNat (List.getD (Array.toList (ByteArray.data x0)) 0 0)):Int))=true then (ds=[Dyn.mk .bool false]) else (R78_4 n (0) (x0) ds)))))
def R78_4:Nat→Int→ByteArray→List Dyn→Prop
 | 0,_,_,_=>False
 | n+1,v3,x0,ds=>(if (decide (v3<(↑(ByteArray.size x0):Int)))=true then ((0≤v3)∧(v3<(↑(ByteArray.size x0):Int))∧(if (!g85_0 (↑(UInt8.toNat (List.getD (Array.toList (ByteArray.data x0)) (Int.toNat v3) 0)):Int))=true then ((0≤v3)∧(v3<(↑(ByteArray.size x0):Int))∧(if (!g86_0 (↑(UInt8.toNat (List.getD (Array.toList (ByteArray.data x0)) (Int.toNat v3) 0)):Int))=true then (ds=[Dyn.mk .bool false]) else ((InR .i64 (v3+1))∧(R78_4 n (v3+1) (x0) ds)))) else ((InR .i64 (v3+1))∧(R78_4 n (v3+1) (x0) ds)))) else (ds=[Dyn.mk .bool true]))
end
theorem snd78:∀ n,(∀ (x0:ByteArray) ds,R78 n x0 ds→∀ K q,AtV Try.prog 78 (PostR kds78 oks78 ds [] [] q K) 35 K q [] [.code b78] (entE 0 0 sig78 (x0,())) (entL sig78 (x0,())))∧(∀ (v3:Int) (x0:ByteArray) ds,R78_4 n v3 x0 ds→∀ K q,AtV Try.prog 78 (PostR kds78 oks78 ds [] [] q K) 35 K q [] (cutAt b78 4) (E78_4 v3 x0) (L78_4 v3 x0)):=by
 intro n
 induction n with
 | zero=>exact ⟨fun _ _ h=>by simp only [R78] at h,fun _ _ _ h=>by simp only [R78_4] at h⟩
 | succ n ih =>
 obtain ⟨ih,ih4⟩:=ih
 refine ⟨?_,?_⟩
 ·intro x0 ds h K q
  rw [R78] at h
  by_cases b0:(ByteArray.toList x0==ByteArray.toList (ByteArray.mk #[]))=true
  ·rw [if_pos b0] at h
   subst h
   exact AtV.ret Try.func78 tabOk ext78Ok mixed false [] tys78 [true,true,true] (a1 b0 (a1 (rfl:true=true) (a1 (rfl:true=true) trivial))) (by kernel_rfl)
  ·rw [if_neg b0] at h
   replace b0:=bf_ b0
   by_cases b1:(decide ((↑(ByteArray.size x0):Int)>10))=true
   ·rw [if_pos b1] at h
    subst h
    exact AtV.ret Try.func78 tabOk ext78Ok mixed false [] tys78 [false,true,true] (a1 b0 (a1 b1 (a1 (rfl:true=true) trivial))) (by kernel_rfl)
   ·rw [if_neg b1] at h
    replace b1:=bf_ b1
    obtain ⟨s0,h⟩:=h
    by_cases b2:(!g85_0 (↑(UInt8.toNat (List.getD (Array.toList (ByteArray.data x0)) 0 0)):Int))=true
    ·rw [if_pos b2] at h
     subst h
     exact AtV.ret Try.func78 tabOk ext78Ok mixed false [] tys78 [false,false,true] (a1 b0 (a1 b1 (a1 ((by decide):(0:Int)≤(0:Int)) (a1 s0 (a1 trivial (a1 b2 trivial)))))) (by kernel_rfl)
    ·rw [if_neg b2] at h
     replace b2:=bf_ b2
     exact AtV.go tabOk ext78Ok mixed false [] [] [0,3] [] [false,false,false] (a1 b0 (a1 b1 (a1 ((by decide):(0:Int)≤(0:Int)) (a1 s0 (a1 trivial (a1 b2 trivial)))))) (ih4 _ _ _ h K q) (by kernel_rfl)
 ·intro v3 x0 ds h K q
  rw [R78_4] at h
  by_cases b0:(decide (v3<(↑(ByteArray.size x0):Int)))=true
  ·rw [if_pos b0] at h
   obtain ⟨s0,s1,h⟩:=h
   by_cases b1:(!g85_0 (↑(UInt8.toNat (List.getD (Array.toList (ByteArray.data x0)) (Int.toNat v3) 0)):Int))=true
   ·rw [if_pos b1] at h
    obtain ⟨s2,s3,h⟩:=h
    by_cases b2:(!g86_0 (↑(UInt8.toNat (List.getD (Array.toList (ByteArray.data x0)) (Int.toNat v3) 0)):Int))=true
    ·rw [if_pos b2] at h
     subst h
     exact AtV.ret Try.func78 tabOk ext78Ok mixed false [] tys78 [true,true,true] (a1 b0 (a1 s0 (a1 s1 (a1 trivial (a1 b1 (a1 s2 (a1 s3 (a1 trivial (a1 b2 trivial))))))))) (by kernel_rfl)
    ·rw [if_neg b2] at h
     replace b2:=bf_ b2
     obtain ⟨s4,h⟩:=h
     exact AtV.go tabOk ext78Ok mixed false [] [] [0,3] [] [true,true,false] (a1 b0 (a1 s0 (a1 s1 (a1 trivial (a1 b1 (a1 s2 (a1 s3 (a1 trivial (a1 b2 (a1 s4 trivial)))))))))) (ih4 _ _ _ h K q) (by kernel_rfl)
   ·rw [if_neg b1] at h
    replace b1:=bf_ b1
    obtain ⟨s2,h⟩:=h
    exact AtV.go tabOk ext78Ok mixed false [] [] [0,3] [] [true,false,false] (a1 b0 (a1 s0 (a1 s1 (a1 trivial (a1 b1 (a1 (rfl:false=false) (a1 s2 trivial))))))) (ih4 _ _ _ h K q) (by kernel_rfl)
  ·rw [if_neg b0] at h
   replace b0:=bf_ b0
   subst h
   exact AtV.ret Try.func78 tabOk ext78Ok mixed false [] tys78 [false] (a1 b0 trivial) (by kernel_rfl)
def g78_0 (x0:ByteArray):Bool:=decide (1≤x0.size)&&decide (x0.size≤10)&&g85_0 ((bytesOf x0).getD 0 0)&&(bytesOf x0).all fun b=>g85_0 b||g86_0 b
def P78 (x0:ByteArray):Prop:=True
theorem top78 (x0:ByteArray) (hw:Wf .str x0):R78 (x0.size+1+1) x0 [⟨.bool,g78_0 x0⟩]:=by
 have hl:=bytesOf_length x0
 rw [R78]
 by_cases h0:x0=ByteArray.mk #[]
 ·rw [if_pos ((bytes_eq _ _).2 h0)]
  subst h0
  rfl
 ·rw [if_neg (fun h=>h0 ((bytes_eq _ _).1 h))]
  have hs:1≤x0.size:=by
   rcases Nat.lt_or_ge 0 x0.size with h | h
   ·exact h
   ·exact absurd (bytesOf_inj (s:=x0) (t:=ByteArray.mk #[]) (List.eq_nil_of_length_eq_zero (by rw [hl];omega))) h0
  by_cases h1:(x0.size:Int)>10
  ·rw [if_pos (by simpa using h1)]
   have:¬ x0.size≤10:=by omega
   simp [g78_0,this]
  ·rw [if_neg (by simpa using h1)]
   refine ⟨by omega,?_⟩
   rw [byte_get]
   cases h2:g85_0 ((bytesOf x0).getD 0 0) with
   | false =>
    rw [if_pos (by simp)]
    simp [g78_0,h2, -List.getD_eq_getElem?_getD]
   | true =>
    rw [if_neg (by simp)]
    have key:=loop_test (bytesOf x0) 0 (fun b=>g85_0 b||g86_0 b) [(⟨.bool,false⟩:Dyn)] [⟨.bool,true⟩] (fun n i ds=>R78_4 n i x0 ds) (fun n => ?_) (fun n i hi hok ds hr => ?_) (fun n i hi hok => ?_)
    ·rw [hl] at key
     have e:g78_0 x0=(bytesOf x0).all fun b=>g85_0 b||g86_0 b:=by
      have:x0.size≤10:=by omega
      unfold g78_0
      simp only [hs,this,decide_true,Bool.true_and,h2]
     rw [e]
     cases h:(bytesOf x0).all fun b=>g85_0 b||g86_0 b with
     | true=>rw [if_pos h] at key;exact key
     | false=>rw [if_neg (by rw [h];simp)] at key;exact key
    ·show R78_4 (n+1) ((bytesOf x0).length:Int) x0 _
     rw [R78_4,hl,if_neg (by simp)]
    ·rw [R78_4,if_pos (by simp;omega)]
     simp only [Int.toNat_natCast,byte_get]
     generalize (bytesOf x0).getD i 0=c at *
     refine ⟨by omega,by omega,?_⟩
     have hu:=inR_up (xs:=bytesOf x0) (by rw [hl];exact hw) hi
     cases h3:g85_0 c with
     | true=>rw [if_neg (by simp)];exact ⟨hu,hr⟩
     | false =>
      rw [if_pos (by simp)]
      rw [h3,Bool.false_or] at hok
      refine ⟨by omega,by omega,?_⟩
      rw [if_neg (by rw [hok];simp)]
      exact ⟨hu,hr⟩
    ·simp only [Bool.or_eq_false_iff] at hok
     rw [R78_4,if_pos (by simp;omega)]
     simp only [Int.toNat_natCast,byte_get]
     refine ⟨by omega,by omega,?_⟩
     rw [if_pos (by rw [hok.1];rfl)]
     refine ⟨by omega,by omega,?_⟩
     rw [if_pos (by rw [hok.2];rfl)] <;> trivial
def S78:Am.Spec:={ sig:=sig78,pre:=fun ⟨x0,_⟩=>P78 x0,res:=fun ⟨x0,_⟩=>[⟨.bool,g78_0 x0⟩] }
theorem con78:Contract Try.prog 78 S78:=contract_of Try.func78 hb78 (bl_ (by kernel_rfl)) (fun ⟨x0,_⟩ h hwf K q =>
 (snd78 _).1 x0 _ (top78 x0 hwf.1) K q)
end
noncomputable section
def ext28:Ext:=[]
theorem ext28Ok:ExtOk Try.prog ext28:=trivial
noncomputable def b28:Code:=bodyOf Try.f28
theorem hb28:Try.f28.body=some b28:=by kernel_rfl
def sig28:List AT:=[AT.v (.sl YA3),AT.v (.str)]
def tys28:List Ty:=[.int .i64]
def kds28:List RK:=[]
def oks28:List AT:=owns sig28
def E28_2 (v5:Int) (x0:List (ByteArray×List ByteArray×Unit)) (x1:ByteArray):Env:=[(0,.a (.sl YA3 x0)),(1,.a (.val (.string x1))),(5,.a (.val (.int .i64 v5)))]
def L28_2 (v5:Int) (x0:List (ByteArray×List ByteArray×Unit)) (x1:ByteArray):Heap:=[]
mutual
def R28:Nat→List (ByteArray×List ByteArray×Unit)→ByteArray→List Dyn→Prop
 | 0,_,_,_=>False
 | n+1,x0,x1,ds=>(R28_2 n (0) (x0) (x1) ds)
def R28_2:Nat→Int→List (ByteArray×List ByteArray×Unit)→ByteArray→List Dyn→Prop
 | 0,_,_,_,_=>False
 | n+1,v5,x0,x1,ds=>(if (decide (v5<(x0.length:Int)))=true then ((0≤v5)∧(v5<(x0.length:Int))∧(if (ByteArray.toList (List.getD x0 (Int.toNat v5) (ByteArray.empty,[],())).1==ByteArray.toList x1)=true then (ds=[Dyn.mk (.int .i64) v5]) else ((InR .i64 (v5+1))∧(R28_2 n (v5+1) (x0) (x1) ds)))) else (ds=[Dyn.mk (.int .i64) (-1)]))
end
theorem snd28:∀ n,(∀ (x0:List (ByteArray×List ByteArray×Unit)) (x1:ByteArray) ds,R28 n x0 x1 ds→∀ K q,AtV Try.prog 28 (PostR kds28 oks28 ds [] [] q K) 20 K q [] [.code b28] (entE 0 0 sig28 (x0,x1,())) (entL sig28 (x0,x1,())))∧(∀ (v5:Int) (x0:List (ByteArray×List ByteArray×Unit)) (x1:ByteArray) ds,R28_2 n v5 x0 x1 ds→∀ K q,AtV Try.prog 28 (PostR kds28 oks28 ds [] [] q K) 20 K q [] (cutAt b28 2) (E28_2 v5 x0 x1) (L28_2 v5 x0 x1)):=by
 intro n
 induction n with
 | zero=>exact ⟨fun _ _ _ h=>by simp only [R28] at h,fun _ _ _ _ h=>by simp only [R28_2] at h⟩
 | succ n ih =>
 obtain ⟨ih,ih2⟩:=ih
 refine ⟨?_,?_⟩
 ·intro x0 x1 ds h K q
  rw [R28] at h
  exact AtV.go tabOk ext28Ok mixed false [] [] [0,1,5] [] [] trivial (ih2 _ _ _ _ h K q) (by kernel_rfl)
 ·intro v5 x0 x1 ds h K q
  rw [R28_2] at h
  by_cases b0:(decide (v5<(x0.length:Int)))=true
  ·rw [if_pos b0] at h
   obtain ⟨s0,s1,h⟩:=h
   by_cases b1:(ByteArray.toList (List.getD x0 (Int.toNat v5) (ByteArray.empty,[],())).1==ByteArray.toList x1)=true
   ·rw [if_pos b1] at h
    subst h
    exact AtV.ret Try.func28 tabOk ext28Ok mixed false [] tys28 [true,true] (a1 b0 (a1 s0 (a1 s1 (a1 b1 trivial)))) (by kernel_rfl)
   ·rw [if_neg b1] at h
    replace b1:=bf_ b1
    obtain ⟨s2,h⟩:=h
    exact AtV.go tabOk ext28Ok mixed false [] [] [0,1,5] [] [true,false] (a1 b0 (a1 s0 (a1 s1 (a1 b1 (a1 s2 trivial))))) (ih2 _ _ _ _ h K q) (by kernel_rfl)
  ·rw [if_neg b0] at h
   replace b0:=bf_ b0
   subst h
   exact AtV.ret Try.func28 tabOk ext28Ok mixed false [] tys28 [false] (a1 b0 trivial) (by kernel_rfl)
def is28 (x1:ByteArray) (r:ByteArray×List ByteArray×Unit):Bool:=ByteArray.toList r.1==ByteArray.toList x1
def g28_0 (x0:List (ByteArray×List ByteArray×Unit)) (x1:ByteArray):Int:=idx (x0.findIdx? (is28 x1))
def P28 (x0:List (ByteArray×List ByteArray×Unit)) (x1:ByteArray):Prop:=True
theorem top28 (x0:List (ByteArray×List ByteArray×Unit)) (x1:ByteArray) (hm:x0.length≤maxLen):R28 (x0.length+1+1) x0 x1 [⟨.int .i64,g28_0 x0 x1⟩]:=by
 rw [R28]
 have key:=loop_find x0 (ByteArray.empty,[],()) (is28 x1) [(⟨.int .i64, -1⟩:Dyn)] (fun k=>[⟨.int .i64,k⟩]) (fun n i ds=>R28_2 n i x0 x1 ds) (fun n => ?_) (fun n i hi hok ds hr => ?_) (fun n i hi hok => ?_)
 ·unfold g28_0
  cases h:x0.findIdx? (is28 x1) <;> rw [h] at key <;> exact key
 ·rw [R28_2,if_neg (by simp)]
 ·rw [R28_2,if_pos (by simp;omega)]
  simp only [Int.toNat_natCast]
  refine ⟨by omega,by omega,?_⟩
  unfold is28 at hok
  rw [if_neg (by rw [hok];simp)]
  exact ⟨inR_up hm hi,hr⟩
 ·rw [R28_2,if_pos (by simp;omega)]
  simp only [Int.toNat_natCast]
  refine ⟨by omega,by omega,?_⟩
  unfold is28 at hok
  rw [if_pos hok] <;> trivial
def S28:Am.Spec:={ sig:=sig28,pre:=fun ⟨x0,x1,_⟩=>P28 x0 x1,res:=fun ⟨x0,x1,_⟩=>[⟨.int .i64,g28_0 x0 x1⟩] }
theorem con28:Contract Try.prog 28 S28:=contract_of Try.func28 hb28 (bl_ (by kernel_rfl)) (fun ⟨x0,x1,_⟩ h hwf K q =>
 (snd28 _).1 x0 x1 _ (top28 x0 x1 hwf.1.1) K q)
end
end Go.Proofs.Ythmimdpgkcadnaa
