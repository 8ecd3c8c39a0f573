/- Several texts in one: the functions that this law reaches, and their laws. -/
import Derived.Test.YtmfkgabclbbdhaaGreatDoorZ3A
import Derived.Test.YtmfkgabclbbdhaaGreatDoorZ3B
import Derived.ProofKit
import Derived.Carry
import Derived.HandedShaped
import Derived.Stop.Joined
import Derived.Lib.Repeat
import Derived.Laws.AppendOwn
import Derived.Sort.Row
import Derived.Sort.Grow
import Derived.Lib.Strings
import Derived.Lib.ItoaLen
import Derived.Lib.SplitLaws
import Derived.Lib.Join
import Derived.Lib.LaidTab
import Derived.Stop.LaidErr
import Derived.Laws.IdiomCopy
import Derived.Test.YtmfkgabclbbdhaaGreatDoorRows
import Derived.KernelRfl
import Derived.Shelf.Vars
namespace Go.Am
set_option linter.unusedVariables false
set_option linter.unusedSimpArgs false
def capsA:(caps:List (Bool×Ty))→capsDen caps→List Atom
 | [],_=>[]
 | (true,t) :: r,x => .ptr t x.1 :: capsA r x.2
 | (false,t) :: r,x=>toAtom t x.1 :: capsA r x.2
def argA (k:Nat):(a:AT)→a.den→PV×Heap
 | .v t,x=>(.a (toAtom t x),[])
 | .p t,x=>(.a (.ptr t x),[])
 | .own t,xs=>(.a (.osl k none),[some ⟨t,xs,false,none,none⟩])
 | .pb t,x=>(.a (.optr k 0 []),[some ⟨t,[x],true,none,some true⟩])
 | .po t,x=>match expl k t x with
  | (ls,es)=>(.a (.bptr (k+es.length) 0 t),es++[some ⟨t,[],false,some ls,none⟩])
 | .sv t,x=>match expl k t x with
  | (ls,es)=>(.a (.rcd t ls),es)
 | .fn f caps,x=>(.fn f (capsA caps x),[])
 | .fns fs,_=>(.a (.sl .fn (fs.map some)),[])
def entE:Nat→Nat→(sig:List AT)→sigDen sig→Env
 | _,_,[],_=>[]
 | i,k,a :: r,x=>match argA k a x.1 with
  | (p,es)=>(i,p) :: entE (i+1) (k+es.length) r x.2
def entH:Nat→(sig:List AT)→sigDen sig→Heap
 | _,[],_=>[]
 | k,a :: r,x=>match argA k a x.1 with
  | (_,es)=>es++entH (k+es.length) r x.2
def entL (sig:List AT) (x:sigDen sig):Heap:=entH 0 sig x
def pinsOf:Nat→List AT→List Nat
 | _,[]=>[]
 | i,a :: r=>match isOwn a with
  | true=>i :: pinsOf (i+1) r
  | false=>pinsOf (i+1) r
def wfCaps:(caps:List (Bool×Ty))→capsDen caps→Prop
 | [],_=>True
 | (_,t) :: r,x=>Wf t x.1∧wfCaps r x.2
def wfA:(a:AT)→a.den→Prop
 | .v t,x=>Wf t x
 | .p t,x=>Wf t x
 | .own t,xs=>Wf (.sl t) xs
 | .pb t,x=>Wf t x
 | .po t,x=>Wf t x
 | .sv t,x=>Wf t x
 | .fn _ caps,x=>wfCaps caps x
 | .fns _,_=>True
def wfSig:(sig:List AT)→sigDen sig→Prop
 | [],_=>True
 | a :: r,x=>wfA a x.1∧wfSig r x.2
def noOwn:List AT→Bool
 | []=>true
 | a :: r => !isOwn a&&noOwn r
section
variable {P:Program} {n:Nat} {K:Ctx} {G:Nat→Prop} {w0 w:World} {a:Act} {V:Nat→Value} {own:Nat→List Nat} {f:FuncId} {R:Ending→World→Prop} {E:Env} {L:Heap}
theorem repB_wf {G:Nat→Prop} {t:Ty} {x:t.den} {v:Value} (h:RepB w G (toAtom t x) v):Wf t x:=by
 cases t with
 | int k=>exact h.2
 | bool=>trivial
 | fn=>trivial
 | str=>exact h.2
 | sl e=>exact wf_slAt (fun _ _=>RepC.wf) h
 | unit=>trivial
 | cons a b=>obtain ⟨cs,_,h⟩:=h;exact h.wf
theorem ptr_wf {G:Nat→Prop} {t:Ty} {x:t.den} {v:Value} (h:PtrAt w G t x v):Wf t x:=by
 obtain ⟨_,_,_,_,_,_,h⟩:=h
 exact h.wf
theorem caps_wf {G:Nat→Prop}:∀ {caps:List (Bool×Ty)} {x:capsDen caps} {vs:List Value},CapsRep w G caps x vs→wfCaps caps x
 | [],_,_,_=>trivial
 | (true,t) :: r,x,vs,⟨_,_,_,h,h2⟩=>⟨ptr_wf h,caps_wf h2⟩
 | (false,t) :: r,x,vs,⟨_,_,_,h,h2⟩=>⟨repB_wf h,caps_wf h2⟩
theorem argsK_wf {G G0:Nat→Prop}:∀ {sig:List AT} {x:sigDen sig} {vs:List Value} {bss:List (List Nat)},ArgsK w G G0 sig x vs bss→wfSig sig x
 | [],_,_,_,_=>trivial
 | a :: r,x,vs,bss,⟨_,_,_,_,_,_,h,h2⟩=>by
  refine ⟨?_,argsK_wf h2⟩
  cases a with
  | v t=>exact repB_wf h.2
  | p t=>exact ptr_wf h.2
  | own t=>exact OwnC.wf h
  | pb t=>obtain ⟨b,off,_,h⟩:=h;exact (EntC.wf h).2 _ (List.mem_singleton.2 rfl)
  | po t=>obtain ⟨b,off,_,h⟩:=h;exact (wf_ownSl (fun _ _ _=>OwnC.wf) h).2 _ (List.mem_singleton.2 rfl)
  | sv t=>obtain ⟨cs,_,h⟩:=h;exact h.wf
  | fn g caps=>obtain ⟨_,_,_,h⟩:=h;exact caps_wf h
  | fns _=>trivial
theorem args_wf {G:Nat→Prop} {sig:List AT} {x:sigDen sig} {vs:List Value} {bss:List (List Nat)} (h:ArgsRep w G sig x vs bss):wfSig sig x:=argsK_wf h
theorem repA_ofB {t:Ty} {x:t.den} {v:Value} (h:RepB w0 G (toAtom t x) v):RepA w0 G L V (toAtom t x) v:=by
 cases t <;> exact h
theorem caps_rep:∀ {caps:List (Bool×Ty)} {x:capsDen caps} {vs:List Value},CapsRep w0 G caps x vs→RepAs w0 G L V (capsA caps x) vs
 | [],_,_,h=>h
 | (true,t) :: r,x,vs,⟨v,s,h1,h,h2⟩=>⟨v,s,h1,h,caps_rep h2⟩
 | (false,t) :: r,x,vs,⟨v,s,h1,h,h2⟩=>⟨v,s,h1,repA_ofB h,caps_rep h2⟩
theorem arg_spec (hR:RelV n K w G w a E L V own) {o:AT} {x:o.den} {v:Value} {bs:List Nat} (h:ArgRep w G K.G0 o x v bs) (hn:bs.Nodup) (hg:∀ b∈bs,Out K G b) (hd:∀ r A,hget L r=some A→∀ b∈own r,b ∉ bs) :
  ∃ V' own',RelV n K w G w a E (L++(argA L.length o x).2) V' own'∧Grown L (argA L.length o x).2 V V' own own' bs∧RepP w G (L++(argA L.length o x).2) V' (argA L.length o x).1 v:=by
 cases o with
 | v t =>
  exact ⟨V,own,by simpa [argA] using hR,Grown.refl _ _ _,repA_ofB h.2⟩
 | p t =>
  exact ⟨V,own,by simpa [argA] using hR,Grown.refl _ _ _,h.2⟩
 | fns fs =>
  exact ⟨V,own,by simpa [argA] using hR,Grown.refl _ _ _,repA_ofB (L:=L++[]) (V:=V) (t := .sl .fn) (x:=fs.map some) h.2⟩
 | fn f caps =>
  obtain ⟨_,vs,hv,hh⟩:=h
  exact ⟨V,own,by simpa [argA] using hR,Grown.refl _ _ _,vs,hv,caps_rep hh⟩
 | own t =>
  have hE:EntC w G w ⟨t,x,false,none,none⟩ v bs:=EntC.own.2 h
  obtain ⟨h1,h2⟩:=grow_one hR hE hn hg hd
  exact ⟨_,_,h1,h2,repA_new (w0:=w) (G:=G) (u:=w) (G':=G) hE⟩
 | pb t =>
  obtain ⟨b,off,rfl,hE0⟩:=h
  have hE:EntC w G w ⟨t,[x],true,none,some true⟩ (.slice (some ⟨b,off,none⟩) 1 1) bs:=EntC.keepG (A:=⟨t,[x],true,none,none⟩) hR.gsub (fun _ _=>rfl) (fun _ _=>rfl) hE0
  obtain ⟨h1,h2⟩:=grow_one hR hE hn hg hd (hsm:=fun q hq=>⟨⟨b,off,rfl⟩,fun _=>⟨rfl,hE0⟩⟩)
  refine ⟨_,_,h1,h2,⟨t,[x],true,none,some true⟩,hget_new _ _,by simp,b,off,1,1,0,t,upd1_same _ _ _,rfl,by simp⟩
 | po t =>
  obtain ⟨b,off,rfl,hO⟩:=h
  rcases hO.2 with ⟨_,h1,_,_⟩ | ⟨b2,off2,cap,cur,ty,fz,bss,h1,h2,h3,h4,h5,h6,h7,h8,h9⟩
  ·cases h1
  ·simp only [Value.slice.injEq,Option.some.injEq,Addr.mk.injEq] at h1
   obtain ⟨⟨q1,q2,_⟩,_,q3⟩:=h1
   subst q1 q2 q3
   obtain ⟨bi,rfl⟩:∃ bi,bss=[bi]:=by
    match bss,h7 with
    | [bi],_=>exact ⟨bi,rfl⟩
   obtain ⟨cs,g1,g2,g3⟩:=h9 0 x bi rfl rfl
   have hcells:CellsAt w b off cs:=fun j c hj=>by
    simp only [World.cell?, h5]
    have:=g2 j c hj
    simpa using this
   have h8:bs=b :: bi:=by rw [h8];simp
   subst h8
   obtain ⟨hb,hni⟩:=List.nodup_cons.1 hn
   obtain ⟨V1,own1,r1,k1,l1,n1⟩:=expl_spec hR g3 hni (fun c hc=>hg c (List.mem_cons_of_mem _ hc)) (fun r A hA c hc hm=>hd r A hA c hc (List.mem_cons_of_mem _ hm))
   have hE:EntC w G w ⟨t,[],false,some (expl L.length t x).1,none⟩ (.slice (some ⟨b,off,none⟩) 0 1) [b] :=
    ⟨by simp [maxLen],.inr ⟨b,off,1,cur,ty,fz,[],rfl,Nat.zero_le _,h3,h4,h5,h6,rfl,rfl,fun i y bi hy=>by simp at hy⟩⟩
   have hap:=k1.apart (rest:=[b]) (fun r A hA c hc hm=>hd r A hA c hc (by rw [List.mem_singleton.1 hm];exact List.mem_cons_self ..)) (fun c hc hm=>hb (by rw [← List.mem_singleton.1 hm];exact hc))
   obtain ⟨h10,h11⟩:=grow_one r1 hE (by simp) (fun c hc=>by rw [List.mem_singleton.1 hc];exact hg b (List.mem_cons_self ..)) hap (hbox:=fun l hl=>by cases hl;exact ⟨b,off,cs,rfl,g1,n1,hcells,l1⟩)
   have e2:(argA L.length (.po t) x).2=(expl L.length t x).2++[some ⟨t,[],false,some (expl L.length t x).1,none⟩]:=rfl
   have e1:(argA L.length (.po t) x).1 = .a (.bptr (L.length+(expl L.length t x).2.length) 0 t):=rfl
   rw [e1,e2, ← List.append_assoc]
   have hlen:(L++(expl L.length t x).2).length=L.length+(expl L.length t x).2.length:=by simp
   refine ⟨_,_,h10,k1.trans h11 (fun c hc=>List.mem_cons_of_mem _ hc) (fun c hc=>by rw [List.mem_singleton.1 hc];exact List.mem_cons_self ..),?_⟩
   rw [← hlen]
   exact ⟨_,_,b,off,hget_new _ _,rfl,upd1_same _ _ _,rfl,by simp⟩
 | sv t =>
  obtain ⟨cs,rfl,ho⟩:=h
  obtain ⟨V1,own1,r1,k1,l1,n1⟩:=expl_spec hR ho hn hg hd
  exact ⟨V1,own1,r1,k1,cs,rfl,n1,l1⟩
theorem ent_spec:∀ {sig:List AT} {x:sigDen sig} {vs:List Value} {bss:List (List Nat)} {L:Heap} {V:Nat→Value} {own:Nat→List Nat} {i:Nat},RelV n K w G w a E L V own→ArgsK w G K.G0 sig x vs bss→bss.flatten.Nodup→(∀ b∈bss.flatten,Out K G b)→(∀ r A,hget L r=some A→∀ b∈own r,b ∉ bss.flatten) →
  (∀ j v,vs[j]? = some v→a.tmps.getD (i+j) undef=v) →
  ∃ V' own',RelV n K w G w a E (L++entH L.length sig x) V' own'∧(∀ r,(∃ B,hget L r=some B)→Agree L V (L++entH L.length sig x) V' r)∧∀ j,RepP w G (L++entH L.length sig x) V' ((entE i L.length sig x).get j) (a.tmps.getD j undef)
 | [],x,vs,bss,L,V,own,i,hR,_,_,_,_,_=>⟨V,own,by simpa [entH] using hR,fun r _=>Agree.of_same rfl (by simp [entH]),fun j=>trivial⟩
 | o :: sig,x,vs,bss,L,V,own,i,hR,⟨v,s,b,bs,h1,h2,h,h3⟩,hn,hg,hd,ht=>by
  subst h1 h2
  obtain ⟨hn1,hn2,hn3⟩:=nodup_flatten_cons hn
  obtain ⟨V1,own1,r1,g1,p1⟩:=arg_spec hR h hn1 (fun c hc=>hg c (by simp [hc])) (fun r A hA c hc hm=>hd r A hA c hc (by simp [hm]))
  have hlen:(L++(argA L.length o x.1).2).length=L.length+(argA L.length o x.1).2.length:=by simp
  obtain ⟨V2,own2,r2,a2,p2⟩:=ent_spec (i:=i+1) r1 h3 hn2 (fun c hc=>hg c (by rw [List.flatten_cons];exact List.mem_append_right _ hc)) (g1.apart (fun r A hA c hc hm=>hd r A hA c hc (by rw [List.flatten_cons];exact List.mem_append_right _ hm)) hn3) (fun j u hj=>by
   have:=ht (j+1) u (by simpa using hj)
   rwa [show i+(j+1)=i+1+j from by omega] at this)
  rw [hlen] at r2 a2 p2
  have e1:entH L.length (o :: sig) x=(argA L.length o x.1).2++entH (L.length+(argA L.length o x.1).2.length) sig x.2:=rfl
  have e2:entE i L.length (o :: sig) x=(i,(argA L.length o x.1).1) :: entE (i+1) (L.length+(argA L.length o x.1).2.length) sig x.2:=rfl
  rw [e1,e2, ← List.append_assoc]
  refine ⟨V2,own2,r2,fun r hr => ?_,fun j => ?_⟩
  ·have a1:=g1.agree r hr
   obtain ⟨B,hB⟩:=hr
   obtain ⟨B',hB',_⟩:=a1.2 B hB
   exact a1.trans (a2 r ⟨B',hB'⟩)
  ·simp only [Env.get]
   cases hij:Nat.beq i j with
   | true =>
    obtain rfl:=Nat.eq_of_beq_eq_true hij
    simp only [cond_true]
    have:=ht 0 v rfl
    rw [Nat.add_zero] at this
    rw [this]
    exact repP_agree p1 fun r hr=>a2 r (repP_live p1 r hr)
   | false =>
    simp only [cond_false]
    exact p2 j
theorem own_vals {G G0:Nat→Prop}:∀ {sig:List AT} {x:sigDen sig} {vs:List Value} {bss:List (List Nat)} {i:Nat} {q:Nat→Value},ArgsK w G G0 sig x vs bss→(∀ j v,vs[j]? = some v→q (i+j)=v)→ownVals sig vs=(pinsOf i sig).map q
 | [],x,vs,bss,i,q,h,_=>by obtain ⟨rfl,rfl⟩:=h;rfl
 | a :: r,x,vs,bss,i,q,⟨v,s,b,bs,h1,h2,h,h3⟩,hq=>by
  subst h1 h2
  have h0:q i=v:=by have:=hq 0 v rfl;simpa using this
  have ih:=own_vals (i:=i+1) (q:=q) h3 (fun j u hj=>by have:=hq (j+1) u (by simpa using hj);rw [show i+1+j=i+(j+1) by omega];exact this)
  cases a with
  | v t=>exact ih
  | p t=>exact ih
  | fn g caps=>exact ih
  | fns _=>exact ih
  | own t=>simp only [ownVals,pinsOf,isOwn,List.map_cons,h0,ih]
  | pb t=>simp only [ownVals,pinsOf,isOwn,List.map_cons,h0,ih]
  | po t=>simp only [ownVals,pinsOf,isOwn,List.map_cons,h0,ih]
  | sv t=>simp only [ownVals,pinsOf,isOwn,List.map_cons,h0,ih]
def PostR (kds:List RK) (oks:List AT) (ds:List Dyn) (us:List (Option Lst)) (pins:List Nat) (q:Nat→Value) (K:Ctx) (e:Ending) (w':World):Prop :=
 PostC K.w0 K.O K.Ga K.G0 kds ds oks us (pins.map q) e w'
theorem contract_of {fn:Func} {c:Code} {S:Spec} (hf:P.funcs[f]? = some fn) (hb:fn.body=some c) (hl:S.sig.length≤fn.ntmps)
  (h:∀ x,S.pre x→wfSig S.sig x→∀ K q,AtV P f (PostR S.kds (owns S.sig) (S.res x) (S.upd x) (pinsOf 0 S.sig) q K) fn.ntmps K q (pinsOf 0 S.sig) [.code c] (entE 0 0 S.sig x) (entL S.sig x)):Contract P f S:=by
 intro w G G0 x vs bss hgo hG hG0 hpre hargs hnd
 have hlen:=args_len hargs
 have hget0:∀ j v,vs[j]? = some v→(vs.toArray++Array.replicate (fn.ntmps - vs.toArray.size) undef).getD j undef=v:=fun j v hj=>by
  have hlt:=(List.getElem?_eq_some_iff.1 hj).1
  rw [Array.getD_eq_getD_getElem?, Array.getElem?_append_left (by simpa using hlt)]
  simp [hj]
 let q:Nat→Value:=fun i=>(vs.toArray++Array.replicate (fn.ntmps - vs.toArray.size) undef).getD i undef
 let K:Ctx:=⟨w,bss.flatten,G0,G⟩
 let a0:Act:={ tmps:=vs.toArray++Array.replicate (fn.ntmps - vs.toArray.size) undef,defers:=[] }
 have hov:ownVals S.sig vs=(pinsOf 0 S.sig).map q:=own_vals hargs (fun j v hj=>by rw [Nat.zero_add];exact hget0 j v hj)
 have h0:RelV fn.ntmps K w G w a0 [] [] (fun _=>undef) (fun _=>[]):=by
  refine ⟨hgo,Kept.refl _ _,?_,rfl,fun b hb=>(hG b hb).1,fun _ _=>rfl,hG0,fun b hb=>hG b (hG0 b hb),fun b hb => .inl hb,(fun r A hr=>by cases hr),(fun r A hr=>by cases hr),(fun r A hr=>by cases hr),(fun r s A B hr=>by cases hr),(fun r A ls hr=>by cases hr),(fun r A q hr=>by cases hr),fun i=>trivial⟩
  show (vs.toArray++Array.replicate (fn.ntmps - vs.toArray.size) undef).size=fn.ntmps
  simp [hlen];omega
 obtain ⟨V,own,h1,_,h2⟩:=ent_spec (i:=0) h0 hargs hnd (fun b hb=>⟨fun h=>h.2 hb,fun h=>(hG b h).2 hb⟩) (fun r A hr=>by cases hr) (fun j v hj=>by rw [Nat.zero_add];exact hget0 j v hj)
 have h3:RelV fn.ntmps K w G w a0 (entE 0 0 S.sig x) (entL S.sig x) V own:={ h1 with env:=fun i=>h2 i }
 refine (calls_of_run hf hb (h x hpre (argsK_wf hargs) K q a0 w w G V own h3 (fun t ht=>rfl))).mono ?_
 intro e w' hp
 rw [hov]
 exact hp
def updOne (L:Heap):AT→PV→Option (Lst×List Nat)
 | .own t,.a (.osl k none)=>match hget L k with
  | some A=>match A.bor with
   | false=>some (⟨A.t,A.xs⟩,[k])
   | true=>none
  | none=>none
 | .pb t,.a (.optr k 0 [])=>match hget L k with
  | some A=>match A.sm with
   | some true=>if h:A.t=t then (match one1 (castL h A.xs) with | some x=>some (⟨t,[x]⟩,[k]) | none=>none) else none
   | _=>none
  | none=>none
 | .po t,.a A=>match decPo L t A with
  | some (x,us)=>some (⟨t,[x]⟩,us)
  | none=>none
 | .sv t,.a A=>match decSv L t A with
  | some (x,us)=>some (⟨t,[x]⟩,us)
  | none=>none
 | _,_=>none
def updO (E:Env) (L:Heap) (gone:List Nat):List Nat→List AT→List (Option Lst)×List Nat
 | i :: r,o :: os=>match updO E L gone r os with
  | (us,rs)=>match updOne L o (E.get i) with
   | some (A,ks)=>match disjB ks gone with
    | true=>(some A :: us,ks++rs)
    | false=>(none :: us,rs)
   | none=>(none :: us,rs)
 | _ :: r,[]=>(none :: (updO E L gone r []).1,[])
 | [],_=>([],[])
theorem updOne_spec (hR:RelV n K w0 G w a E L V own) {o:AT} {p:PV} {A:Lst} {ks:List Nat} {v:Value} (hp:RepP w0 G L V p v) (h:updOne L o p=some (A,ks)):UpdOne w K.G0 o A v (ks.map own).flatten∧∀ r∈ks,∃ B,hget L r=some B:=by
 unfold updOne at h
 split at h
 ·rename_i t k
  split at h
  ·rename_i B hB
   split at h
   ·rename_i hbor
    cases h
    obtain ⟨B',hB',h1,_⟩:=hp
    rw [hB] at hB';cases hB'
    have hE:=hR.heap k B hB
    obtain ⟨tB,xB,bB,lB,sB⟩:=B
    simp only at hbor
    subst hbor
    refine ⟨?_,fun r hr=>by rw [List.mem_singleton.1 hr];exact ⟨_,hB⟩⟩
    rw [h1 rfl]
    simp only [List.map_cons,List.map_nil,List.flatten_cons,List.flatten_nil,List.append_nil]
    exact EntC.own.1 hE
   ·cases h
  ·cases h
 ·rename_i t k
  split at h
  ·rename_i B hB
   split at h
   ·rename_i hsm
    split at h
    ·rename_i ht
     split at h
     ·rename_i x hx
      cases h
      obtain ⟨B',hB',hi,b,off,m,cap,po,t',hv,hpp,rfl⟩:=hp
      rw [hB] at hB';cases hB'
      simp only [pathOff,Option.some.injEq,Prod.mk.injEq] at hpp
      obtain ⟨rfl,rfl⟩:=hpp
      obtain ⟨⟨b1,off1,hv1⟩,hsm2⟩:=hR.small k B true hB hsm
      obtain ⟨hbor,hE⟩:=hsm2 rfl
      obtain ⟨tB,xB,bB,lB,sB⟩:=B
      simp only at hbor ht
      subst ht
      have hy:xB=[x]:=one1_eq hx
      subst hbor hy
      rw [hv1] at hv hE
      cases hv
      refine ⟨⟨x,rfl,b,off,by simp,?_⟩,fun r hr=>by rw [List.mem_singleton.1 hr];exact ⟨_,hB⟩⟩
      simp only [List.map_cons,List.map_nil,List.flatten_cons,List.flatten_nil,List.append_nil]
      exact EntC.keepG (A:=⟨tB,[x],true,none,none⟩) (fun _ h=>h) (fun c hc=>hR.gref c (hR.gsub c hc)) (fun _ _=>rfl) hE
     ·cases h
    ·cases h
   ·cases h
  ·cases h
 ·rename_i t A1
  split at h
  ·rename_i x us hpo
   cases h
   obtain ⟨h1,h2,_⟩:=decPo_rep hR (Kept.refl _ _) hp hpo
   exact ⟨⟨x,rfl,h1⟩,h2⟩
  ·cases h
 ·rename_i t A1
  split at h
  ·rename_i x us hsv
   cases h
   obtain ⟨h1,h2⟩:=decSv_rep hR (Kept.refl _ _) hp hsv
   exact ⟨⟨x,rfl,h1⟩,h2⟩
  ·cases h
 ·cases h
theorem updO_spec {q:Nat→Value} {gone:List Nat} (hR:RelV n K w0 G w a E L V own):∀ {ps:List Nat} {os:List AT},ps.length≤os.length→(∀ t∈ps,a.tmps.getD t undef=q t) →
  ∃ ubs,UpdK w K.G0 os (updO E L gone ps os).1 (ps.map q) ubs∧ubs.flatten=((updO E L gone ps os).2.map own).flatten∧∀ r∈(updO E L gone ps os).2,∃ B,hget L r=some B
 | [],os,_,_=>⟨[],by cases os <;> exact ⟨rfl,rfl⟩,by cases os <;> rfl,fun r hr=>by cases os <;> cases hr⟩
 | i :: ps,[],hl,_=>by simp at hl
 | i :: ps,o :: os,hl,hq=>by
  obtain ⟨ubs,h1,h2,h3⟩:=updO_spec hR (ps:=ps) (os:=os) (by simpa using hl) (fun t ht=>hq t (List.mem_cons_of_mem _ ht))
  simp only [updO]
  have skip:∃ ubs,UpdK w K.G0 (o :: os) (none :: (updO E L gone ps os).1) ((i :: ps).map q) ubs∧ubs.flatten=((updO E L gone ps os).2.map own).flatten∧∀ r∈(updO E L gone ps os).2,∃ B,hget L r=some B :=
   ⟨[] :: ubs,⟨_,_,_,rfl,rfl,h1⟩,by simpa using h2,h3⟩
  split
  ·rename_i A ks hk
   split
   ·have hv:=hR.env i
    rw [hq i (List.mem_cons_self ..)] at hv
    obtain ⟨g1,g2⟩:=updOne_spec hR hv hk
    refine ⟨(ks.map own).flatten :: ubs,⟨_,_,_,_,rfl,rfl,g1,h1⟩,by simp [h2],fun r hr => ?_⟩
    rcases List.mem_append.1 hr with hr | hr
    ·exact g2 r hr
    ·exact h3 r hr
   ·exact skip
  ·exact skip
def decO (L:Heap):(t:Ty)→Atom→Option (t.den×List Nat)
 | .sl e,.osl r none=>match hget L r with
  | some A=>match A.bor with
   | true=>none
   | false=>if h:A.t=e then some (castL h A.xs,[r]) else none
  | none=>none
 | .sl e,.osl r (some (lo,hi))=>match hget L r with
  | some A=>match e.flat && !A.bor with
   | true=>if h:A.t=e then some (rgL (some (lo,hi)) (castL h A.xs),[r]) else none
   | false=>none
  | none=>none
 | .sl e,.val (.slice none _ _)=>some ([],[])
 | t,.rcd t' ls=>match decide (t'=t),t.agg with
  | true,true=>ownLs L t ls
  | _,_=>none
 | t,A=>match t.flat with
  | true=>match decB t A with
   | some x=>some (x,[])
   | none=>none
  | false=>none
def decK (L:Heap):RK→(t:Ty)→Atom→Option (t.den×List Nat)
 | .own,t,A=>decO L t A
 | .frz,t,A=>match decB t (stAtom A) with
  | some x=>some (x,[])
  | none=>none
 | .bx,t,A=>match decPb L t A with
  | some (x,us)=>some (x,us)
  | none=>none
def cellA (tab:List TI) (L:Heap) (T:TypeId) (A:Atom):Option Atom :=
 match (tabGet tab T).ty with
 | some t=>loadA L t A
 | none=>none
def finA (tab:List TI) (E:Env) (L:Heap):List RK→List Ty→List ResultVar→Option (List Dyn×List Nat)
 | _,[],[]=>some ([],[])
 | ks,t :: ts,.tmp i :: r=>match E.get i with
  | .a A=>match decK L (RK.hd ks) t A,finA tab E L ks.tail ts r with
   | some (x,us),some (ds,vs)=>some (⟨t,x⟩ :: ds,us++vs)
   | _,_=>none
  | _=>none
 | ks,t :: ts,.cell i T :: r=>match E.get i with
  | .a A=>match cellA tab L T A with
   | some B=>match decK L (RK.hd ks) t B,finA tab E L ks.tail ts r with
    | some (x,us),some (ds,vs)=>some (⟨t,x⟩ :: ds,us++vs)
    | _,_=>none
   | none=>none
  | _=>none
 | _,_,_=>none
def frzF (tab:List TI) (E:Env) (L:Heap):List RK→List ResultVar→List Nat
 | .frz :: ks,.tmp i :: r=>(match E.get i with
  | .a A=>refA A
  | _=>[])++frzF tab E L ks r
 | .frz :: ks,.cell i T :: r=>(match E.get i with
  | .a A=>match cellA tab L T A with
   | some B=>refA B
   | none=>[]
  | _=>[])++frzF tab E L ks r
 | _ :: ks,_ :: r=>frzF tab E L ks r
 | _,_=>[]
theorem isVal_of {t:Ty} {cs:List Value} (hl:cs.length=t.size):IsVal t cs (valOf t cs):=by
 cases t <;> simp only [IsVal,valOf,Ty.agg,if_true,if_false,Bool.false_eq_true]
 all_goals (match cs,hl with | [c],_=>rfl)
theorem cell_run {T:TypeId} {u v:Value} (h:(Instr.loadAt T u).run P w = .ok v w):(do loadVar T (← asAddr u):Sem Value).run P w = .ok v w:=by
 cases u with
 | pointer a =>
  cases a with
  | none=>simp [Instr.loadAt,Instr.sureAddr] at h
  | some a=>simpa [Instr.loadAt,Instr.sureAddr,asAddr] using h
 | _=>simp [Instr.loadAt,Instr.sureAddr] at h
theorem decO_flat (hR:RelV n K w0 G w a E L V own) {t:Ty} {A:Atom} {x:t.den} {us:List Nat} {v:Value} (hv:RepA w0 G L V A v) (h:(match t.flat with | true=>(match decB t A with | some x=>some (x,([]:List Nat)) | none=>none) | false=>none)=some (x,us)) :
  us=[]∧∃ cs,OwnC w t x cs []∧IsVal t cs v:=by
 split at h
 ·rename_i hf
  split at h
  ·rename_i y hd
   cases h
   obtain ⟨cs,hv,_,_,hent⟩:=entR_of_decB (repB_of_decB hv hd) hd false (fun _=>hf)
   exact ⟨rfl,cs,hent w,by rw [hv];exact isVal_of (OwnC.length (hent w))⟩
  ·cases h
 ·cases h
theorem decO_spec (hR:RelV n K w0 G w a E L V own) {t:Ty} {A:Atom} {x:t.den} {us:List Nat} {v:Value} (hv:RepA w0 G L V A v) (h:decO L t A=some (x,us)) :
  (∃ cs,OwnC w t x cs (us.map own).flatten∧IsVal t cs v)∧∀ r∈us,∃ B,hget L r=some B:=by
 unfold decO at h
 split at h
 ·rename_i e r
  have h':slW L e (.osl r none)=some (x,us):=h
  obtain ⟨h1,h2⟩:=slW_rep hR (l := .osl r none) (v:=v) hv h'
  exact ⟨⟨[v],h1,rfl⟩,h2⟩
 ·rename_i e r lo hi
  have h':slW L e (.osl r (some (lo,hi)))=some (x,us):=h
  obtain ⟨h1,h2⟩:=slW_rep hR (l := .osl r (some (lo,hi))) (v:=v) hv h'
  exact ⟨⟨[v],h1,rfl⟩,h2⟩
 ·rename_i e n c
  cases h
  obtain ⟨rfl,hn,hc⟩:=hv
  subst hn hc
  exact ⟨⟨_,⟨_,rfl,by simp [maxLen],.inl ⟨_,rfl,rfl,rfl⟩⟩,rfl⟩,fun r hr=>by cases hr⟩
 ·rename_i t' ls
  split at h
  ·rename_i ht ha
   obtain rfl:=of_decide_eq_true ht
   obtain ⟨cs,rfl,hl,hr⟩:=hv
   obtain ⟨h1,h2⟩:=ownLs_rep hR hr h
   refine ⟨⟨cs,h1,?_⟩,h2⟩
   have:=isVal_of h1.length
   rwa [valOf,if_pos ha] at this
  ·cases h
 ·obtain ⟨rfl,cs,h1,h2⟩:=decO_flat hR hv h
  exact ⟨⟨cs,by simpa using h1,h2⟩,fun r hr=>by cases hr⟩
def NewG (K:Ctx) (G:Nat→Prop) (b:Nat):Prop:=G b∧¬ Good K.w0 K.O b
theorem decK_spec (hR:RelV n K w0 G w a E L V own) {k:RK} {t:Ty} {A:Atom} {x:t.den} {us:List Nat} {v:Value} (hv:RepA w0 G L V A v) (h:decK L k t A=some (x,us)) :
  ResOne w K.Ga (NewG K G) k ⟨t,x⟩ v (us.map own).flatten∧∀ r∈us,∃ B,hget L r=some B:=by
 have hup:∀ b,G b→K.Ga b∨NewG K G b:=fun b hb=>(hR.gup b hb).imp_right fun h=>⟨hb,h⟩
 cases k with
 | own=>exact decO_spec hR hv h
 | frz =>
  simp only [decK] at h
  split at h
  ·rename_i y hd
   cases h
   obtain ⟨cs,hr,hvv⟩:=decB_spec (repB_of_decB (stAtom_rep hv) hd) hd
   refine ⟨⟨rfl,cs,hr.keep hup hR.gref,?_⟩,fun r hr=>by cases hr⟩
   rw [hvv]
   exact isVal_of hr.length
  ·cases h
 | bx =>
  simp only [decK] at h
  split at h
  ·rename_i y us' hd
   cases h
   obtain ⟨⟨b,off,h1,h2⟩,r,B,b',off',e1,_,e3,_⟩:=decPb_rep (q:=false) hR (Kept.refl _ _) hv hd (fun h=>by cases h)
   refine ⟨⟨b,off,h1,EntC.keepG (A:=⟨t,[x],true,none,none⟩) (fun c hc=>hup c hc) (fun _ _=>rfl) (fun _ _=>rfl) h2⟩,fun s hs => ?_⟩
   rw [e1] at hs
   rw [List.mem_singleton.1 hs]
   exact ⟨B,e3⟩
  ·cases h
theorem finA_spec {tab:List TI} (hT:TabOk P tab) (hR:RelV n K w0 G w a E L V own):∀ {ks:List RK} {ts:List Ty} {rv:List ResultVar} {ds:List Dyn} {us:List Nat},finA tab E L ks ts rv=some (ds,us) →
  ∃ rs bss,(rv.mapM fun x=>(match x with | .tmp t=>pure (a.tmps.getD t undef) | .cell b t=>do loadVar t (← asAddr (a.tmps.getD b undef)):Sem Value)).run P w = .ok rs w∧rs.length=rv.length∧ResK w K.Ga (NewG K G) ks ds rs bss∧bss.flatten=(us.map own).flatten∧∀ r∈us,∃ B,hget L r=some B
 | ks,[],[],ds,us,h=>by
  have h':ds=[]∧us=[]:=by cases ks <;> (cases h;exact ⟨rfl,rfl⟩)
  obtain ⟨rfl,rfl⟩:=h'
  exact ⟨[],[],by simp,rfl,by cases ks <;> exact ⟨rfl,rfl⟩,rfl,fun r hr=>by cases hr⟩
 | ks,t :: ts,.tmp i :: rv,ds,us,h=>by
  simp only [finA] at h
  split at h
  ·rename_i A hA
   split at h
   ·rename_i x u ds' vs hd hf
    cases h
    have hv:RepA w0 G L V A (a.tmps.getD i undef):=by
     have:=hR.env i
     rw [hA] at this
     exact this
    obtain ⟨h1,h3⟩:=decK_spec hR hv hd
    obtain ⟨rs,bss,g1,g2,g3,g4,g5⟩:=finA_spec hT hR hf
    refine ⟨a.tmps.getD i undef :: rs,(u.map own).flatten :: bss,?_,by simp [g2],by cases ks <;> exact ⟨_,_,_,_,rfl,rfl,h1,g3⟩,?_,?_⟩
    ·rw [List.mapM_cons]
     simp only [Sem.run_bind,Sem.run_pure,Result.andThen_ok]
     rw [g1]
     rfl
    ·simp [g4]
    ·intro r hr
     rcases List.mem_append.1 hr with hr | hr
     ·exact h3 r hr
     ·exact g5 r hr
   ·cases h
  ·cases h
 | ks,t :: ts,.cell i T :: rv,ds,us,h=>by
  simp only [finA] at h
  split at h
  ·rename_i A hA
   split at h
   ·rename_i B hB
    split at h
    ·rename_i x u ds' vs hd hf
     cases h
     have hv:RepA w0 G L V A (a.tmps.getD i undef):=by
      have:=hR.env i
      rw [hA] at this
      exact this
     unfold cellA at hB
     split at hB
     ·rename_i t0 ht0
      obtain ⟨v,hv',hrun⟩:=loadA_spec (P:=P) hR (TI.ty_ok (hT T) ht0) hv hB
      obtain ⟨h1,h3⟩:=decK_spec hR hv' hd
      obtain ⟨rs,bss,g1,g2,g3,g4,g5⟩:=finA_spec hT hR hf
      refine ⟨v :: rs,(u.map own).flatten :: bss,?_,by simp [g2],by cases ks <;> exact ⟨_,_,_,_,rfl,rfl,h1,g3⟩,?_,?_⟩
      ·have hc:=cell_run (hrun w (Kept.refl _ _))
       rw [List.mapM_cons,Sem.run_bind]
       refine (congrArg (fun r=>Result.andThen r _) hc).trans ?_
       simp only [Result.andThen_ok,Sem.run_bind]
       rw [g1]
       rfl
      ·simp [g4]
      ·intro r hr
       rcases List.mem_append.1 hr with hr | hr
       ·exact h3 r hr
       ·exact g5 r hr
     ·cases hB
    ·cases h
   ·cases h
  ·cases h
 | ks,[],_ :: _,_,_,h=>by cases ks <;> cases h
 | ks,_ :: _,[],_,_,h=>by cases ks <;> cases h
def runF (tab:List TI) (ext:Ext) (wr:Bool) (n:Nat) (stops:List Nat) (m:Nat) (pins:List Nat) (oks:List AT) (kds:List RK) (ts:List Ty) (rv:Array ResultVar) (path:List Bool) (k:List Item) (E:Env) (L:Heap):Option (List Dyn×List (Option Lst)×List Prop) :=
 match runA tab ext wr n stops m true k ⟨path,[],E,L,[],pins⟩ with
 | some (.fin S)=>match frzAll (frzF tab S.E S.L kds rv.toList) (S.E,S.L) with
  | (E1,L1)=>match finA tab E1 L1 kds ts rv.toList with
   | some (ds,us)=>match nodupB ((updO E1 L1 us pins oks).2++us)&&decide (S.pins=pins)&&Nat.ble pins.length oks.length with
    | true=>some (ds,(updO E1 L1 us pins oks).1,S.cs)
    | false=>none
   | none=>none
 | _=>none
def WeakU:List (Option Lst)→List (Option Lst)→Prop
 | [],[]=>True
 | u :: r,u' :: r'=>(u'=u∨u'=none)∧WeakU r r'
 | _,_=>False
theorem PostR.weak {kds:List RK} {oks:List AT} {ds:List Dyn} {us us':List (Option Lst)} {pins:List Nat} {q:Nat→Value} {K:Ctx} {e:Ending} {w':World} (h:PostR kds oks ds us pins q K e w') (hw:WeakU us us'):PostR kds oks ds us' pins q K e w':=by
 obtain ⟨rs,ubs,rbs,F,h1,h2,h3,h4,h5,h6,h7⟩:=h
 have key:∀ (us us':List (Option Lst)) (os:List AT) (vs:List Value) (ubs:List (List Nat)),WeakU us us'→UpdK w' K.G0 os us vs ubs→∃ nbs:List (List Nat),UpdK w' K.G0 os us' vs nbs∧nbs.flatten.Sublist ubs.flatten:=by
  intro us
  induction us with
  | nil =>
   intro us' os vs ubs hw h
   cases us' with
   | nil=>exact ⟨ubs,h,List.Sublist.refl _⟩
   | cons _ _=>cases hw
  | cons u r ih =>
   intro us' os vs ubs hw h
   cases us' with
   | nil=>cases hw
   | cons u' r' =>
    obtain ⟨hu,hw⟩:=hw
    cases os with
    | nil=>cases u <;> exact h.elim
    | cons o os =>
     cases u with
     | none =>
      obtain ⟨v,s,bs,rfl,rfl,h⟩:=h
      obtain ⟨nbs,g1,g2⟩:=ih _ _ _ _ hw h
      have:u'=none:=by rcases hu with h | h <;> exact h
      subst this
      exact ⟨[] :: nbs,⟨_,_,_,rfl,rfl,g1⟩,by simpa using g2⟩
     | some A =>
      obtain ⟨v,s,b,bs,rfl,rfl,h0,h⟩:=h
      obtain ⟨nbs,g1,g2⟩:=ih _ _ _ _ hw h
      rcases hu with rfl | rfl
      ·exact ⟨b :: nbs,⟨_,_,_,_,rfl,rfl,h0,g1⟩,by simpa using g2⟩
      ·exact ⟨[] :: nbs,⟨_,_,_,rfl,rfl,g1⟩,by simpa using g2.trans (List.sublist_append_right _ _)⟩
 obtain ⟨nbs,g1,g2⟩:=key _ _ _ _ _ hw h4
 have g3:(nbs.flatten++rbs.flatten).Sublist (ubs.flatten++rbs.flatten):=g2.append_right _
 refine ⟨rs,nbs,rbs,F,h1,h2,h3,g1,h5.sublist g3,fun b hb=>h6 b (g3.subset hb),fun b hb => ?_⟩
 obtain ⟨k1,k2,k3⟩:=h7 b hb
 exact ⟨k1,k2,fun hm=>k3 (g3.subset hm)⟩
theorem AtV.mono {R':Ending→World→Prop} {q:Nat→Value} {ps:List Nat} {k:List Item} (h:AtV P f R n K q ps k E L) (hm:∀ e w,R e w→R' e w):AtV P f R' n K q ps k E L:=by
 intro a w w0 G V own hR hq b cs hb hk
 obtain ⟨e,w',fr,h1,h2⟩:=h a w w0 G V own hR hq b cs hb hk
 exact ⟨e,w',fr,hm _ _ h1,h2⟩
theorem AtV.weak {kds:List RK} {oks:List AT} {ds:List Dyn} {us us':List (Option Lst)} {q:Nat→Value} {pins ps:List Nat} {k:List Item} (h:AtV P f (PostR kds oks ds us pins q K) n K q ps k E L) (hw:WeakU us us'):AtV P f (PostR kds oks ds us' pins q K) n K q ps k E L :=
 h.mono fun _ _ h=>h.weak hw
theorem AtV.fin {fn:Func} (hf:P.funcs[f]? = some fn) {tab:List TI} {ext:Ext} (hT:TabOk P tab) (hX:ExtOk P ext) (hm:P.follows .mixedOrders=true) {q:Nat→Value} {pins:List Nat} {oks:List AT} {kds:List RK} {wr:Bool} {stops:List Nat} {m:Nat} {ts:List Ty} {path:List Bool} {k:List Item} {ds:List Dyn} {us:List (Option Lst)} {cs:List Prop}
  (h:runF tab ext wr n stops m pins oks kds ts fn.results path k E L=some (ds,us,cs)) (hc:All cs):AtV P f (PostR kds oks ds us pins q K) n K q pins k E L:=by
 intro a w w0 G V own hR hq
 unfold runF at h
 split at h
 ·rename_i S hr
  split at h
  rename_i E1 L1 hfrz
  split at h
  ·rename_i ds' us' hfin
   split at h
   ·rename_i hnd
    simp only [Bool.and_eq_true,decide_eq_true_eq,Nat.ble_eq] at hnd
    obtain ⟨⟨hnd,hp⟩,hpl⟩:=hnd
    cases h
    refine runA_run hT hX hm hr hc hR ⟨fun t d ht=>by simp [lookB] at ht,hq⟩ ?_
    intro a' w' w1 G1 V' own' hR1 hq'
    rw [hp] at hq'
    obtain ⟨w2,G2,hR'⟩:=frzAll_spec (rs:=frzF tab S.E S.L kds fn.results.toList) hR1
    rw [hfrz] at hR'
    obtain ⟨rs,bss,g1,g2,g3,g4,g5⟩:=finA_spec (P:=P) hT hR' hfin
    obtain ⟨ubs,k1,k2,k3⟩:=updO_spec (gone:=us') hR' hpl hq'
    have hall:ubs.flatten++bss.flatten=(((updO E1 L1 us' pins oks).2++us').map own').flatten:=by rw [k2,g4,List.map_append,List.flatten_append]
    have hlive:∀ r∈(updO E1 L1 us' pins oks).2++us',∃ B,hget L1 r=some B:=fun r hr=>by
     rcases List.mem_append.1 hr with hr | hr
     ·exact k3 r hr
     ·exact g5 r hr
    have hout:∀ b∈ubs.flatten++bss.flatten,Am.Out K G2 b:=by
     intro b hb
     rw [hall] at hb
     obtain ⟨l,hl,hb⟩:=List.mem_flatten.1 hb
     obtain ⟨r,hr,rfl⟩:=List.mem_map.1 hl
     obtain ⟨B,hB⟩:=hlive r hr
     exact hR'.good r B hB b hb
    refine ⟨hR'.defers,fn,packV rs,hf,?_,rs,ubs,bss,NewG K G2,rfl,hR'.kept,g3,k1,?_,fun b hb=>(hout b hb).1,fun b hb=>⟨hR'.glt b hb.1,hb.2,fun hm=>(hout b hm).2 hb.1⟩⟩
    ·unfold results
     have hm':(fn.results.mapM fun x=>(match x with | .tmp t=>pure (a'.tmps.getD t undef) | .cell b t=>do loadVar t (← asAddr (a'.tmps.getD b undef)):Sem Value)).run P w' = .ok rs.toArray w':=by
      rw [show fn.results=fn.results.toList.toArray from rfl,List.mapM_toArray]
      simp only [map_eq_pure_bind,Sem.run_bind,g1,Result.andThen_ok,Sem.run_pure]
     simp only [Sem.run_bind]
     refine (congrArg (fun r=>Result.andThen r _) hm').trans ?_
     simp only [Result.andThen_ok,Sem.run_pure]
     congr 1
     match rs with
     | []=>rfl
     | [v]=>rfl
     | _ :: _ :: _=>simp [packV]
    ·rw [hall];exact own_nodup hR' (nodupB_spec hnd) hlive
   ·cases h
  ·cases h
 ·cases h
end
end Go.Am
namespace Go.Am
open Go.ChangeShapes Go.WideShapes Go.ChangeAt Go.RowKit
set_option linter.unusedVariables false
set_option linter.unusedSimpArgs false
def wrapB (P:Program) (agg:Bool) (T:TypeId) (k:TypeId ⊕ (List Field×Nat)→Bool):Bool :=
 match agg with
 | true=>match P.underlying T with
  | some (.struct fs)=>k (.inr (fs.toList,0))
  | _=>false
 | false=>k (.inl T)
def readsB (P:Program):Ty→TypeId ⊕ (List Field×Nat)→Bool
 | .int k,.inl T=>isIntB k (P.underlying T)
 | .bool,.inl T=>isBoolB (P.underlying T)
 | .str,.inl T=>isStrB (P.underlying T)
 | .unit,.inr ([],_)=>true
 | .cons a b,.inr (f :: fs,o)=>Nat.beq f.offset o&&(Nat.beq (P.cellsOf f.type) a.size&&(wrapB P a.agg f.type (readsB P a)&&readsB P b (.inr (fs,o+a.size))))
 | _,_=>false
def readsT (P:Program) (t:Ty) (T:TypeId):Bool:=Nat.beq (P.cellsOf T) t.size&&wrapB P t.agg T (readsB P t)
section
variable {H:Type} {enc:TypeId×Value→H} {P:Program} {w:World} {base:Nat} {spare:Nat→Bool} {held:Bool} {G:Nat→Prop}
def TrodOne (enc:TypeId×Value→H) (P:Program) (w:World) (base:Nat) (spare:Nat→Bool) (held:Bool) (cs:List Value) (f:Field):Prop :=
 ∃ n x,DataW.trod enc P w base spare held n f.type ((cs.drop f.offset).take (P.cellsOf f.type))=some x
theorem trod_fields {T:TypeId} {fs:Array Field} {fuel:Nat} {cs:List Value} {x:DataW H×List MemPlace} (ht:P.underlying T=some (.struct fs)) (h:DataW.trod enc P w base spare held fuel T cs=some x) :
  cs.length=P.cellsOf T∧∀ f∈fs.toList,TrodOne enc P w base spare held cs f:=by
 obtain ⟨xs,n,_,_,hl,hx,hf⟩:=DataW.trod_struct ht h
 refine ⟨hl,fun f hf' => ?_⟩
 obtain ⟨i,hi⟩:=List.getElem?_of_mem hf'
 rw [Array.getElem?_toList] at hi
 have hlt:i<fs.size:=(Array.getElem?_eq_some_iff.1 hi).1
 have:=hf i f hi
 exact ⟨n,xs[i]'(by omega),by rw [this];exact List.getElem?_eq_getElem _⟩
theorem trod_rep:∀ (t:Ty),
  (∀ T fuel cs x,wrapB P t.agg T (readsB P t)=true→P.cellsOf T=t.size→DataW.trod enc P w base spare held fuel T cs=some x→∃ y,RepC w G t y cs) ∧
  (∀ fs o cs,readsB P t (.inr (fs,o))=true→(∀ f∈fs,TrodOne enc P w base spare held cs f)→cs.length=o+t.size→∃ y,RepC w G t y (cs.drop o))
 | .int k=>by
  refine ⟨fun T fuel cs x h _ ht => ?_,fun fs o cs h=>by simp [readsB] at h⟩
  have hu:=isIntB_eq (by simpa [wrapB,Ty.agg,readsB] using h)
  obtain ⟨n,rfl,_,hw⟩:=DataW.trod_int hu ht
  exact ⟨n,rfl,by simpa [Lit.wf,InR] using hw⟩
 | .bool=>by
  refine ⟨fun T fuel cs x h _ ht => ?_,fun fs o cs h=>by simp [readsB] at h⟩
  have hu:=isBoolB_eq (by simpa [wrapB,Ty.agg,readsB] using h)
  obtain ⟨b,rfl,_⟩:=DataW.trod_bool hu ht
  exact ⟨b,rfl⟩
 | .fn=>⟨fun T fuel cs x h=>by simp [wrapB,Ty.agg,readsB] at h,fun fs o cs h=>by simp [readsB] at h⟩
 | .str=>by
  refine ⟨fun T fuel cs x h _ ht => ?_,fun fs o cs h=>by simp [readsB] at h⟩
  have hu:=isStrB_eq (by simpa [wrapB,Ty.agg,readsB] using h)
  obtain ⟨s,rfl,_,hs⟩:=DataW.trod_string hu ht
  exact ⟨s,rfl,hs⟩
 | .sl e=>by
  exact ⟨fun T fuel cs x h=>by simp [wrapB,Ty.agg,readsB] at h,fun fs o cs h=>by simp [readsB] at h⟩
 | .unit=>by
  have hB:∀ fs o cs,readsB P .unit (.inr (fs,o))=true→(∀ f∈fs,TrodOne enc P w base spare held cs f)→cs.length=o+Ty.unit.size→∃ y,RepC w G .unit y (cs.drop o):=by
   intro fs o cs h _ hl
   refine ⟨(),?_⟩
   show cs.drop o=[]
   rw [List.drop_eq_nil_iff]
   simp [Ty.size] at hl
   omega
  refine ⟨fun T fuel cs x h hc ht => ?_,hB⟩
  simp only [wrapB,Ty.agg] at h
  split at h
  ·rename_i fs hu
   obtain ⟨h1,h2⟩:=trod_fields hu ht
   simpa using hB _ _ cs h h2 (by rw [h1,hc];simp)
  ·cases h
 | .cons a b=>by
  obtain ⟨ha,_⟩:=trod_rep a
  obtain ⟨_,hb⟩:=trod_rep b
  have hB:∀ fs o cs,readsB P (.cons a b) (.inr (fs,o))=true→(∀ f∈fs,TrodOne enc P w base spare held cs f)→cs.length=o+(Ty.cons a b).size→∃ y,RepC w G (.cons a b) y (cs.drop o):=by
   intro fs o cs h hf hl
   match fs,h with
   | [],h=>simp [readsB] at h
   | f :: fs,h =>
    simp only [readsB,Bool.and_eq_true] at h
    obtain ⟨h1,h2,h3,h4⟩:=h
    have h1:=Nat.eq_of_beq_eq_true h1
    have h2:=Nat.eq_of_beq_eq_true h2
    simp only [Ty.size] at hl
    obtain ⟨n,x,hx⟩:=hf f (List.mem_cons_self ..)
    rw [h1,h2] at hx
    obtain ⟨y1,hy1⟩:=ha _ _ _ _ h3 h2 hx
    obtain ⟨y2,hy2⟩:=hb fs (o+a.size) cs h4 (fun g hg=>hf g (List.mem_cons_of_mem _ hg)) (by omega)
    refine ⟨(y1,y2),_,_,?_,hy1,hy2⟩
    rw [← List.drop_drop]
    exact (List.take_append_drop _ _).symm
  refine ⟨fun T fuel cs x h hc ht => ?_,hB⟩
  simp only [wrapB,Ty.agg] at h
  split at h
  ·rename_i fs hu
   obtain ⟨h1,h2⟩:=trod_fields hu ht
   simpa using hB _ _ cs h h2 (by rw [h1,hc];simp)
  ·cases h
theorem cells_list {a:Addr} {n:Nat} {cs:List Value} (h:w.cells? base a n=some cs):cs.length=n∧∀ j c,cs[j]? = some c→w.cell? (a.add j)=some c:=by
 unfold World.cells? at h
 split at h
 ·have key:∀ (l:List Nat) (cs:List Value),(l.mapM fun i=>w.cell? (a.add i))=some cs→cs.length=l.length∧∀ (j:Nat) (c:Value) (i:Nat),cs[j]? = some c→l[j]? = some i→w.cell? (a.add i)=some c:=by
   intro l
   induction l with
   | nil=>intro cs h;simp at h;subst h;simp
   | cons i l ih =>
    intro cs h
    rw [List.mapM_cons] at h
    cases hc:w.cell? (a.add i) with
    | none=>simp [hc] at h
    | some c =>
     cases hr:l.mapM fun i=>w.cell? (a.add i) with
     | none=>simp [hc,hr] at h
     | some r =>
      simp [hc,hr] at h
      subst h
      obtain ⟨h1,h2⟩:=ih r hr
      refine ⟨by simp [h1],fun j c' i' hj hi => ?_⟩
      cases j with
      | zero=>simp at hj hi;subst hj hi;exact hc
      | succ j=>exact h2 j c' i' (by simpa using hj) (by simpa using hi)
  obtain ⟨h1,h2⟩:=key _ _ h
  refine ⟨by simpa using h1,fun j c hj=>h2 j c j hj ?_⟩
  have hlt:=(List.getElem?_eq_some_iff.1 hj).1
  have h1':cs.length=n:=by simpa using h1
  rw [List.getElem?_range (by omega)]
 ·cases h
def FitV (w:World) (v:Value):Prop:=∀ a len cap,v = .slice (some a) len cap→a.spot=none∧a.block<w.heap.size
theorem has_fit {r:Reach} {b0:Nat} {a:Addr} {e:TypeId} {n:Nat} (h:w.has P r b0 a e n):a.spot=none∧a.block<w.heap.size:=by
 obtain ⟨_,hs,row,cells,hsh,_⟩:=h
 refine ⟨hs,?_⟩
 rcases Nat.lt_or_ge a.block w.heap.size with hlt | hge
 ·exact hlt
 ·simp [World.shape?, Array.getElem?_eq_none hge] at hsh
theorem cell_fit {r:Reach} {b0:Nat} {u:TypeId} {v:Value} (h:Cell.okWide P w r b0 u v):FitV w v:=by
 rintro a len cap rfl
 unfold Cell.okWide at h
 split at h
 all_goals first
  | (rename_i hv;cases hv;done)
  | skip
 unfold Cell.ok at h
 split at h
 all_goals first
  | (rename_i hv;cases hv;done)
  | (cases h;done)
  | skip
 rename_i hv
 cases hv
 exact has_fit h.2.2
theorem row_fit {r:Reach} {b0:Nat} {T:TypeId} {cs:Array Value} (h:Row.okWide P w r b0 T cs):∀ v∈cs.toList,FitV w v:=by
 obtain ⟨ts,_,_,h⟩:=h
 intro v hv
 obtain ⟨i,hi⟩:=List.getElem?_of_mem hv
 rw [Array.getElem?_toList] at hi
 obtain ⟨u,_,hu⟩:=h i v hi
 exact cell_fit hu
theorem trod_slice_rep {e:Ty} {E T:TypeId} {fuel:Nat} {cs:List Value} {x:DataW H×List MemPlace} (hu:P.underlying T=some (.slice E)) (hr:readsT P e E=true) (hz:e.size≠0) (hf:∀ v∈cs,FitV w v)
  (h:DataW.trod enc P w base spare held fuel T cs=some x):∃ (v:Value) (ys:List e.den),cs=[v]∧SlAt w (Good w []) (RepC w (Good w []) e) e.size ys v:=by
 simp only [readsT,Bool.and_eq_true] at hr
 obtain ⟨hc,hr⟩:=hr
 have hc:=Nat.eq_of_beq_eq_true hc
 rcases DataW.trod_slice hu h with ⟨h1,_⟩ | ⟨a,len,cap,elems,rest,n,_,h1,_,_,hl,hm,hlen,hel,_⟩
 ·exact ⟨_,[],h1,by simp [maxLen],.inl ⟨_,rfl,rfl⟩⟩
 ·subst h1
  obtain ⟨hs,hb⟩:=hf _ (List.mem_singleton.2 rfl) _ _ _ rfl
  obtain ⟨b,off,spot⟩:=a
  simp only at hs hb
  subst hs
  have each:∀ i,i<len→∃ y cs,cs.length=e.size∧(∀ j c,cs[j]? = some c→w.cell? ⟨b,off+i*e.size+j,none⟩=some c)∧RepC w (Good w []) e y cs:=by
   intro i hi
   have hx:=hel i hi
   rw [List.getElem?_eq_getElem (by omega)] at hx
   simp only [Option.bind_eq_some_iff] at hx
   obtain ⟨cs,g1,g2⟩:=hx
   obtain ⟨k1,k2⟩:=cells_list g1
   obtain ⟨y,hy⟩:=(trod_rep (G:=Good w []) e).1 E _ _ _ hr hc g2
   refine ⟨y,cs,by rw [k1,hc],fun j c hj => ?_,hy⟩
   have:=k2 j c hj
   rw [hc] at this
   rw [Addr.add_lit,Addr.add_lit] at this
   exact this
  have build:∀ k,k≤len→∃ ys:List e.den,ys.length=k∧∀ i y,ys[i]? = some y→∃ cs,cs.length=e.size∧(∀ j c,cs[j]? = some c→w.cell? ⟨b,off+i*e.size+j,none⟩=some c)∧RepC w (Good w []) e y cs:=by
   intro k
   induction k with
   | zero=>intro _;exact ⟨[],rfl,fun i y h=>by simp at h⟩
   | succ k ih =>
    intro hk
    obtain ⟨ys,h1,h2⟩:=ih (by omega)
    obtain ⟨y,cs,g1,g2,g3⟩:=each k (by omega)
    refine ⟨ys++[y],by simp [h1],fun i z hz => ?_⟩
    by_cases hi:i<ys.length
    ·rw [List.getElem?_append_left hi] at hz
     exact h2 i z hz
    ·have hlt:=(List.getElem?_eq_some_iff.1 hz).1
     simp at hlt
     have:i=k:=by omega
     subst this
     rw [List.getElem?_append_right (by omega)] at hz
     simp [h1] at hz
     subst hz
     exact ⟨cs,g1,g2,g3⟩
  obtain ⟨ys,h1,h2⟩:=build len (Nat.le_refl _)
  exact ⟨_,ys,rfl,by omega,.inr ⟨b,off,cap,by rw [h1],by omega,by omega,⟨hb,by simp⟩,h2⟩⟩
def readsW (P:Program):Ty→TypeId ⊕ (List Field×Nat)→Bool
 | .sl e,.inl T=>match P.underlying T with
  | some (.slice E)=>readsT P e E && !Nat.beq e.size 0
  | _=>false
 | .unit,.inr ([],_)=>true
 | .cons a b,.inr (f :: fs,o)=>Nat.beq f.offset o&&(Nat.beq (P.cellsOf f.type) a.size&&(wrapB P a.agg f.type (readsW P a)&&readsW P b (.inr (fs,o+a.size))))
 | .int k,x=>readsB P (.int k) x
 | .bool,x=>readsB P .bool x
 | .str,x=>readsB P .str x
 | _,_=>false
theorem trod_repW:∀ (t:Ty),
  (∀ T fuel cs x,wrapB P t.agg T (readsW P t)=true→P.cellsOf T=t.size→(∀ v∈cs,FitV w v)→DataW.trod enc P w base spare held fuel T cs=some x→∃ y,RepC w (Good w []) t y cs) ∧
  (∀ fs o cs,readsW P t (.inr (fs,o))=true→(∀ f∈fs,TrodOne enc P w base spare held cs f)→(∀ v∈cs,FitV w v)→cs.length=o+t.size→∃ y,RepC w (Good w []) t y (cs.drop o))
 | .int k=>by
  refine ⟨fun T fuel cs x h hc _ ht=>(trod_rep (.int k)).1 T fuel cs x ?_ hc ht,fun fs o cs h=>by simp [readsW,readsB] at h⟩
  simpa [wrapB,Ty.agg,readsW] using h
 | .bool=>by
  refine ⟨fun T fuel cs x h hc _ ht=>(trod_rep .bool).1 T fuel cs x ?_ hc ht,fun fs o cs h=>by simp [readsW,readsB] at h⟩
  simpa [wrapB,Ty.agg,readsW] using h
 | .fn=>⟨fun T fuel cs x h=>by simp [wrapB,Ty.agg,readsW] at h,fun fs o cs h=>by simp [readsW] at h⟩
 | .str=>by
  refine ⟨fun T fuel cs x h hc _ ht=>(trod_rep .str).1 T fuel cs x ?_ hc ht,fun fs o cs h=>by simp [readsW,readsB] at h⟩
  simpa [wrapB,Ty.agg,readsW] using h
 | .sl e=>by
  refine ⟨fun T fuel cs x h hc hf ht => ?_,fun fs o cs h=>by simp [readsW] at h⟩
  simp only [wrapB,Ty.agg,readsW] at h
  split at h
  ·rename_i E hu
   simp only [Bool.and_eq_true,Bool.not_eq_true'] at h
   obtain ⟨v,ys,h1,h2⟩:=trod_slice_rep hu h.1 (fun hz=>by have:=h.2;rw [hz] at this;simp at this) hf ht
   exact ⟨ys,v,h1,h2⟩
  ·cases h
 | .unit=>by
  have hB:∀ fs o cs,readsW P .unit (.inr (fs,o))=true→(∀ f∈fs,TrodOne enc P w base spare held cs f)→cs.length=o+Ty.unit.size→∃ y,RepC w (Good w []) .unit y (cs.drop o):=by
   intro fs o cs h _ hl
   refine ⟨(),?_⟩
   show cs.drop o=[]
   rw [List.drop_eq_nil_iff]
   simp [Ty.size] at hl
   omega
  refine ⟨fun T fuel cs x h hc _ ht => ?_,fun fs o cs h1 h2 _ h3=>hB fs o cs h1 h2 h3⟩
  simp only [wrapB,Ty.agg] at h
  split at h
  ·rename_i fs hu
   obtain ⟨h1,h2⟩:=trod_fields hu ht
   simpa using hB _ _ cs h h2 (by rw [h1,hc];simp)
  ·cases h
 | .cons a b=>by
  obtain ⟨ha,_⟩:=trod_repW a
  obtain ⟨_,hb⟩:=trod_repW b
  have hB:∀ fs o cs,readsW P (.cons a b) (.inr (fs,o))=true→(∀ f∈fs,TrodOne enc P w base spare held cs f)→(∀ v∈cs,FitV w v)→cs.length=o+(Ty.cons a b).size→∃ y,RepC w (Good w []) (.cons a b) y (cs.drop o):=by
   intro fs o cs h hf hfit hl
   match fs,h with
   | [],h=>simp [readsW] at h
   | f :: fs,h =>
    simp only [readsW,Bool.and_eq_true] at h
    obtain ⟨h1,h2,h3,h4⟩:=h
    have h1:=Nat.eq_of_beq_eq_true h1
    have h2:=Nat.eq_of_beq_eq_true h2
    simp only [Ty.size] at hl
    obtain ⟨n,x,hx⟩:=hf f (List.mem_cons_self ..)
    rw [h1,h2] at hx
    obtain ⟨y1,hy1⟩:=ha _ _ _ _ h3 h2 (fun v hv=>hfit v (List.mem_of_mem_drop (List.mem_of_mem_take hv))) hx
    obtain ⟨y2,hy2⟩:=hb fs (o+a.size) cs h4 (fun g hg=>hf g (List.mem_cons_of_mem _ hg)) hfit (by omega)
    refine ⟨(y1,y2),_,_,?_,hy1,hy2⟩
    rw [← List.drop_drop]
    exact (List.take_append_drop _ _).symm
  refine ⟨fun T fuel cs x h hc hfit ht => ?_,hB⟩
  simp only [wrapB,Ty.agg] at h
  split at h
  ·rename_i fs hu
   obtain ⟨h1,h2⟩:=trod_fields hu ht
   simpa using hB _ _ cs h h2 hfit (by rw [h1,hc];simp)
  ·cases h
def argB (P:Program):Ty→TypeId→Bool
 | .sl e,T=>match P.underlying T with
  | some (.slice E)=>readsT P e E && !Nat.beq e.size 0
  | _=>false
 | t,T=>readsT P t T||(t.agg&&(Nat.beq (P.cellsOf T) t.size&&wrapB P true T (readsW P t)))
theorem okWide_agg {r:Reach} {b0:Nat} {T:TypeId} {v:Value} {fs:Array Field} (hu:P.underlying T=some (.struct fs)) (h:Value.okWide P w r b0 T v):∃ cs,v = .agg cs:=by
 simp only [Value.okWide,hu] at h
 obtain ⟨cs,hv,_⟩:=h
 exact ⟨cs,hv⟩
theorem trod_flat_arg {r:Reach} {b0:Nat} {t:Ty} {T:TypeId} {v:Value} {d:DataW H} {ps:List MemPlace} (hB:readsT P t T=true) (hv:Value.okWide P w r b0 T v) (h:DataW.Trod enc P w base spare held T v d ps) :
  ∃ x:t.den,RepB w G (toAtom t x) v:=by
 simp only [readsT,Bool.and_eq_true] at hB
 obtain ⟨hc,hB⟩:=hB
 have hc:=Nat.eq_of_beq_eq_true hc
 obtain ⟨fuel,hf⟩:=h
 obtain ⟨y,hy⟩:=(trod_rep (G:=G) t).1 T fuel _ _ hB hc hf
 refine ⟨y,?_⟩
 cases t with
 | int k =>
  have hu:=isIntB_eq (by simpa [wrapB,Ty.agg,readsB] using hB)
  obtain ⟨n,rfl⟩:=okWide_int hu hv
  obtain ⟨h1,h2⟩:=hy
  simp [Value.cells] at h1
  subst h1
  exact ⟨rfl,h2⟩
 | bool =>
  have hu:=isBoolB_eq (by simpa [wrapB,Ty.agg,readsB] using hB)
  obtain ⟨b,rfl⟩:=okWide_bool hu hv
  have h1:([.bool b]:List Value)=[.bool y]:=hy
  cases h1
  exact ⟨rfl,trivial⟩
 | fn=>simp [wrapB,Ty.agg,readsB] at hB
 | str =>
  have hu:=isStrB_eq (by simpa [wrapB,Ty.agg,readsB] using hB)
  obtain ⟨s,rfl⟩:=okWide_string hu hv
  obtain ⟨h1,h2⟩:=hy
  simp [Value.cells] at h1
  subst h1
  exact ⟨rfl,h2⟩
 | sl e=>simp [wrapB,Ty.agg,readsB] at hB
 | unit =>
  simp only [wrapB,Ty.agg] at hB
  split at hB
  ·rename_i fs hu
   obtain ⟨cs,rfl⟩:=okWide_agg hu hv
   exact ⟨cs.toList,by simp,hy⟩
  ·cases hB
 | cons a b =>
  simp only [wrapB,Ty.agg] at hB
  split at hB
  ·rename_i fs hu
   obtain ⟨cs,rfl⟩:=okWide_agg hu hv
   exact ⟨cs.toList,by simp,hy⟩
  ·cases hB
theorem has_spot {r:Reach} {b0:Nat} {T E:TypeId} {a:Addr} {len cap:Nat} (hu:P.underlying T=some (.slice E)) (hv:Value.okWide P w r b0 T (.slice (some a) len cap)):a.spot=none∧a.block<w.heap.size:=by
 simp only [Value.okWide,hu,Cell.okWide,Cell.ok] at hv
 obtain ⟨_,_,hh⟩:=hv
 obtain ⟨_,hs,row,cells,hsh,_⟩:=hh
 refine ⟨hs,?_⟩
 rcases Nat.lt_or_ge a.block w.heap.size with hlt | hge
 ·exact hlt
 ·simp [World.shape?, Array.getElem?_eq_none hge] at hsh
theorem trod_arg {r:Reach} {b0:Nat} {t:Ty} {T:TypeId} {v:Value} {d:DataW H} {ps:List MemPlace} (hB:argB P t T=true) (hv:Value.okWide P w r b0 T v) (h:DataW.Trod enc P w base spare held T v d ps) :
  ∃ x:t.den,RepB w (Good w []) (toAtom t x) v:=by
 unfold argB at hB
 split at hB
 ·rename_i e
  split at hB
  ·rename_i E hu
   simp only [Bool.and_eq_true,Bool.not_eq_true'] at hB
   obtain ⟨a0,len,cap,rfl⟩:=okWide_slice hu hv
   obtain ⟨fuel,hf⟩:=h
   have hfit:∀ u∈(Value.slice a0 len cap).cells.toList,FitV w u:=fun u hu'=>by
    simp [Value.cells] at hu'
    subst hu'
    rintro a l c he
    cases he
    exact has_spot hu hv
   obtain ⟨u,ys,h1,h2⟩:=trod_slice_rep hu hB.1 (fun hz=>by have:=hB.2;rw [hz] at this;simp at this) hfit hf
   simp [Value.cells] at h1
   subst h1
   exact ⟨ys,h2⟩
  ·cases hB
 ·rename_i hns
  rw [Bool.or_eq_true] at hB
  rcases hB with hB | hB
  ·exact trod_flat_arg hB hv h
  ·simp only [Bool.and_eq_true] at hB
   obtain ⟨ha,hc,hB⟩:=hB
   have hc:=Nat.eq_of_beq_eq_true hc
   obtain ⟨fuel,hf⟩:=h
   have hB':=hB
   unfold wrapB at hB
   simp only at hB
   split at hB
   ·rename_i fs hu
    simp only [Value.okWide,hu] at hv
    obtain ⟨cs,rfl,_,hrow⟩:=hv
    obtain ⟨y,hy⟩:=(trod_repW t).1 T fuel _ _ (by rw [ha];exact hB') hc (row_fit hrow) (by simpa [Value.cells] using hf)
    refine ⟨y,?_⟩
    cases t with
    | cons a b=>exact ⟨cs.toList,by simp,hy⟩
    | unit=>exact ⟨cs.toList,by simp,hy⟩
    | _=>cases ha
   ·cases hB
theorem trod_args {r:Reach} {b0:Nat}:∀ {ts:List Ty} {Ts:List TypeId} {vs:List Value} {ds:List (DataW H)} {ps:List MemPlace},ts.length=Ts.length→(∀ (i:Nat) (t:Ty) (T:TypeId),ts[i]? = some t→Ts[i]? = some T→argB P t T=true) →
  (∀ (j:Nat) T v,Ts[j]? = some T→vs[j]? = some v→Value.okWide P w r b0 T v)→DataW.TrodAll enc P w base spare held Ts vs ds ps →
  ∃ (x:sigDen (ts.map AT.v)) (bss:List (List Nat)),bss.flatten=[]∧ArgsRep w (Good w []) (ts.map AT.v) x vs bss
 | [],[],[],[],_,_,_,_,_=>⟨(),[],rfl,rfl,rfl⟩
 | t :: ts,T :: Ts,v :: vs,d :: ds,ps,hl,hB,hv,h=>by
  obtain ⟨p,q,h1,h2,_⟩:=h
  obtain ⟨x,hx⟩:=trod_arg (hB 0 t T rfl rfl) (hv 0 T v rfl rfl) h1
  obtain ⟨y,bss,hb,hy⟩:=trod_args (by simpa using hl) (fun i t T h1 h2=>hB (i+1) t T (by simpa using h1) (by simpa using h2)) (fun j T v h1 h2=>hv (j+1) T v (by simpa using h1) (by simpa using h2)) h2
  exact ⟨(x,y),[] :: bss,by simpa using hb,v,vs,[],bss,rfl,rfl,⟨rfl,hx⟩,hy⟩
 | [],_ :: _,_,_,_,hl,_,_,_=>by simp at hl
 | _ :: _,[],_,_,_,hl,_,_,_=>by simp at hl
end
end Go.Am
namespace Go.Am
open Go.ChangeShapes Go.WideShapes Go.ChangeAt Go.RowKit
set_option linter.unusedVariables false
set_option linter.unusedSimpArgs false
section
variable {H:Type} {enc:TypeId×Value→H} {P:Program} {W W':World}
theorem trodAll_below (hl:laidOutB P=true) (hb:Below W.heap.size W W'):∀ {ts:List TypeId} {vs:List Value} {ds:List (DataW H)} {ps:List MemPlace},(∀ t∈ts,P.readableRec t=true∧t<P.types.size) →
  DataW.TrodAll enc P W 0 (fun _=>true) true ts vs ds ps→(∀ x∈ps,x.block<W.heap.size)→DataW.TrodAll enc P W' 0 (fun b=>decide (b<W.heap.size)) true ts vs ds ps
 | [],[],[],_,_,h,_=>h
 | t :: ts,v :: vs,d :: ds,ps,hr,⟨p,q,h1,h2,e⟩,hlt=>by
  obtain ⟨r1,r2⟩:=hr t (List.mem_cons_self ..)
  refine ⟨p,q,Below.trod hl r1 r2 h1 hb (fun x hx=>hlt x (by rw [e];exact List.mem_append_left _ hx)),trodAll_below hl hb (fun t ht=>hr t (List.mem_cons_of_mem _ ht)) h2 (fun x hx=>hlt x (by rw [e];exact List.mem_append_right _ hx)),e⟩
 | [],[],_ :: _,_,_,h,_=>h.elim
 | [],_ :: _,_,_,_,h,_=>h.elim
 | _ :: _,[],_,_,_,h,_=>h.elim
 | _ :: _,_ :: _,[],_,_,h,_=>h.elim
theorem trodAll_len {base:Nat} {sp:Nat→Bool} {held:Bool}:∀ {ts:List TypeId} {vs:List Value} {ds:List (DataW H)} {ps:List MemPlace},DataW.TrodAll enc P W base sp held ts vs ds ps→ds.length=ts.length∧vs.length=ts.length
 | [],[],[],_,h=>⟨rfl,rfl⟩
 | t :: ts,v :: vs,d :: ds,ps,⟨p,q,h1,h2,e⟩=>by obtain ⟨a,b⟩:=trodAll_len h2;exact ⟨by simp [a],by simp [b]⟩
 | [],[],_ :: _,_,h=>h.elim
 | [],_ :: _,_,_,h=>h.elim
 | _ :: _,[],_,_,h=>h.elim
 | _ :: _,_ :: _,[],_,h=>h.elim
end
def argsB (P:Program):List Ty→List TypeId→Bool
 | [],[]=>true
 | t :: ts,T :: Ts=>argB P t T&&argsB P ts Ts
 | _,_=>false
theorem argsB_spec {P:Program}:∀ {ts:List Ty} {Ts:List TypeId},argsB P ts Ts=true→ts.length=Ts.length∧∀ (i:Nat) (t:Ty) (T:TypeId),ts[i]? = some t→Ts[i]? = some T→argB P t T=true
 | [],[],_=>⟨rfl,fun i t T h=>by simp at h⟩
 | t :: ts,T :: Ts,h=>by
  simp only [argsB,Bool.and_eq_true] at h
  obtain ⟨h1,h2⟩:=argsB_spec h.2
  refine ⟨by simp [h1],fun i u U hu hU => ?_⟩
  cases i with
  | zero=>simp at hu hU;subst hu hU;exact h.1
  | succ i=>exact h2 i u U (by simpa using hu) (by simpa using hU)
 | [],_ :: _,h=>by cases h
 | _ :: _,[],h=>by cases h
def lawSpec (ts:List Ty):Spec:={ sig:=ts.map AT.v,pre:=fun _=>True,res:=fun _=>[⟨.bool,true⟩] }
theorem law_calls {H:Type} {enc:TypeId×Value→H} {C:Checked} {f:FuncId} {fn:Func} {s:ChangeSpec} {apart fresh handsOn:Bool}
  (hl:laidOutB C.prog=true) (hr:(fn.params.toList.all fun t=>C.prog.readableRec t&&Nat.blt t C.prog.types.size)=true)
  (ts:List Ty) (hts:argsB C.prog ts fn.params.toList=true) {tb:TypeId} (hres:fn.resultTypes = #[tb]) (htb:C.prog.underlying tb=some .bool) (hvars:s.vars=[])
  (hs:∀ ds:List (DataW H),ds.length=fn.params.toList.length→(s.fn H (ds++[])).results=[.lit (.bool true)]∧(s.fn H (ds++[])).args=ds∧(s.fn H (ds++[])).vars=[])
  (hcon:Contract C.prog f (lawSpec ts)) {W:World} (hg:GInv W) {base:Nat} {args:Array Value} {ds gs:List (DataW H)} {before:List MemPlace}
  (hval:∀ (j:Nat) t v,fn.params[j]? = some t→args[j]? = some v→Value.okWide C.prog W .any base t v)
  (hW:DataW.Whole enc C.prog fn.params.toList s.vars apart W args.toList ds gs before) :
  Calls C.prog f args W fun e W'=>∃ v,e = .returned v∧s.post enc C.prog fn apart fresh handsOn false W args v W':=by
 have hW':=hW
 obtain ⟨p,q,hA,hV,hbef,hfz,hnd⟩:=hW
 rw [hvars] at hV
 obtain ⟨rfl,rfl⟩:=trodVars_none hV
 obtain ⟨hlen,hall⟩:=argsB_spec hts
 obtain ⟨x,bss,hb0,hx⟩:=trod_args (r := .any) (b0:=base) hlen hall (fun j T v h1 h2=>hval j T v (by simpa using h1) (by simpa using h2)) hA
 have hcall:=hcon W (Good W []) (Good W []) x args.toList bss (by rw [hb0];exact ⟨hg,hg.size,fun b hb=>by cases hb⟩) (by rw [hb0];exact fun b hb=>hb) (fun b hb=>hb) trivial hx (by rw [hb0];exact List.nodup_nil)
 rw [hb0] at hcall
 refine hcall.mono ?_
 rintro e W' ⟨rs,ubs,rbs,F,rfl,hk,hrr,_⟩
 have hrs:rs=[.bool true]:=by
  obtain ⟨v,s',b,bs,h1,h2,⟨cs,h3,h4⟩,h5⟩:=hrr
  obtain ⟨h3,_⟩:=h3
  simp only [IsVal] at h4
  rw [h3] at h4
  cases h4
  rw [h1,h5.1]
 subst hrs
 have hbel:=hk.below
 obtain ⟨g1,g2,g3⟩:=hs ds (trodAll_len hA).1
 have hlt:∀ y∈p,y.block<W.heap.size:=fun y hy=>hW'.lt y (by rw [hbef];exact List.mem_append_left _ hy)
 have hr':∀ t∈fn.params.toList,C.prog.readableRec t=true∧t<C.prog.types.size:=fun t ht=>by
  have:=List.all_eq_true.1 hr t ht
  simp only [Bool.and_eq_true] at this
  exact ⟨this.1,Nat.le_of_ble_eq_true this.2⟩
 refine ⟨.bool true,rfl,ds,[],before,[],p,[],hW',?_,?_,?_,hbel.frame _,fun h=>by cases h⟩
 ·rw [hres,g1]
  exact trodAll_mk1 (shut_bool htb true)
 ·rw [g2]
  exact trodAll_below hl hbel hr' hA hlt
 ·rw [hvars,g3]
  rfl
theorem law_lifted_laid {H:Type} {enc:TypeId×Value→H} {a:Assume} {C:Checked} {os:Os} {f:FuncId} {fn:Func} {s:ChangeSpec} {conds:List PathCond} {apart fresh handsOn:Bool} {laid:List (String×DataW Unit)}
  (own:ownKnob C.prog.godebug=none) (started:os.Started) (noInit:C.prog.inits.idxOf? f=none) (hfn:C.prog.funcs[f]? = some fn)
  (witness:∃ (w:World) (tape:Tape) (i:Input),w.os=os∧(w.forCall tape i).Shaped C.prog∧i.vars=[]∧Input.okWide C.prog (w.forCall tape i) .any w.heap.size f i ∧
   ((s.pre enc C.prog fn conds apart (w.forCall tape i).memory i.args∧laidMetH C.prog laid (w.forCall tape i).memory)∧sizedMet enc C.prog fn (OpenSpec.ofChange s) apart (w.forCall tape i).memory i.args)∧a.holds C.prog (lone (Frame.enter C.prog f i.args .normal) [] (w.forCall tape i)))
  (hl:laidOutB C.prog=true) (hr:(fn.params.toList.all fun t=>C.prog.readableRec t&&Nat.blt t C.prog.types.size)=true)
  (ts:List Ty) (hts:argsB C.prog ts fn.params.toList=true) {tb:TypeId} (hres:fn.resultTypes = #[tb]) (htb:C.prog.underlying tb=some .bool) (hvars:s.vars=[])
  (hs:∀ ds:List (DataW H),ds.length=fn.params.toList.length→(s.fn H (ds++[])).results=[.lit (.bool true)]∧(s.fn H (ds++[])).args=ds∧(s.fn H (ds++[])).vars=[])
  (hg:∀ W:World,W.ShapedOpen C.prog→laidMetH C.prog laid W→GInv W) (hcon:Contract C.prog f (lawSpec ts)) :
  ReturnsInHanded a C os f .any (fun w args=>(s.pre enc C.prog fn conds apart w args∧laidMetH C.prog laid w)∧sizedMet enc C.prog fn (OpenSpec.ofChange s) apart w args) (s.post enc C.prog fn apart fresh handsOn false):=by
 refine returnsInHanded_of_calls own started noInit witness ?_
 intro w tape i _ hsh _ hok hpre hholds
 obtain ⟨_,_,_,fn',hfn',_,_,_,_,hval⟩:=hok
 have e:fn'=fn:=Option.some.inj (hfn'.symm.trans hfn)
 subst e
 obtain ⟨⟨⟨ds,gs,before,hw,hc⟩,hx⟩,hz⟩:=hpre
 have hw':=DataW.Whole.of_heap (w':=w.forCall tape i) (by rfl) hw
 have hx':laidMetH C.prog laid (w.forCall tape i):=hx.of_heap (by rfl)
 refine (law_calls (fresh:=fresh) (handsOn:=handsOn) hl hr ts hts hres htb hvars hs hcon (hg _ hsh hx') hval hw').mono fun e W' ⟨v,he,hp⟩ => ?_
 subst he
 exact ChangeSpec.post_blind hp
end Go.Am
namespace Go.Am
set_option linter.unusedVariables false
set_option linter.unusedSimpArgs false
def bodyOf (f:Func):Code:=match f.body with | some c=>c | none => .skip
def firstRegion:Code→Nat
 | .region id _ _=>id
 | .seq x _=>firstRegion x
 | .block _ c=>firstRegion c
 | .loop c=>firstRegion c
 | .scope c=>firstRegion c
 | _=>999999
def orL:Option (List Item)→Option (List Item)→Option (List Item)
 | some k,_=>some k
 | none,x=>x
def findC (id:Nat):Code→List Item→Option (List Item)
 | .seq x y,k=>orL (findC id x (.code y :: k)) (findC id y k)
 | .block b c,k=>findC id c (.inBlock b :: k)
 | .loop c,k=>match Nat.beq (firstRegion c) id with
  | true=>some (.code c :: .inLoop c :: k)
  | false=>findC id c (.inLoop c :: k)
 | .cond _ x y,k=>orL (findC id x k) (findC id y k)
 | .region r ops d,k=>match Nat.beq r id with
  | true=>some (.code (.region r ops d) :: k)
  | false=>none
 | _,_=>none
def cutAt (c:Code) (id:Nat):List Item:=match findC id c [] with | some k=>k | none=>[]
def nilA (t:Nat) (ty:Ty) (EL:Env×Heap):Env×Heap :=
 match EL.1.get t with
 | .a (.val (.slice none _ _))=>(EL.1.set t (.a (.osl EL.2.length none)),EL.2++[some ⟨ty,[], !ty.flat,none,none⟩])
 | _=>EL
def nilsA:List (Nat×Ty)→Env×Heap→Env×Heap
 | [],EL=>EL
 | (t,ty) :: r,EL=>nilsA r (nilA t ty EL)
def borUp1 (A:Arr):Arr :=
 match A.t.flat,A.bor with
 | false,false=>match A.ls,A.sm with
  | none,none=>match A.xs.isEmpty with
   | true=>⟨A.t,A.xs,true,none,none⟩
   | false=>A
  | _,_=>A
 | _,_=>A
def borUp (L:Heap):Heap:=L.map fun o=>match o with | some A=>some (borUp1 A) | none=>none
theorem hget_borUp:∀ (L:Heap) (s:Nat),hget (borUp L) s=(hget L s).map borUp1
 | [],_=>rfl
 | some B :: L,0=>rfl
 | none :: L,0=>rfl
 | o :: L,s+1=>hget_borUp L s
theorem borUp1_cases (A:Arr):borUp1 A=A∨(A.xs=[]∧A.ls=none∧A.sm=none∧borUp1 A=⟨A.t,A.xs,true,none,none⟩):=by
 unfold borUp1
 split
 ·split
  ·split
   ·rename_i h1 h2 _ h3
    exact .inr ⟨List.isEmpty_iff.1 h3,h1,h2,rfl⟩
   ·exact .inl rfl
  ·exact .inl rfl
 ·exact .inl rfl
section
variable {P:Program} {n:Nat} {K:Ctx} {G:Nat→Prop} {w0 w:World} {a:Act} {V:Nat→Value} {own:Nat→List Nat} {f:FuncId} {R:Ending→World→Prop} {E:Env} {L:Heap}
theorem RelV.reset (hR:RelV n K w0 G w a E L V own) {t:Nat} {p:PV} (hp:RepP w0 G L V p (a.tmps.getD t undef)):RelV n K w0 G w a (E.set t p) L V own :=
 ⟨hR.glob,hR.kept,hR.size,hR.defers,hR.glt,hR.gref,hR.gsub,hR.gold,hR.gup,hR.heap,hR.good,hR.nodup,hR.apart,hR.boxs,hR.small,fun i=>by
  rw [Env.get_set]
  split
  ·rename_i h;subst h;exact hp
  ·exact hR.env i⟩
theorem nilA_spec (hR:RelV n K w0 G w a E L V own) (t:Nat) (ty:Ty):∃ V' own',RelV n K w0 G w a (nilA t ty (E,L)).1 (nilA t ty (E,L)).2 V' own':=by
 unfold nilA
 split
 ·rename_i m c hg
  have hv:=hR.env t
  simp only at hg
  rw [hg] at hv
  obtain ⟨hv,h0,h1⟩:=hv
  subst h0 h1
  have hE:EntC w0 G w ⟨ty,[], !ty.flat,none,none⟩ (.slice none 0 0) []:=⟨by simp [maxLen],.inl ⟨_,rfl,rfl,rfl⟩⟩
  have hR':=hR.grow hE List.nodup_nil (fun b hb=>by cases hb) (fun r A hA b hb hm=>by cases hm)
  refine ⟨_,_,hR'.reset ?_⟩
  rw [hv]
  exact repA_new (w0:=w0) (G:=G) (u:=w0) (G':=G) (w:=w) hE
 ·exact ⟨V,own,hR⟩
theorem nilsA_spec:∀ {l:List (Nat×Ty)} {E:Env} {L:Heap} {V:Nat→Value} {own:Nat→List Nat},RelV n K w0 G w a E L V own→∃ V' own',RelV n K w0 G w a (nilsA l (E,L)).1 (nilsA l (E,L)).2 V' own'
 | [],E,L,V,own,hR=>⟨V,own,hR⟩
 | (t,ty) :: r,E,L,V,own,hR=>by
  obtain ⟨V',own',h⟩:=nilA_spec hR t ty
  show ∃ V' own',RelV n K w0 G w a (nilsA r (nilA t ty (E,L))).1 (nilsA r (nilA t ty (E,L))).2 V' own'
  generalize nilA t ty (E,L)=EL at h
  obtain ⟨E1,L1⟩:=EL
  exact nilsA_spec h
theorem RelV.borUp (hR:RelV n K w0 G w a E L V own):RelV n K w0 G w a E (Am.borUp L) V own:=by
 have hback:∀ s B,hget (Am.borUp L) s=some B→∃ C,hget L s=some C∧B=borUp1 C:=fun s B h=>by
  rw [hget_borUp] at h
  cases hC:hget L s with
  | none=>rw [hC] at h;cases h
  | some C=>rw [hC] at h;cases h;exact ⟨C,rfl,rfl⟩
 have ht:∀ C,(borUp1 C).t=C.t:=fun C=>by rcases borUp1_cases C with h | ⟨_,_,_,h⟩ <;> rw [h]
 have hl:∀ C,(borUp1 C).xs.length=C.xs.length:=fun C=>by rcases borUp1_cases C with h | ⟨_,_,_,h⟩ <;> rw [h]
 have hls:∀ C,(borUp1 C).ls=C.ls:=fun C=>by rcases borUp1_cases C with h | ⟨_,h2,_,h⟩ <;> rw [h];exact h2.symm
 have hag:∀ s,Agree L V (Am.borUp L) V s:=fun s=>⟨rfl,fun A hA=>⟨borUp1 A,by rw [hget_borUp,hA];rfl,ht A,hl A,fun ls h=>⟨ls,by rw [hls];exact h⟩⟩⟩
 refine ⟨hR.glob,hR.kept,hR.size,hR.defers,hR.glt,hR.gref,hR.gsub,hR.gold,hR.gup,?_,?_,?_,?_,?_,?_,fun i => ?_⟩
 ·intro s B hs
  obtain ⟨C,h2,rfl⟩:=hback s B hs
  have h:=hR.heap s C h2
  rcases borUp1_cases C with e | ⟨e1,e2,e3,e⟩
  ·rw [e];exact h
  ·rw [e]
   obtain ⟨t,xs,bor,ls,sm⟩:=C
   simp only at e1
   subst e1
   refine ⟨h.1,?_⟩
   rcases h.2 with h | ⟨b,off,cap,cur,ty,fz,bss,h1,h2,h3,h4,h5,h6,h7,h8,h9⟩
   ·exact .inl h
   ·exact .inr ⟨b,off,cap,cur,ty,fz,bss,h1,h2,h3,h4,h5,h6,h7,h8,fun i x bi hx _=>by simp at hx⟩
 ·intro s B hs
  obtain ⟨C,h2,rfl⟩:=hback s B hs
  exact hR.good s C h2
 ·intro s B hs
  obtain ⟨C,h2,rfl⟩:=hback s B hs
  exact hR.nodup s C h2
 ·intro s u B D hs hu hsu
  obtain ⟨C,h2,rfl⟩:=hback s B hs
  obtain ⟨F,h4,rfl⟩:=hback u D hu
  exact hR.apart s u C F h2 h4 hsu
 ·intro s B ls hs hl'
  obtain ⟨C,h2,rfl⟩:=hback s B hs
  rw [hls] at hl'
  rw [ht]
  exact (hR.boxs s C ls h2 hl').agree fun u _=>hag u
 ·intro s B q hs hq
  obtain ⟨C,h2,rfl⟩:=hback s B hs
  rcases borUp1_cases C with e | ⟨_,_,_,e⟩
  ·rw [e] at hq ⊢;exact hR.small s C q h2 hq
  ·rw [e] at hq;cases hq
 ·exact repP_agree (hR.env i) fun u _=>hag u
def runN (tab:List TI) (ext:Ext) (wr:Bool) (n:Nat) (stops:List Nat) (m:Nat) (pins:List Nat) (nils:List (Nat×Ty)) (ks:List Nat) (rs:List Nat) (path:List Bool) (k:List Item) (E:Env) (L:Heap):Option (List Item×Env×Heap×List Prop) :=
 match runA tab ext wr n stops m true k ⟨path,[],E,L,[],pins⟩ with
 | some (.stop k' S)=>match nilsA nils (S.E,S.L) with
  | (E1,L1)=>match nodupB rs&&envIn rs (Am.keepE E1 ks)&&heapIn rs (borUp L1) rs&&decide (S.pins=pins) with
   | true=>some (k',renE rs (Am.keepE E1 ks),pickL rs (borUp L1),S.cs)
   | false=>none
 | _=>none
theorem AtV.runN {tab:List TI} {ext:Ext} (hT:TabOk P tab) (hX:ExtOk P ext) (hm:P.follows .mixedOrders=true) {wr:Bool} {stops:List Nat} {m:Nat} {q:Nat→Value} {pins:List Nat} {nils:List (Nat×Ty)} {ks:List Nat} {rs:List Nat} {path:List Bool} {k k':List Item} {E':Env} {L':Heap} {cs:List Prop}
  (h:Am.runN tab ext wr n stops m pins nils ks rs path k E L=some (k',E',L',cs)) (hc:All cs) (hk:AtV P f R n K q pins k' E' L'):AtV P f R n K q pins k E L:=by
 intro a w w0 G V own hR hq
 unfold Am.runN at h
 split at h
 ·rename_i k1 S hr
  split at h
  rename_i E1 L1 hnil
  split at h
  ·rename_i hb
   simp only [Bool.and_eq_true,decide_eq_true_eq] at hb
   obtain ⟨⟨⟨hn,hb⟩,hh⟩,hp⟩:=hb
   cases h
   refine runA_run hT hX hm hr hc hR ⟨fun t d ht=>by simp [lookB] at ht,hq⟩ ?_
   intro a' w' w1 G1 V' own' hR' hq'
   rw [hp] at hq'
   obtain ⟨V2,own2,hR2⟩:=nilsA_spec (l:=nils) hR'
   rw [hnil] at hR2
   exact hk _ _ _ _ _ _ ((hR2.borUp.keepE ks).renum hn hb hh) hq'
  ·cases h
 ·cases h
end
end Go.Am
namespace Go.Am
set_option linter.unusedVariables false
instance (k:IntKind) (n:Int):Decidable (InR k n):=inferInstanceAs (Decidable (k.min≤n∧n≤k.max))
theorem ArgsRep.wf {w:World} {G:Nat→Prop} {sig:List AT} {x:sigDen sig} {vs:List Value} {bss:List (List Nat)} (h:ArgsRep w G sig x vs bss):wfSig sig x:=args_wf h
theorem Contract.says {P:Program} {f:FuncId} {sig:List AT} {pre pre':sigDen sig→Prop} {upd:sigDen sig→List (Option Lst)} {res res':sigDen sig→List Dyn} {kds:List RK}
  (hc:Contract P f { sig:=sig,pre:=pre,upd:=upd,res:=res,kds:=kds }) (h:∀ x,pre' x→wfSig sig x→pre x∧res x=res' x):Contract P f { sig:=sig,pre:=pre',upd:=upd,res:=res',kds:=kds }:=by
 intro w G G0 x vs bss hgo hG hG0 hp ha hn
 obtain ⟨h1,h2⟩:=h x hp (argsK_wf ha)
 have:=hc w G G0 x vs bss hgo hG hG0 h1 ha hn
 simp only at this ⊢
 rw [h2] at this
 exact this
end Go.Am
namespace Go.Am
set_option linter.unusedVariables false
set_option linter.unusedSimpArgs false
theorem bytes_eq (a b:ByteArray):(ByteArray.toList a==ByteArray.toList b)=true↔a=b:=by
 rw [← beq_toListBytes]
 obtain ⟨⟨x⟩⟩:=a
 obtain ⟨⟨y⟩⟩:=b
 show ((⟨x⟩:Array UInt8)==⟨y⟩)=true↔_
 simp
theorem bytes_ne (a b:ByteArray):(ByteArray.toList a==ByteArray.toList b)=false↔a≠b:=by
 rw [ne_eq, ← bytes_eq,Bool.not_eq_true]
theorem eqD_eq:∀ {t:Ty} {x y:t.den},t.flat=true→(eqD t x y=true↔x=y)
 | .int _,x,y,_=>by simp [eqD]
 | .bool,x,y,_=>by simp [eqD]
 | .fn,x,y,_=>by simp [eqD]
 | .str,x,y,_=>by simp only [eqD];exact bytes_eq x y
 | .unit,x,y,_=>by simp [eqD]
 | .cons a b,x,y,h=>by
  simp only [Ty.flat,Bool.and_eq_true] at h
  obtain ⟨x1,x2⟩:=x
  obtain ⟨y1,y2⟩:=y
  simp only [eqD,Bool.and_eq_true,eqD_eq h.1,eqD_eq h.2,Prod.mk.injEq]
 | .sl _,_,_,h=>by cases h
theorem getD_lt {α:Type} (xs:List α) (i:Nat) (d:α) (h:i<xs.length):xs.getD i d=xs[i]:=by
 rw [List.getD_eq_getElem?_getD,List.getElem?_eq_getElem h];rfl
theorem drop_get {α:Type} (xs:List α) (i:Nat) (d:α) (h:i<xs.length):xs.drop i=xs.getD i d :: xs.drop (i+1):=by
 rw [getD_lt xs i d h, ← List.drop_eq_getElem_cons h]
theorem drop_end {α:Type} (xs:List α) (i:Nat) (h:xs.length≤i):xs.drop i=[]:=List.drop_eq_nil_iff.2 h
theorem inR_up {α:Type} {xs:List α} (h:xs.length≤maxLen) {i:Nat} (hi:i<xs.length):InR .i64 ((i:Int)+1):=by
 have e1:(IntKind.i64).min = -9223372036854775808:=by decide
 have e2:(IntKind.i64).max=9223372036854775807:=by decide
 have hm:maxLen≤9223372036854775807:=by decide
 simp only [InR,e1,e2]
 omega
theorem i64_iff (n:Int):InR .i64 n ↔ -9223372036854775808≤n∧n≤9223372036854775807:=by
 have e1:(IntKind.i64).min = -9223372036854775808:=by decide
 have e2:(IntKind.i64).max=9223372036854775807:=by decide
 simp only [InR,e1,e2]
theorem u8_iff (n:Int):InR .u8 n↔0≤n∧n≤255:=by
 have e1:(IntKind.u8).min=0:=by decide
 have e2:(IntKind.u8).max=255:=by decide
 simp only [InR,e1,e2]
theorem set_step {α:Type} (x0:List α) (d:α) (i:Nat) (h:i<x0.length) (l:Nat) (hl:l=x0.length - i):(x0.take i++List.replicate l d).set i (x0.getD i d)=x0.take (i+1)++List.replicate (l - 1) d:=by
 have e:(x0.take i).length=i:=by simp;omega
 obtain ⟨l,rfl⟩:∃ m,l=m+1:=⟨l - 1,by omega⟩
 rw [List.set_append_right _ _ (by omega),e,Nat.sub_self,List.replicate_succ,List.set_cons_zero,getD_lt _ _ _ h,List.take_succ_eq_append_getElem h,List.append_assoc]
 rfl
end Go.Am
namespace Go.Am
set_option linter.unusedVariables false
set_option linter.unusedSimpArgs false
theorem bytesOf_length (s:ByteArray):(bytesOf s).length=s.size:=by simp [bytesOf]
theorem byte_get (s:ByteArray) (i:Nat):((List.getD (Array.toList (ByteArray.data s)) i 0).toNat:Int)=(bytesOf s).getD i 0:=by
 unfold bytesOf
 rw [List.getD_eq_getElem?_getD,List.getD_eq_getElem?_getD,List.getElem?_map]
 cases h:s.data.toList[i]? with
 | none=>rfl
 | some b=>rfl
theorem bytesOf_range (s:ByteArray):∀ b∈bytesOf s,0≤b∧b≤255:=by
 intro b hb
 unfold bytesOf at hb
 obtain ⟨x,_,rfl⟩:=List.mem_map.1 hb
 have:=x.toNat_lt
 omega
theorem bytesOf_inj {s t:ByteArray} (h:bytesOf s=bytesOf t):s=t:=by
 obtain ⟨⟨x⟩⟩:=s
 obtain ⟨⟨y⟩⟩:=t
 congr 2
 unfold bytesOf at h
 simp only at h
 induction x generalizing y with
 | nil=>cases y with
  | nil=>rfl
  | cons b s=>cases h
 | cons a r ih=>cases y with
  | nil=>cases h
  | cons b s =>
   simp only [List.map_cons,List.cons.injEq] at h
   have h1:a=b:=by
    have:=h.1
    exact UInt8.toNat_inj.1 (by omega)
   rw [h1,ih s h.2]
def goL {α β δ:Type} (f:β→α→Except δ β) (fin:β→δ):β→List α→δ
 | b,[]=>fin b
 | b,x :: r=>match f b x with
  | .ok b'=>goL f fin b' r
  | .error d=>d
theorem loop_list {α β δ:Type} (xs:List α) (d:α) (f:β→α→Except δ β) (fin:β→δ) (Inv:Nat→β→Prop) (R:Nat→Int→β→δ→Prop)
  (hend:∀ n b,Inv xs.length b→R (n+1) xs.length b (fin b))
  (hstep:∀ n (i:Nat) b,i<xs.length→Inv i b→match f b (xs.getD i d) with
   | .ok b'=>Inv (i+1) b'∧∀ ds,R n (((i:Nat):Int)+1) b' ds→R (n+1) (i:Int) b ds
   | .error ds=>R (n+1) (i:Int) b ds) :
  ∀ (k i:Nat) b,i+k=xs.length→Inv i b→R (k+1) (i:Int) b (goL f fin b (xs.drop i)):=by
 intro k
 induction k with
 | zero =>
  intro i b hi hinv
  have:i=xs.length:=by omega
  subst this
  rw [drop_end xs _ (Nat.le_refl _)]
  exact hend 0 b hinv
 | succ k ih =>
  intro i b hi hinv
  have h:=hstep (k+1) i b (by omega) hinv
  rw [drop_get xs i d (by omega)]
  simp only [goL]
  split at h
  ·rename_i b' hf
   have:=ih (i+1) b' (by omega) h.1
   exact h.2 _ (by simpa using this)
  ·exact h
theorem loop_all {α β δ:Type} (xs:List α) (d:α) (f:β→α→Except δ β) (fin:β→δ) (Inv:Nat→β→Prop) (R:Nat→Int→β→δ→Prop) {b:β} (h0:Inv 0 b)
  (hend:∀ n b,Inv xs.length b→R (n+1) xs.length b (fin b))
  (hstep:∀ n (i:Nat) b,i<xs.length→Inv i b→match f b (xs.getD i d) with
   | .ok b'=>Inv (i+1) b'∧∀ ds,R n (((i:Nat):Int)+1) b' ds→R (n+1) (i:Int) b ds
   | .error ds=>R (n+1) (i:Int) b ds):R (xs.length+1) 0 b (goL f fin b xs):=by
 have:=loop_list xs d f fin Inv R hend hstep xs.length 0 b (by omega) h0
 simpa using this
theorem goL_all {α δ:Type} (q:α→Bool) (no yes:δ):∀ (l:List α) (f:Unit→α→Except δ Unit) (fin:Unit→δ),(∀ x,f () x=if q x=true then .ok () else .error no)→fin ()=yes→goL f fin () l=if l.all q=true then yes else no
 | [],f,fin,hf,hfin=>by simp [goL,hfin]
 | x :: r,f,fin,hf,hfin=>by
  simp only [goL,hf]
  cases h:q x with
  | true=>simp only [if_true];rw [goL_all q no yes r f fin hf hfin];simp [h]
  | false=>simp [h]
theorem loop_test {α δ:Type} (xs:List α) (d:α) (q:α→Bool) (no yes:δ) (R:Nat→Int→δ→Prop) (hend:∀ n,R (n+1) xs.length yes)
  (hok:∀ n (i:Nat),i<xs.length→q (xs.getD i d)=true→∀ ds,R n (((i:Nat):Int)+1) ds→R (n+1) (i:Int) ds)
  (hno:∀ n (i:Nat),i<xs.length→q (xs.getD i d)=false→R (n+1) (i:Int) no):R (xs.length+1) 0 (if xs.all q=true then yes else no):=by
 have key:=loop_all (b:=()) xs d (fun (_:Unit) x=>if q x=true then .ok () else .error no) (fun _=>yes) (fun _ _=>True) (fun n i _ ds=>R n i ds) trivial (fun n _ _=>hend n) (fun n i _ hi _=>by
  cases h:q (xs.getD i d) with
  | true=>exact ⟨trivial,hok n i hi h⟩
  | false=>exact hno n i hi h)
 rw [goL_all q no yes _ _ _ (fun _=>rfl) rfl] at key
 exact key
def allI {α:Type} (q:Nat→α→Bool):Nat→List α→Bool
 | _,[]=>true
 | i,x :: r=>q i x&&allI q (i+1) r
theorem loop_testI {α δ:Type} (xs:List α) (d:α) (q:Nat→α→Bool) (no yes:δ) (R:Nat→Int→δ→Prop) (hend:∀ n,R (n+1) xs.length yes)
  (hok:∀ n (i:Nat),i<xs.length→q i (xs.getD i d)=true→∀ ds,R n (((i:Nat):Int)+1) ds→R (n+1) (i:Int) ds)
  (hno:∀ n (i:Nat),i<xs.length→q i (xs.getD i d)=false→R (n+1) (i:Int) no):R (xs.length+1) 0 (if allI q 0 xs=true then yes else no):=by
 have key:∀ (k i:Nat),i+k=xs.length→R (k+1) (i:Int) (if allI q i (xs.drop i)=true then yes else no):=by
  intro k
  induction k with
  | zero =>
   intro i hi
   have:i=xs.length:=by omega
   subst this
   rw [drop_end xs _ (Nat.le_refl _)]
   simpa [allI] using hend 0
  | succ k ih =>
   intro i hi
   rw [drop_get xs i d (by omega)]
   by_cases h:q i (xs.getD i d)=true
   ·have h2:=hok (k+1) i (by omega) h _ (by have:=ih (i+1) (by omega);rwa [show ((i+1:Nat):Int)=(i:Int)+1 from by omega] at this)
    simp only [allI,h,Bool.true_and]
    exact h2
   ·have h:=Bool.eq_false_iff.2 h
    simp only [allI,h,Bool.false_and,Bool.false_eq_true,if_false]
    exact hno (k+1) i (by omega) h
 have:=key xs.length 0 (by omega)
 simpa using this
theorem allI_plain {α:Type} (q:α→Bool):∀ (l:List α) (i:Nat),allI (fun _ x=>q x) i l=l.all q
 | [],_=>rfl
 | x :: r,i=>by simp [allI,allI_plain q r]
theorem allI_congr {α:Type} {p q:Nat→α→Bool}:∀ (l:List α) (i:Nat),(∀ j x,i≤j→p j x=q j x)→allI p i l=allI q i l
 | [],_,_=>rfl
 | x :: r,i,h=>by
  simp only [allI]
  rw [h i x (Nat.le_refl _),allI_congr r (i+1) (fun j x hj=>h j x (by omega))]
theorem loop_find {α δ:Type} (xs:List α) (d:α) (q:α→Bool) (none':δ) (some':Int→δ) (R:Nat→Int→δ→Prop) (hend:∀ n,R (n+1) xs.length none')
  (hgo:∀ n (i:Nat),i<xs.length→q (xs.getD i d)=false→∀ ds,R n (((i:Nat):Int)+1) ds→R (n+1) (i:Int) ds)
  (hhit:∀ n (i:Nat),i<xs.length→q (xs.getD i d)=true→R (n+1) (i:Int) (some' i)):R (xs.length+1) 0 (match xs.findIdx? q with | some k=>some' (k:Nat) | none=>none'):=by
 have key:∀ (k i:Nat),i+k=xs.length→R (k+1) (i:Int) (match (xs.drop i).findIdx? q with | some j=>some' ((i+j:Nat):Int) | none=>none'):=by
  intro k
  induction k with
  | zero =>
   intro i hi
   have:i=xs.length:=by omega
   subst this
   rw [drop_end xs _ (Nat.le_refl _)]
   exact hend 0
  | succ k ih =>
   intro i hi
   rw [drop_get xs i d (by omega),List.findIdx?_cons]
   cases h:q (xs.getD i d) with
   | true=>simpa using hhit (k+1) i (by omega) h
   | false =>
    have h2:=hgo (k+1) i (by omega) h _ (by have:=ih (i+1) (by omega);simpa using this)
    simp only [Bool.false_eq_true,if_false]
    cases hf:List.findIdx? q (List.drop (i+1) xs) with
    | none=>rw [hf] at h2;simpa using h2
    | some j =>
     rw [hf] at h2
     simp only [Option.map_some] at h2 ⊢
     rw [show i+(j+1)=i+1+j from by omega]
     exact h2
 have:=key xs.length 0 (by omega)
 simpa using this
def idx:Option Nat→Int
 | some k=>(k:Nat)
 | none => -1
theorem findIdx_any {α:Type} (q:α→Bool):∀ (l:List α),idx (l.findIdx? q)≥0↔l.any q=true:=by
 intro l
 have h:=List.findIdx?_isSome (xs:=l) (p:=q)
 rw [← h]
 cases l.findIdx? q with
 | none=>simp [idx]
 | some k=>simp [idx]
theorem mem_getD {α:Type} (xs:List α) (i:Nat) (d:α) (h:i<xs.length):xs.getD i d∈xs:=by
 rw [getD_lt _ _ _ h];exact List.getElem_mem _
end Go.Am
namespace Go.Am
set_option linter.unusedVariables false
set_option linter.unusedSimpArgs false
open Go.RowKit (Below)
theorem args_noOwn {w:World} {G:Nat→Prop}:∀ {sig:List AT} {x:sigDen sig} {vs:List Value} {bss:List (List Nat)},noOwn sig=true→ArgsRep w G sig x vs bss→bss.flatten=[]∧ownVals sig vs=[]
 | [],_,vs,bss,_,⟨h1,h2⟩=>by subst h1 h2;exact ⟨rfl,rfl⟩
 | .v t :: r,x,vs,bss,h,⟨v,s,b,bs,h1,h2,h3,h4⟩=>by
  subst h1 h2
  obtain ⟨e1,e2⟩:=args_noOwn (sig:=r) h h4
  exact ⟨by rw [List.flatten_cons,h3.1,e1];rfl,e2⟩
 | .p t :: r,x,vs,bss,h,⟨v,s,b,bs,h1,h2,h3,h4⟩=>by
  subst h1 h2
  obtain ⟨e1,e2⟩:=args_noOwn (sig:=r) h h4
  exact ⟨by rw [List.flatten_cons,h3.1,e1];rfl,e2⟩
 | .fn f c :: r,x,vs,bss,h,⟨v,s,b,bs,h1,h2,h3,h4⟩=>by
  subst h1 h2
  obtain ⟨e1,e2⟩:=args_noOwn (sig:=r) h h4
  exact ⟨by rw [List.flatten_cons,h3.1,e1];rfl,e2⟩
 | .fns f :: r,x,vs,bss,h,⟨v,s,b,bs,h1,h2,h3,h4⟩=>by
  subst h1 h2
  obtain ⟨e1,e2⟩:=args_noOwn (sig:=r) h h4
  exact ⟨by rw [List.flatten_cons,h3.1,e1];rfl,e2⟩
 | .own t :: r,_,_,_,h,_=>by cases h
 | .pb t :: r,_,_,_,h,_=>by cases h
 | .po t :: r,_,_,_,h,_=>by cases h
 | .sv t :: r,_,_,_,h,_=>by cases h
theorem plain_noOwn:∀ {sig:List AT},noOwn sig=true→plainSig sig=true
 | [],_=>rfl
 | .v t :: r,h=>plain_noOwn (sig:=r) h
 | .p t :: r,h=>plain_noOwn (sig:=r) h
 | .fn f c :: r,h=>plain_noOwn (sig:=r) h
 | .fns f :: r,h=>plain_noOwn (sig:=r) h
 | .own t :: r,h=>by cases h
 | .pb t :: r,h=>by cases h
 | .po t :: r,h=>by cases h
 | .sv t :: r,h=>by cases h
theorem own_of_wf {w:World}:∀ {t:Ty} {x:t.den},t.flat=true→Wf t x→OwnC w t x (fcells t x) []
 | .int _,_,_,h=>⟨rfl,h,rfl⟩
 | .bool,_,_,_=>⟨rfl,rfl⟩
 | .fn,_,_,_=>⟨rfl,rfl⟩
 | .str,_,_,h=>⟨rfl,h,rfl⟩
 | .unit,_,_,_=>⟨rfl,rfl⟩
 | .cons a b,x,hf,h=>by
  simp only [Ty.flat,Bool.and_eq_true] at hf
  exact ⟨_,_,[],[],rfl,rfl,own_of_wf hf.1 h.1,own_of_wf hf.2 h.2⟩
 | .sl _,_,h,_=>by cases h
theorem isVal_valOf {w:World} {t:Ty} {x:t.den} {cs:List Value} {bs:List Nat} (h:OwnC w t x cs bs):IsVal t cs (valOf t cs):=by
 have hl:=h.length
 cases t <;> simp only [IsVal,valOf,Ty.agg,if_true,if_false,Bool.false_eq_true]
 all_goals (match cs,hl with | [c],_=>rfl)
theorem resRep_flat {w:World}:∀ {ds:List Dyn},(∀ d∈ds,d.t.flat=true∧Wf d.t d.x)→ResRep w ds (ds.map fun d=>valOf d.t (fcells d.t d.x)) (ds.map fun _=>[])
 | [],_=>⟨rfl,rfl⟩
 | d :: r,h=>by
  obtain ⟨h1,h2⟩:=h d (List.mem_cons_self ..)
  have ho:=own_of_wf (w:=w) h1 h2
  exact ⟨_,_,_,_,_,rfl,rfl,ho,isVal_valOf ho,resRep_flat fun d hd=>h d (List.mem_cons_of_mem _ hd)⟩
theorem flat_nils (ds:List Dyn):(ds.map fun _=>([]:List Nat)).flatten=[]:=by
 induction ds with
 | nil=>rfl
 | cons d r ih=>simp
theorem contract_flat {P:Program} {f:FuncId} {sig:List AT} {pre:sigDen sig→Prop} {res:sigDen sig→List Dyn} (hno:noOwn sig=true)
  (h:∀ (w:World) (x:sigDen sig) (vs:List Value) (bss:List (List Nat)),GInv w→pre x→wfSig sig x→ArgsRep w (Good w []) sig x vs bss →
   (∀ d∈res x,d.t.flat=true∧Wf d.t d.x)∧Calls P f vs.toArray w fun e w'=>e = .returned (packV ((res x).map fun d=>valOf d.t (fcells d.t d.x)))∧Kept [] w w') :
  Contract P f { sig:=sig,pre:=pre,res:=res }:=by
 refine Contract0.up (plain_noOwn hno) rfl ?_
 intro w x vs bss hgo hp ha hn
 obtain ⟨e1,e2⟩:=args_noOwn hno ha
 have ha':=ha
 rw [e1] at ha'
 obtain ⟨h1,h2⟩:=h w x vs bss hgo.inv hp (args_wf ha) ha'
 refine h2.mono ?_
 rintro e w' ⟨rfl,hk⟩
 refine ⟨_,[],_,rfl,by rw [e1];exact hk,resRep_flat h1,by rw [e2];exact ⟨rfl,rfl⟩,?_,?_⟩
 ·simp only [flat_nils,List.flatten_nil,List.append_nil];exact List.nodup_nil
 ·simp only [flat_nils,List.flatten_nil,List.append_nil];intro b hb;cases hb
theorem ResK.toRep {w:World} {G F:Nat→Prop}:∀ {ds:List Dyn} {rs:List Value} {rbs:List (List Nat)},ResK w G F [] ds rs rbs→ResRep w ds rs rbs
 | [],_,_,h=>h
 | d :: r,_,_,⟨v,s,b,bs,h1,h2,⟨cs,h3,h4⟩,h5⟩=>⟨v,s,b,bs,cs,h1,h2,h3,h4,h5.toRep⟩
theorem Contract.down {P:Program} {f:FuncId} {S:Spec} (hk:S.kds=[]) (h:Contract P f S) (w:World) (x:sigDen S.sig) (vs:List Value) (bss:List (List Nat)) (hg:GOk w bss.flatten) (hp:S.pre x)
  (ha:ArgsRep w (Good w bss.flatten) S.sig x vs bss) (hn:bss.flatten.Nodup) :
  Calls P f vs.toArray w fun e w'=>∃ (rs:List Value) (ubs rbs:List (List Nat)),e = .returned (packV rs)∧Kept bss.flatten w w'∧ResRep w' (S.res x) rs rbs∧True:=by
 refine (h w (Good w bss.flatten) (Good w bss.flatten) x vs bss hg (fun _ h=>h) (fun _ h=>h) hp ha hn).mono ?_
 rintro e w' ⟨rs,ubs,rbs,F,h1,h2,h3,_⟩
 rw [hk] at h3
 exact ⟨rs,ubs,rbs,h1,h2,h3.toRep,trivial⟩
end Go.Am
namespace Go.Am
set_option linter.unusedVariables false
set_option linter.unusedSimpArgs false
theorem set_mid {α:Type} (A:List α) (c y:α) (r:List α) (i:Nat) (h:A.length=i):(A++c :: r).set i y=A++y :: r:=by
 rw [List.set_append_right _ _ (by omega),h,Nat.sub_self,List.set_cons_zero]
theorem get_mid {α:Type} (A:List α) (c d:α) (r:List α) (i:Nat) (h:A.length=i):(A++c :: r).getD i d=c:=by
 rw [List.getD_eq_getElem?_getD,List.getElem?_append_right (by omega),h,Nat.sub_self]
 rfl
end Go.Am
namespace Go.Am
set_option linter.unusedVariables false
set_option linter.unusedSimpArgs false
theorem bl_irrefl:∀ x:List UInt8,Op.bytesLess x x=false
 | []=>rfl
 | a :: x=>by simp [Op.bytesLess,bl_irrefl x]
theorem bl_cons (a b:UInt8) (x y:List UInt8):Op.bytesLess (a :: x) (b :: y)=true↔a.toNat<b.toNat∨(a.toNat=b.toNat∧Op.bytesLess x y=true):=by
 simp only [Op.bytesLess,Bool.or_eq_true,decide_eq_true_eq,Bool.and_eq_true,beq_iff_eq,UInt8.lt_iff_toNat_lt,UInt8.toNat_inj]
theorem bl_trans:∀ x y z:List UInt8,Op.bytesLess x y=true→Op.bytesLess y z=true→Op.bytesLess x z=true
 | x,y,[],_,h=>by cases y <;> cases h
 | [],y,c :: z,_,_=>rfl
 | a :: x,[],c :: z,h,_=>by cases h
 | a :: x,b :: y,c :: z,h1,h2=>by
  rw [bl_cons] at *
  rcases h1 with h1 | ⟨e1,h1⟩
  ·rcases h2 with h2 | ⟨e2,h2⟩
   ·exact .inl (by omega)
   ·exact .inl (by omega)
  ·rcases h2 with h2 | ⟨e2,h2⟩
   ·exact .inl (by omega)
   ·exact .inr ⟨by omega,bl_trans x y z h1 h2⟩
theorem bl_tri:∀ x y:List UInt8,Op.bytesLess x y=false→Op.bytesLess y x=false→x=y
 | [],[],_,_=>rfl
 | [],b :: y,h,_=>by cases h
 | a :: x,[],_,h=>by cases h
 | a :: x,b :: y,h1,h2=>by
  have n1:=mt (bl_cons a b x y).2 (by rw [h1];simp)
  have n2:=mt (bl_cons b a y x).2 (by rw [h2];simp)
  have e:a.toNat=b.toNat:=by omega
  have e':=UInt8.toNat_inj.1 e
  have l1:Op.bytesLess x y=false:=Bool.eq_false_iff.2 fun h=>n1 (.inr ⟨e,h⟩)
  have l2:Op.bytesLess y x=false:=Bool.eq_false_iff.2 fun h=>n2 (.inr ⟨e.symm,h⟩)
  rw [e',bl_tri x y l1 l2]
theorem toList_inj {a b:ByteArray} (h:ByteArray.toList a=ByteArray.toList b):a=b:=(bytes_eq a b).1 (by rw [h];simp)
end Go.Am
namespace Go.Am
set_option linter.unusedVariables false
set_option linter.unusedSimpArgs false
end Go.Am
namespace Go.Am
set_option linter.unusedVariables false
set_option linter.unusedSimpArgs false
def repB (c:UInt8) (n:Nat):ByteArray:=⟨(Lib.repeatL [c] n).toArray⟩
end Go.Am
namespace Go.Am
set_option linter.unusedVariables false
set_option linter.unusedSimpArgs false
open Go.RowKit (Below)
theorem row_flat {w:World} {t:Ty} (hf:t.flat=true):∀ {xs:List t.den},(∀ x∈xs,Wf t x)→Row (OwnC w t) t.size xs (xs.map (fcells t)) (xs.map fun _=>[])
 | [],_=>⟨rfl,rfl⟩
 | x :: r,h=>by
  have ho:=own_of_wf (w:=w) hf (h x (List.mem_cons_self ..))
  exact ⟨_,_,_,_,rfl,rfl,ho.length,ho,row_flat hf fun y hy=>h y (List.mem_cons_of_mem _ hy)⟩
theorem nils_flatten {α:Type} (xs:List α):(xs.map fun _=>([]:List Nat)).flatten=[]:=by
 induction xs with
 | nil=>rfl
 | cons x r ih=>simp
theorem own_of_row {w:World} {t:Ty} (hf:t.flat=true) {base:Nat} {e:TypeId} {v:Value} {xs:List t.den} (hw:∀ x∈xs,Wf t x) (hm:xs.length≤maxLen)
  (h:w.ownsRow base e t.size v xs.length (xs.map (fcells t)).flatten):∃ bs,OwnC w (.sl t) xs [v] bs∧bs.Nodup∧∀ b∈bs,base≤b:=by
 rcases h.2 with ⟨rfl,hn⟩ | ⟨g,cap,cur,rfl,hb,hh,h1,h2,h3,h4⟩
 ·have:xs=[]:=List.eq_nil_of_length_eq_zero hn
  subst this
  exact ⟨[],⟨_,rfl,by simp,.inl ⟨_,rfl,rfl,rfl⟩⟩,List.nodup_nil,fun b hb=>by cases hb⟩
 ·have hrow:=row_flat (w:=w) hf hw
  have ho:=ownSl_of_row hrow (b:=g) (off:=0) (cap:=cap) (cur:=cur) (ty:=e) (fz:=(0,0)) hm h1 h2 (by rw [Nat.zero_add,h3];exact Nat.le_refl _) hh (freeS_zero _ _) (fun j c hj=>by
   rw [Nat.zero_add, ← Array.getElem?_toList]
   have hl:j<xs.length*t.size:=by
    have:=(List.getElem?_eq_some_iff.1 hj).1
    rw [hrow.len.2.2] at this
    exact this
   rw [← h4,List.getElem?_take,if_pos hl] at hj
   exact hj)
  rw [nils_flatten] at ho
  exact ⟨[g],⟨_,rfl,ho⟩,by simp,fun b hb'=>by simp at hb';omega⟩
def bls (xs:List ByteArray):List (List UInt8):=xs.map fun s=>s.data.toList
end Go.Am
namespace Go.Am
set_option linter.unusedVariables false
set_option linter.unusedSimpArgs false
end Go.Am
namespace Go.Am
set_option linter.unusedVariables false
set_option linter.unusedSimpArgs false
def bump (h:List Int):List Int:=List.set h (Int.toNat ((↑(List.length h):Int) - 1)) (List.getD h (Int.toNat ((↑(List.length h):Int) - 1)) 0+1)
def cntNew (xs:List ByteArray) (i:Nat) (x:ByteArray):Bool:=decide (i=0) || !(ByteArray.toList x==ByteArray.toList (xs.getD (i - 1) ByteArray.empty))
def cntStep (xs:List ByteArray) (b:(List ByteArray×List Int)×Nat) (x:ByteArray):(List ByteArray×List Int)×Nat :=
 if cntNew xs b.2 x=true then ((b.1.1++[x],bump (b.1.2++[0])),b.2+1) else ((b.1.1,bump b.1.2),b.2+1)
def counted (xs:List ByteArray):(List ByteArray×List Int)×Nat:=xs.foldl (cntStep xs) (([],[]),0)
end Go.Am
namespace Go.Am
set_option linter.unusedVariables false
set_option linter.unusedSimpArgs false
open Go.Sort (grow)
def numB (n:Int):ByteArray:=⟨(Lib.itoa n).toArray⟩
theorem numB_size (n:Int) (h0 : -9223372036854775808≤n) (h1:n≤9223372036854775807):(numB n).size≤21:=by
 show (Lib.itoa n).toArray.size≤21
 rw [List.size_toArray]
 exact Lib.itoa_length_le n h0 h1
theorem kept_grow (w:World) (n:Nat) (os:Array Obj):Kept [] w (grow (w.drewN n) os) where
 os:=rfl
 tape:=rfl
 output:=rfl
 size:=by show w.heap.size≤(w.heap++os).size;rw [Array.size_append];omega
 block:=fun k hk _=>by
  show (w.heap++os)[k]? = w.heap[k]?
  exact Array.getElem?_append_left hk
theorem splitB_part (sep:ByteArray) (save:Nat):∀ (k:Nat) (s y:ByteArray),y∈Lib.splitB sep save k s→y.size≤s.size
 | 0,s,y,h=>by rw [Lib.splitB_zero,List.mem_singleton] at h;rw [h];exact Nat.le_refl _
 | k+1,s,y,h=>by
  unfold Lib.splitB at h
  split at h
  ·rw [List.mem_singleton] at h;rw [h];exact Nat.le_refl _
  ·rcases List.mem_cons.1 h with rfl | h
   ·rw [ByteArray.size_extract];omega
   ·have:=splitB_part sep save k _ y h
    rw [ByteArray.size_extract] at this
    omega
def splitC (c:UInt8):List UInt8→List (List UInt8)
 | []=>[[]]
 | b :: r=>if b=c then [] :: splitC c r else match splitC c r with
  | []=>[[b]]
  | p :: ps=>(b :: p) :: ps
theorem splitC_ne (c:UInt8):∀ l,splitC c l≠[]
 | []=>by simp [splitC]
 | b :: r=>by
  unfold splitC
  split
  ·simp
  ·split <;> simp
theorem splitC_free (c:UInt8):∀ {p:List UInt8},c ∉ p→splitC c p=[p]
 | [],_=>rfl
 | b :: r,h=>by
  have h1:b≠c:=fun e=>h (by rw [e];exact List.mem_cons_self ..)
  have h2:c ∉ r:=fun e=>h (List.mem_cons_of_mem _ e)
  unfold splitC
  rw [if_neg h1,splitC_free c h2]
theorem splitC_hit (c:UInt8):∀ {p:List UInt8} (r:List UInt8),c ∉ p→splitC c (p++c :: r)=p :: splitC c r
 | [],r,_=>by simp [splitC]
 | b :: q,r,h=>by
  have h1:b≠c:=fun e=>h (by rw [e];exact List.mem_cons_self ..)
  have h2:c ∉ q:=fun e=>h (List.mem_cons_of_mem _ e)
  rw [List.cons_append,splitC,if_neg h1,splitC_hit c r h2]
theorem splitC_length (c:UInt8):∀ l,(splitC c l).length=l.count c+1
 | []=>rfl
 | b :: r=>by
  unfold splitC
  split
  ·rename_i h;subst h;rw [List.length_cons,splitC_length];simp
  ·rename_i h
   have:=splitC_length c r
   rw [List.count_cons_of_ne (by simpa using h)]
   split
   ·rename_i e;exact absurd e (splitC_ne c r)
   ·rename_i q qs e
    rw [e] at this
    simpa using this
theorem index_one_none (c:UInt8):∀ {l:List UInt8},c ∉ l→Lib.index l [c] = -1
 | [],_=>by simp [Lib.index]
 | b :: r,h=>by
  have h1:b≠c:=fun e=>h (by rw [e];exact List.mem_cons_self ..)
  have h2:c ∉ r:=fun e=>h (List.mem_cons_of_mem _ e)
  rw [Lib.index,index_one_none c h2]
  simp [List.isPrefixOf,Ne.symm h1]
theorem index_one_hit (c:UInt8):∀ {p:List UInt8} (r:List UInt8),c ∉ p→Lib.index (p++c :: r) [c]=(p.length:Int)
 | [],r,_=>by simp [Lib.index,List.isPrefixOf]
 | b :: q,r,h=>by
  have h1:b≠c:=fun e=>h (by rw [e];exact List.mem_cons_self ..)
  have h2:c ∉ q:=fun e=>h (List.mem_cons_of_mem _ e)
  rw [List.cons_append,Lib.index,index_one_hit c r h2]
  have:¬ ((q.length:Int) == -1)=true:=fun e=>by have:=beq_iff_eq.1 e;omega
  have h3:([c]:List UInt8).isPrefixOf (b :: (q++c :: r))=false:=by simp [List.isPrefixOf,Ne.symm h1]
  rw [h3,if_neg (by simp),if_neg this]
  simp
theorem split_at (c:UInt8):∀ (l:List UInt8),c ∉ l∨∃ p r,l=p++c :: r∧c ∉ p
 | [] => .inl (by simp)
 | b :: l=>by
  by_cases h:b=c
  ·exact .inr ⟨[],l,by rw [h];rfl,by simp⟩
  ·rcases split_at c l with h1 | ⟨p,r,rfl,h2⟩
   ·exact .inl (fun hm=>by rcases List.mem_cons.1 hm with rfl | hm;exact h rfl;exact h1 hm)
   ·exact .inr ⟨b :: p,r,rfl,fun hm=>by rcases List.mem_cons.1 hm with rfl | hm;exact h rfl;exact h2 hm⟩
theorem splitK_one (c:UInt8):∀ (k:Nat) (l:List UInt8),l.count c≤k→Lib.splitK [c] 0 k l=splitC c l
 | 0,l,h=>by
  have hn:c ∉ l:=fun hm=>by have:=List.count_pos_iff.2 hm;omega
  rw [splitC_free c hn];rfl
 | k+1,l,h=>by
  rcases split_at c l with hn | ⟨p,r,rfl,hn⟩
  ·rw [splitC_free c hn,Lib.splitK,index_one_none c hn,if_pos (by rfl)]
  ·have hc:r.count c≤k:=by
    rw [List.count_append,List.count_cons_self] at h
    omega
   rw [splitC_hit c r hn,Lib.splitK,index_one_hit c r hn,if_neg (fun e=>by have:=beq_iff_eq.1 e;omega)]
   congr 1
   ·simp
   ·have e:(p++c :: r).drop (((p.length:Int)).toNat+[c].length)=r:=by
     simp only [Int.toNat_natCast,List.length_singleton]
     rw [List.drop_append,List.drop_of_length_le (by omega),Nat.add_sub_cancel_left]
     rfl
    rw [e]
    exact splitK_one c k r hc
def bss (ls:List (List UInt8)):List ByteArray:=ls.map fun l=>⟨l.toArray⟩
theorem bss_data (xs:List ByteArray):bss (xs.map fun x=>x.data.toList)=xs:=by
 unfold bss
 rw [List.map_map]
 conv=>rhs;rw [← List.map_id xs]
 rfl
theorem splitB_one (c:UInt8) (s:ByteArray):Lib.splitB ⟨#[c]⟩ 0 (Lib.countB s ⟨#[c]⟩) s=bss (splitC c s.data.toList):=by
 have h:=Lib.splitB_data ⟨#[c]⟩ 0 (Lib.countB s ⟨#[c]⟩) s
 have e:Lib.countB s ⟨#[c]⟩=s.data.toList.count c:=by
  show Lib.count s.data.toList [c]=_
  exact Lib.count_one c _
 have h2:=splitK_one c (Lib.countB s ⟨#[c]⟩) s.data.toList (by rw [e];exact Nat.le_refl _)
 rw [← bss_data (Lib.splitB ⟨#[c]⟩ 0 (Lib.countB s ⟨#[c]⟩) s),h]
 show bss (Lib.splitK [c] 0 _ _)=_
 rw [h2]
end Go.Am
namespace Go.Am
set_option linter.unusedVariables false
set_option linter.unusedSimpArgs false
def layCells (w:World):List (Nat×List Value)→World
 | []=>w
 | (g,cs) :: r=>layCells { w with heap:=w.heap.modify g fun
   | .cells _ t fz => .cells cs.toArray t fz
   | o=>o } r
def numCells:DataW Unit→List Value
 | .agg ps=>ps.filterMap fun
  | .lit (.int k z)=>some (.int k z)
  | _=>none
 | _=>[]
theorem laid_drop {P:Program} {W:World}:∀ {l:List (String×DataW Unit)} {i:Nat} {x:String×DataW Unit},laidMet P l W→l[i]? = some x→∃ r,laidMet P (x :: r) W
 | [],i,x,_,h=>by simp at h
 | y :: l,0,x,h,hi=>by simp at hi;subst hi;exact ⟨l,h⟩
 | y :: l,i+1,x,h,hi=>laid_drop (l:=l) (i:=i) h.tail (by simpa using hi)
theorem tab_of_laid {P:Program} {W:World} {l:List (String×DataW Unit)} {i:Nat} {name:String} {k:IntKind} {zs:List Int} {g n:Nat} {t e:TypeId} (h:laidMet P l W) (hi:l[i]? = some (name,Lib.tabData k zs))
  (hg:P.globalNamed name=some g) (hty:(P.globals[g]?).map (·.type)=some t) (ht:P.underlying t=some (.array n e)) (he:P.underlying e=some (.int k)) (hce:P.cellsOf e=1) (hct:P.cellsOf t=n):Lib.TabIs P W name k zs:=by
 obtain ⟨r,h⟩:=laid_drop h hi
 exact Lib.tabIs_of_head hg hty ht he hce hct h
end Go.Am
namespace Go.Am
set_option linter.unusedVariables false
set_option linter.unusedSimpArgs false
open Go.RowKit (Below)
theorem fcells_one:∀ {t:Ty} {x:t.den},t.flat=true→∀ u∈fcells t x,u.oneCell'=true
 | .int _,_,_,u,hu=>by simp [fcells] at hu;subst hu;rfl
 | .bool,_,_,u,hu=>by simp [fcells] at hu;subst hu;rfl
 | .fn,x,_,u,hu=>by simp [fcells] at hu;subst hu;exact fnV_one x
 | .str,_,_,u,hu=>by simp [fcells] at hu;subst hu;rfl
 | .sl _,_,h,_,_=>by cases h
 | .unit,_,_,u,hu=>by simp [fcells] at hu
 | .cons a b,x,hf,u,hu=>by
  simp only [Ty.flat,Bool.and_eq_true] at hf
  simp only [fcells,List.mem_append] at hu
  rcases hu with hu | hu
  ·exact fcells_one hf.1 u hu
  ·exact fcells_one hf.2 u hu
def fcs (t:Ty) (xs:List t.den):List Value:=(xs.map (fcells t)).flatten
theorem row_fcells {w:World} {t:Ty} (hf:t.flat=true):∀ {xs:List t.den} {css:List (List Value)} {bss:List (List Nat)},Row (OwnC w t) t.size xs css bss→css=xs.map (fcells t)∧bss.flatten=[]∧∀ x∈xs,Wf t x
 | [],css,bss,⟨h1,h2⟩=>by subst h1 h2;exact ⟨rfl,rfl,fun x h=>by cases h⟩
 | x :: r,css,bss,⟨c,cs,b,bs,h1,h2,h3,h4,h5⟩=>by
  subst h1 h2
  obtain ⟨e1,e2,e3⟩:=row_fcells hf h5
  have e4:b=[]:=(h4.flat (w':=w) (G:=fun _=>True) hf).2
  refine ⟨by rw [e1,own_fcells hf h4];rfl,by simp [e2,e4],fun y hy => ?_⟩
  rcases List.mem_cons.1 hy with rfl | hy
  ·exact h4.wf
  ·exact e3 y hy
theorem fcs_length {t:Ty} (hf:t.flat=true) {xs:List t.den} (hw:∀ x∈xs,Wf t x):(fcs t xs).length=xs.length*t.size :=
 (row_flat (w:=default) hf hw).len.2.2
theorem slAt_flat {w:World} {G:Nat→Prop} {t:Ty} (hf:t.flat=true) {xs:List t.den} {v:Value} (h:SlAt w G (RepC w G t) t.size xs v) :
  (∀ x∈xs,Wf t x)∧xs.length≤maxLen∧((∃ ad,v = .slice ad 0 0∧xs=[]) ∨
   ∃ b off cap,v = .slice (some ⟨b,off,none⟩) xs.length cap∧xs.length≤cap∧cap≤maxLen∧G b∧∀ j u,(fcs t xs)[j]? = some u→w.cell? ⟨b,off+j,none⟩=some u):=by
 refine ⟨(wf_slAt (fun _ _=>RepC.wf) h).2,h.1,?_⟩
 have hl:=h.2
 obtain ⟨css,bss,hrow,hflat,hcase⟩:=SlAt.row h
 rcases hcase with ⟨ad,rfl,rfl⟩ | ⟨b',off,cap,rfl,hG,hcells⟩
 ·exact .inl ⟨ad,rfl,rfl⟩
 ·rcases hl with ⟨ad,e,rfl⟩ | ⟨b2,off2,cap2,e,h2,h3,h4,_⟩
  ·simp only [Value.slice.injEq] at e
   obtain ⟨e1,e2,e3⟩:=e
   exact .inl ⟨some ⟨b',off,none⟩,by rw [e3];rfl,rfl⟩
  ·cases e
   refine .inr ⟨b',off,cap,rfl,h2,h3,hG,fun j u hj=>hcells j u ?_⟩
   have hr:Row (OwnC w t) t.size xs css bss:=hrow.mono fun y c b _ hh=>by
    obtain ⟨g1,g2⟩:=hh
    subst g2
    exact g1.own hf
   rw [(row_fcells hf hr).1]
   exact hj
theorem own_flat_mk {w:World} {t:Ty} (hf:t.flat=true) {xs:List t.den} (hw:∀ x∈xs,Wf t x) {n b off cap:Nat} {cur:Array Value} {ty:TypeId} {fz:Nat×Nat} (hn:n=xs.length) (h2:xs.length≤cap) (h3:cap≤maxLen) (h4:off+cap*t.size≤cur.size)
  (h5:w.heap[b]? = some (.cells cur ty fz)) (h6:FreeS t.size fz cur.size) (h8:∀ j u,(fcs t xs)[j]? = some u→cur[off+j]? = some u):OwnC w (.sl t) xs [.slice (some ⟨b,off,none⟩) n cap] [b]:=by
 subst hn
 have hrow:=row_flat (w:=w) hf hw
 have ho:=ownSl_of_row hrow (b:=b) (off:=off) (cap:=cap) (cur:=cur) (ty:=ty) (fz:=fz) (Nat.le_trans h2 h3) h2 h3 h4 h5 h6 h8
 rw [nils_flatten] at ho
 exact ⟨_,rfl,ho⟩
def cloneSpec (t:Ty):Spec:={ sig:=[AT.v (.sl t)],pre:=fun ⟨x0,_⟩=>x0.length≤1048576,res:=fun ⟨x0,_⟩=>[⟨.sl t,x0⟩] }
theorem clone_contract {P:Program} {f:FuncId} {t:Ty} {e:TypeId} (hf:t.flat=true)
  (hnil:∀ w:World,Calls P f #[.slice none 0 0] w fun e w'=>e = .returned (.slice none 0 0)∧w'=w)
  (hsome:∀ (w:World) (a:Addr) (n c:Nat) (news:List Value),news.length=n*t.size→n≤1048576→(∀ j u,news[j]? = some u→w.cell? (a.add j)=some u)→(∀ u∈news,u.oneCell'=true) →
   Calls P f #[.slice (some a) n c] w fun r w'=>∃ v',r = .returned v'∧w'.ownsRow w.heap.size e t.size v' n news∧Below w.heap.size w w') :
  Contract P f (cloneSpec t):=by
 refine Contract0.up rfl rfl ?_
 rintro w ⟨x0,u⟩ vs bss hgo hp ⟨v,s,b,bs,rfl,rfl,⟨rfl,ho⟩,rfl,rfl⟩ hn
 have hp:x0.length≤1048576:=hp
 have hm:x0.length≤maxLen:=by unfold maxLen;omega
 obtain ⟨hw,_,hcase⟩:=slAt_flat hf ho
 have hfin:∀ (v':Value) (w':World),w'.ownsRow w.heap.size e t.size v' x0.length (fcs t x0)→Below w.heap.size w w' →
   ∃ rs ubs rbs,Ending.returned v' = .returned (packV rs)∧Kept ([[]]:List (List Nat)).flatten w w'∧ResRep w' [⟨.sl t,x0⟩] rs rbs∧UpdRep w' [] (ownVals [AT.v (.sl t)] [v]) ubs∧(ubs.flatten++rbs.flatten).Nodup∧∀ b∈ubs.flatten++rbs.flatten,¬ Am.Good w ([[]]:List (List Nat)).flatten b:=fun v' w' h1 h2=>by
  obtain ⟨bs,g1,g2,g3⟩:=own_of_row hf hw hm h1
  refine ⟨[v'],[],[bs],rfl,Kept.of_below h2,⟨_,_,_,_,_,rfl,rfl,g1,rfl,rfl,rfl⟩,⟨rfl,rfl⟩,by simpa using g2,fun b hb hg => ?_⟩
  simp at hb
  have:=g3 b hb
  have:=hg.1
  omega
 rcases hcase with ⟨ad,rfl,rfl⟩ | ⟨b',off,cap,rfl,h2,h3,hG,hcells⟩
 ·cases ad with
  | none =>
   refine (hnil w).mono ?_
   rintro r w' ⟨rfl,rfl⟩
   exact hfin _ _ ⟨by simp [fcs],.inl ⟨rfl,rfl⟩⟩ (Below.refl _ _)
  | some a =>
   refine (hsome w a 0 0 [] (by simp) (by omega) (fun j u h=>by simp at h) (fun u h=>by cases h)).mono ?_
   rintro r w' ⟨v',rfl,h1,h2⟩
   exact hfin _ _ h1 h2
 ·refine (hsome w ⟨b',off,none⟩ x0.length cap (fcs t x0) (fcs_length hf hw) hp (fun j u hj=>by rw [Addr.add_lit];exact hcells j u hj) (fun u hu => ?_)).mono ?_
  ·obtain ⟨l,hl,hu⟩:=List.mem_flatten.1 hu
   obtain ⟨x,_,rfl⟩:=List.mem_map.1 hl
   exact fcells_one hf u hu
  ·rintro r w' ⟨v',rfl,h1,h2⟩
   exact hfin _ _ h1 h2
end Go.Am
namespace Go.Am
set_option linter.unusedVariables false
set_option linter.unusedSimpArgs false
open Go.RowKit (Below)
section
variable {P:Program}
end
structure OwnAt (w:World) (t:Ty) (xs:List t.den) (b off cap:Nat) (cur:Array Value) (ty:TypeId) (fz:Nat×Nat):Prop where
 wf:∀ x∈xs,Wf t x
 len:xs.length≤cap
 capm:cap≤maxLen
 fit:off+cap*t.size≤cur.size
 blk:w.heap[b]? = some (.cells cur ty fz)
 free:FreeS t.size fz cur.size
 has:∀ j u,(fcs t xs)[j]? = some u→cur[off+j]? = some u
theorem OwnAt.cell {w:World} {t:Ty} {xs:List t.den} {b off cap:Nat} {cur:Array Value} {ty:TypeId} {fz:Nat×Nat} (h:OwnAt w t xs b off cap cur ty fz):∀ j u,(fcs t xs)[j]? = some u→w.cell? ⟨b,off+j,none⟩=some u:=fun j u hj=>by
 simp only [World.cell?, h.blk]
 exact h.has j u hj
theorem OwnAt.lt {w:World} {t:Ty} {xs:List t.den} {b off cap:Nat} {cur:Array Value} {ty:TypeId} {fz:Nat×Nat} (h:OwnAt w t xs b off cap cur ty fz):b<w.heap.size:=by
 rcases Nat.lt_or_ge b w.heap.size with h' | h'
 ·exact h'
 ·have:=h.blk
  rw [Array.getElem?_eq_none h'] at this;cases this
end Go.Am
namespace Go.Am
set_option linter.unusedVariables false
set_option linter.unusedSimpArgs false
open Go.RowKit (Below)
end Go.Am
namespace Go.Am
set_option linter.unusedVariables false
end Go.Am
namespace Go.Am
set_option linter.unusedVariables false
set_option linter.unusedSimpArgs false
def runCN (o:Option (List Item×Env×Heap×List Prop)):Option (List Item×Env×Heap)×Prop :=
 match o with
 | some (k,E,L,cs)=>(some (k,E,L),All cs)
 | none=>(none,True)
def runCF (o:Option (List Dyn×List (Option Lst)×List Prop)):Option (List Dyn×List (Option Lst))×Prop :=
 match o with
 | some (ds,us,cs)=>(some (ds,us),All cs)
 | none=>(none,True)
theorem a1 {p q:Prop} (x:p) (y:q):p∧q:=⟨x,y⟩
section
variable {P:Program} {f:FuncId} {R:Ending→World→Prop} {n:Nat} {K:Ctx} {E:Env} {L:Heap}
theorem AtV.go {tab:List TI} {ext:Ext} (hT:TabOk P tab) (hX:ExtOk P ext) (hm:P.follows .mixedOrders=true) (wr:Bool) (stops:List Nat) {q:Nat→Value} {pins:List Nat} (nils:List (Nat×Ty)) (ks:List Nat) (rs:List Nat) (path:List Bool) {k k':List Item} {E':Env} {L':Heap} {C:Prop}
  (hc:C) (hk:AtV P f R n K q pins k' E' L') (h:runCN (Am.runN tab ext wr n stops 2000 pins nils ks rs path k E L)=(some (k',E',L'),C)):AtV P f R n K q pins k E L:=by
 cases hr:Am.runN tab ext wr n stops 2000 pins nils ks rs path k E L with
 | none=>rw [hr] at h;cases h
 | some y =>
  obtain ⟨k1,E1,L1,cs⟩:=y
  rw [hr] at h
  cases h
  exact AtV.runN hT hX hm hr hc hk
theorem AtV.ret {fn:Func} (hf:P.funcs[f]? = some fn) {tab:List TI} {ext:Ext} (hT:TabOk P tab) (hX:ExtOk P ext) (hm:P.follows .mixedOrders=true) (wr:Bool) (stops:List Nat) {q:Nat→Value} {pins:List Nat} {oks:List AT} {kds:List RK} (ts:List Ty) (path:List Bool) {k:List Item} {ds:List Dyn} {us:List (Option Lst)} {C:Prop}
  (hc:C) (h:runCF (runF tab ext wr n stops 2000 pins oks kds ts fn.results path k E L)=(some (ds,us),C)):AtV P f (PostR kds oks ds us pins q K) n K q pins k E L:=by
 cases hr:runF tab ext wr n stops 2000 pins oks kds ts fn.results path k E L with
 | none=>rw [hr] at h;cases h
 | some y =>
  obtain ⟨d1,u1,cs⟩:=y
  rw [hr] at h
  cases h
  exact AtV.fin hf hT hX hm hr hc
end
end Go.Am
set_option linter.unusedVariables false
set_option linter.unusedSimpArgs false
set_option maxRecDepth 100000
namespace Go.Proofs.YtmfkgabclbbdhaaGreatDoor
open Go Go.Am Go.Proofs
def tab:List TI:=[TI.other,
 TI.scal (Ty.fn),
 TI.scal (Ty.int IntKind.i64),
 TI.scal (Ty.int IntKind.i64),
 TI.scal (Ty.bool),
 TI.scal (Ty.int IntKind.u8),
 TI.scal (Ty.int IntKind.u8),
 TI.struct (Ty.cons (Ty.int IntKind.i64) (Ty.cons (Ty.int IntKind.i64) (Ty.cons Ty.bool (Ty.cons (Ty.int IntKind.u8) Ty.unit)))),
 TI.struct (Ty.cons (Ty.int IntKind.i64) (Ty.cons (Ty.int IntKind.i64) (Ty.cons Ty.bool (Ty.cons (Ty.int IntKind.u8) Ty.unit)))),
 TI.scal (Ty.str),
 TI.scal (Ty.str),
 TI.scal (Ty.str),
 TI.scal (Ty.int IntKind.u64),
 TI.other,
 TI.other,
 TI.other,
 TI.other,
 TI.other,
 TI.other,
 TI.other,
 TI.other,
 TI.scal (Ty.int IntKind.i32),
 TI.slice 169 (Ty.cons (Ty.int IntKind.i64) (Ty.cons (Ty.int IntKind.i64) Ty.unit)) 16,
 TI.struct (Ty.cons (Ty.sl (Ty.cons (Ty.int IntKind.i64) (Ty.cons (Ty.int IntKind.i64) Ty.unit))) (Ty.cons (Ty.int IntKind.i64) (Ty.cons (Ty.int IntKind.i64) Ty.unit))),
 TI.struct (Ty.cons (Ty.sl (Ty.cons (Ty.int IntKind.i64) (Ty.cons (Ty.int IntKind.i64) Ty.unit))) (Ty.cons (Ty.int IntKind.i64) (Ty.cons (Ty.int IntKind.i64) Ty.unit))),
 TI.struct (Ty.cons (Ty.int IntKind.i64) (Ty.cons (Ty.int IntKind.i64) Ty.unit)),
 TI.struct (Ty.cons (Ty.int IntKind.i64) (Ty.cons (Ty.int IntKind.i64) Ty.unit)),
 TI.struct (Ty.cons (Ty.int IntKind.i64) (Ty.cons (Ty.int IntKind.i64) (Ty.cons (Ty.int IntKind.i64) (Ty.cons (Ty.int IntKind.i64) Ty.unit)))),
 TI.struct (Ty.cons (Ty.int IntKind.i64) (Ty.cons (Ty.int IntKind.i64) (Ty.cons (Ty.int IntKind.i64) (Ty.cons (Ty.int IntKind.i64) Ty.unit)))),
 TI.slice 97 (Ty.cons Ty.str (Ty.cons (Ty.int IntKind.i64) (Ty.cons (Ty.int IntKind.i64) (Ty.cons (Ty.int IntKind.i64) Ty.unit)))) 40,
 TI.struct (Ty.cons (Ty.int IntKind.i64) (Ty.cons (Ty.int IntKind.i64) (Ty.cons (Ty.int IntKind.i64) Ty.unit))),
 TI.struct (Ty.cons (Ty.int IntKind.i64) (Ty.cons (Ty.int IntKind.i64) (Ty.cons (Ty.int IntKind.i64) Ty.unit))),
 TI.slice 100 (Ty.cons Ty.str (Ty.cons (Ty.int IntKind.i64) (Ty.cons (Ty.int IntKind.i64) (Ty.cons (Ty.int IntKind.i64) (Ty.cons (Ty.int IntKind.i64) Ty.unit))))) 48,
 TI.slice 125 (Ty.cons (Ty.int IntKind.i64) (Ty.cons (Ty.int IntKind.i64) Ty.unit)) 16,
 TI.slice 103 (Ty.cons (Ty.int IntKind.i64) (Ty.cons (Ty.int IntKind.i64) (Ty.cons Ty.str (Ty.cons (Ty.int IntKind.i64) Ty.unit)))) 40,
 TI.struct (Ty.cons (Ty.cons (Ty.sl (Ty.cons (Ty.int IntKind.i64) (Ty.cons (Ty.int IntKind.i64) Ty.unit))) (Ty.cons (Ty.int IntKind.i64) (Ty.cons (Ty.int IntKind.i64) Ty.unit))) (Ty.cons (Ty.int IntKind.i64) (Ty.cons (Ty.cons (Ty.int IntKind.i64) (Ty.cons (Ty.int IntKind.i64) Ty.unit)) (Ty.cons (Ty.cons (Ty.int IntKind.i64) (Ty.cons (Ty.int IntKind.i64) (Ty.cons (Ty.int IntKind.i64) (Ty.cons (Ty.int IntKind.i64) Ty.unit)))) (Ty.cons (Ty.sl (Ty.cons Ty.str (Ty.cons (Ty.int IntKind.i64) (Ty.cons (Ty.int IntKind.i64) (Ty.cons (Ty.int IntKind.i64) Ty.unit))))) (Ty.cons (Ty.cons (Ty.int IntKind.i64) (Ty.cons (Ty.int IntKind.i64) (Ty.cons (Ty.int IntKind.i64) Ty.unit))) (Ty.cons (Ty.sl (Ty.cons Ty.str (Ty.cons (Ty.int IntKind.i64) (Ty.cons (Ty.int IntKind.i64) (Ty.cons (Ty.int IntKind.i64) (Ty.cons (Ty.int IntKind.i64) Ty.unit)))))) (Ty.cons (Ty.int IntKind.i64) (Ty.cons (Ty.int IntKind.i64) (Ty.cons (Ty.sl (Ty.cons (Ty.int IntKind.i64) (Ty.cons (Ty.int IntKind.i64) Ty.unit))) (Ty.cons (Ty.int IntKind.i64) (Ty.cons (Ty.sl (Ty.cons (Ty.int IntKind.i64) (Ty.cons (Ty.int IntKind.i64) (Ty.cons Ty.str (Ty.cons (Ty.int IntKind.i64) Ty.unit))))) Ty.unit)))))))))))),
 TI.struct (Ty.cons (Ty.cons (Ty.sl (Ty.cons (Ty.int IntKind.i64) (Ty.cons (Ty.int IntKind.i64) Ty.unit))) (Ty.cons (Ty.int IntKind.i64) (Ty.cons (Ty.int IntKind.i64) Ty.unit))) (Ty.cons (Ty.int IntKind.i64) (Ty.cons (Ty.cons (Ty.int IntKind.i64) (Ty.cons (Ty.int IntKind.i64) Ty.unit)) (Ty.cons (Ty.cons (Ty.int IntKind.i64) (Ty.cons (Ty.int IntKind.i64) (Ty.cons (Ty.int IntKind.i64) (Ty.cons (Ty.int IntKind.i64) Ty.unit)))) (Ty.cons (Ty.sl (Ty.cons Ty.str (Ty.cons (Ty.int IntKind.i64) (Ty.cons (Ty.int IntKind.i64) (Ty.cons (Ty.int IntKind.i64) Ty.unit))))) (Ty.cons (Ty.cons (Ty.int IntKind.i64) (Ty.cons (Ty.int IntKind.i64) (Ty.cons (Ty.int IntKind.i64) Ty.unit))) (Ty.cons (Ty.sl (Ty.cons Ty.str (Ty.cons (Ty.int IntKind.i64) (Ty.cons (Ty.int IntKind.i64) (Ty.cons (Ty.int IntKind.i64) (Ty.cons (Ty.int IntKind.i64) Ty.unit)))))) (Ty.cons (Ty.int IntKind.i64) (Ty.cons (Ty.int IntKind.i64) (Ty.cons (Ty.sl (Ty.cons (Ty.int IntKind.i64) (Ty.cons (Ty.int IntKind.i64) Ty.unit))) (Ty.cons (Ty.int IntKind.i64) (Ty.cons (Ty.sl (Ty.cons (Ty.int IntKind.i64) (Ty.cons (Ty.int IntKind.i64) (Ty.cons Ty.str (Ty.cons (Ty.int IntKind.i64) Ty.unit))))) Ty.unit)))))))))))),
 TI.scal (Ty.fn),
 TI.slice 79 (Ty.cons (Ty.int IntKind.i64) (Ty.cons Ty.str (Ty.cons Ty.str Ty.unit))) 40,
 TI.other,
 TI.scal (Ty.fn),
 TI.slice 152 (Ty.cons (Ty.int IntKind.i64) (Ty.cons (Ty.int IntKind.i64) Ty.unit)) 16,
 TI.struct (Ty.cons (Ty.sl (Ty.cons (Ty.int IntKind.i64) (Ty.cons (Ty.int IntKind.i64) Ty.unit))) (Ty.cons (Ty.int IntKind.i64) (Ty.cons (Ty.int IntKind.i64) Ty.unit))),
 TI.struct (Ty.cons (Ty.sl (Ty.cons (Ty.int IntKind.i64) (Ty.cons (Ty.int IntKind.i64) Ty.unit))) (Ty.cons (Ty.int IntKind.i64) (Ty.cons (Ty.int IntKind.i64) Ty.unit))),
 TI.struct (Ty.cons (Ty.int IntKind.i64) (Ty.cons (Ty.int IntKind.i64) Ty.unit)),
 TI.struct (Ty.cons (Ty.int IntKind.i64) (Ty.cons (Ty.int IntKind.i64) (Ty.cons (Ty.int IntKind.i64) (Ty.cons (Ty.int IntKind.i64) Ty.unit)))),
 TI.slice 118 (Ty.cons Ty.str (Ty.cons (Ty.int IntKind.i64) (Ty.cons (Ty.int IntKind.i64) (Ty.cons (Ty.int IntKind.i64) Ty.unit)))) 40,
 TI.struct (Ty.cons (Ty.int IntKind.i64) (Ty.cons (Ty.int IntKind.i64) (Ty.cons (Ty.int IntKind.i64) Ty.unit))),
 TI.slice 120 (Ty.cons Ty.str (Ty.cons (Ty.int IntKind.i64) (Ty.cons (Ty.int IntKind.i64) (Ty.cons (Ty.int IntKind.i64) (Ty.cons (Ty.int IntKind.i64) Ty.unit))))) 48,
 TI.slice 123 (Ty.cons (Ty.int IntKind.i64) (Ty.cons (Ty.int IntKind.i64) Ty.unit)) 16,
 TI.slice 126 (Ty.cons (Ty.int IntKind.i64) (Ty.cons (Ty.int IntKind.i64) (Ty.cons Ty.str (Ty.cons (Ty.int IntKind.i64) Ty.unit)))) 40,
 TI.struct (Ty.cons (Ty.cons (Ty.sl (Ty.cons (Ty.int IntKind.i64) (Ty.cons (Ty.int IntKind.i64) Ty.unit))) (Ty.cons (Ty.int IntKind.i64) (Ty.cons (Ty.int IntKind.i64) Ty.unit))) (Ty.cons (Ty.int IntKind.i64) (Ty.cons (Ty.cons (Ty.int IntKind.i64) (Ty.cons (Ty.int IntKind.i64) Ty.unit)) (Ty.cons (Ty.cons (Ty.int IntKind.i64) (Ty.cons (Ty.int IntKind.i64) (Ty.cons (Ty.int IntKind.i64) (Ty.cons (Ty.int IntKind.i64) Ty.unit)))) (Ty.cons (Ty.sl (Ty.cons Ty.str (Ty.cons (Ty.int IntKind.i64) (Ty.cons (Ty.int IntKind.i64) (Ty.cons (Ty.int IntKind.i64) Ty.unit))))) (Ty.cons (Ty.cons (Ty.int IntKind.i64) (Ty.cons (Ty.int IntKind.i64) (Ty.cons (Ty.int IntKind.i64) Ty.unit))) (Ty.cons (Ty.sl (Ty.cons Ty.str (Ty.cons (Ty.int IntKind.i64) (Ty.cons (Ty.int IntKind.i64) (Ty.cons (Ty.int IntKind.i64) (Ty.cons (Ty.int IntKind.i64) Ty.unit)))))) (Ty.cons (Ty.int IntKind.i64) (Ty.cons (Ty.int IntKind.i64) (Ty.cons (Ty.sl (Ty.cons (Ty.int IntKind.i64) (Ty.cons (Ty.int IntKind.i64) Ty.unit))) (Ty.cons (Ty.int IntKind.i64) (Ty.cons (Ty.sl (Ty.cons (Ty.int IntKind.i64) (Ty.cons (Ty.int IntKind.i64) (Ty.cons Ty.str (Ty.cons (Ty.int IntKind.i64) Ty.unit))))) Ty.unit)))))))))))),
 TI.struct (Ty.cons (Ty.cons (Ty.sl (Ty.cons (Ty.int IntKind.i64) (Ty.cons (Ty.int IntKind.i64) Ty.unit))) (Ty.cons (Ty.int IntKind.i64) (Ty.cons (Ty.int IntKind.i64) Ty.unit))) (Ty.cons (Ty.int IntKind.i64) (Ty.cons (Ty.cons (Ty.int IntKind.i64) (Ty.cons (Ty.int IntKind.i64) Ty.unit)) (Ty.cons (Ty.cons (Ty.int IntKind.i64) (Ty.cons (Ty.int IntKind.i64) (Ty.cons (Ty.int IntKind.i64) (Ty.cons (Ty.int IntKind.i64) Ty.unit)))) (Ty.cons (Ty.sl (Ty.cons Ty.str (Ty.cons (Ty.int IntKind.i64) (Ty.cons (Ty.int IntKind.i64) (Ty.cons (Ty.int IntKind.i64) Ty.unit))))) (Ty.cons (Ty.cons (Ty.int IntKind.i64) (Ty.cons (Ty.int IntKind.i64) (Ty.cons (Ty.int IntKind.i64) Ty.unit))) (Ty.cons (Ty.sl (Ty.cons Ty.str (Ty.cons (Ty.int IntKind.i64) (Ty.cons (Ty.int IntKind.i64) (Ty.cons (Ty.int IntKind.i64) (Ty.cons (Ty.int IntKind.i64) Ty.unit)))))) (Ty.cons (Ty.int IntKind.i64) (Ty.cons (Ty.int IntKind.i64) (Ty.cons (Ty.sl (Ty.cons (Ty.int IntKind.i64) (Ty.cons (Ty.int IntKind.i64) Ty.unit))) (Ty.cons (Ty.int IntKind.i64) (Ty.cons (Ty.sl (Ty.cons (Ty.int IntKind.i64) (Ty.cons (Ty.int IntKind.i64) (Ty.cons Ty.str (Ty.cons (Ty.int IntKind.i64) Ty.unit))))) Ty.unit)))))))))))),
 TI.scal (Ty.fn),
 TI.scal (Ty.fn),
 TI.scal (Ty.fn),
 TI.scal (Ty.fn),
 TI.scal (Ty.fn),
 TI.scal (Ty.fn),
 TI.scal (Ty.fn),
 TI.scal (Ty.fn),
 TI.scal (Ty.fn),
 TI.scal (Ty.fn),
 TI.scal (Ty.fn),
 TI.scal (Ty.fn),
 TI.other,
 TI.scal (Ty.fn),
 TI.scal (Ty.fn),
 TI.scal (Ty.fn),
 TI.scal (Ty.fn),
 TI.scal (Ty.fn),
 TI.scal (Ty.fn),
 TI.scal (Ty.fn),
 TI.scal (Ty.fn),
 TI.scal (Ty.fn),
 TI.scal (Ty.fn),
 TI.scal (Ty.fn),
 TI.scal (Ty.fn),
 TI.struct (Ty.cons (Ty.int IntKind.i64) (Ty.cons Ty.str (Ty.cons Ty.str Ty.unit))),
 TI.struct (Ty.cons (Ty.int IntKind.i64) (Ty.cons Ty.str (Ty.cons Ty.str Ty.unit))),
 TI.scal (Ty.fn),
 TI.scal (Ty.fn),
 TI.scal (Ty.fn),
 TI.scal (Ty.fn),
 TI.scal (Ty.fn),
 TI.scal (Ty.fn),
 TI.scal (Ty.fn),
 TI.scal (Ty.fn),
 TI.scal (Ty.fn),
 TI.scal (Ty.fn),
 TI.scal (Ty.fn),
 TI.scal (Ty.fn),
 TI.scal (Ty.fn),
 TI.scal (Ty.fn),
 TI.scal (Ty.fn),
 TI.scal (Ty.fn),
 TI.struct (Ty.cons Ty.str (Ty.cons (Ty.int IntKind.i64) (Ty.cons (Ty.int IntKind.i64) (Ty.cons (Ty.int IntKind.i64) Ty.unit)))),
 TI.struct (Ty.cons Ty.str (Ty.cons (Ty.int IntKind.i64) (Ty.cons (Ty.int IntKind.i64) (Ty.cons (Ty.int IntKind.i64) Ty.unit)))),
 TI.scal (Ty.fn),
 TI.struct (Ty.cons Ty.str (Ty.cons (Ty.int IntKind.i64) (Ty.cons (Ty.int IntKind.i64) (Ty.cons (Ty.int IntKind.i64) (Ty.cons (Ty.int IntKind.i64) Ty.unit))))),
 TI.struct (Ty.cons Ty.str (Ty.cons (Ty.int IntKind.i64) (Ty.cons (Ty.int IntKind.i64) (Ty.cons (Ty.int IntKind.i64) (Ty.cons (Ty.int IntKind.i64) Ty.unit))))),
 TI.scal (Ty.fn),
 TI.struct (Ty.cons (Ty.int IntKind.i64) (Ty.cons (Ty.int IntKind.i64) (Ty.cons Ty.str (Ty.cons (Ty.int IntKind.i64) Ty.unit)))),
 TI.struct (Ty.cons (Ty.int IntKind.i64) (Ty.cons (Ty.int IntKind.i64) (Ty.cons Ty.str (Ty.cons (Ty.int IntKind.i64) Ty.unit)))),
 TI.scal (Ty.fn),
 TI.other,
 TI.scal (Ty.fn),
 TI.scal (Ty.fn),
 TI.other,
 TI.scal (Ty.fn),
 TI.other,
 TI.scal (Ty.fn),
 TI.scal (Ty.fn),
 TI.other,
 TI.scal (Ty.fn),
 TI.scal (Ty.fn),
 TI.scal (Ty.fn),
 TI.scal (Ty.fn),
 TI.struct (Ty.cons Ty.str (Ty.cons (Ty.int IntKind.i64) (Ty.cons (Ty.int IntKind.i64) (Ty.cons (Ty.int IntKind.i64) Ty.unit)))),
 TI.scal (Ty.fn),
 TI.struct (Ty.cons Ty.str (Ty.cons (Ty.int IntKind.i64) (Ty.cons (Ty.int IntKind.i64) (Ty.cons (Ty.int IntKind.i64) (Ty.cons (Ty.int IntKind.i64) Ty.unit))))),
 TI.scal (Ty.fn),
 TI.struct (Ty.cons (Ty.int IntKind.i64) (Ty.cons (Ty.int IntKind.i64) Ty.unit)),
 TI.struct (Ty.cons (Ty.int IntKind.i64) (Ty.cons (Ty.int IntKind.i64) Ty.unit)),
 TI.scal (Ty.fn),
 TI.struct (Ty.cons (Ty.int IntKind.i64) (Ty.cons (Ty.int IntKind.i64) Ty.unit)),
 TI.struct (Ty.cons (Ty.int IntKind.i64) (Ty.cons (Ty.int IntKind.i64) (Ty.cons Ty.str (Ty.cons (Ty.int IntKind.i64) Ty.unit)))),
 TI.scal (Ty.fn),
 TI.slice 76 (Ty.fn) 8,
 TI.scal (Ty.fn),
 TI.scal (Ty.fn),
 TI.other,
 TI.scal (Ty.fn),
 TI.scal (Ty.fn),
 TI.slice 9 (Ty.str) 16,
 TI.other,
 TI.scal (Ty.fn),
 TI.scal (Ty.fn),
 TI.scal (Ty.fn),
 TI.slice 2 (Ty.int IntKind.i64) 8,
 TI.other,
 TI.scal (Ty.fn),
 TI.scal (Ty.fn),
 TI.scal (Ty.fn),
 TI.scal (Ty.fn),
 TI.scal (Ty.fn),
 TI.scal (Ty.fn),
 TI.scal (Ty.fn),
 TI.scal (Ty.fn),
 TI.slice 5 (Ty.int IntKind.u8) 1,
 TI.scal (Ty.fn),
 TI.struct (Ty.cons (Ty.int IntKind.i64) (Ty.cons (Ty.int IntKind.i64) Ty.unit)),
 TI.struct (Ty.cons (Ty.int IntKind.i64) (Ty.cons (Ty.int IntKind.i64) Ty.unit)),
 TI.scal (Ty.fn),
 TI.scal (Ty.fn),
 TI.other,
 TI.scal (Ty.fn),
 TI.scal (Ty.fn),
 TI.other,
 TI.scal (Ty.fn),
 TI.other,
 TI.scal (Ty.fn),
 TI.scal (Ty.fn),
 TI.scal (Ty.fn),
 TI.scal (Ty.fn),
 TI.scal (Ty.fn),
 TI.scal (Ty.fn),
 TI.scal (Ty.fn),
 TI.scal (Ty.fn),
 TI.struct (Ty.cons (Ty.int IntKind.i64) (Ty.cons (Ty.int IntKind.i64) Ty.unit)),
 TI.scal (Ty.fn),
 TI.scal (Ty.fn),
 TI.scal (Ty.fn),
 TI.scal (Ty.fn),
 TI.scal (Ty.fn),
 TI.other,
 TI.scal (Ty.fn),
 TI.scal (Ty.fn),
 TI.scal (Ty.fn),
 TI.scal (Ty.fn),
 TI.scal (Ty.fn),
 TI.scal (Ty.fn),
 TI.scal (Ty.fn),
 TI.scal (Ty.fn),
 TI.scal (Ty.fn),
 TI.scal (Ty.fn),
 TI.scal (Ty.fn),
 TI.scal (Ty.fn),
 TI.scal (Ty.fn),
 TI.scal (Ty.fn),
 TI.scal (Ty.fn),
 TI.other,
 TI.scal (Ty.fn),
 TI.scal (Ty.fn),
 TI.scal (Ty.fn),
 TI.scal (Ty.fn),
 TI.scal (Ty.fn),
 TI.scal (Ty.fn),
 TI.scal (Ty.fn),
 TI.scal (Ty.fn),
 TI.scal (Ty.fn),
 TI.scal (Ty.fn),
 TI.scal (Ty.fn),
 TI.scal (Ty.fn),
 TI.scal (Ty.fn),
 TI.scal (Ty.fn),
 TI.scal (Ty.fn),
 TI.scal (Ty.fn),
 TI.scal (Ty.fn),
 TI.scal (Ty.fn),
 TI.scal (Ty.fn),
 TI.scal (Ty.fn),
 TI.scal (Ty.fn),
 TI.scal (Ty.fn),
 TI.scal (Ty.fn),
 TI.other,
 TI.scal (Ty.int IntKind.u64),
 TI.scal (Ty.fn),
 TI.scal (Ty.fn),
 TI.other,
 TI.scal (Ty.fn),
 TI.scal (Ty.fn),
 TI.scal (Ty.fn),
 TI.scal (Ty.fn),
 TI.scal (Ty.fn),
 TI.scal (Ty.fn),
 TI.scal (Ty.int IntKind.u64),
 TI.scal (Ty.fn),
 TI.scal (Ty.fn),
 TI.scal (Ty.fn),
 TI.scal (Ty.fn),
 TI.other,
 TI.scal (Ty.int IntKind.u32),
 TI.other,
 TI.scal (Ty.fn),
 TI.scal (Ty.fn),
 TI.scal (Ty.fn),
 TI.scal (Ty.fn),
 TI.scal (Ty.fn),
 TI.scal (Ty.fn),
 TI.scal (Ty.fn),
 TI.scal (Ty.fn),
 TI.scal (Ty.fn),
 TI.scal (Ty.fn),
 TI.scal (Ty.fn),
 TI.scal (Ty.fn),
 TI.other,
 TI.other,
 TI.scal (Ty.fn),
 TI.other,
 TI.scal (Ty.fn),
 TI.scal (Ty.fn),
 TI.other,
 TI.struct (Ty.cons (Ty.int IntKind.u8) (Ty.cons (Ty.int IntKind.u8) Ty.unit)),
 TI.struct (Ty.cons (Ty.int IntKind.u8) (Ty.cons (Ty.int IntKind.u8) Ty.unit)),
 TI.other,
 TI.other,
 TI.scal (Ty.fn),
 TI.scal (Ty.fn),
 TI.other,
 TI.other,
 TI.other,
 TI.other,
 TI.other,
 TI.scal (Ty.fn),
 TI.scal (Ty.int IntKind.u8),
 TI.scal (Ty.int IntKind.u8),
 TI.scal (Ty.fn),
 TI.other,
 TI.scal (Ty.int IntKind.i32),
 TI.scal (Ty.int IntKind.i32)]
theorem tabOk:TabOk Tryz.prog tab:=tabOk_of_check (by kernel_rfl)
theorem mixed:Tryz.prog.follows .mixedOrders=true:=by kernel_rfl
theorem gv0 {W:World} (h:GInv W):GHas W 0 (.tab .u64 Lib.pow10Tab):=h.1
theorem gv3 {W:World} (h:GInv W):GHas W 3 (.int .i64):=h.2.1
theorem gcell3 (W:World) (h:W.ShapedOpen Tryz.prog):∃ m,W.cell? ⟨3,0,none⟩=some (.int .i64 m) :=
 Go.Proofs.cell_of_shapedOpen_int (zero := #[.int .i64 0]) (t:=3) h (of_decide_eq_true (by kernel_rfl)) (by kernel_rfl) rfl (by kernel_rfl) (by kernel_rfl) Tryz.underlying3
theorem maxLenG {W:World} (h:GInv W):∃ m,W.cell? ⟨3,0,none⟩=some (.int .i64 m):=gv3 h
theorem pow10G {W : World} (h : GInv W) : Lib.TabIs Tryz.prog W "internal/strconv.uint64pow10" .u64 Lib.pow10Tab := GHas.tab (by kernel_rfl) (gv0 h)
theorem ginv (W:World) (h:W.ShapedOpen Tryz.prog) (h0:GHas W 0 (.tab .u64 Lib.pow10Tab)):GInv W:=⟨h0,gcell3 W h,trivial⟩
@[reducible] def TyA0:Type:=(List (Int×Int×Unit)×Int×Int×Unit)×Int×(Int×Int×Unit)×(Int×Int×Int×Int×Unit)×List (ByteArray×Int×Int×Int×Unit)×(Int×Int×Int×Unit)×List (ByteArray×Int×Int×Int×Int×Unit)×Int×Int×List (Int×Int×Unit)×Int×List (Int×Int×ByteArray×Int×Unit)×Unit
@[reducible] def TyB0:Type:=ByteArray×Int×Int×Int×Int×Unit
@[reducible] def TyB1:Type:=ByteArray×Int×Int×Int×Unit
@[reducible] def TyB2:Type:=Int×Int×ByteArray×Int×Unit
@[reducible] def TyB3:Type:=Int×ByteArray×ByteArray×Unit
@[reducible] def TyB4:Type:=Int×Int×Unit
theorem ca4:Callable Tryz.prog 4:=⟨Tryz.f4,Tryz.func4,by kernel_rfl,by kernel_rfl⟩
theorem ca5:Callable Tryz.prog 5:=⟨Tryz.f5,Tryz.func5,by kernel_rfl,by kernel_rfl⟩
theorem ca6:Callable Tryz.prog 6:=⟨Tryz.f6,Tryz.func6,by kernel_rfl,by kernel_rfl⟩
theorem ca7:Callable Tryz.prog 7:=⟨Tryz.f7,Tryz.func7,by kernel_rfl,by kernel_rfl⟩
theorem ca8:Callable Tryz.prog 8:=⟨Tryz.f8,Tryz.func8,by kernel_rfl,by kernel_rfl⟩
theorem ca9:Callable Tryz.prog 9:=⟨Tryz.f9,Tryz.func9,by kernel_rfl,by kernel_rfl⟩
theorem ca10:Callable Tryz.prog 10:=⟨Tryz.f10,Tryz.func10,by kernel_rfl,by kernel_rfl⟩
theorem ca11:Callable Tryz.prog 11:=⟨Tryz.f11,Tryz.func11,by kernel_rfl,by kernel_rfl⟩
theorem ca12:Callable Tryz.prog 12:=⟨Tryz.f12,Tryz.func12,by kernel_rfl,by kernel_rfl⟩
theorem ca13:Callable Tryz.prog 13:=⟨Tryz.f13,Tryz.func13,by kernel_rfl,by kernel_rfl⟩
theorem ca14:Callable Tryz.prog 14:=⟨Tryz.f14,Tryz.func14,by kernel_rfl,by kernel_rfl⟩
theorem ca15:Callable Tryz.prog 15:=⟨Tryz.f15,Tryz.func15,by kernel_rfl,by kernel_rfl⟩
theorem ca16:Callable Tryz.prog 16:=⟨Tryz.f16,Tryz.func16,by kernel_rfl,by kernel_rfl⟩
theorem ca17:Callable Tryz.prog 17:=⟨Tryz.f17,Tryz.func17,by kernel_rfl,by kernel_rfl⟩
theorem ca18:Callable Tryz.prog 18:=⟨Tryz.f18,Tryz.func18,by kernel_rfl,by kernel_rfl⟩
theorem ca19:Callable Tryz.prog 19:=⟨Tryz.f19,Tryz.func19,by kernel_rfl,by kernel_rfl⟩
theorem ca20:Callable Tryz.prog 20:=⟨Tryz.f20,Tryz.func20,by kernel_rfl,by kernel_rfl⟩
theorem ca21:Callable Tryz.prog 21:=⟨Tryz.f21,Tryz.func21,by kernel_rfl,by kernel_rfl⟩
theorem ca22:Callable Tryz.prog 22:=⟨Tryz.f22,Tryz.func22,by kernel_rfl,by kernel_rfl⟩
theorem ca23:Callable Tryz.prog 23:=⟨Tryz.f23,Tryz.func23,by kernel_rfl,by kernel_rfl⟩
theorem ca24:Callable Tryz.prog 24:=⟨Tryz.f24,Tryz.func24,by kernel_rfl,by kernel_rfl⟩
theorem ca25:Callable Tryz.prog 25:=⟨Tryz.f25,Tryz.func25,by kernel_rfl,by kernel_rfl⟩
theorem ca26:Callable Tryz.prog 26:=⟨Tryz.f26,Tryz.func26,by kernel_rfl,by kernel_rfl⟩
theorem ca27:Callable Tryz.prog 27:=⟨Tryz.f27,Tryz.func27,by kernel_rfl,by kernel_rfl⟩
theorem ca28:Callable Tryz.prog 28:=⟨Tryz.f28,Tryz.func28,by kernel_rfl,by kernel_rfl⟩
theorem ca29:Callable Tryz.prog 29:=⟨Tryz.f29,Tryz.func29,by kernel_rfl,by kernel_rfl⟩
theorem ca30:Callable Tryz.prog 30:=⟨Tryz.f30,Tryz.func30,by kernel_rfl,by kernel_rfl⟩
theorem ca31:Callable Tryz.prog 31:=⟨Tryz.f31,Tryz.func31,by kernel_rfl,by kernel_rfl⟩
theorem ca32:Callable Tryz.prog 32:=⟨Tryz.f32,Tryz.func32,by kernel_rfl,by kernel_rfl⟩
theorem ca33:Callable Tryz.prog 33:=⟨Tryz.f33,Tryz.func33,by kernel_rfl,by kernel_rfl⟩
theorem ca34:Callable Tryz.prog 34:=⟨Tryz.f34,Tryz.func34,by kernel_rfl,by kernel_rfl⟩
theorem ca35:Callable Tryz.prog 35:=⟨Tryz.f35,Tryz.func35,by kernel_rfl,by kernel_rfl⟩
theorem ca36:Callable Tryz.prog 36:=⟨Tryz.f36,Tryz.func36,by kernel_rfl,by kernel_rfl⟩
theorem ca37:Callable Tryz.prog 37:=⟨Tryz.f37,Tryz.func37,by kernel_rfl,by kernel_rfl⟩
theorem ca38:Callable Tryz.prog 38:=⟨Tryz.f38,Tryz.func38,by kernel_rfl,by kernel_rfl⟩
theorem ca39:Callable Tryz.prog 39:=⟨Tryz.f39,Tryz.func39,by kernel_rfl,by kernel_rfl⟩
theorem ca40:Callable Tryz.prog 40:=⟨Tryz.f40,Tryz.func40,by kernel_rfl,by kernel_rfl⟩
theorem ca41:Callable Tryz.prog 41:=⟨Tryz.f41,Tryz.func41,by kernel_rfl,by kernel_rfl⟩
theorem ca42:Callable Tryz.prog 42:=⟨Tryz.f42,Tryz.func42,by kernel_rfl,by kernel_rfl⟩
theorem ca43:Callable Tryz.prog 43:=⟨Tryz.f43,Tryz.func43,by kernel_rfl,by kernel_rfl⟩
theorem ca44:Callable Tryz.prog 44:=⟨Tryz.f44,Tryz.func44,by kernel_rfl,by kernel_rfl⟩
theorem ca45:Callable Tryz.prog 45:=⟨Tryz.f45,Tryz.func45,by kernel_rfl,by kernel_rfl⟩
theorem ca46:Callable Tryz.prog 46:=⟨Tryz.f46,Tryz.func46,by kernel_rfl,by kernel_rfl⟩
theorem ca47:Callable Tryz.prog 47:=⟨Tryz.f47,Tryz.func47,by kernel_rfl,by kernel_rfl⟩
theorem ca48:Callable Tryz.prog 48:=⟨Tryz.f48,Tryz.func48,by kernel_rfl,by kernel_rfl⟩
theorem ca49:Callable Tryz.prog 49:=⟨Tryz.f49,Tryz.func49,by kernel_rfl,by kernel_rfl⟩
theorem ca50:Callable Tryz.prog 50:=⟨Tryz.f50,Tryz.func50,by kernel_rfl,by kernel_rfl⟩
theorem ca51:Callable Tryz.prog 51:=⟨Tryz.f51,Tryz.func51,by kernel_rfl,by kernel_rfl⟩
theorem ca52:Callable Tryz.prog 52:=⟨Tryz.f52,Tryz.func52,by kernel_rfl,by kernel_rfl⟩
theorem ca53:Callable Tryz.prog 53:=⟨Tryz.f53,Tryz.func53,by kernel_rfl,by kernel_rfl⟩
theorem ca54:Callable Tryz.prog 54:=⟨Tryz.f54,Tryz.func54,by kernel_rfl,by kernel_rfl⟩
theorem ca55:Callable Tryz.prog 55:=⟨Tryz.f55,Tryz.func55,by kernel_rfl,by kernel_rfl⟩
theorem ca56:Callable Tryz.prog 56:=⟨Tryz.f56,Tryz.func56,by kernel_rfl,by kernel_rfl⟩
theorem ca57:Callable Tryz.prog 57:=⟨Tryz.f57,Tryz.func57,by kernel_rfl,by kernel_rfl⟩
theorem ca58:Callable Tryz.prog 58:=⟨Tryz.f58,Tryz.func58,by kernel_rfl,by kernel_rfl⟩
theorem ca59:Callable Tryz.prog 59:=⟨Tryz.f59,Tryz.func59,by kernel_rfl,by kernel_rfl⟩
theorem ca60:Callable Tryz.prog 60:=⟨Tryz.f60,Tryz.func60,by kernel_rfl,by kernel_rfl⟩
theorem ca61:Callable Tryz.prog 61:=⟨Tryz.f61,Tryz.func61,by kernel_rfl,by kernel_rfl⟩
theorem ca62:Callable Tryz.prog 62:=⟨Tryz.f62,Tryz.func62,by kernel_rfl,by kernel_rfl⟩
theorem ca63:Callable Tryz.prog 63:=⟨Tryz.f63,Tryz.func63,by kernel_rfl,by kernel_rfl⟩
theorem ca64:Callable Tryz.prog 64:=⟨Tryz.f64,Tryz.func64,by kernel_rfl,by kernel_rfl⟩
theorem ca65:Callable Tryz.prog 65:=⟨Tryz.f65,Tryz.func65,by kernel_rfl,by kernel_rfl⟩
theorem ca66:Callable Tryz.prog 66:=⟨Tryz.f66,Tryz.func66,by kernel_rfl,by kernel_rfl⟩
theorem ca67:Callable Tryz.prog 67:=⟨Tryz.f67,Tryz.func67,by kernel_rfl,by kernel_rfl⟩
theorem ca68:Callable Tryz.prog 68:=⟨Tryz.f68,Tryz.func68,by kernel_rfl,by kernel_rfl⟩
theorem ca69:Callable Tryz.prog 69:=⟨Tryz.f69,Tryz.func69,by kernel_rfl,by kernel_rfl⟩
theorem ca70:Callable Tryz.prog 70:=⟨Tryz.f70,Tryz.func70,by kernel_rfl,by kernel_rfl⟩
theorem ca71:Callable Tryz.prog 71:=⟨Tryz.f71,Tryz.func71,by kernel_rfl,by kernel_rfl⟩
theorem ca72:Callable Tryz.prog 72:=⟨Tryz.f72,Tryz.func72,by kernel_rfl,by kernel_rfl⟩
theorem ca73:Callable Tryz.prog 73:=⟨Tryz.f73,Tryz.func73,by kernel_rfl,by kernel_rfl⟩
theorem ca74:Callable Tryz.prog 74:=⟨Tryz.f74,Tryz.func74,by kernel_rfl,by kernel_rfl⟩
theorem ca75:Callable Tryz.prog 75:=⟨Tryz.f75,Tryz.func75,by kernel_rfl,by kernel_rfl⟩
theorem ca76:Callable Tryz.prog 76:=⟨Tryz.f76,Tryz.func76,by kernel_rfl,by kernel_rfl⟩
theorem ca77:Callable Tryz.prog 77:=⟨Tryz.f77,Tryz.func77,by kernel_rfl,by kernel_rfl⟩
theorem ca78:Callable Tryz.prog 78:=⟨Tryz.f78,Tryz.func78,by kernel_rfl,by kernel_rfl⟩
theorem ca79:Callable Tryz.prog 79:=⟨Tryz.f79,Tryz.func79,by kernel_rfl,by kernel_rfl⟩
theorem ca80:Callable Tryz.prog 80:=⟨Tryz.f80,Tryz.func80,by kernel_rfl,by kernel_rfl⟩
theorem ca81:Callable Tryz.prog 81:=⟨Tryz.f81,Tryz.func81,by kernel_rfl,by kernel_rfl⟩
theorem ca82:Callable Tryz.prog 82:=⟨Tryz.f82,Tryz.func82,by kernel_rfl,by kernel_rfl⟩
theorem ca83:Callable Tryz.prog 83:=⟨Tryz.f83,Tryz.func83,by kernel_rfl,by kernel_rfl⟩
theorem ca84:Callable Tryz.prog 84:=⟨Tryz.f84,Tryz.func84,by kernel_rfl,by kernel_rfl⟩
theorem ca85:Callable Tryz.prog 85:=⟨Tryz.f85,Tryz.func85,by kernel_rfl,by kernel_rfl⟩
theorem ca86:Callable Tryz.prog 86:=⟨Tryz.f86,Tryz.func86,by kernel_rfl,by kernel_rfl⟩
theorem ca87:Callable Tryz.prog 87:=⟨Tryz.f87,Tryz.func87,by kernel_rfl,by kernel_rfl⟩
theorem ca88:Callable Tryz.prog 88:=⟨Tryz.f88,Tryz.func88,by kernel_rfl,by kernel_rfl⟩
theorem ca89:Callable Tryz.prog 89:=⟨Tryz.f89,Tryz.func89,by kernel_rfl,by kernel_rfl⟩
theorem ca90:Callable Tryz.prog 90:=⟨Tryz.f90,Tryz.func90,by kernel_rfl,by kernel_rfl⟩
theorem ca91:Callable Tryz.prog 91:=⟨Tryz.f91,Tryz.func91,by kernel_rfl,by kernel_rfl⟩
theorem ca92:Callable Tryz.prog 92:=⟨Tryz.f92,Tryz.func92,by kernel_rfl,by kernel_rfl⟩
theorem ca93:Callable Tryz.prog 93:=⟨Tryz.f93,Tryz.func93,by kernel_rfl,by kernel_rfl⟩
theorem ca94:Callable Tryz.prog 94:=⟨Tryz.f94,Tryz.func94,by kernel_rfl,by kernel_rfl⟩
theorem ca95:Callable Tryz.prog 95:=⟨Tryz.f95,Tryz.func95,by kernel_rfl,by kernel_rfl⟩
theorem ca96:Callable Tryz.prog 96:=⟨Tryz.f96,Tryz.func96,by kernel_rfl,by kernel_rfl⟩
theorem ca97:Callable Tryz.prog 97:=⟨Tryz.f97,Tryz.func97,by kernel_rfl,by kernel_rfl⟩
theorem ca98:Callable Tryz.prog 98:=⟨Tryz.f98,Tryz.func98,by kernel_rfl,by kernel_rfl⟩
theorem ca99:Callable Tryz.prog 99:=⟨Tryz.f99,Tryz.func99,by kernel_rfl,by kernel_rfl⟩
theorem ca100:Callable Tryz.prog 100:=⟨Tryz.f100,Tryz.func100,by kernel_rfl,by kernel_rfl⟩
theorem ca101:Callable Tryz.prog 101:=⟨Tryz.f101,Tryz.func101,by kernel_rfl,by kernel_rfl⟩
theorem ca102:Callable Tryz.prog 102:=⟨Tryz.f102,Tryz.func102,by kernel_rfl,by kernel_rfl⟩
theorem ca103:Callable Tryz.prog 103:=⟨Tryz.f103,Tryz.func103,by kernel_rfl,by kernel_rfl⟩
theorem ca104:Callable Tryz.prog 104:=⟨Tryz.f104,Tryz.func104,by kernel_rfl,by kernel_rfl⟩
theorem ca105:Callable Tryz.prog 105:=⟨Tryz.f105,Tryz.func105,by kernel_rfl,by kernel_rfl⟩
theorem ca106:Callable Tryz.prog 106:=⟨Tryz.f106,Tryz.func106,by kernel_rfl,by kernel_rfl⟩
theorem ca107:Callable Tryz.prog 107:=⟨Tryz.f107,Tryz.func107,by kernel_rfl,by kernel_rfl⟩
theorem ca108:Callable Tryz.prog 108:=⟨Tryz.f108,Tryz.func108,by kernel_rfl,by kernel_rfl⟩
theorem ca109:Callable Tryz.prog 109:=⟨Tryz.f109,Tryz.func109,by kernel_rfl,by kernel_rfl⟩
theorem ca110:Callable Tryz.prog 110:=⟨Tryz.f110,Tryz.func110,by kernel_rfl,by kernel_rfl⟩
theorem ca111:Callable Tryz.prog 111:=⟨Tryz.f111,Tryz.func111,by kernel_rfl,by kernel_rfl⟩
theorem ca112:Callable Tryz.prog 112:=⟨Tryz.f112,Tryz.func112,by kernel_rfl,by kernel_rfl⟩
theorem ca113:Callable Tryz.prog 113:=⟨Tryz.f113,Tryz.func113,by kernel_rfl,by kernel_rfl⟩
theorem ca114:Callable Tryz.prog 114:=⟨Tryz.f114,Tryz.func114,by kernel_rfl,by kernel_rfl⟩
theorem ca115:Callable Tryz.prog 115:=⟨Tryz.f115,Tryz.func115,by kernel_rfl,by kernel_rfl⟩
theorem ca116:Callable Tryz.prog 116:=⟨Tryz.f116,Tryz.func116,by kernel_rfl,by kernel_rfl⟩
theorem ca119:Callable Tryz.prog 119:=⟨Tryz.f119,Tryz.func119,by kernel_rfl,by kernel_rfl⟩
theorem ca120:Callable Tryz.prog 120:=⟨Tryz.f120,Tryz.func120,by kernel_rfl,by kernel_rfl⟩
theorem ca121:Callable Tryz.prog 121:=⟨Tryz.f121,Tryz.func121,by kernel_rfl,by kernel_rfl⟩
theorem ca122:Callable Tryz.prog 122:=⟨Tryz.f122,Tryz.func122,by kernel_rfl,by kernel_rfl⟩
theorem ca123:Callable Tryz.prog 123:=⟨Tryz.f123,Tryz.func123,by kernel_rfl,by kernel_rfl⟩
theorem ca124:Callable Tryz.prog 124:=⟨Tryz.f124,Tryz.func124,by kernel_rfl,by kernel_rfl⟩
theorem ca125:Callable Tryz.prog 125:=⟨Tryz.f125,Tryz.func125,by kernel_rfl,by kernel_rfl⟩
theorem ca126:Callable Tryz.prog 126:=⟨Tryz.f126,Tryz.func126,by kernel_rfl,by kernel_rfl⟩
theorem ca127:Callable Tryz.prog 127:=⟨Tryz.f127,Tryz.func127,by kernel_rfl,by kernel_rfl⟩
theorem ca128:Callable Tryz.prog 128:=⟨Tryz.f128,Tryz.func128,by kernel_rfl,by kernel_rfl⟩
theorem ca129:Callable Tryz.prog 129:=⟨Tryz.f129,Tryz.func129,by kernel_rfl,by kernel_rfl⟩
theorem ca130:Callable Tryz.prog 130:=⟨Tryz.f130,Tryz.func130,by kernel_rfl,by kernel_rfl⟩
theorem ca131:Callable Tryz.prog 131:=⟨Tryz.f131,Tryz.func131,by kernel_rfl,by kernel_rfl⟩
theorem ca132:Callable Tryz.prog 132:=⟨Tryz.f132,Tryz.func132,by kernel_rfl,by kernel_rfl⟩
theorem ca133:Callable Tryz.prog 133:=⟨Tryz.f133,Tryz.func133,by kernel_rfl,by kernel_rfl⟩
theorem ca134:Callable Tryz.prog 134:=⟨Tryz.f134,Tryz.func134,by kernel_rfl,by kernel_rfl⟩
theorem ca135:Callable Tryz.prog 135:=⟨Tryz.f135,Tryz.func135,by kernel_rfl,by kernel_rfl⟩
theorem ca136:Callable Tryz.prog 136:=⟨Tryz.f136,Tryz.func136,by kernel_rfl,by kernel_rfl⟩
theorem ca137:Callable Tryz.prog 137:=⟨Tryz.f137,Tryz.func137,by kernel_rfl,by kernel_rfl⟩
theorem ca138:Callable Tryz.prog 138:=⟨Tryz.f138,Tryz.func138,by kernel_rfl,by kernel_rfl⟩
theorem ca139:Callable Tryz.prog 139:=⟨Tryz.f139,Tryz.func139,by kernel_rfl,by kernel_rfl⟩
theorem ca140:Callable Tryz.prog 140:=⟨Tryz.f140,Tryz.func140,by kernel_rfl,by kernel_rfl⟩
theorem ca141:Callable Tryz.prog 141:=⟨Tryz.f141,Tryz.func141,by kernel_rfl,by kernel_rfl⟩
theorem ca142:Callable Tryz.prog 142:=⟨Tryz.f142,Tryz.func142,by kernel_rfl,by kernel_rfl⟩
theorem ca143:Callable Tryz.prog 143:=⟨Tryz.f143,Tryz.func143,by kernel_rfl,by kernel_rfl⟩
theorem ca144:Callable Tryz.prog 144:=⟨Tryz.f144,Tryz.func144,by kernel_rfl,by kernel_rfl⟩
theorem ca145:Callable Tryz.prog 145:=⟨Tryz.f145,Tryz.func145,by kernel_rfl,by kernel_rfl⟩
theorem ca148:Callable Tryz.prog 148:=⟨Tryz.f148,Tryz.func148,by kernel_rfl,by kernel_rfl⟩
theorem ca149:Callable Tryz.prog 149:=⟨Tryz.f149,Tryz.func149,by kernel_rfl,by kernel_rfl⟩
theorem ca150:Callable Tryz.prog 150:=⟨Tryz.f150,Tryz.func150,by kernel_rfl,by kernel_rfl⟩
theorem ca151:Callable Tryz.prog 151:=⟨Tryz.f151,Tryz.func151,by kernel_rfl,by kernel_rfl⟩
theorem ca152:Callable Tryz.prog 152:=⟨Tryz.f152,Tryz.func152,by kernel_rfl,by kernel_rfl⟩
theorem ca153:Callable Tryz.prog 153:=⟨Tryz.f153,Tryz.func153,by kernel_rfl,by kernel_rfl⟩
theorem ca154:Callable Tryz.prog 154:=⟨Tryz.f154,Tryz.func154,by kernel_rfl,by kernel_rfl⟩
theorem ca155:Callable Tryz.prog 155:=⟨Tryz.f155,Tryz.func155,by kernel_rfl,by kernel_rfl⟩
theorem ca156:Callable Tryz.prog 156:=⟨Tryz.f156,Tryz.func156,by kernel_rfl,by kernel_rfl⟩
theorem ca157:Callable Tryz.prog 157:=⟨Tryz.f157,Tryz.func157,by kernel_rfl,by kernel_rfl⟩
theorem ca158:Callable Tryz.prog 158:=⟨Tryz.f158,Tryz.func158,by kernel_rfl,by kernel_rfl⟩
theorem ca159:Callable Tryz.prog 159:=⟨Tryz.f159,Tryz.func159,by kernel_rfl,by kernel_rfl⟩
theorem ca160:Callable Tryz.prog 160:=⟨Tryz.f160,Tryz.func160,by kernel_rfl,by kernel_rfl⟩
theorem ca161:Callable Tryz.prog 161:=⟨Tryz.f161,Tryz.func161,by kernel_rfl,by kernel_rfl⟩
theorem ca162:Callable Tryz.prog 162:=⟨Tryz.f162,Tryz.func162,by kernel_rfl,by kernel_rfl⟩
theorem ca163:Callable Tryz.prog 163:=⟨Tryz.f163,Tryz.func163,by kernel_rfl,by kernel_rfl⟩
theorem ca164:Callable Tryz.prog 164:=⟨Tryz.f164,Tryz.func164,by kernel_rfl,by kernel_rfl⟩
theorem ca165:Callable Tryz.prog 165:=⟨Tryz.f165,Tryz.func165,by kernel_rfl,by kernel_rfl⟩
theorem ca166:Callable Tryz.prog 166:=⟨Tryz.f166,Tryz.func166,by kernel_rfl,by kernel_rfl⟩
theorem ca167:Callable Tryz.prog 167:=⟨Tryz.f167,Tryz.func167,by kernel_rfl,by kernel_rfl⟩
theorem ca168:Callable Tryz.prog 168:=⟨Tryz.f168,Tryz.func168,by kernel_rfl,by kernel_rfl⟩
theorem ca173:Callable Tryz.prog 173:=⟨Tryz.f173,Tryz.func173,by kernel_rfl,by kernel_rfl⟩
theorem ca174:Callable Tryz.prog 174:=⟨Tryz.f174,Tryz.func174,by kernel_rfl,by kernel_rfl⟩
theorem ca175:Callable Tryz.prog 175:=⟨Tryz.f175,Tryz.func175,by kernel_rfl,by kernel_rfl⟩
theorem ca176:Callable Tryz.prog 176:=⟨Tryz.f176,Tryz.func176,by kernel_rfl,by kernel_rfl⟩
theorem ca177:Callable Tryz.prog 177:=⟨Tryz.f177,Tryz.func177,by kernel_rfl,by kernel_rfl⟩
theorem ca178:Callable Tryz.prog 178:=⟨Tryz.f178,Tryz.func178,by kernel_rfl,by kernel_rfl⟩
theorem ca179:Callable Tryz.prog 179:=⟨Tryz.f179,Tryz.func179,by kernel_rfl,by kernel_rfl⟩
theorem ca180:Callable Tryz.prog 180:=⟨Tryz.f180,Tryz.func180,by kernel_rfl,by kernel_rfl⟩
theorem ca181:Callable Tryz.prog 181:=⟨Tryz.f181,Tryz.func181,by kernel_rfl,by kernel_rfl⟩
theorem ca182:Callable Tryz.prog 182:=⟨Tryz.f182,Tryz.func182,by kernel_rfl,by kernel_rfl⟩
theorem ca183:Callable Tryz.prog 183:=⟨Tryz.f183,Tryz.func183,by kernel_rfl,by kernel_rfl⟩
theorem ca189:Callable Tryz.prog 189:=⟨Tryz.f189,Tryz.func189,by kernel_rfl,by kernel_rfl⟩
theorem ca190:Callable Tryz.prog 190:=⟨Tryz.f190,Tryz.func190,by kernel_rfl,by kernel_rfl⟩
theorem ca191:Callable Tryz.prog 191:=⟨Tryz.f191,Tryz.func191,by kernel_rfl,by kernel_rfl⟩
theorem ca192:Callable Tryz.prog 192:=⟨Tryz.f192,Tryz.func192,by kernel_rfl,by kernel_rfl⟩
theorem ca193:Callable Tryz.prog 193:=⟨Tryz.f193,Tryz.func193,by kernel_rfl,by kernel_rfl⟩
theorem ca194:Callable Tryz.prog 194:=⟨Tryz.f194,Tryz.func194,by kernel_rfl,by kernel_rfl⟩
theorem ca196:Callable Tryz.prog 196:=⟨Tryz.f196,Tryz.func196,by kernel_rfl,by kernel_rfl⟩
theorem ca197:Callable Tryz.prog 197:=⟨Tryz.f197,Tryz.func197,by kernel_rfl,by kernel_rfl⟩
theorem ca200:Callable Tryz.prog 200:=⟨Tryz.f200,Tryz.func200,by kernel_rfl,by kernel_rfl⟩
theorem ca201:Callable Tryz.prog 201:=⟨Tryz.f201,Tryz.func201,by kernel_rfl,by kernel_rfl⟩
theorem ca205:Callable Tryz.prog 205:=⟨Tryz.f205,Tryz.func205,by kernel_rfl,by kernel_rfl⟩
@[reducible] def YA0:Ty:=Ty.cons (Ty.cons (Ty.sl (Ty.cons (Ty.int .i64) (Ty.cons (Ty.int .i64) Ty.unit))) (Ty.cons (Ty.int .i64) (Ty.cons (Ty.int .i64) Ty.unit))) (Ty.cons (Ty.int .i64) (Ty.cons (Ty.cons (Ty.int .i64) (Ty.cons (Ty.int .i64) Ty.unit)) (Ty.cons (Ty.cons (Ty.int .i64) (Ty.cons (Ty.int .i64) (Ty.cons (Ty.int .i64) (Ty.cons (Ty.int .i64) Ty.unit)))) (Ty.cons (Ty.sl (Ty.cons Ty.str (Ty.cons (Ty.int .i64) (Ty.cons (Ty.int .i64) (Ty.cons (Ty.int .i64) Ty.unit))))) (Ty.cons (Ty.cons (Ty.int .i64) (Ty.cons (Ty.int .i64) (Ty.cons (Ty.int .i64) Ty.unit))) (Ty.cons (Ty.sl (Ty.cons Ty.str (Ty.cons (Ty.int .i64) (Ty.cons (Ty.int .i64) (Ty.cons (Ty.int .i64) (Ty.cons (Ty.int .i64) Ty.unit)))))) (Ty.cons (Ty.int .i64) (Ty.cons (Ty.int .i64) (Ty.cons (Ty.sl (Ty.cons (Ty.int .i64) (Ty.cons (Ty.int .i64) Ty.unit))) (Ty.cons (Ty.int .i64) (Ty.cons (Ty.sl (Ty.cons (Ty.int .i64) (Ty.cons (Ty.int .i64) (Ty.cons Ty.str (Ty.cons (Ty.int .i64) Ty.unit))))) Ty.unit)))))))))))
@[reducible] def YA1:Ty:=Ty.cons (Ty.int .i64) (Ty.cons (Ty.cons (Ty.int .i64) (Ty.cons (Ty.int .i64) Ty.unit)) (Ty.cons (Ty.cons (Ty.int .i64) (Ty.cons (Ty.int .i64) (Ty.cons (Ty.int .i64) (Ty.cons (Ty.int .i64) Ty.unit)))) (Ty.cons (Ty.sl (Ty.cons Ty.str (Ty.cons (Ty.int .i64) (Ty.cons (Ty.int .i64) (Ty.cons (Ty.int .i64) Ty.unit))))) (Ty.cons (Ty.cons (Ty.int .i64) (Ty.cons (Ty.int .i64) (Ty.cons (Ty.int .i64) Ty.unit))) (Ty.cons (Ty.sl (Ty.cons Ty.str (Ty.cons (Ty.int .i64) (Ty.cons (Ty.int .i64) (Ty.cons (Ty.int .i64) (Ty.cons (Ty.int .i64) Ty.unit)))))) (Ty.cons (Ty.int .i64) (Ty.cons (Ty.int .i64) (Ty.cons (Ty.sl (Ty.cons (Ty.int .i64) (Ty.cons (Ty.int .i64) Ty.unit))) (Ty.cons (Ty.int .i64) (Ty.cons (Ty.sl (Ty.cons (Ty.int .i64) (Ty.cons (Ty.int .i64) (Ty.cons Ty.str (Ty.cons (Ty.int .i64) Ty.unit))))) Ty.unit))))))))))
@[reducible] def YA2:Ty:=Ty.cons (Ty.sl (Ty.cons (Ty.int .i64) (Ty.cons (Ty.int .i64) Ty.unit))) (Ty.cons (Ty.int .i64) (Ty.cons (Ty.int .i64) Ty.unit))
@[reducible] def YA3:Ty:=Ty.cons Ty.str (Ty.cons (Ty.int .i64) (Ty.cons (Ty.int .i64) (Ty.cons (Ty.int .i64) (Ty.cons (Ty.int .i64) Ty.unit))))
@[reducible] def YA4:Ty:=Ty.cons (Ty.int .i64) (Ty.cons (Ty.int .i64) (Ty.cons (Ty.int .i64) (Ty.cons (Ty.int .i64) Ty.unit)))
@[reducible] def YA5:Ty:=Ty.cons Ty.str (Ty.cons (Ty.int .i64) (Ty.cons (Ty.int .i64) (Ty.cons (Ty.int .i64) Ty.unit)))
@[reducible] def YA6:Ty:=Ty.cons (Ty.int .i64) (Ty.cons (Ty.int .i64) (Ty.cons Ty.str (Ty.cons (Ty.int .i64) Ty.unit)))
@[reducible] def YA7:Ty:=Ty.cons (Ty.int .i64) (Ty.cons (Ty.int .i64) (Ty.cons (Ty.int .i64) Ty.unit))
@[reducible] def YA8:Ty:=Ty.cons (Ty.int .i64) (Ty.cons Ty.str (Ty.cons Ty.str Ty.unit))
@[reducible] def YA9:Ty:=Ty.cons (Ty.int .i64) (Ty.cons (Ty.int .i64) Ty.unit)
@[reducible] def YA10:Ty:=Ty.cons Ty.str (Ty.cons Ty.str Ty.unit)
theorem bl_ {a b:Nat} (h:Nat.ble a b=true):a≤b:=Nat.le_of_ble_eq_true h
theorem bf_ {b:Bool} (h:¬ b=true):b=false:=Bool.eq_false_iff.2 h
noncomputable section
def ext47:Ext:=[]
theorem ext47Ok:ExtOk Tryz.prog ext47:=trivial
def b47:Code:=bodyOf Tryz.f47
theorem hb47:Tryz.f47.body=some b47:=by kernel_rfl
def sig47:List AT:=[AT.v (.sl YA9),AT.v (.int .i64)]
def tys47:List Ty:=[.int .i64]
def kds47:List RK:=[]
def oks47:List AT:=owns sig47
def P47 (x0:List TyB4) (x1:Int):Prop:=((InR .i64 (x1 - (x0.length:Int)))∧True)
def g47_0 (x0:List TyB4) (x1:Int):Int:=(if (decide (x1 - (x0.length:Int)<0))=true then -1 else x1 - (x0.length:Int))
theorem at47 (x0:List TyB4) (x1:Int) (h:P47 x0 x1) (K:Ctx) (q:Nat→Value):AtV Tryz.prog 47 (PostR kds47 oks47 [⟨.int .i64,g47_0 x0 x1⟩] [] [] q K) 12 K q [] [.code b47] (entE 0 0 sig47 (x0,x1,())) (entL sig47 (x0,x1,())):=by
 unfold P47 at h
 unfold g47_0
 obtain ⟨s0,h⟩:=h
 by_cases b0:(decide (x1 - (x0.length:Int)<0))=true
 ·try simp only [if_pos b0] at h ⊢
  exact AtV.ret Tryz.func47 tabOk ext47Ok mixed false [] tys47 [true] (a1 s0 (a1 b0 trivial)) (by kernel_rfl)
 ·try simp only [if_neg b0] at h ⊢
  replace b0:=bf_ b0
  exact AtV.ret Tryz.func47 tabOk ext47Ok mixed false [] tys47 [false] (a1 s0 (a1 b0 trivial)) (by kernel_rfl)
def S47:Am.Spec:={ sig:=sig47,pre:=fun ⟨x0,x1,_⟩=>P47 x0 x1,res:=fun ⟨x0,x1,_⟩=>[⟨.int .i64,g47_0 x0 x1⟩],kds:=kds47 }
theorem con47:Contract Tryz.prog 47 S47:=contract_of Tryz.func47 hb47 (bl_ (by kernel_rfl)) (fun ⟨x0,x1,_⟩ h _ K q=>at47 x0 x1 h K q)
theorem g47_le (x0:List TyB4) (x1:Int) (h:0≤x1) (hi:InR .i64 x1) (hw:Wf (.sl (.cons (.int .i64) (.cons (.int .i64) .unit))) x0) (hg:¬ g47_0 x0 x1<0):P47 x0 x1∧g47_0 x0 x1≤x1 - x0.length:=by
 have hm:x0.length≤9223372036854775807:=hw.1
 rw [i64_iff] at hi
 unfold g47_0 P47 at *
 simp only [decide_eq_true_eq,i64_iff] at *
 refine ⟨?_,?_⟩
 ·repeat' (first | apply And.intro | split)
  all_goals first | trivial | omega
 ·split at hg <;> rename_i hc
  ·omega
  ·rw [if_neg hc];omega
end
noncomputable section
def ext13:Ext:=[(47,S47)]
theorem ext13Ok:ExtOk Tryz.prog ext13:=⟨⟨ca47,con47⟩,trivial⟩
def b13:Code:=bodyOf Tryz.f13
theorem hb13:Tryz.f13.body=some b13:=by kernel_rfl
def sig13:List AT:=[AT.v YA2,AT.v (.int .i64)]
def tys13:List Ty:=[.int .i64]
def kds13:List RK:=[]
def oks13:List AT:=owns sig13
def P13 (x0:List TyB4×Int×Int×Unit) (x1:Int):Prop:=((P47 x0.1 x1)∧True)
def g13_0 (x0:List TyB4×Int×Int×Unit) (x1:Int):Int:=(if (decide (g47_0 x0.1 x1<0))=true then -1 else g47_0 x0.1 x1)
theorem at13 (x0:List TyB4×Int×Int×Unit) (x1:Int) (h:P13 x0 x1) (K:Ctx) (q:Nat→Value):AtV Tryz.prog 13 (PostR kds13 oks13 [⟨.int .i64,g13_0 x0 x1⟩] [] [] q K) 12 K q [] [.code b13] (entE 0 0 sig13 (x0,x1,())) (entL sig13 (x0,x1,())):=by
 unfold P13 at h
 unfold g13_0
 obtain ⟨s0,h⟩:=h
 by_cases b0:(decide (g47_0 x0.1 x1<0))=true
 ·try simp only [if_pos b0] at h ⊢
  exact AtV.ret Tryz.func13 tabOk ext13Ok mixed false [] tys13 [true] (a1 s0 (a1 b0 trivial)) (by kernel_rfl)
 ·try simp only [if_neg b0] at h ⊢
  replace b0:=bf_ b0
  exact AtV.ret Tryz.func13 tabOk ext13Ok mixed false [] tys13 [false] (a1 s0 (a1 b0 trivial)) (by kernel_rfl)
def S13:Am.Spec:={ sig:=sig13,pre:=fun ⟨x0,x1,_⟩=>P13 x0 x1,res:=fun ⟨x0,x1,_⟩=>[⟨.int .i64,g13_0 x0 x1⟩],kds:=kds13 }
theorem con13:Contract Tryz.prog 13 S13:=contract_of Tryz.func13 hb13 (bl_ (by kernel_rfl)) (fun ⟨x0,x1,_⟩ h _ K q=>at13 x0 x1 h K q)
end
noncomputable section
def ext48:Ext:=[]
theorem ext48Ok:ExtOk Tryz.prog ext48:=trivial
def b48:Code:=bodyOf Tryz.f48
theorem hb48:Tryz.f48.body=some b48:=by kernel_rfl
def sig48:List AT:=[AT.v YA5,AT.v (.int .i64)]
def tys48:List Ty:=[.int .i64]
def kds48:List RK:=[]
def oks48:List AT:=owns sig48
def P48 (x0:ByteArray×Int×Int×Int×Unit) (x1:Int):Prop:=((InR .i64 (x1 - (↑(ByteArray.size x0.1):Int)))∧True)
def g48_0 (x0:ByteArray×Int×Int×Int×Unit) (x1:Int):Int:=(if (decide (x1 - (↑(ByteArray.size x0.1):Int)<0))=true then -1 else x1 - (↑(ByteArray.size x0.1):Int))
theorem at48 (x0:ByteArray×Int×Int×Int×Unit) (x1:Int) (h:P48 x0 x1) (K:Ctx) (q:Nat→Value):AtV Tryz.prog 48 (PostR kds48 oks48 [⟨.int .i64,g48_0 x0 x1⟩] [] [] q K) 13 K q [] [.code b48] (entE 0 0 sig48 (x0,x1,())) (entL sig48 (x0,x1,())):=by
 unfold P48 at h
 unfold g48_0
 obtain ⟨s0,h⟩:=h
 by_cases b0:(decide (x1 - (↑(ByteArray.size x0.1):Int)<0))=true
 ·try simp only [if_pos b0] at h ⊢
  exact AtV.ret Tryz.func48 tabOk ext48Ok mixed false [] tys48 [true] (a1 s0 (a1 b0 trivial)) (by kernel_rfl)
 ·try simp only [if_neg b0] at h ⊢
  replace b0:=bf_ b0
  exact AtV.ret Tryz.func48 tabOk ext48Ok mixed false [] tys48 [false] (a1 s0 (a1 b0 trivial)) (by kernel_rfl)
def S48:Am.Spec:={ sig:=sig48,pre:=fun ⟨x0,x1,_⟩=>P48 x0 x1,res:=fun ⟨x0,x1,_⟩=>[⟨.int .i64,g48_0 x0 x1⟩],kds:=kds48 }
theorem con48:Contract Tryz.prog 48 S48:=contract_of Tryz.func48 hb48 (bl_ (by kernel_rfl)) (fun ⟨x0,x1,_⟩ h _ K q=>at48 x0 x1 h K q)
theorem sz48 (x0:TyB1) (x1:Int) (h:0≤x1) (hi:InR .i64 x1) (hw:Wf (.cons .str (.cons (.int .i64) (.cons (.int .i64) (.cons (.int .i64) .unit)))) x0) :
  P48 x0 x1 ∧ -1≤g48_0 x0 x1∧g48_0 x0 x1≤x1:=by
 have h0:x0.1.size≤9223372036854775807:=hw.1
 rw [i64_iff] at hi
 unfold P48 g48_0
 simp only [decide_eq_true_eq,i64_iff]
 repeat' (first | apply And.intro | split)
 all_goals first | trivial | omega
end
noncomputable section
def ext14:Ext:=[(48,S48)]
theorem ext14Ok:ExtOk Tryz.prog ext14:=⟨⟨ca48,con48⟩,trivial⟩
def b14:Code:=bodyOf Tryz.f14
theorem hb14:Tryz.f14.body=some b14:=by kernel_rfl
def sig14:List AT:=[AT.v (.sl YA5),AT.v (.int .i64)]
def tys14:List Ty:=[.int .i64]
def kds14:List RK:=[]
def oks14:List AT:=owns sig14
def E14_5 (v1:Int) (v5:Int) (x0:List TyB1):Env:=[(0,.a (.sl YA5 x0)),(1,.a (.val (.int .i64 v1))),(5,.a (.val (.int .i64 v5)))]
def L14_5 (v1:Int) (v5:Int) (x0:List TyB1):Heap:=[]
mutual
def R14:Nat→List TyB1→Int→List Dyn→Prop
 | 0,_,_,_=>False
 | n+1,x0,x1,ds=>((InR .i64 (x1 - (x0.length:Int)))∧(if (decide (x1 - (x0.length:Int)<0))=true then (ds=[Dyn.mk (.int .i64) (-1)]) else (R14_5 n (x1 - (x0.length:Int)) (0) (x0) ds)))
def R14_5:Nat→Int→Int→List TyB1→List Dyn→Prop
 | 0,_,_,_,_=>False
 | n+1,v1,v5,x0,ds=>(if (decide (v5<(x0.length:Int)))=true then ((0≤v5)∧(v5<(x0.length:Int))∧((P48 (List.getD x0 (Int.toNat v5) (ByteArray.empty,0,0,0,())) v1)∧(if (decide (g48_0 (List.getD x0 (Int.toNat v5) (ByteArray.empty,0,0,0,())) v1<0))=true then (ds=[Dyn.mk (.int .i64) (-1)]) else ((InR .i64 (v5+1))∧(R14_5 n (g48_0 (List.getD x0 (Int.toNat v5) (ByteArray.empty,0,0,0,())) v1) (v5+1) (x0) ds))))) else (ds=[Dyn.mk (.int .i64) v1]))
end
theorem snd14:∀ n,(∀ (x0:List TyB1) (x1:Int) ds,R14 n x0 x1 ds→∀ K q,AtV Tryz.prog 14 (PostR kds14 oks14 ds [] [] q K) 27 K q [] [.code b14] (entE 0 0 sig14 (x0,x1,())) (entL sig14 (x0,x1,())))∧(∀ (v1:Int) (v5:Int) (x0:List TyB1) ds,R14_5 n v1 v5 x0 ds→∀ K q,AtV Tryz.prog 14 (PostR kds14 oks14 ds [] [] q K) 27 K q [] (cutAt b14 5) (E14_5 v1 v5 x0) (L14_5 v1 v5 x0)):=by
 intro n
 induction n with
 | zero=>exact ⟨fun _ _ _ h=>by simp only [R14] at h,fun _ _ _ _ h=>by simp only [R14_5] at h⟩
 | succ n ih =>
 obtain ⟨ih,ih5⟩:=ih
 refine ⟨?_,?_⟩
 ·intro x0 x1 ds h K q
  rw [R14] at h
  obtain ⟨s0,h⟩:=h
  by_cases b0:(decide (x1 - (x0.length:Int)<0))=true
  ·rw [if_pos b0] at h
   subst h
   exact AtV.ret Tryz.func14 tabOk ext14Ok mixed false [] tys14 [true] (a1 s0 (a1 b0 trivial)) (by kernel_rfl)
  ·rw [if_neg b0] at h
   replace b0:=bf_ b0
   exact AtV.go tabOk ext14Ok mixed false [] [] [0,1,5] [] [false] (a1 s0 (a1 b0 trivial)) (ih5 _ _ _ _ h K q) (by kernel_rfl)
 ·intro v1 v5 x0 ds h K q
  rw [R14_5] at h
  by_cases b0:(decide (v5<(x0.length:Int)))=true
  ·rw [if_pos b0] at h
   obtain ⟨s0,s1,h⟩:=h
   obtain ⟨s2,h⟩:=h
   by_cases b1:(decide (g48_0 (List.getD x0 (Int.toNat v5) (ByteArray.empty,0,0,0,())) v1<0))=true
   ·rw [if_pos b1] at h
    subst h
    exact AtV.ret Tryz.func14 tabOk ext14Ok mixed false [] tys14 [true,true] (a1 b0 (a1 s0 (a1 s1 (a1 s2 (a1 b1 trivial))))) (by kernel_rfl)
   ·rw [if_neg b1] at h
    replace b1:=bf_ b1
    obtain ⟨s3,h⟩:=h
    exact AtV.go tabOk ext14Ok mixed false [] [] [0,1,5] [] [true,false] (a1 b0 (a1 s0 (a1 s1 (a1 s2 (a1 b1 (a1 s3 trivial)))))) (ih5 _ _ _ _ h K q) (by kernel_rfl)
  ·rw [if_neg b0] at h
   replace b0:=bf_ b0
   subst h
   exact AtV.ret Tryz.func14 tabOk ext14Ok mixed false [] tys14 [false] (a1 b0 trivial) (by kernel_rfl)
def szL14:List TyB1→Int→Int
 | [],l=>l
 | x :: r,l=>if g48_0 x l<0 then -1 else szL14 r (g48_0 x l)
theorem szL14_ok:∀ (x0:List TyB1) (l:Int),0≤l→InR .i64 l→(∀ x∈x0,Wf (.cons .str (.cons (.int .i64) (.cons (.int .i64) (.cons (.int .i64) .unit)))) x)→szL14 x0 l≤l
 | [],l,_,_,_=>Int.le_refl _
 | x :: r,l,h,hi,hw=>by
  obtain ⟨_,h2,h3⟩:=sz48 x l h hi (hw x (List.mem_cons_self ..))
  simp only [szL14]
  rw [i64_iff] at hi
  split
  ·omega
  ·have:=szL14_ok r (g48_0 x l) (by omega) (by rw [i64_iff];omega) (fun y hy=>hw y (List.mem_cons_of_mem _ hy))
   omega
theorem run14 (x0:List TyB1) (hm:x0.length≤maxLen) (hw:∀ x∈x0,Wf (.cons .str (.cons (.int .i64) (.cons (.int .i64) (.cons (.int .i64) .unit)))) x):∀ (k i:Nat) (l:Int),i+k=x0.length→0≤l→InR .i64 l →
  R14_5 (k+1) l (i:Int) x0 [⟨.int .i64,szL14 (x0.drop i) l⟩]:=by
 intro k
 induction k with
 | zero =>
  intro i l hi _ _
  rw [R14_5,if_neg (by simp;omega),drop_end x0 i (by omega)]
  rfl
 | succ k ih =>
  intro i l hi h0 hl
  rw [R14_5,if_pos (by simp;omega)]
  simp only [Int.toNat_natCast]
  have hmem:x0.getD i (ByteArray.empty,(0:Int),(0:Int),(0:Int),())∈x0:=by rw [getD_lt _ _ _ (by omega)];exact List.getElem_mem _
  obtain ⟨h1,h2,h3⟩:=sz48 _ l h0 hl (hw _ hmem)
  refine ⟨by omega,by omega,h1,?_⟩
  rw [drop_get x0 i (ByteArray.empty,(0:Int),(0:Int),(0:Int),()) (by omega)]
  simp only [szL14]
  have hl':=hl
  rw [i64_iff] at hl'
  by_cases hn:g48_0 (x0.getD i (ByteArray.empty,(0:Int),(0:Int),(0:Int),())) l<0
  ·rw [if_pos (by simpa using hn),if_pos hn]
  ·rw [if_neg (by simpa using hn),if_neg hn]
   exact ⟨inR_up hm (by omega),ih (i+1) _ (by omega) (by omega) (by rw [i64_iff];omega)⟩
def g14_0 (x0:List TyB1) (x1:Int):Int:=if x1 - x0.length<0 then -1 else szL14 x0 (x1 - x0.length)
def P14 (x0:List TyB1) (x1:Int):Prop:=0≤x1
theorem g14_le (x0:List TyB1) (x1:Int) (h:0≤x1) (hi:InR .i64 x1) (hw:Wf (.sl (.cons .str (.cons (.int .i64) (.cons (.int .i64) (.cons (.int .i64) .unit))))) x0) (hg:¬ g14_0 x0 x1<0):g14_0 x0 x1≤x1 - x0.length:=by
 unfold g14_0 at hg ⊢
 rw [i64_iff] at hi
 split
 ·rename_i h1
  rw [if_pos h1] at hg
  omega
 ·exact szL14_ok x0 _ (by omega) (by rw [i64_iff];omega) hw.2
theorem top14 (x0:List TyB1) (x1:Int) (hw:Wf (.sl (.cons .str (.cons (.int .i64) (.cons (.int .i64) (.cons (.int .i64) .unit))))) x0) (hi:InR .i64 x1) (h:0≤x1):R14 (x0.length+1+1) x0 x1 [⟨.int .i64,g14_0 x0 x1⟩]:=by
 have hm:x0.length≤maxLen:=hw.1
 have hm':x0.length≤9223372036854775807:=hm
 rw [i64_iff] at hi
 rw [R14]
 refine ⟨by rw [i64_iff];omega,?_⟩
 unfold g14_0
 by_cases hn:x1 - (x0.length:Int)<0
 ·rw [if_pos (by simpa using hn),if_pos hn]
 ·rw [if_neg (by simpa using hn),if_neg hn]
  have:=run14 x0 hm hw.2 x0.length 0 (x1 - x0.length) (by omega) (by omega) (by rw [i64_iff];omega)
  simpa using this
def S14:Am.Spec:={ sig:=sig14,pre:=fun ⟨x0,x1,_⟩=>P14 x0 x1,res:=fun ⟨x0,x1,_⟩=>[⟨.int .i64,g14_0 x0 x1⟩] }
theorem con14:Contract Tryz.prog 14 S14:=contract_of Tryz.func14 hb14 (bl_ (by kernel_rfl)) (fun ⟨x0,x1,_⟩ h hwf K q =>
 (snd14 _).1 x0 x1 _ (top14 x0 x1 hwf.1 hwf.2.1 h) K q)
end
noncomputable section
def ext49:Ext:=[]
theorem ext49Ok:ExtOk Tryz.prog ext49:=trivial
def b49:Code:=bodyOf Tryz.f49
theorem hb49:Tryz.f49.body=some b49:=by kernel_rfl
def sig49:List AT:=[AT.v YA3,AT.v (.int .i64)]
def tys49:List Ty:=[.int .i64]
def kds49:List RK:=[]
def oks49:List AT:=owns sig49
def P49 (x0:ByteArray×Int×Int×Int×Int×Unit) (x1:Int):Prop:=((InR .i64 (x1 - (↑(ByteArray.size x0.1):Int)))∧True)
def g49_0 (x0:ByteArray×Int×Int×Int×Int×Unit) (x1:Int):Int:=(if (decide (x1 - (↑(ByteArray.size x0.1):Int)<0))=true then -1 else x1 - (↑(ByteArray.size x0.1):Int))
theorem at49 (x0:ByteArray×Int×Int×Int×Int×Unit) (x1:Int) (h:P49 x0 x1) (K:Ctx) (q:Nat→Value):AtV Tryz.prog 49 (PostR kds49 oks49 [⟨.int .i64,g49_0 x0 x1⟩] [] [] q K) 13 K q [] [.code b49] (entE 0 0 sig49 (x0,x1,())) (entL sig49 (x0,x1,())):=by
 unfold P49 at h
 unfold g49_0
 obtain ⟨s0,h⟩:=h
 by_cases b0:(decide (x1 - (↑(ByteArray.size x0.1):Int)<0))=true
 ·try simp only [if_pos b0] at h ⊢
  exact AtV.ret Tryz.func49 tabOk ext49Ok mixed false [] tys49 [true] (a1 s0 (a1 b0 trivial)) (by kernel_rfl)
 ·try simp only [if_neg b0] at h ⊢
  replace b0:=bf_ b0
  exact AtV.ret Tryz.func49 tabOk ext49Ok mixed false [] tys49 [false] (a1 s0 (a1 b0 trivial)) (by kernel_rfl)
def S49:Am.Spec:={ sig:=sig49,pre:=fun ⟨x0,x1,_⟩=>P49 x0 x1,res:=fun ⟨x0,x1,_⟩=>[⟨.int .i64,g49_0 x0 x1⟩],kds:=kds49 }
theorem con49:Contract Tryz.prog 49 S49:=contract_of Tryz.func49 hb49 (bl_ (by kernel_rfl)) (fun ⟨x0,x1,_⟩ h _ K q=>at49 x0 x1 h K q)
theorem sz49 (x0:TyB0) (x1:Int) (h:0≤x1) (hi:InR .i64 x1) (hw:Wf (.cons .str (.cons (.int .i64) (.cons (.int .i64) (.cons (.int .i64) (.cons (.int .i64) .unit))))) x0) :
  P49 x0 x1 ∧ -1≤g49_0 x0 x1∧g49_0 x0 x1≤x1:=by
 have h0:x0.1.size≤9223372036854775807:=hw.1
 rw [i64_iff] at hi
 unfold P49 g49_0
 simp only [decide_eq_true_eq,i64_iff]
 repeat' (first | apply And.intro | split)
 all_goals first | trivial | omega
end
noncomputable section
def ext15:Ext:=[(49,S49)]
theorem ext15Ok:ExtOk Tryz.prog ext15:=⟨⟨ca49,con49⟩,trivial⟩
def b15:Code:=bodyOf Tryz.f15
theorem hb15:Tryz.f15.body=some b15:=by kernel_rfl
def sig15:List AT:=[AT.v (.sl YA3),AT.v (.int .i64)]
def tys15:List Ty:=[.int .i64]
def kds15:List RK:=[]
def oks15:List AT:=owns sig15
def E15_5 (v1:Int) (v5:Int) (x0:List TyB0):Env:=[(0,.a (.sl YA3 x0)),(1,.a (.val (.int .i64 v1))),(5,.a (.val (.int .i64 v5)))]
def L15_5 (v1:Int) (v5:Int) (x0:List TyB0):Heap:=[]
mutual
def R15:Nat→List TyB0→Int→List Dyn→Prop
 | 0,_,_,_=>False
 | n+1,x0,x1,ds=>((InR .i64 (x1 - (x0.length:Int)))∧(if (decide (x1 - (x0.length:Int)<0))=true then (ds=[Dyn.mk (.int .i64) (-1)]) else (R15_5 n (x1 - (x0.length:Int)) (0) (x0) ds)))
def R15_5:Nat→Int→Int→List TyB0→List Dyn→Prop
 | 0,_,_,_,_=>False
 | n+1,v1,v5,x0,ds=>(if (decide (v5<(x0.length:Int)))=true then ((0≤v5)∧(v5<(x0.length:Int))∧((P49 (List.getD x0 (Int.toNat v5) (ByteArray.empty,0,0,0,0,())) v1)∧(if (decide (g49_0 (List.getD x0 (Int.toNat v5) (ByteArray.empty,0,0,0,0,())) v1<0))=true then (ds=[Dyn.mk (.int .i64) (-1)]) else ((InR .i64 (v5+1))∧(R15_5 n (g49_0 (List.getD x0 (Int.toNat v5) (ByteArray.empty,0,0,0,0,())) v1) (v5+1) (x0) ds))))) else (ds=[Dyn.mk (.int .i64) v1]))
end
theorem snd15:∀ n,(∀ (x0:List TyB0) (x1:Int) ds,R15 n x0 x1 ds→∀ K q,AtV Tryz.prog 15 (PostR kds15 oks15 ds [] [] q K) 27 K q [] [.code b15] (entE 0 0 sig15 (x0,x1,())) (entL sig15 (x0,x1,())))∧(∀ (v1:Int) (v5:Int) (x0:List TyB0) ds,R15_5 n v1 v5 x0 ds→∀ K q,AtV Tryz.prog 15 (PostR kds15 oks15 ds [] [] q K) 27 K q [] (cutAt b15 5) (E15_5 v1 v5 x0) (L15_5 v1 v5 x0)):=by
 intro n
 induction n with
 | zero=>exact ⟨fun _ _ _ h=>by simp only [R15] at h,fun _ _ _ _ h=>by simp only [R15_5] at h⟩
 | succ n ih =>
 obtain ⟨ih,ih5⟩:=ih
 refine ⟨?_,?_⟩
 ·intro x0 x1 ds h K q
  rw [R15] at h
  obtain ⟨s0,h⟩:=h
  by_cases b0:(decide (x1 - (x0.length:Int)<0))=true
  ·rw [if_pos b0] at h
   subst h
   exact AtV.ret Tryz.func15 tabOk ext15Ok mixed false [] tys15 [true] (a1 s0 (a1 b0 trivial)) (by kernel_rfl)
  ·rw [if_neg b0] at h
   replace b0:=bf_ b0
   exact AtV.go tabOk ext15Ok mixed false [] [] [0,1,5] [] [false] (a1 s0 (a1 b0 trivial)) (ih5 _ _ _ _ h K q) (by kernel_rfl)
 ·intro v1 v5 x0 ds h K q
  rw [R15_5] at h
  by_cases b0:(decide (v5<(x0.length:Int)))=true
  ·rw [if_pos b0] at h
   obtain ⟨s0,s1,h⟩:=h
   obtain ⟨s2,h⟩:=h
   by_cases b1:(decide (g49_0 (List.getD x0 (Int.toNat v5) (ByteArray.empty,0,0,0,0,())) v1<0))=true
   ·rw [if_pos b1] at h
    subst h
    exact AtV.ret Tryz.func15 tabOk ext15Ok mixed false [] tys15 [true,true] (a1 b0 (a1 s0 (a1 s1 (a1 s2 (a1 b1 trivial))))) (by kernel_rfl)
   ·rw [if_neg b1] at h
    replace b1:=bf_ b1
    obtain ⟨s3,h⟩:=h
    exact AtV.go tabOk ext15Ok mixed false [] [] [0,1,5] [] [true,false] (a1 b0 (a1 s0 (a1 s1 (a1 s2 (a1 b1 (a1 s3 trivial)))))) (ih5 _ _ _ _ h K q) (by kernel_rfl)
  ·rw [if_neg b0] at h
   replace b0:=bf_ b0
   subst h
   exact AtV.ret Tryz.func15 tabOk ext15Ok mixed false [] tys15 [false] (a1 b0 trivial) (by kernel_rfl)
def szL15:List TyB0→Int→Int
 | [],l=>l
 | x :: r,l=>if g49_0 x l<0 then -1 else szL15 r (g49_0 x l)
theorem szL15_ok:∀ (x0:List TyB0) (l:Int),0≤l→InR .i64 l→(∀ x∈x0,Wf (.cons .str (.cons (.int .i64) (.cons (.int .i64) (.cons (.int .i64) (.cons (.int .i64) .unit))))) x)→szL15 x0 l≤l
 | [],l,_,_,_=>Int.le_refl _
 | x :: r,l,h,hi,hw=>by
  obtain ⟨_,h2,h3⟩:=sz49 x l h hi (hw x (List.mem_cons_self ..))
  simp only [szL15]
  rw [i64_iff] at hi
  split
  ·omega
  ·have:=szL15_ok r (g49_0 x l) (by omega) (by rw [i64_iff];omega) (fun y hy=>hw y (List.mem_cons_of_mem _ hy))
   omega
theorem run15 (x0:List TyB0) (hm:x0.length≤maxLen) (hw:∀ x∈x0,Wf (.cons .str (.cons (.int .i64) (.cons (.int .i64) (.cons (.int .i64) (.cons (.int .i64) .unit))))) x):∀ (k i:Nat) (l:Int),i+k=x0.length→0≤l→InR .i64 l →
  R15_5 (k+1) l (i:Int) x0 [⟨.int .i64,szL15 (x0.drop i) l⟩]:=by
 intro k
 induction k with
 | zero =>
  intro i l hi _ _
  rw [R15_5,if_neg (by simp;omega),drop_end x0 i (by omega)]
  rfl
 | succ k ih =>
  intro i l hi h0 hl
  rw [R15_5,if_pos (by simp;omega)]
  simp only [Int.toNat_natCast]
  have hmem:x0.getD i (ByteArray.empty,(0:Int),(0:Int),(0:Int),(0:Int),())∈x0:=by rw [getD_lt _ _ _ (by omega)];exact List.getElem_mem _
  obtain ⟨h1,h2,h3⟩:=sz49 _ l h0 hl (hw _ hmem)
  refine ⟨by omega,by omega,h1,?_⟩
  rw [drop_get x0 i (ByteArray.empty,(0:Int),(0:Int),(0:Int),(0:Int),()) (by omega)]
  simp only [szL15]
  have hl':=hl
  rw [i64_iff] at hl'
  by_cases hn:g49_0 (x0.getD i (ByteArray.empty,(0:Int),(0:Int),(0:Int),(0:Int),())) l<0
  ·rw [if_pos (by simpa using hn),if_pos hn]
  ·rw [if_neg (by simpa using hn),if_neg hn]
   exact ⟨inR_up hm (by omega),ih (i+1) _ (by omega) (by omega) (by rw [i64_iff];omega)⟩
def g15_0 (x0:List TyB0) (x1:Int):Int:=if x1 - x0.length<0 then -1 else szL15 x0 (x1 - x0.length)
def P15 (x0:List TyB0) (x1:Int):Prop:=0≤x1
theorem g15_le (x0:List TyB0) (x1:Int) (h:0≤x1) (hi:InR .i64 x1) (hw:Wf (.sl (.cons .str (.cons (.int .i64) (.cons (.int .i64) (.cons (.int .i64) (.cons (.int .i64) .unit)))))) x0) (hg:¬ g15_0 x0 x1<0):g15_0 x0 x1≤x1 - x0.length:=by
 unfold g15_0 at hg ⊢
 rw [i64_iff] at hi
 split
 ·rename_i h1
  rw [if_pos h1] at hg
  omega
 ·exact szL15_ok x0 _ (by omega) (by rw [i64_iff];omega) hw.2
theorem top15 (x0:List TyB0) (x1:Int) (hw:Wf (.sl (.cons .str (.cons (.int .i64) (.cons (.int .i64) (.cons (.int .i64) (.cons (.int .i64) .unit)))))) x0) (hi:InR .i64 x1) (h:0≤x1):R15 (x0.length+1+1) x0 x1 [⟨.int .i64,g15_0 x0 x1⟩]:=by
 have hm:x0.length≤maxLen:=hw.1
 have hm':x0.length≤9223372036854775807:=hm
 rw [i64_iff] at hi
 rw [R15]
 refine ⟨by rw [i64_iff];omega,?_⟩
 unfold g15_0
 by_cases hn:x1 - (x0.length:Int)<0
 ·rw [if_pos (by simpa using hn),if_pos hn]
 ·rw [if_neg (by simpa using hn),if_neg hn]
  have:=run15 x0 hm hw.2 x0.length 0 (x1 - x0.length) (by omega) (by omega) (by rw [i64_iff];omega)
  simpa using this
def S15:Am.Spec:={ sig:=sig15,pre:=fun ⟨x0,x1,_⟩=>P15 x0 x1,res:=fun ⟨x0,x1,_⟩=>[⟨.int .i64,g15_0 x0 x1⟩] }
theorem con15:Contract Tryz.prog 15 S15:=contract_of Tryz.func15 hb15 (bl_ (by kernel_rfl)) (fun ⟨x0,x1,_⟩ h hwf K q =>
 (snd15 _).1 x0 x1 _ (top15 x0 x1 hwf.1 hwf.2.1 h) K q)
end
noncomputable section
def ext16:Ext:=[]
theorem ext16Ok:ExtOk Tryz.prog ext16:=trivial
def b16:Code:=bodyOf Tryz.f16
theorem hb16:Tryz.f16.body=some b16:=by kernel_rfl
def sig16:List AT:=[AT.v (.sl YA9),AT.v (.int .i64)]
def tys16:List Ty:=[.int .i64]
def kds16:List RK:=[]
def oks16:List AT:=owns sig16
def P16 (x0:List TyB4) (x1:Int):Prop:=((InR .i64 (x1 - (x0.length:Int)))∧True)
def g16_0 (x0:List TyB4) (x1:Int):Int:=(if (decide (x1 - (x0.length:Int)<0))=true then -1 else x1 - (x0.length:Int))
theorem at16 (x0:List TyB4) (x1:Int) (h:P16 x0 x1) (K:Ctx) (q:Nat→Value):AtV Tryz.prog 16 (PostR kds16 oks16 [⟨.int .i64,g16_0 x0 x1⟩] [] [] q K) 12 K q [] [.code b16] (entE 0 0 sig16 (x0,x1,())) (entL sig16 (x0,x1,())):=by
 unfold P16 at h
 unfold g16_0
 obtain ⟨s0,h⟩:=h
 by_cases b0:(decide (x1 - (x0.length:Int)<0))=true
 ·try simp only [if_pos b0] at h ⊢
  exact AtV.ret Tryz.func16 tabOk ext16Ok mixed false [] tys16 [true] (a1 s0 (a1 b0 trivial)) (by kernel_rfl)
 ·try simp only [if_neg b0] at h ⊢
  replace b0:=bf_ b0
  exact AtV.ret Tryz.func16 tabOk ext16Ok mixed false [] tys16 [false] (a1 s0 (a1 b0 trivial)) (by kernel_rfl)
def S16:Am.Spec:={ sig:=sig16,pre:=fun ⟨x0,x1,_⟩=>P16 x0 x1,res:=fun ⟨x0,x1,_⟩=>[⟨.int .i64,g16_0 x0 x1⟩],kds:=kds16 }
theorem con16:Contract Tryz.prog 16 S16:=contract_of Tryz.func16 hb16 (bl_ (by kernel_rfl)) (fun ⟨x0,x1,_⟩ h _ K q=>at16 x0 x1 h K q)
theorem g16_le (x0:List TyB4) (x1:Int) (h:0≤x1) (hi:InR .i64 x1) (hw:Wf (.sl (.cons (.int .i64) (.cons (.int .i64) .unit))) x0) (hg:¬ g16_0 x0 x1<0):P16 x0 x1∧g16_0 x0 x1≤x1 - x0.length:=by
 have hm:x0.length≤9223372036854775807:=hw.1
 rw [i64_iff] at hi
 unfold g16_0 P16 at *
 simp only [decide_eq_true_eq,i64_iff] at *
 refine ⟨?_,?_⟩
 ·repeat' (first | apply And.intro | split)
  all_goals first | trivial | omega
 ·split at hg <;> rename_i hc
  ·omega
  ·rw [if_neg hc];omega
end
noncomputable section
def ext50:Ext:=[]
theorem ext50Ok:ExtOk Tryz.prog ext50:=trivial
def b50:Code:=bodyOf Tryz.f50
theorem hb50:Tryz.f50.body=some b50:=by kernel_rfl
def sig50:List AT:=[AT.v YA6,AT.v (.int .i64)]
def tys50:List Ty:=[.int .i64]
def kds50:List RK:=[]
def oks50:List AT:=owns sig50
def P50 (x0:Int×Int×ByteArray×Int×Unit) (x1:Int):Prop:=((InR .i64 (x1 - (↑(ByteArray.size x0.2.2.1):Int)))∧True)
def g50_0 (x0:Int×Int×ByteArray×Int×Unit) (x1:Int):Int:=(if (decide (x1 - (↑(ByteArray.size x0.2.2.1):Int)<0))=true then -1 else x1 - (↑(ByteArray.size x0.2.2.1):Int))
theorem at50 (x0:Int×Int×ByteArray×Int×Unit) (x1:Int) (h:P50 x0 x1) (K:Ctx) (q:Nat→Value):AtV Tryz.prog 50 (PostR kds50 oks50 [⟨.int .i64,g50_0 x0 x1⟩] [] [] q K) 13 K q [] [.code b50] (entE 0 0 sig50 (x0,x1,())) (entL sig50 (x0,x1,())):=by
 unfold P50 at h
 unfold g50_0
 obtain ⟨s0,h⟩:=h
 by_cases b0:(decide (x1 - (↑(ByteArray.size x0.2.2.1):Int)<0))=true
 ·try simp only [if_pos b0] at h ⊢
  exact AtV.ret Tryz.func50 tabOk ext50Ok mixed false [] tys50 [true] (a1 s0 (a1 b0 trivial)) (by kernel_rfl)
 ·try simp only [if_neg b0] at h ⊢
  replace b0:=bf_ b0
  exact AtV.ret Tryz.func50 tabOk ext50Ok mixed false [] tys50 [false] (a1 s0 (a1 b0 trivial)) (by kernel_rfl)
def S50:Am.Spec:={ sig:=sig50,pre:=fun ⟨x0,x1,_⟩=>P50 x0 x1,res:=fun ⟨x0,x1,_⟩=>[⟨.int .i64,g50_0 x0 x1⟩],kds:=kds50 }
theorem con50:Contract Tryz.prog 50 S50:=contract_of Tryz.func50 hb50 (bl_ (by kernel_rfl)) (fun ⟨x0,x1,_⟩ h _ K q=>at50 x0 x1 h K q)
theorem sz50 (x0:TyB2) (x1:Int) (h:0≤x1) (hi:InR .i64 x1) (hw:Wf (.cons (.int .i64) (.cons (.int .i64) (.cons .str (.cons (.int .i64) .unit)))) x0) :
  P50 x0 x1 ∧ -1≤g50_0 x0 x1∧g50_0 x0 x1≤x1:=by
 have h2:x0.2.2.1.size≤9223372036854775807:=hw.2.2.1
 rw [i64_iff] at hi
 unfold P50 g50_0
 simp only [decide_eq_true_eq,i64_iff]
 repeat' (first | apply And.intro | split)
 all_goals first | trivial | omega
end
noncomputable section
def ext17:Ext:=[(50,S50)]
theorem ext17Ok:ExtOk Tryz.prog ext17:=⟨⟨ca50,con50⟩,trivial⟩
def b17:Code:=bodyOf Tryz.f17
theorem hb17:Tryz.f17.body=some b17:=by kernel_rfl
def sig17:List AT:=[AT.v (.sl YA6),AT.v (.int .i64)]
def tys17:List Ty:=[.int .i64]
def kds17:List RK:=[]
def oks17:List AT:=owns sig17
def E17_5 (v1:Int) (v5:Int) (x0:List TyB2):Env:=[(0,.a (.sl YA6 x0)),(1,.a (.val (.int .i64 v1))),(5,.a (.val (.int .i64 v5)))]
def L17_5 (v1:Int) (v5:Int) (x0:List TyB2):Heap:=[]
mutual
def R17:Nat→List TyB2→Int→List Dyn→Prop
 | 0,_,_,_=>False
 | n+1,x0,x1,ds=>((InR .i64 (x1 - (x0.length:Int)))∧(if (decide (x1 - (x0.length:Int)<0))=true then (ds=[Dyn.mk (.int .i64) (-1)]) else (R17_5 n (x1 - (x0.length:Int)) (0) (x0) ds)))
def R17_5:Nat→Int→Int→List TyB2→List Dyn→Prop
 | 0,_,_,_,_=>False
 | n+1,v1,v5,x0,ds=>(if (decide (v5<(x0.length:Int)))=true then ((0≤v5)∧(v5<(x0.length:Int))∧((P50 (List.getD x0 (Int.toNat v5) (0,0,ByteArray.empty,0,())) v1)∧(if (decide (g50_0 (List.getD x0 (Int.toNat v5) (0,0,ByteArray.empty,0,())) v1<0))=true then (ds=[Dyn.mk (.int .i64) (-1)]) else ((InR .i64 (v5+1))∧(R17_5 n (g50_0 (List.getD x0 (Int.toNat v5) (0,0,ByteArray.empty,0,())) v1) (v5+1) (x0) ds))))) else (ds=[Dyn.mk (.int .i64) v1]))
end
theorem snd17:∀ n,(∀ (x0:List TyB2) (x1:Int) ds,R17 n x0 x1 ds→∀ K q,AtV Tryz.prog 17 (PostR kds17 oks17 ds [] [] q K) 27 K q [] [.code b17] (entE 0 0 sig17 (x0,x1,())) (entL sig17 (x0,x1,())))∧(∀ (v1:Int) (v5:Int) (x0:List TyB2) ds,R17_5 n v1 v5 x0 ds→∀ K q,AtV Tryz.prog 17 (PostR kds17 oks17 ds [] [] q K) 27 K q [] (cutAt b17 5) (E17_5 v1 v5 x0) (L17_5 v1 v5 x0)):=by
 intro n
 induction n with
 | zero=>exact ⟨fun _ _ _ h=>by simp only [R17] at h,fun _ _ _ _ h=>by simp only [R17_5] at h⟩
 | succ n ih =>
 obtain ⟨ih,ih5⟩:=ih
 refine ⟨?_,?_⟩
 ·intro x0 x1 ds h K q
  rw [R17] at h
  obtain ⟨s0,h⟩:=h
  by_cases b0:(decide (x1 - (x0.length:Int)<0))=true
  ·rw [if_pos b0] at h
   subst h
   exact AtV.ret Tryz.func17 tabOk ext17Ok mixed false [] tys17 [true] (a1 s0 (a1 b0 trivial)) (by kernel_rfl)
  ·rw [if_neg b0] at h
   replace b0:=bf_ b0
   exact AtV.go tabOk ext17Ok mixed false [] [] [0,1,5] [] [false] (a1 s0 (a1 b0 trivial)) (ih5 _ _ _ _ h K q) (by kernel_rfl)
 ·intro v1 v5 x0 ds h K q
  rw [R17_5] at h
  by_cases b0:(decide (v5<(x0.length:Int)))=true
  ·rw [if_pos b0] at h
   obtain ⟨s0,s1,h⟩:=h
   obtain ⟨s2,h⟩:=h
   by_cases b1:(decide (g50_0 (List.getD x0 (Int.toNat v5) (0,0,ByteArray.empty,0,())) v1<0))=true
   ·rw [if_pos b1] at h
    subst h
    exact AtV.ret Tryz.func17 tabOk ext17Ok mixed false [] tys17 [true,true] (a1 b0 (a1 s0 (a1 s1 (a1 s2 (a1 b1 trivial))))) (by kernel_rfl)
   ·rw [if_neg b1] at h
    replace b1:=bf_ b1
    obtain ⟨s3,h⟩:=h
    exact AtV.go tabOk ext17Ok mixed false [] [] [0,1,5] [] [true,false] (a1 b0 (a1 s0 (a1 s1 (a1 s2 (a1 b1 (a1 s3 trivial)))))) (ih5 _ _ _ _ h K q) (by kernel_rfl)
  ·rw [if_neg b0] at h
   replace b0:=bf_ b0
   subst h
   exact AtV.ret Tryz.func17 tabOk ext17Ok mixed false [] tys17 [false] (a1 b0 trivial) (by kernel_rfl)
def szL17:List TyB2→Int→Int
 | [],l=>l
 | x :: r,l=>if g50_0 x l<0 then -1 else szL17 r (g50_0 x l)
theorem szL17_ok:∀ (x0:List TyB2) (l:Int),0≤l→InR .i64 l→(∀ x∈x0,Wf (.cons (.int .i64) (.cons (.int .i64) (.cons .str (.cons (.int .i64) .unit)))) x)→szL17 x0 l≤l
 | [],l,_,_,_=>Int.le_refl _
 | x :: r,l,h,hi,hw=>by
  obtain ⟨_,h2,h3⟩:=sz50 x l h hi (hw x (List.mem_cons_self ..))
  simp only [szL17]
  rw [i64_iff] at hi
  split
  ·omega
  ·have:=szL17_ok r (g50_0 x l) (by omega) (by rw [i64_iff];omega) (fun y hy=>hw y (List.mem_cons_of_mem _ hy))
   omega
theorem run17 (x0:List TyB2) (hm:x0.length≤maxLen) (hw:∀ x∈x0,Wf (.cons (.int .i64) (.cons (.int .i64) (.cons .str (.cons (.int .i64) .unit)))) x):∀ (k i:Nat) (l:Int),i+k=x0.length→0≤l→InR .i64 l →
  R17_5 (k+1) l (i:Int) x0 [⟨.int .i64,szL17 (x0.drop i) l⟩]:=by
 intro k
 induction k with
 | zero =>
  intro i l hi _ _
  rw [R17_5,if_neg (by simp;omega),drop_end x0 i (by omega)]
  rfl
 | succ k ih =>
  intro i l hi h0 hl
  rw [R17_5,if_pos (by simp;omega)]
  simp only [Int.toNat_natCast]
  have hmem:x0.getD i ((0:Int),(0:Int),ByteArray.empty,(0:Int),())∈x0:=by rw [getD_lt _ _ _ (by omega)];exact List.getElem_mem _
  obtain ⟨h1,h2,h3⟩:=sz50 _ l h0 hl (hw _ hmem)
  refine ⟨by omega,by omega,h1,?_⟩
  rw [drop_get x0 i ((0:Int),(0:Int),ByteArray.empty,(0:Int),()) (by omega)]
  simp only [szL17]
  have hl':=hl
  rw [i64_iff] at hl'
  by_cases hn:g50_0 (x0.getD i ((0:Int),(0:Int),ByteArray.empty,(0:Int),())) l<0
  ·rw [if_pos (by simpa using hn),if_pos hn]
  ·rw [if_neg (by simpa using hn),if_neg hn]
   exact ⟨inR_up hm (by omega),ih (i+1) _ (by omega) (by omega) (by rw [i64_iff];omega)⟩
def g17_0 (x0:List TyB2) (x1:Int):Int:=if x1 - x0.length<0 then -1 else szL17 x0 (x1 - x0.length)
def P17 (x0:List TyB2) (x1:Int):Prop:=0≤x1
theorem g17_le (x0:List TyB2) (x1:Int) (h:0≤x1) (hi:InR .i64 x1) (hw:Wf (.sl (.cons (.int .i64) (.cons (.int .i64) (.cons .str (.cons (.int .i64) .unit))))) x0) (hg:¬ g17_0 x0 x1<0):g17_0 x0 x1≤x1 - x0.length:=by
 unfold g17_0 at hg ⊢
 rw [i64_iff] at hi
 split
 ·rename_i h1
  rw [if_pos h1] at hg
  omega
 ·exact szL17_ok x0 _ (by omega) (by rw [i64_iff];omega) hw.2
theorem top17 (x0:List TyB2) (x1:Int) (hw:Wf (.sl (.cons (.int .i64) (.cons (.int .i64) (.cons .str (.cons (.int .i64) .unit))))) x0) (hi:InR .i64 x1) (h:0≤x1):R17 (x0.length+1+1) x0 x1 [⟨.int .i64,g17_0 x0 x1⟩]:=by
 have hm:x0.length≤maxLen:=hw.1
 have hm':x0.length≤9223372036854775807:=hm
 rw [i64_iff] at hi
 rw [R17]
 refine ⟨by rw [i64_iff];omega,?_⟩
 unfold g17_0
 by_cases hn:x1 - (x0.length:Int)<0
 ·rw [if_pos (by simpa using hn),if_pos hn]
 ·rw [if_neg (by simpa using hn),if_neg hn]
  have:=run17 x0 hm hw.2 x0.length 0 (x1 - x0.length) (by omega) (by omega) (by rw [i64_iff];omega)
  simpa using this
def S17:Am.Spec:={ sig:=sig17,pre:=fun ⟨x0,x1,_⟩=>P17 x0 x1,res:=fun ⟨x0,x1,_⟩=>[⟨.int .i64,g17_0 x0 x1⟩] }
theorem con17:Contract Tryz.prog 17 S17:=contract_of Tryz.func17 hb17 (bl_ (by kernel_rfl)) (fun ⟨x0,x1,_⟩ h hwf K q =>
 (snd17 _).1 x0 x1 _ (top17 x0 x1 hwf.1 hwf.2.1 h) K q)
end
noncomputable section
def ext4:Ext:=[(13,S13),(14,S14),(15,S15),(16,S16),(17,S17)]
theorem ext4Ok:ExtOk Tryz.prog ext4:=⟨⟨ca13,con13⟩,⟨ca14,con14⟩,⟨ca15,con15⟩,⟨ca16,con16⟩,⟨ca17,con17⟩,trivial⟩
def b4:Code:=bodyOf Tryz.f4
theorem hb4:Tryz.f4.body=some b4:=by kernel_rfl
def sig4:List AT:=[AT.v YA0,AT.v (.int .i64)]
def tys4:List Ty:=[.int .i64]
def kds4:List RK:=[]
def oks4:List AT:=owns sig4
def P4 (x0:TyA0) (x1:Int):Prop:=((P13 x0.1 x1)∧(if (decide (g13_0 x0.1 x1<0))=true then True else ((P14 x0.2.2.2.2.1 (g13_0 x0.1 x1))∧(if (decide (g14_0 x0.2.2.2.2.1 (g13_0 x0.1 x1)<0))=true then True else ((P15 x0.2.2.2.2.2.2.1 (g14_0 x0.2.2.2.2.1 (g13_0 x0.1 x1)))∧(if (decide (g15_0 x0.2.2.2.2.2.2.1 (g14_0 x0.2.2.2.2.1 (g13_0 x0.1 x1))<0))=true then True else ((P16 x0.2.2.2.2.2.2.2.2.2.1 (g15_0 x0.2.2.2.2.2.2.1 (g14_0 x0.2.2.2.2.1 (g13_0 x0.1 x1))))∧(if (decide (g16_0 x0.2.2.2.2.2.2.2.2.2.1 (g15_0 x0.2.2.2.2.2.2.1 (g14_0 x0.2.2.2.2.1 (g13_0 x0.1 x1)))<0))=true then True else ((P17 x0.2.2.2.2.2.2.2.2.2.2.2.1 (g16_0 x0.2.2.2.2.2.2.2.2.2.1 (g15_0 x0.2.2.2.2.2.2.1 (g14_0 x0.2.2.2.2.1 (g13_0 x0.1 x1)))))∧True)))))))))
def g4_0 (x0:TyA0) (x1:Int):Int:=(if (decide (g13_0 x0.1 x1<0))=true then -1 else (if (decide (g14_0 x0.2.2.2.2.1 (g13_0 x0.1 x1)<0))=true then -1 else (if (decide (g15_0 x0.2.2.2.2.2.2.1 (g14_0 x0.2.2.2.2.1 (g13_0 x0.1 x1))<0))=true then -1 else (if (decide (g16_0 x0.2.2.2.2.2.2.2.2.2.1 (g15_0 x0.2.2.2.2.2.2.1 (g14_0 x0.2.2.2.2.1 (g13_0 x0.1 x1)))<0))=true then -1 else (if (decide (g17_0 x0.2.2.2.2.2.2.2.2.2.2.2.1 (g16_0 x0.2.2.2.2.2.2.2.2.2.1 (g15_0 x0.2.2.2.2.2.2.1 (g14_0 x0.2.2.2.2.1 (g13_0 x0.1 x1))))<0))=true then -1 else g17_0 x0.2.2.2.2.2.2.2.2.2.2.2.1 (g16_0 x0.2.2.2.2.2.2.2.2.2.1 (g15_0 x0.2.2.2.2.2.2.1 (g14_0 x0.2.2.2.2.1 (g13_0 x0.1 x1)))))))))
theorem at4 (x0:TyA0) (x1:Int) (h:P4 x0 x1) (K:Ctx) (q:Nat→Value):AtV Tryz.prog 4 (PostR kds4 oks4 [⟨.int .i64,g4_0 x0 x1⟩] [] [] q K) 36 K q [] [.code b4] (entE 0 0 sig4 (x0,x1,())) (entL sig4 (x0,x1,())):=by
 unfold P4 at h
 unfold g4_0
 obtain ⟨s0,h⟩:=h
 by_cases b0:(decide (g13_0 x0.1 x1<0))=true
 ·try simp only [if_pos b0] at h ⊢
  exact AtV.ret Tryz.func4 tabOk ext4Ok mixed false [] tys4 [true] (a1 s0 (a1 b0 trivial)) (by kernel_rfl)
 ·try simp only [if_neg b0] at h ⊢
  replace b0:=bf_ b0
  obtain ⟨s1,h⟩:=h
  by_cases b1:(decide (g14_0 x0.2.2.2.2.1 (g13_0 x0.1 x1)<0))=true
  ·try simp only [if_pos b1] at h ⊢
   exact AtV.ret Tryz.func4 tabOk ext4Ok mixed false [] tys4 [false,true] (a1 s0 (a1 b0 (a1 s1 (a1 b1 trivial)))) (by kernel_rfl)
  ·try simp only [if_neg b1] at h ⊢
   replace b1:=bf_ b1
   obtain ⟨s2,h⟩:=h
   by_cases b2:(decide (g15_0 x0.2.2.2.2.2.2.1 (g14_0 x0.2.2.2.2.1 (g13_0 x0.1 x1))<0))=true
   ·try simp only [if_pos b2] at h ⊢
    exact AtV.ret Tryz.func4 tabOk ext4Ok mixed false [] tys4 [false,false,true] (a1 s0 (a1 b0 (a1 s1 (a1 b1 (a1 s2 (a1 b2 trivial)))))) (by kernel_rfl)
   ·try simp only [if_neg b2] at h ⊢
    replace b2:=bf_ b2
    obtain ⟨s3,h⟩:=h
    by_cases b3:(decide (g16_0 x0.2.2.2.2.2.2.2.2.2.1 (g15_0 x0.2.2.2.2.2.2.1 (g14_0 x0.2.2.2.2.1 (g13_0 x0.1 x1)))<0))=true
    ·try simp only [if_pos b3] at h ⊢
     exact AtV.ret Tryz.func4 tabOk ext4Ok mixed false [] tys4 [false,false,false,true] (a1 s0 (a1 b0 (a1 s1 (a1 b1 (a1 s2 (a1 b2 (a1 s3 (a1 b3 trivial)))))))) (by kernel_rfl)
    ·try simp only [if_neg b3] at h ⊢
     replace b3:=bf_ b3
     obtain ⟨s4,h⟩:=h
     by_cases b4:(decide (g17_0 x0.2.2.2.2.2.2.2.2.2.2.2.1 (g16_0 x0.2.2.2.2.2.2.2.2.2.1 (g15_0 x0.2.2.2.2.2.2.1 (g14_0 x0.2.2.2.2.1 (g13_0 x0.1 x1))))<0))=true
     ·try simp only [if_pos b4] at h ⊢
      exact AtV.ret Tryz.func4 tabOk ext4Ok mixed false [] tys4 [false,false,false,false,true] (a1 s0 (a1 b0 (a1 s1 (a1 b1 (a1 s2 (a1 b2 (a1 s3 (a1 b3 (a1 s4 (a1 b4 trivial)))))))))) (by kernel_rfl)
     ·try simp only [if_neg b4] at h ⊢
      replace b4:=bf_ b4
      exact AtV.ret Tryz.func4 tabOk ext4Ok mixed false [] tys4 [false,false,false,false,false] (a1 s0 (a1 b0 (a1 s1 (a1 b1 (a1 s2 (a1 b2 (a1 s3 (a1 b3 (a1 s4 (a1 b4 trivial)))))))))) (by kernel_rfl)
def S4:Am.Spec:={ sig:=sig4,pre:=fun ⟨x0,x1,_⟩=>P4 x0 x1,res:=fun ⟨x0,x1,_⟩=>[⟨.int .i64,g4_0 x0 x1⟩],kds:=kds4 }
theorem con4:Contract Tryz.prog 4 S4:=contract_of Tryz.func4 hb4 (bl_ (by kernel_rfl)) (fun ⟨x0,x1,_⟩ h _ K q=>at4 x0 x1 h K q)
end
noncomputable section
def ext102:Ext:=[]
theorem ext102Ok:ExtOk Tryz.prog ext102:=trivial
def b102:Code:=bodyOf Tryz.f102
theorem hb102:Tryz.f102.body=some b102:=by kernel_rfl
def sig102:List AT:=[AT.v YA9]
def tys102:List Ty:=[.cons (.int .i64) (.cons (.int .i64) .unit)]
def kds102:List RK:=[]
def oks102:List AT:=owns sig102
def P102 (x0:Int×Int×Unit):Prop:=True
def g102_0 (x0:Int×Int×Unit):Int×Int×Unit:=(x0.1,x0.2.1,())
theorem at102 (x0:Int×Int×Unit) (h:P102 x0) (K:Ctx) (q:Nat→Value):AtV Tryz.prog 102 (PostR kds102 oks102 [⟨.cons (.int .i64) (.cons (.int .i64) .unit),g102_0 x0⟩] [] [] q K) 11 K q [] [.code b102] (entE 0 0 sig102 (x0,())) (entL sig102 (x0,())):=by
 unfold P102 at h
 unfold g102_0
 exact AtV.ret Tryz.func102 tabOk ext102Ok mixed false [] tys102 [] trivial (by kernel_rfl)
def S102:Am.Spec:={ sig:=sig102,pre:=fun ⟨x0,_⟩=>P102 x0,res:=fun ⟨x0,_⟩=>[⟨.cons (.int .i64) (.cons (.int .i64) .unit),g102_0 x0⟩],kds:=kds102 }
theorem con102:Contract Tryz.prog 102 S102:=contract_of Tryz.func102 hb102 (bl_ (by kernel_rfl)) (fun ⟨x0,_⟩ h _ K q=>at102 x0 h K q)
end
noncomputable section
def ext63:Ext:=[(102,S102)]
theorem ext63Ok:ExtOk Tryz.prog ext63:=⟨⟨ca102,con102⟩,trivial⟩
def b63:Code:=bodyOf Tryz.f63
theorem hb63:Tryz.f63.body=some b63:=by kernel_rfl
def sig63:List AT:=[AT.v (.sl YA9)]
def tys63:List Ty:=[.sl YA9]
def kds63:List RK:=[]
def oks63:List AT:=owns sig63
def E63_3 (v4:Int) (h0:List TyB4) (x0:List TyB4):Env:=[(0,.a (.sl YA9 x0)),(3,.a (.osl 0 Option.none)),(4,.a (.val (.int .i64 v4)))]
def L63_3 (v4:Int) (h0:List TyB4) (x0:List TyB4):Heap:=[Option.some (Arr.mk YA9 h0 false Option.none Option.none)]
mutual
def R63:Nat→List TyB4→List Dyn→Prop
 | 0,_,_=>False
 | n+1,x0,ds=>((0≤(x0.length:Int))∧((x0.length:Int)≤(x0.length:Int))∧(16*(x0.length:Int)≤281474976710656)∧(R63_3 n (0) (List.replicate (Int.toNat (x0.length:Int)) (0,0,())) (x0) ds))
def R63_3:Nat→Int→List TyB4→List TyB4→List Dyn→Prop
 | 0,_,_,_,_=>False
 | n+1,v4,h0,x0,ds=>(if (decide (v4<(x0.length:Int)))=true then ((0≤v4)∧(v4<(x0.length:Int))∧((0≤v4)∧(v4<(h0.length:Int))∧((InR .i64 (v4+1))∧(R63_3 n (v4+1) (List.set h0 (Int.toNat v4) ((List.getD x0 (Int.toNat v4) (0,0,())).1,(List.getD x0 (Int.toNat v4) (0,0,())).2.1,())) (x0) ds)))) else (ds=[Dyn.mk (.sl YA9) h0]))
end
theorem snd63:∀ n,(∀ (x0:List TyB4) ds,R63 n x0 ds→∀ K q,AtV Tryz.prog 63 (PostR kds63 oks63 ds [] [] q K) 23 K q [] [.code b63] (entE 0 0 sig63 (x0,())) (entL sig63 (x0,())))∧(∀ (v4:Int) (h0:List TyB4) (x0:List TyB4) ds,R63_3 n v4 h0 x0 ds→∀ K q,AtV Tryz.prog 63 (PostR kds63 oks63 ds [] [] q K) 23 K q [] (cutAt b63 3) (E63_3 v4 h0 x0) (L63_3 v4 h0 x0)):=by
 intro n
 induction n with
 | zero=>exact ⟨fun _ _ h=>by simp only [R63] at h,fun _ _ _ _ h=>by simp only [R63_3] at h⟩
 | succ n ih =>
 obtain ⟨ih,ih3⟩:=ih
 refine ⟨?_,?_⟩
 ·intro x0 ds h K q
  rw [R63] at h
  obtain ⟨s0,s1,s2,h⟩:=h
  exact AtV.go tabOk ext63Ok mixed false [] [] [0,3,4] [0] [] (a1 s0 (a1 s1 (a1 s2 trivial))) (ih3 _ _ _ _ h K q) (by kernel_rfl)
 ·intro v4 h0 x0 ds h K q
  rw [R63_3] at h
  by_cases b0:(decide (v4<(x0.length:Int)))=true
  ·rw [if_pos b0] at h
   obtain ⟨s0,s1,h⟩:=h
   obtain ⟨s2,s3,h⟩:=h
   obtain ⟨s4,h⟩:=h
   exact AtV.go tabOk ext63Ok mixed false [] [] [0,3,4] [0] [true] (a1 b0 (a1 s0 (a1 s1 (a1 trivial (a1 s2 (a1 s3 (a1 s4 trivial))))))) (ih3 _ _ _ _ h K q) (by kernel_rfl)
  ·rw [if_neg b0] at h
   replace b0:=bf_ b0
   subst h
   exact AtV.ret Tryz.func63 tabOk ext63Ok mixed false [] tys63 [false] (a1 b0 trivial) (by kernel_rfl)
theorem run63 (x0:List TyB4) (hm:x0.length≤maxLen):∀ (k i:Nat),i+k=x0.length →
  R63_3 (k+1) (i:Int) (x0.take i++List.replicate k ((0:Int),(0:Int),())) x0 [⟨.sl (.cons (.int .i64) (.cons (.int .i64) .unit)),x0⟩]:=by
 intro k
 induction k with
 | zero =>
  intro i hi
  rw [R63_3,if_neg (by simp;omega),List.take_of_length_le (by omega)]
  simp
 | succ k ih =>
  intro i hi
  rw [R63_3,if_pos (by simp;omega)]
  simp only [Int.toNat_natCast]
  refine ⟨by omega,by omega,by omega,by simp;omega,inR_up hm (by omega),?_⟩
  have hs:=set_step x0 ((0:Int),(0:Int),()) i (by omega) (k+1) (by omega)
  have he:∀ y:TyB4,(y.1,y.2.1,())=y:=fun _=>rfl
  rw [he,hs]
  exact ih (i+1) (by omega)
def g63_0 (x0:List TyB4):List TyB4:=x0
def P63 (x0:List TyB4):Prop:=16*(x0.length:Int)≤281474976710656
def S63:Am.Spec:={ sig:=sig63,pre:=fun ⟨x0,_⟩=>P63 x0,res:=fun ⟨x0,_⟩=>[⟨.sl (.cons (.int .i64) (.cons (.int .i64) .unit)),g63_0 x0⟩] }
theorem con63:Contract Tryz.prog 63 S63:=contract_of Tryz.func63 hb63 (bl_ (by kernel_rfl)) (fun ⟨x0,_⟩ h hwf K q=>by
 refine (snd63 (x0.length+2)).1 x0 _ ?_ K q
 show R63 (x0.length+1+1) x0 [⟨.sl (.cons (.int .i64) (.cons (.int .i64) .unit)),x0⟩]
 rw [R63]
 refine ⟨by omega,by omega,h,?_⟩
 have:=run63 x0 hwf.1.1 x0.length 0 (by omega)
 simpa using this)
end
noncomputable section
def ext20:Ext:=[(63,S63)]
theorem ext20Ok:ExtOk Tryz.prog ext20:=⟨⟨ca63,con63⟩,trivial⟩
def b20:Code:=bodyOf Tryz.f20
theorem hb20:Tryz.f20.body=some b20:=by kernel_rfl
def sig20:List AT:=[AT.v YA2]
def tys20:List Ty:=[.cons (.sl YA9) YA9]
def kds20:List RK:=[]
def oks20:List AT:=owns sig20
def P20 (x0:List TyB4×Int×Int×Unit):Prop:=((P63 x0.1)∧True)
def g20_0 (x0:List TyB4×Int×Int×Unit):List TyB4×Int×Int×Unit:=(g63_0 x0.1,x0.2.1,x0.2.2.1,())
theorem at20 (x0:List TyB4×Int×Int×Unit) (h:P20 x0) (K:Ctx) (q:Nat→Value):AtV Tryz.prog 20 (PostR kds20 oks20 [⟨.cons (.sl YA9) YA9,g20_0 x0⟩] [] [] q K) 15 K q [] [.code b20] (entE 0 0 sig20 (x0,())) (entL sig20 (x0,())):=by
 unfold P20 at h
 unfold g20_0
 obtain ⟨s0,h⟩:=h
 exact AtV.ret Tryz.func20 tabOk ext20Ok mixed false [] tys20 [] (a1 s0 trivial) (by kernel_rfl)
def S20:Am.Spec:={ sig:=sig20,pre:=fun ⟨x0,_⟩=>P20 x0,res:=fun ⟨x0,_⟩=>[⟨.cons (.sl YA9) YA9,g20_0 x0⟩],kds:=kds20 }
theorem con20:Contract Tryz.prog 20 S20:=contract_of Tryz.func20 hb20 (bl_ (by kernel_rfl)) (fun ⟨x0,_⟩ h _ K q=>at20 x0 h K q)
end
noncomputable section
def ext21:Ext:=[]
theorem ext21Ok:ExtOk Tryz.prog ext21:=trivial
def b21:Code:=bodyOf Tryz.f21
theorem hb21:Tryz.f21.body=some b21:=by kernel_rfl
def sig21:List AT:=[AT.v YA9]
def tys21:List Ty:=[.cons (.int .i64) (.cons (.int .i64) .unit)]
def kds21:List RK:=[]
def oks21:List AT:=owns sig21
def P21 (x0:Int×Int×Unit):Prop:=True
def g21_0 (x0:Int×Int×Unit):Int×Int×Unit:=(x0.1,x0.2.1,())
theorem at21 (x0:Int×Int×Unit) (h:P21 x0) (K:Ctx) (q:Nat→Value):AtV Tryz.prog 21 (PostR kds21 oks21 [⟨.cons (.int .i64) (.cons (.int .i64) .unit),g21_0 x0⟩] [] [] q K) 11 K q [] [.code b21] (entE 0 0 sig21 (x0,())) (entL sig21 (x0,())):=by
 unfold P21 at h
 unfold g21_0
 exact AtV.ret Tryz.func21 tabOk ext21Ok mixed false [] tys21 [] trivial (by kernel_rfl)
def S21:Am.Spec:={ sig:=sig21,pre:=fun ⟨x0,_⟩=>P21 x0,res:=fun ⟨x0,_⟩=>[⟨.cons (.int .i64) (.cons (.int .i64) .unit),g21_0 x0⟩],kds:=kds21 }
theorem con21:Contract Tryz.prog 21 S21:=contract_of Tryz.func21 hb21 (bl_ (by kernel_rfl)) (fun ⟨x0,_⟩ h _ K q=>at21 x0 h K q)
end
noncomputable section
def ext22:Ext:=[]
theorem ext22Ok:ExtOk Tryz.prog ext22:=trivial
def b22:Code:=bodyOf Tryz.f22
theorem hb22:Tryz.f22.body=some b22:=by kernel_rfl
def sig22:List AT:=[AT.v YA4]
def tys22:List Ty:=[.cons (.int .i64) YA7]
def kds22:List RK:=[]
def oks22:List AT:=owns sig22
def P22 (x0:Int×Int×Int×Int×Unit):Prop:=True
def g22_0 (x0:Int×Int×Int×Int×Unit):Int×Int×Int×Int×Unit:=(x0.1,x0.2.1,x0.2.2.1,x0.2.2.2.1,())
theorem at22 (x0:Int×Int×Int×Int×Unit) (h:P22 x0) (K:Ctx) (q:Nat→Value):AtV Tryz.prog 22 (PostR kds22 oks22 [⟨.cons (.int .i64) YA7,g22_0 x0⟩] [] [] q K) 17 K q [] [.code b22] (entE 0 0 sig22 (x0,())) (entL sig22 (x0,())):=by
 unfold P22 at h
 unfold g22_0
 exact AtV.ret Tryz.func22 tabOk ext22Ok mixed false [] tys22 [] trivial (by kernel_rfl)
def S22:Am.Spec:={ sig:=sig22,pre:=fun ⟨x0,_⟩=>P22 x0,res:=fun ⟨x0,_⟩=>[⟨.cons (.int .i64) YA7,g22_0 x0⟩],kds:=kds22 }
theorem con22:Contract Tryz.prog 22 S22:=contract_of Tryz.func22 hb22 (bl_ (by kernel_rfl)) (fun ⟨x0,_⟩ h _ K q=>at22 x0 h K q)
end
noncomputable section
def ext64:Ext:=[]
theorem ext64Ok:ExtOk Tryz.prog ext64:=trivial
def b64:Code:=bodyOf Tryz.f64
theorem hb64:Tryz.f64.body=some b64:=by kernel_rfl
def sig64:List AT:=[AT.v YA5]
def tys64:List Ty:=[.cons .str YA7]
def kds64:List RK:=[]
def oks64:List AT:=owns sig64
def P64 (x0:ByteArray×Int×Int×Int×Unit):Prop:=True
def g64_0 (x0:ByteArray×Int×Int×Int×Unit):ByteArray×Int×Int×Int×Unit:=(x0.1,x0.2.1,x0.2.2.1,x0.2.2.2.1,())
theorem at64 (x0:ByteArray×Int×Int×Int×Unit) (h:P64 x0) (K:Ctx) (q:Nat→Value):AtV Tryz.prog 64 (PostR kds64 oks64 [⟨.cons .str YA7,g64_0 x0⟩] [] [] q K) 17 K q [] [.code b64] (entE 0 0 sig64 (x0,())) (entL sig64 (x0,())):=by
 unfold P64 at h
 unfold g64_0
 exact AtV.ret Tryz.func64 tabOk ext64Ok mixed false [] tys64 [] trivial (by kernel_rfl)
def S64:Am.Spec:={ sig:=sig64,pre:=fun ⟨x0,_⟩=>P64 x0,res:=fun ⟨x0,_⟩=>[⟨.cons .str YA7,g64_0 x0⟩],kds:=kds64 }
theorem con64:Contract Tryz.prog 64 S64:=contract_of Tryz.func64 hb64 (bl_ (by kernel_rfl)) (fun ⟨x0,_⟩ h _ K q=>at64 x0 h K q)
end
noncomputable section
def ext23:Ext:=[(64,S64)]
theorem ext23Ok:ExtOk Tryz.prog ext23:=⟨⟨ca64,con64⟩,trivial⟩
def b23:Code:=bodyOf Tryz.f23
theorem hb23:Tryz.f23.body=some b23:=by kernel_rfl
def sig23:List AT:=[AT.v (.sl YA5)]
def tys23:List Ty:=[.sl YA5]
def kds23:List RK:=[]
def oks23:List AT:=owns sig23
def E23_3 (v4:Int) (h0:List TyB1) (x0:List TyB1):Env:=[(0,.a (.sl YA5 x0)),(3,.a (.osl 0 Option.none)),(4,.a (.val (.int .i64 v4)))]
def L23_3 (v4:Int) (h0:List TyB1) (x0:List TyB1):Heap:=[Option.some (Arr.mk YA5 h0 false Option.none Option.none)]
mutual
def R23:Nat→List TyB1→List Dyn→Prop
 | 0,_,_=>False
 | n+1,x0,ds=>((0≤(x0.length:Int))∧((x0.length:Int)≤(x0.length:Int))∧(40*(x0.length:Int)≤281474976710656)∧(R23_3 n (0) (List.replicate (Int.toNat (x0.length:Int)) (ByteArray.empty,0,0,0,())) (x0) ds))
def R23_3:Nat→Int→List TyB1→List TyB1→List Dyn→Prop
 | 0,_,_,_,_=>False
 | n+1,v4,h0,x0,ds=>(if (decide (v4<(x0.length:Int)))=true then ((0≤v4)∧(v4<(x0.length:Int))∧((0≤v4)∧(v4<(h0.length:Int))∧((InR .i64 (v4+1))∧(R23_3 n (v4+1) (List.set h0 (Int.toNat v4) ((List.getD x0 (Int.toNat v4) (ByteArray.empty,0,0,0,())).1,(List.getD x0 (Int.toNat v4) (ByteArray.empty,0,0,0,())).2.1,(List.getD x0 (Int.toNat v4) (ByteArray.empty,0,0,0,())).2.2.1,(List.getD x0 (Int.toNat v4) (ByteArray.empty,0,0,0,())).2.2.2.1,())) (x0) ds)))) else (ds=[Dyn.mk (.sl YA5) h0]))
end
theorem snd23:∀ n,(∀ (x0:List TyB1) ds,R23 n x0 ds→∀ K q,AtV Tryz.prog 23 (PostR kds23 oks23 ds [] [] q K) 23 K q [] [.code b23] (entE 0 0 sig23 (x0,())) (entL sig23 (x0,())))∧(∀ (v4:Int) (h0:List TyB1) (x0:List TyB1) ds,R23_3 n v4 h0 x0 ds→∀ K q,AtV Tryz.prog 23 (PostR kds23 oks23 ds [] [] q K) 23 K q [] (cutAt b23 3) (E23_3 v4 h0 x0) (L23_3 v4 h0 x0)):=by
 intro n
 induction n with
 | zero=>exact ⟨fun _ _ h=>by simp only [R23] at h,fun _ _ _ _ h=>by simp only [R23_3] at h⟩
 | succ n ih =>
 obtain ⟨ih,ih3⟩:=ih
 refine ⟨?_,?_⟩
 ·intro x0 ds h K q
  rw [R23] at h
  obtain ⟨s0,s1,s2,h⟩:=h
  exact AtV.go tabOk ext23Ok mixed false [] [] [0,3,4] [0] [] (a1 s0 (a1 s1 (a1 s2 trivial))) (ih3 _ _ _ _ h K q) (by kernel_rfl)
 ·intro v4 h0 x0 ds h K q
  rw [R23_3] at h
  by_cases b0:(decide (v4<(x0.length:Int)))=true
  ·rw [if_pos b0] at h
   obtain ⟨s0,s1,h⟩:=h
   obtain ⟨s2,s3,h⟩:=h
   obtain ⟨s4,h⟩:=h
   exact AtV.go tabOk ext23Ok mixed false [] [] [0,3,4] [0] [true] (a1 b0 (a1 s0 (a1 s1 (a1 trivial (a1 s2 (a1 s3 (a1 s4 trivial))))))) (ih3 _ _ _ _ h K q) (by kernel_rfl)
  ·rw [if_neg b0] at h
   replace b0:=bf_ b0
   subst h
   exact AtV.ret Tryz.func23 tabOk ext23Ok mixed false [] tys23 [false] (a1 b0 trivial) (by kernel_rfl)
theorem run23 (x0:List TyB1) (hm:x0.length≤maxLen):∀ (k i:Nat),i+k=x0.length →
  R23_3 (k+1) (i:Int) (x0.take i++List.replicate k (ByteArray.empty,(0:Int),(0:Int),(0:Int),())) x0 [⟨.sl (.cons .str (.cons (.int .i64) (.cons (.int .i64) (.cons (.int .i64) .unit)))),x0⟩]:=by
 intro k
 induction k with
 | zero =>
  intro i hi
  rw [R23_3,if_neg (by simp;omega),List.take_of_length_le (by omega)]
  simp
 | succ k ih =>
  intro i hi
  rw [R23_3,if_pos (by simp;omega)]
  simp only [Int.toNat_natCast]
  refine ⟨by omega,by omega,by omega,by simp;omega,inR_up hm (by omega),?_⟩
  have hs:=set_step x0 (ByteArray.empty,(0:Int),(0:Int),(0:Int),()) i (by omega) (k+1) (by omega)
  have he:∀ y:TyB1,(y.1,y.2.1,y.2.2.1,y.2.2.2.1,())=y:=fun _=>rfl
  rw [he,hs]
  exact ih (i+1) (by omega)
def g23_0 (x0:List TyB1):List TyB1:=x0
def P23 (x0:List TyB1):Prop:=40*(x0.length:Int)≤281474976710656
def S23:Am.Spec:={ sig:=sig23,pre:=fun ⟨x0,_⟩=>P23 x0,res:=fun ⟨x0,_⟩=>[⟨.sl (.cons .str (.cons (.int .i64) (.cons (.int .i64) (.cons (.int .i64) .unit)))),g23_0 x0⟩] }
theorem con23:Contract Tryz.prog 23 S23:=contract_of Tryz.func23 hb23 (bl_ (by kernel_rfl)) (fun ⟨x0,_⟩ h hwf K q=>by
 refine (snd23 (x0.length+2)).1 x0 _ ?_ K q
 show R23 (x0.length+1+1) x0 [⟨.sl (.cons .str (.cons (.int .i64) (.cons (.int .i64) (.cons (.int .i64) .unit)))),x0⟩]
 rw [R23]
 refine ⟨by omega,by omega,h,?_⟩
 have:=run23 x0 hwf.1.1 x0.length 0 (by omega)
 simpa using this)
end
noncomputable section
def ext24:Ext:=[]
theorem ext24Ok:ExtOk Tryz.prog ext24:=trivial
def b24:Code:=bodyOf Tryz.f24
theorem hb24:Tryz.f24.body=some b24:=by kernel_rfl
def sig24:List AT:=[AT.v YA7]
def tys24:List Ty:=[.cons (.int .i64) YA9]
def kds24:List RK:=[]
def oks24:List AT:=owns sig24
def P24 (x0:Int×Int×Int×Unit):Prop:=True
def g24_0 (x0:Int×Int×Int×Unit):Int×Int×Int×Unit:=(x0.1,x0.2.1,x0.2.2.1,())
theorem at24 (x0:Int×Int×Int×Unit) (h:P24 x0) (K:Ctx) (q:Nat→Value):AtV Tryz.prog 24 (PostR kds24 oks24 [⟨.cons (.int .i64) YA9,g24_0 x0⟩] [] [] q K) 14 K q [] [.code b24] (entE 0 0 sig24 (x0,())) (entL sig24 (x0,())):=by
 unfold P24 at h
 unfold g24_0
 exact AtV.ret Tryz.func24 tabOk ext24Ok mixed false [] tys24 [] trivial (by kernel_rfl)
def S24:Am.Spec:={ sig:=sig24,pre:=fun ⟨x0,_⟩=>P24 x0,res:=fun ⟨x0,_⟩=>[⟨.cons (.int .i64) YA9,g24_0 x0⟩],kds:=kds24 }
theorem con24:Contract Tryz.prog 24 S24:=contract_of Tryz.func24 hb24 (bl_ (by kernel_rfl)) (fun ⟨x0,_⟩ h _ K q=>at24 x0 h K q)
end
noncomputable section
def ext65:Ext:=[]
theorem ext65Ok:ExtOk Tryz.prog ext65:=trivial
def b65:Code:=bodyOf Tryz.f65
theorem hb65:Tryz.f65.body=some b65:=by kernel_rfl
def sig65:List AT:=[AT.v YA3]
def tys65:List Ty:=[.cons .str YA4]
def kds65:List RK:=[]
def oks65:List AT:=owns sig65
def P65 (x0:ByteArray×Int×Int×Int×Int×Unit):Prop:=True
def g65_0 (x0:ByteArray×Int×Int×Int×Int×Unit):ByteArray×Int×Int×Int×Int×Unit:=(x0.1,x0.2.1,x0.2.2.1,x0.2.2.2.1,x0.2.2.2.2.1,())
theorem at65 (x0:ByteArray×Int×Int×Int×Int×Unit) (h:P65 x0) (K:Ctx) (q:Nat→Value):AtV Tryz.prog 65 (PostR kds65 oks65 [⟨.cons .str YA4,g65_0 x0⟩] [] [] q K) 20 K q [] [.code b65] (entE 0 0 sig65 (x0,())) (entL sig65 (x0,())):=by
 unfold P65 at h
 unfold g65_0
 exact AtV.ret Tryz.func65 tabOk ext65Ok mixed false [] tys65 [] trivial (by kernel_rfl)
def S65:Am.Spec:={ sig:=sig65,pre:=fun ⟨x0,_⟩=>P65 x0,res:=fun ⟨x0,_⟩=>[⟨.cons .str YA4,g65_0 x0⟩],kds:=kds65 }
theorem con65:Contract Tryz.prog 65 S65:=contract_of Tryz.func65 hb65 (bl_ (by kernel_rfl)) (fun ⟨x0,_⟩ h _ K q=>at65 x0 h K q)
end
noncomputable section
def ext25:Ext:=[(65,S65)]
theorem ext25Ok:ExtOk Tryz.prog ext25:=⟨⟨ca65,con65⟩,trivial⟩
def b25:Code:=bodyOf Tryz.f25
theorem hb25:Tryz.f25.body=some b25:=by kernel_rfl
def sig25:List AT:=[AT.v (.sl YA3)]
def tys25:List Ty:=[.sl YA3]
def kds25:List RK:=[]
def oks25:List AT:=owns sig25
def E25_3 (v4:Int) (h0:List TyB0) (x0:List TyB0):Env:=[(0,.a (.sl YA3 x0)),(3,.a (.osl 0 Option.none)),(4,.a (.val (.int .i64 v4)))]
def L25_3 (v4:Int) (h0:List TyB0) (x0:List TyB0):Heap:=[Option.some (Arr.mk YA3 h0 false Option.none Option.none)]
mutual
def R25:Nat→List TyB0→List Dyn→Prop
 | 0,_,_=>False
 | n+1,x0,ds=>((0≤(x0.length:Int))∧((x0.length:Int)≤(x0.length:Int))∧(48*(x0.length:Int)≤281474976710656)∧(R25_3 n (0) (List.replicate (Int.toNat (x0.length:Int)) (ByteArray.empty,0,0,0,0,())) (x0) ds))
def R25_3:Nat→Int→List TyB0→List TyB0→List Dyn→Prop
 | 0,_,_,_,_=>False
 | n+1,v4,h0,x0,ds=>(if (decide (v4<(x0.length:Int)))=true then ((0≤v4)∧(v4<(x0.length:Int))∧((0≤v4)∧(v4<(h0.length:Int))∧((InR .i64 (v4+1))∧(R25_3 n (v4+1) (List.set h0 (Int.toNat v4) ((List.getD x0 (Int.toNat v4) (ByteArray.empty,0,0,0,0,())).1,(List.getD x0 (Int.toNat v4) (ByteArray.empty,0,0,0,0,())).2.1,(List.getD x0 (Int.toNat v4) (ByteArray.empty,0,0,0,0,())).2.2.1,(List.getD x0 (Int.toNat v4) (ByteArray.empty,0,0,0,0,())).2.2.2.1,(List.getD x0 (Int.toNat v4) (ByteArray.empty,0,0,0,0,())).2.2.2.2.1,())) (x0) ds)))) else (ds=[Dyn.mk (.sl YA3) h0]))
end
theorem snd25:∀ n,(∀ (x0:List TyB0) ds,R25 n x0 ds→∀ K q,AtV Tryz.prog 25 (PostR kds25 oks25 ds [] [] q K) 23 K q [] [.code b25] (entE 0 0 sig25 (x0,())) (entL sig25 (x0,())))∧(∀ (v4:Int) (h0:List TyB0) (x0:List TyB0) ds,R25_3 n v4 h0 x0 ds→∀ K q,AtV Tryz.prog 25 (PostR kds25 oks25 ds [] [] q K) 23 K q [] (cutAt b25 3) (E25_3 v4 h0 x0) (L25_3 v4 h0 x0)):=by
 intro n
 induction n with
 | zero=>exact ⟨fun _ _ h=>by simp only [R25] at h,fun _ _ _ _ h=>by simp only [R25_3] at h⟩
 | succ n ih =>
 obtain ⟨ih,ih3⟩:=ih
 refine ⟨?_,?_⟩
 ·intro x0 ds h K q
  rw [R25] at h
  obtain ⟨s0,s1,s2,h⟩:=h
  exact AtV.go tabOk ext25Ok mixed false [] [] [0,3,4] [0] [] (a1 s0 (a1 s1 (a1 s2 trivial))) (ih3 _ _ _ _ h K q) (by kernel_rfl)
 ·intro v4 h0 x0 ds h K q
  rw [R25_3] at h
  by_cases b0:(decide (v4<(x0.length:Int)))=true
  ·rw [if_pos b0] at h
   obtain ⟨s0,s1,h⟩:=h
   obtain ⟨s2,s3,h⟩:=h
   obtain ⟨s4,h⟩:=h
   exact AtV.go tabOk ext25Ok mixed false [] [] [0,3,4] [0] [true] (a1 b0 (a1 s0 (a1 s1 (a1 trivial (a1 s2 (a1 s3 (a1 s4 trivial))))))) (ih3 _ _ _ _ h K q) (by kernel_rfl)
  ·rw [if_neg b0] at h
   replace b0:=bf_ b0
   subst h
   exact AtV.ret Tryz.func25 tabOk ext25Ok mixed false [] tys25 [false] (a1 b0 trivial) (by kernel_rfl)
theorem run25 (x0:List TyB0) (hm:x0.length≤maxLen):∀ (k i:Nat),i+k=x0.length →
  R25_3 (k+1) (i:Int) (x0.take i++List.replicate k (ByteArray.empty,(0:Int),(0:Int),(0:Int),(0:Int),())) x0 [⟨.sl (.cons .str (.cons (.int .i64) (.cons (.int .i64) (.cons (.int .i64) (.cons (.int .i64) .unit))))),x0⟩]:=by
 intro k
 induction k with
 | zero =>
  intro i hi
  rw [R25_3,if_neg (by simp;omega),List.take_of_length_le (by omega)]
  simp
 | succ k ih =>
  intro i hi
  rw [R25_3,if_pos (by simp;omega)]
  simp only [Int.toNat_natCast]
  refine ⟨by omega,by omega,by omega,by simp;omega,inR_up hm (by omega),?_⟩
  have hs:=set_step x0 (ByteArray.empty,(0:Int),(0:Int),(0:Int),(0:Int),()) i (by omega) (k+1) (by omega)
  have he:∀ y:TyB0,(y.1,y.2.1,y.2.2.1,y.2.2.2.1,y.2.2.2.2.1,())=y:=fun _=>rfl
  rw [he,hs]
  exact ih (i+1) (by omega)
def g25_0 (x0:List TyB0):List TyB0:=x0
def P25 (x0:List TyB0):Prop:=48*(x0.length:Int)≤281474976710656
def S25:Am.Spec:={ sig:=sig25,pre:=fun ⟨x0,_⟩=>P25 x0,res:=fun ⟨x0,_⟩=>[⟨.sl (.cons .str (.cons (.int .i64) (.cons (.int .i64) (.cons (.int .i64) (.cons (.int .i64) .unit))))),g25_0 x0⟩] }
theorem con25:Contract Tryz.prog 25 S25:=contract_of Tryz.func25 hb25 (bl_ (by kernel_rfl)) (fun ⟨x0,_⟩ h hwf K q=>by
 refine (snd25 (x0.length+2)).1 x0 _ ?_ K q
 show R25 (x0.length+1+1) x0 [⟨.sl (.cons .str (.cons (.int .i64) (.cons (.int .i64) (.cons (.int .i64) (.cons (.int .i64) .unit))))),x0⟩]
 rw [R25]
 refine ⟨by omega,by omega,h,?_⟩
 have:=run25 x0 hwf.1.1 x0.length 0 (by omega)
 simpa using this)
end
noncomputable section
def ext66:Ext:=[]
theorem ext66Ok:ExtOk Tryz.prog ext66:=trivial
def b66:Code:=bodyOf Tryz.f66
theorem hb66:Tryz.f66.body=some b66:=by kernel_rfl
def sig66:List AT:=[AT.v YA9]
def tys66:List Ty:=[.cons (.int .i64) (.cons (.int .i64) .unit)]
def kds66:List RK:=[]
def oks66:List AT:=owns sig66
def P66 (x0:Int×Int×Unit):Prop:=True
def g66_0 (x0:Int×Int×Unit):Int×Int×Unit:=(x0.1,x0.2.1,())
theorem at66 (x0:Int×Int×Unit) (h:P66 x0) (K:Ctx) (q:Nat→Value):AtV Tryz.prog 66 (PostR kds66 oks66 [⟨.cons (.int .i64) (.cons (.int .i64) .unit),g66_0 x0⟩] [] [] q K) 11 K q [] [.code b66] (entE 0 0 sig66 (x0,())) (entL sig66 (x0,())):=by
 unfold P66 at h
 unfold g66_0
 exact AtV.ret Tryz.func66 tabOk ext66Ok mixed false [] tys66 [] trivial (by kernel_rfl)
def S66:Am.Spec:={ sig:=sig66,pre:=fun ⟨x0,_⟩=>P66 x0,res:=fun ⟨x0,_⟩=>[⟨.cons (.int .i64) (.cons (.int .i64) .unit),g66_0 x0⟩],kds:=kds66 }
theorem con66:Contract Tryz.prog 66 S66:=contract_of Tryz.func66 hb66 (bl_ (by kernel_rfl)) (fun ⟨x0,_⟩ h _ K q=>at66 x0 h K q)
end
noncomputable section
def ext26:Ext:=[(66,S66)]
theorem ext26Ok:ExtOk Tryz.prog ext26:=⟨⟨ca66,con66⟩,trivial⟩
def b26:Code:=bodyOf Tryz.f26
theorem hb26:Tryz.f26.body=some b26:=by kernel_rfl
def sig26:List AT:=[AT.v (.sl YA9)]
def tys26:List Ty:=[.sl YA9]
def kds26:List RK:=[]
def oks26:List AT:=owns sig26
def E26_3 (v4:Int) (h0:List TyB4) (x0:List TyB4):Env:=[(0,.a (.sl YA9 x0)),(3,.a (.osl 0 Option.none)),(4,.a (.val (.int .i64 v4)))]
def L26_3 (v4:Int) (h0:List TyB4) (x0:List TyB4):Heap:=[Option.some (Arr.mk YA9 h0 false Option.none Option.none)]
mutual
def R26:Nat→List TyB4→List Dyn→Prop
 | 0,_,_=>False
 | n+1,x0,ds=>((0≤(x0.length:Int))∧((x0.length:Int)≤(x0.length:Int))∧(16*(x0.length:Int)≤281474976710656)∧(R26_3 n (0) (List.replicate (Int.toNat (x0.length:Int)) (0,0,())) (x0) ds))
def R26_3:Nat→Int→List TyB4→List TyB4→List Dyn→Prop
 | 0,_,_,_,_=>False
 | n+1,v4,h0,x0,ds=>(if (decide (v4<(x0.length:Int)))=true then ((0≤v4)∧(v4<(x0.length:Int))∧((0≤v4)∧(v4<(h0.length:Int))∧((InR .i64 (v4+1))∧(R26_3 n (v4+1) (List.set h0 (Int.toNat v4) ((List.getD x0 (Int.toNat v4) (0,0,())).1,(List.getD x0 (Int.toNat v4) (0,0,())).2.1,())) (x0) ds)))) else (ds=[Dyn.mk (.sl YA9) h0]))
end
theorem snd26:∀ n,(∀ (x0:List TyB4) ds,R26 n x0 ds→∀ K q,AtV Tryz.prog 26 (PostR kds26 oks26 ds [] [] q K) 23 K q [] [.code b26] (entE 0 0 sig26 (x0,())) (entL sig26 (x0,())))∧(∀ (v4:Int) (h0:List TyB4) (x0:List TyB4) ds,R26_3 n v4 h0 x0 ds→∀ K q,AtV Tryz.prog 26 (PostR kds26 oks26 ds [] [] q K) 23 K q [] (cutAt b26 3) (E26_3 v4 h0 x0) (L26_3 v4 h0 x0)):=by
 intro n
 induction n with
 | zero=>exact ⟨fun _ _ h=>by simp only [R26] at h,fun _ _ _ _ h=>by simp only [R26_3] at h⟩
 | succ n ih =>
 obtain ⟨ih,ih3⟩:=ih
 refine ⟨?_,?_⟩
 ·intro x0 ds h K q
  rw [R26] at h
  obtain ⟨s0,s1,s2,h⟩:=h
  exact AtV.go tabOk ext26Ok mixed false [] [] [0,3,4] [0] [] (a1 s0 (a1 s1 (a1 s2 trivial))) (ih3 _ _ _ _ h K q) (by kernel_rfl)
 ·intro v4 h0 x0 ds h K q
  rw [R26_3] at h
  by_cases b0:(decide (v4<(x0.length:Int)))=true
  ·rw [if_pos b0] at h
   obtain ⟨s0,s1,h⟩:=h
   obtain ⟨s2,s3,h⟩:=h
   obtain ⟨s4,h⟩:=h
   exact AtV.go tabOk ext26Ok mixed false [] [] [0,3,4] [0] [true] (a1 b0 (a1 s0 (a1 s1 (a1 trivial (a1 s2 (a1 s3 (a1 s4 trivial))))))) (ih3 _ _ _ _ h K q) (by kernel_rfl)
  ·rw [if_neg b0] at h
   replace b0:=bf_ b0
   subst h
   exact AtV.ret Tryz.func26 tabOk ext26Ok mixed false [] tys26 [false] (a1 b0 trivial) (by kernel_rfl)
theorem run26 (x0:List TyB4) (hm:x0.length≤maxLen):∀ (k i:Nat),i+k=x0.length →
  R26_3 (k+1) (i:Int) (x0.take i++List.replicate k ((0:Int),(0:Int),())) x0 [⟨.sl (.cons (.int .i64) (.cons (.int .i64) .unit)),x0⟩]:=by
 intro k
 induction k with
 | zero =>
  intro i hi
  rw [R26_3,if_neg (by simp;omega),List.take_of_length_le (by omega)]
  simp
 | succ k ih =>
  intro i hi
  rw [R26_3,if_pos (by simp;omega)]
  simp only [Int.toNat_natCast]
  refine ⟨by omega,by omega,by omega,by simp;omega,inR_up hm (by omega),?_⟩
  have hs:=set_step x0 ((0:Int),(0:Int),()) i (by omega) (k+1) (by omega)
  have he:∀ y:TyB4,(y.1,y.2.1,())=y:=fun _=>rfl
  rw [he,hs]
  exact ih (i+1) (by omega)
def g26_0 (x0:List TyB4):List TyB4:=x0
def P26 (x0:List TyB4):Prop:=16*(x0.length:Int)≤281474976710656
def S26:Am.Spec:={ sig:=sig26,pre:=fun ⟨x0,_⟩=>P26 x0,res:=fun ⟨x0,_⟩=>[⟨.sl (.cons (.int .i64) (.cons (.int .i64) .unit)),g26_0 x0⟩] }
theorem con26:Contract Tryz.prog 26 S26:=contract_of Tryz.func26 hb26 (bl_ (by kernel_rfl)) (fun ⟨x0,_⟩ h hwf K q=>by
 refine (snd26 (x0.length+2)).1 x0 _ ?_ K q
 show R26 (x0.length+1+1) x0 [⟨.sl (.cons (.int .i64) (.cons (.int .i64) .unit)),x0⟩]
 rw [R26]
 refine ⟨by omega,by omega,h,?_⟩
 have:=run26 x0 hwf.1.1 x0.length 0 (by omega)
 simpa using this)
end
noncomputable section
def ext67:Ext:=[]
theorem ext67Ok:ExtOk Tryz.prog ext67:=trivial
def b67:Code:=bodyOf Tryz.f67
theorem hb67:Tryz.f67.body=some b67:=by kernel_rfl
def sig67:List AT:=[AT.v YA6]
def tys67:List Ty:=[.cons (.int .i64) (.cons (.int .i64) (.cons .str (.cons (.int .i64) .unit)))]
def kds67:List RK:=[]
def oks67:List AT:=owns sig67
def P67 (x0:Int×Int×ByteArray×Int×Unit):Prop:=True
def g67_0 (x0:Int×Int×ByteArray×Int×Unit):Int×Int×ByteArray×Int×Unit:=(x0.1,x0.2.1,x0.2.2.1,x0.2.2.2.1,())
theorem at67 (x0:Int×Int×ByteArray×Int×Unit) (h:P67 x0) (K:Ctx) (q:Nat→Value):AtV Tryz.prog 67 (PostR kds67 oks67 [⟨.cons (.int .i64) (.cons (.int .i64) (.cons .str (.cons (.int .i64) .unit))),g67_0 x0⟩] [] [] q K) 17 K q [] [.code b67] (entE 0 0 sig67 (x0,())) (entL sig67 (x0,())):=by
 unfold P67 at h
 unfold g67_0
 exact AtV.ret Tryz.func67 tabOk ext67Ok mixed false [] tys67 [] trivial (by kernel_rfl)
def S67:Am.Spec:={ sig:=sig67,pre:=fun ⟨x0,_⟩=>P67 x0,res:=fun ⟨x0,_⟩=>[⟨.cons (.int .i64) (.cons (.int .i64) (.cons .str (.cons (.int .i64) .unit))),g67_0 x0⟩],kds:=kds67 }
theorem con67:Contract Tryz.prog 67 S67:=contract_of Tryz.func67 hb67 (bl_ (by kernel_rfl)) (fun ⟨x0,_⟩ h _ K q=>at67 x0 h K q)
end
noncomputable section
def ext27:Ext:=[(67,S67)]
theorem ext27Ok:ExtOk Tryz.prog ext27:=⟨⟨ca67,con67⟩,trivial⟩
def b27:Code:=bodyOf Tryz.f27
theorem hb27:Tryz.f27.body=some b27:=by kernel_rfl
def sig27:List AT:=[AT.v (.sl YA6)]
def tys27:List Ty:=[.sl YA6]
def kds27:List RK:=[]
def oks27:List AT:=owns sig27
def E27_3 (v4:Int) (h0:List TyB2) (x0:List TyB2):Env:=[(0,.a (.sl YA6 x0)),(3,.a (.osl 0 Option.none)),(4,.a (.val (.int .i64 v4)))]
def L27_3 (v4:Int) (h0:List TyB2) (x0:List TyB2):Heap:=[Option.some (Arr.mk YA6 h0 false Option.none Option.none)]
mutual
def R27:Nat→List TyB2→List Dyn→Prop
 | 0,_,_=>False
 | n+1,x0,ds=>((0≤(x0.length:Int))∧((x0.length:Int)≤(x0.length:Int))∧(40*(x0.length:Int)≤281474976710656)∧(R27_3 n (0) (List.replicate (Int.toNat (x0.length:Int)) (0,0,ByteArray.empty,0,())) (x0) ds))
def R27_3:Nat→Int→List TyB2→List TyB2→List Dyn→Prop
 | 0,_,_,_,_=>False
 | n+1,v4,h0,x0,ds=>(if (decide (v4<(x0.length:Int)))=true then ((0≤v4)∧(v4<(x0.length:Int))∧((0≤v4)∧(v4<(h0.length:Int))∧((InR .i64 (v4+1))∧(R27_3 n (v4+1) (List.set h0 (Int.toNat v4) ((List.getD x0 (Int.toNat v4) (0,0,ByteArray.empty,0,())).1,(List.getD x0 (Int.toNat v4) (0,0,ByteArray.empty,0,())).2.1,(List.getD x0 (Int.toNat v4) (0,0,ByteArray.empty,0,())).2.2.1,(List.getD x0 (Int.toNat v4) (0,0,ByteArray.empty,0,())).2.2.2.1,())) (x0) ds)))) else (ds=[Dyn.mk (.sl YA6) h0]))
end
theorem snd27:∀ n,(∀ (x0:List TyB2) ds,R27 n x0 ds→∀ K q,AtV Tryz.prog 27 (PostR kds27 oks27 ds [] [] q K) 23 K q [] [.code b27] (entE 0 0 sig27 (x0,())) (entL sig27 (x0,())))∧(∀ (v4:Int) (h0:List TyB2) (x0:List TyB2) ds,R27_3 n v4 h0 x0 ds→∀ K q,AtV Tryz.prog 27 (PostR kds27 oks27 ds [] [] q K) 23 K q [] (cutAt b27 3) (E27_3 v4 h0 x0) (L27_3 v4 h0 x0)):=by
 intro n
 induction n with
 | zero=>exact ⟨fun _ _ h=>by simp only [R27] at h,fun _ _ _ _ h=>by simp only [R27_3] at h⟩
 | succ n ih =>
 obtain ⟨ih,ih3⟩:=ih
 refine ⟨?_,?_⟩
 ·intro x0 ds h K q
  rw [R27] at h
  obtain ⟨s0,s1,s2,h⟩:=h
  exact AtV.go tabOk ext27Ok mixed false [] [] [0,3,4] [0] [] (a1 s0 (a1 s1 (a1 s2 trivial))) (ih3 _ _ _ _ h K q) (by kernel_rfl)
 ·intro v4 h0 x0 ds h K q
  rw [R27_3] at h
  by_cases b0:(decide (v4<(x0.length:Int)))=true
  ·rw [if_pos b0] at h
   obtain ⟨s0,s1,h⟩:=h
   obtain ⟨s2,s3,h⟩:=h
   obtain ⟨s4,h⟩:=h
   exact AtV.go tabOk ext27Ok mixed false [] [] [0,3,4] [0] [true] (a1 b0 (a1 s0 (a1 s1 (a1 trivial (a1 s2 (a1 s3 (a1 s4 trivial))))))) (ih3 _ _ _ _ h K q) (by kernel_rfl)
  ·rw [if_neg b0] at h
   replace b0:=bf_ b0
   subst h
   exact AtV.ret Tryz.func27 tabOk ext27Ok mixed false [] tys27 [false] (a1 b0 trivial) (by kernel_rfl)
theorem run27 (x0:List TyB2) (hm:x0.length≤maxLen):∀ (k i:Nat),i+k=x0.length →
  R27_3 (k+1) (i:Int) (x0.take i++List.replicate k ((0:Int),(0:Int),ByteArray.empty,(0:Int),())) x0 [⟨.sl (.cons (.int .i64) (.cons (.int .i64) (.cons .str (.cons (.int .i64) .unit)))),x0⟩]:=by
 intro k
 induction k with
 | zero =>
  intro i hi
  rw [R27_3,if_neg (by simp;omega),List.take_of_length_le (by omega)]
  simp
 | succ k ih =>
  intro i hi
  rw [R27_3,if_pos (by simp;omega)]
  simp only [Int.toNat_natCast]
  refine ⟨by omega,by omega,by omega,by simp;omega,inR_up hm (by omega),?_⟩
  have hs:=set_step x0 ((0:Int),(0:Int),ByteArray.empty,(0:Int),()) i (by omega) (k+1) (by omega)
  have he:∀ y:TyB2,(y.1,y.2.1,y.2.2.1,y.2.2.2.1,())=y:=fun _=>rfl
  rw [he,hs]
  exact ih (i+1) (by omega)
def g27_0 (x0:List TyB2):List TyB2:=x0
def P27 (x0:List TyB2):Prop:=40*(x0.length:Int)≤281474976710656
def S27:Am.Spec:={ sig:=sig27,pre:=fun ⟨x0,_⟩=>P27 x0,res:=fun ⟨x0,_⟩=>[⟨.sl (.cons (.int .i64) (.cons (.int .i64) (.cons .str (.cons (.int .i64) .unit)))),g27_0 x0⟩] }
theorem con27:Contract Tryz.prog 27 S27:=contract_of Tryz.func27 hb27 (bl_ (by kernel_rfl)) (fun ⟨x0,_⟩ h hwf K q=>by
 refine (snd27 (x0.length+2)).1 x0 _ ?_ K q
 show R27 (x0.length+1+1) x0 [⟨.sl (.cons (.int .i64) (.cons (.int .i64) (.cons .str (.cons (.int .i64) .unit)))),x0⟩]
 rw [R27]
 refine ⟨by omega,by omega,h,?_⟩
 have:=run27 x0 hwf.1.1 x0.length 0 (by omega)
 simpa using this)
end
noncomputable section
def ext6:Ext:=[(20,S20),(21,S21),(22,S22),(23,S23),(24,S24),(25,S25),(26,S26),(27,S27)]
theorem ext6Ok:ExtOk Tryz.prog ext6:=⟨⟨ca20,con20⟩,⟨ca21,con21⟩,⟨ca22,con22⟩,⟨ca23,con23⟩,⟨ca24,con24⟩,⟨ca25,con25⟩,⟨ca26,con26⟩,⟨ca27,con27⟩,trivial⟩
def b6:Code:=bodyOf Tryz.f6
theorem hb6:Tryz.f6.body=some b6:=by kernel_rfl
def sig6:List AT:=[AT.v YA0]
def tys6:List Ty:=[.cons YA2 YA1]
def kds6:List RK:=[]
def oks6:List AT:=owns sig6
def P6 (x0:TyA0):Prop:=((P20 x0.1)∧((P23 x0.2.2.2.2.1)∧((P25 x0.2.2.2.2.2.2.1)∧((P26 x0.2.2.2.2.2.2.2.2.2.1)∧((P27 x0.2.2.2.2.2.2.2.2.2.2.2.1)∧True)))))
def g6_0 (x0:TyA0):TyA0:=(((g20_0 x0.1).1,(g20_0 x0.1).2.1,(g20_0 x0.1).2.2.1,()),x0.2.1,(x0.2.2.1.1,x0.2.2.1.2.1,()),(x0.2.2.2.1.1,x0.2.2.2.1.2.1,x0.2.2.2.1.2.2.1,x0.2.2.2.1.2.2.2.1,()),g23_0 x0.2.2.2.2.1,(x0.2.2.2.2.2.1.1,x0.2.2.2.2.2.1.2.1,x0.2.2.2.2.2.1.2.2.1,()),g25_0 x0.2.2.2.2.2.2.1,x0.2.2.2.2.2.2.2.1,x0.2.2.2.2.2.2.2.2.1,g26_0 x0.2.2.2.2.2.2.2.2.2.1,x0.2.2.2.2.2.2.2.2.2.2.1,g27_0 x0.2.2.2.2.2.2.2.2.2.2.2.1,())
theorem at6 (x0:TyA0) (h:P6 x0) (K:Ctx) (q:Nat→Value):AtV Tryz.prog 6 (PostR kds6 oks6 [⟨.cons YA2 YA1,g6_0 x0⟩] [] [] q K) 49 K q [] [.code b6] (entE 0 0 sig6 (x0,())) (entL sig6 (x0,())):=by
 unfold P6 at h
 unfold g6_0
 obtain ⟨s0,h⟩:=h
 obtain ⟨s1,h⟩:=h
 obtain ⟨s2,h⟩:=h
 obtain ⟨s3,h⟩:=h
 obtain ⟨s4,h⟩:=h
 exact AtV.ret Tryz.func6 tabOk ext6Ok mixed false [] tys6 [] (a1 s0 (a1 trivial (a1 trivial (a1 s1 (a1 trivial (a1 s2 (a1 s3 (a1 s4 trivial)))))))) (by kernel_rfl)
def S6:Am.Spec:={ sig:=sig6,pre:=fun ⟨x0,_⟩=>P6 x0,res:=fun ⟨x0,_⟩=>[⟨.cons YA2 YA1,g6_0 x0⟩],kds:=kds6 }
theorem con6:Contract Tryz.prog 6 S6:=contract_of Tryz.func6 hb6 (bl_ (by kernel_rfl)) (fun ⟨x0,_⟩ h _ K q=>at6 x0 h K q)
end
noncomputable section
def ext84:Ext:=[]
theorem ext84Ok:ExtOk Tryz.prog ext84:=trivial
def b84:Code:=bodyOf Tryz.f84
theorem hb84:Tryz.f84.body=some b84:=by kernel_rfl
def sig84:List AT:=[AT.v (.int .i64),AT.v (.int .i64),AT.v (.int .i64)]
def tys84:List Ty:=[.bool]
def kds84:List RK:=[]
def oks84:List AT:=owns sig84
def P84 (x0:Int) (x1:Int) (x2:Int):Prop:=True
def g84_0 (x0:Int) (x1:Int) (x2:Int):Bool:=(if (decide (x0≥x1))=true then decide (x0≤x2) else false)
theorem at84 (x0:Int) (x1:Int) (x2:Int) (h:P84 x0 x1 x2) (K:Ctx) (q:Nat→Value):AtV Tryz.prog 84 (PostR kds84 oks84 [⟨.bool,g84_0 x0 x1 x2⟩] [] [] q K) 15 K q [] [.code b84] (entE 0 0 sig84 (x0,x1,x2,())) (entL sig84 (x0,x1,x2,())):=by
 unfold P84 at h
 unfold g84_0
 by_cases b0:(decide (x0≥x1))=true
 ·try simp only [if_pos b0] at h ⊢
  exact AtV.ret Tryz.func84 tabOk ext84Ok mixed false [] tys84 [true] (a1 b0 trivial) (by kernel_rfl)
 ·try simp only [if_neg b0] at h ⊢
  replace b0:=bf_ b0
  exact AtV.ret Tryz.func84 tabOk ext84Ok mixed false [] tys84 [false] (a1 b0 trivial) (by kernel_rfl)
def S84:Am.Spec:={ sig:=sig84,pre:=fun ⟨x0,x1,x2,_⟩=>P84 x0 x1 x2,res:=fun ⟨x0,x1,x2,_⟩=>[⟨.bool,g84_0 x0 x1 x2⟩],kds:=kds84 }
theorem con84:Contract Tryz.prog 84 S84:=contract_of Tryz.func84 hb84 (bl_ (by kernel_rfl)) (fun ⟨x0,x1,x2,_⟩ h _ K q=>at84 x0 x1 x2 h K q)
end
noncomputable section
def ext85:Ext:=[]
theorem ext85Ok:ExtOk Tryz.prog ext85:=trivial
def b85:Code:=bodyOf Tryz.f85
theorem hb85:Tryz.f85.body=some b85:=by kernel_rfl
def sig85:List AT:=[AT.p YA2]
def tys85:List Ty:=[.int .i64]
def kds85:List RK:=[]
def oks85:List AT:=owns sig85
def E85_3 (v3:Int) (v4:Int) (x0:List TyB4×Int×Int×Unit):Env:=[(0,.a (.ptr YA2 x0)),(3,.a (.val (.int .i64 v3))),(4,.a (.val (.int .i64 v4)))]
def L85_3 (v3:Int) (v4:Int) (x0:List TyB4×Int×Int×Unit):Heap:=[]
mutual
def R85:Nat→List TyB4×Int×Int×Unit→List Dyn→Prop
 | 0,_,_=>False
 | n+1,x0,ds=>(R85_3 n (0) (0) (x0) ds)
def R85_3:Nat→Int→Int→List TyB4×Int×Int×Unit→List Dyn→Prop
 | 0,_,_,_,_=>False
 | n+1,v3,v4,x0,ds=>(if (decide (v4<(x0.1.length:Int)))=true then ((0≤v4)∧(v4<(x0.1.length:Int))∧((InR .i64 (v3+(List.getD x0.1 (Int.toNat v4) (0,0,())).1))∧((InR .i64 (v4+1))∧(R85_3 n (v3+(List.getD x0.1 (Int.toNat v4) (0,0,())).1) (v4+1) (x0) ds)))) else (ds=[Dyn.mk (.int .i64) v3]))
end
theorem snd85:∀ n,(∀ (x0:List TyB4×Int×Int×Unit) ds,R85 n x0 ds→∀ K q,AtV Tryz.prog 85 (PostR kds85 oks85 ds [] [] q K) 25 K q [] [.code b85] (entE 0 0 sig85 (x0,())) (entL sig85 (x0,())))∧(∀ (v3:Int) (v4:Int) (x0:List TyB4×Int×Int×Unit) ds,R85_3 n v3 v4 x0 ds→∀ K q,AtV Tryz.prog 85 (PostR kds85 oks85 ds [] [] q K) 25 K q [] (cutAt b85 3) (E85_3 v3 v4 x0) (L85_3 v3 v4 x0)):=by
 intro n
 induction n with
 | zero=>exact ⟨fun _ _ h=>by simp only [R85] at h,fun _ _ _ _ h=>by simp only [R85_3] at h⟩
 | succ n ih =>
 obtain ⟨ih,ih3⟩:=ih
 refine ⟨?_,?_⟩
 ·intro x0 ds h K q
  rw [R85] at h
  exact AtV.go tabOk ext85Ok mixed false [] [] [0,3,4] [] [] trivial (ih3 _ _ _ _ h K q) (by kernel_rfl)
 ·intro v3 v4 x0 ds h K q
  rw [R85_3] at h
  by_cases b0:(decide (v4<(x0.1.length:Int)))=true
  ·rw [if_pos b0] at h
   obtain ⟨s0,s1,h⟩:=h
   obtain ⟨s2,h⟩:=h
   obtain ⟨s3,h⟩:=h
   exact AtV.go tabOk ext85Ok mixed false [] [] [0,3,4] [] [true] (a1 b0 (a1 s0 (a1 s1 (a1 s2 (a1 s3 trivial))))) (ih3 _ _ _ _ h K q) (by kernel_rfl)
  ·rw [if_neg b0] at h
   replace b0:=bf_ b0
   subst h
   exact AtV.ret Tryz.func85 tabOk ext85Ok mixed false [] tys85 [false] (a1 b0 trivial) (by kernel_rfl)
def sum85 (xs:List TyB4):Int:=xs.foldr (fun x n=>x.1+n) 0
def g85_0 (x0:List TyB4×Int×Int×Unit):Int:=sum85 x0.1
def P85 (x0:List TyB4×Int×Int×Unit):Prop:=x0.1.length≤1000000∧∀ x∈x0.1,0≤x.1∧x.1≤1000000000
theorem run85 (x0:List TyB4×Int×Int×Unit) (hl:x0.1.length≤1000000) (hx:∀ x∈x0.1,0≤x.1∧x.1≤1000000000):∀ (k i:Nat) (v:Int),i+k=x0.1.length→0≤v→v≤1000000000*(i:Int) →
  R85_3 (k+1) v (i:Int) x0 [⟨.int .i64,v+sum85 (x0.1.drop i)⟩]:=by
 intro k
 induction k with
 | zero =>
  intro i v hi h0 h1
  rw [R85_3,if_neg (by simp only [decide_eq_true_eq];omega),drop_end _ _ (by omega)]
  simp [sum85]
 | succ k ih =>
  intro i v hi h0 h1
  have hlt:i<x0.1.length:=by omega
  have hm:=hx _ (mem_getD x0.1 i ((0:Int),(0:Int),()) hlt)
  have h:=ih (i+1) (v+(x0.1.getD i ((0:Int),(0:Int),())).1) (by omega) (by omega) (by omega)
  rw [R85_3,if_pos (by simp only [decide_eq_true_eq];omega)]
  simp only [Int.toNat_natCast]
  refine ⟨by omega,by omega,by rw [i64_iff];omega,by rw [i64_iff];omega,?_⟩
  rw [drop_get x0.1 i ((0:Int),(0:Int),()) hlt]
  have e:∀ (y:Int×Int×Unit) l,v+sum85 (y :: l)=v+y.1+sum85 l:=fun y l=>by
   show v+(y.1+sum85 l)=_;omega
  rw [e]
  exact h
theorem top85 (x0:List TyB4×Int×Int×Unit) (h:P85 x0):R85 (x0.1.length+1+1) x0 [⟨.int .i64,g85_0 x0⟩]:=by
 rw [R85]
 have:=run85 x0 h.1 h.2 x0.1.length 0 0 (by omega) (by omega) (by omega)
 simpa [g85_0] using this
def S85:Am.Spec:={ sig:=sig85,pre:=fun ⟨x0,_⟩=>P85 x0,res:=fun ⟨x0,_⟩=>[⟨.int .i64,g85_0 x0⟩] }
theorem con85:Contract Tryz.prog 85 S85:=contract_of Tryz.func85 hb85 (bl_ (by kernel_rfl)) (fun ⟨x0,_⟩ h hwf K q =>
 (snd85 _).1 x0 _ (top85 x0 h) K q)
theorem sum85_le (xs:List TyB4) (h:∀ x∈xs,0≤x.1∧x.1≤3000000):0≤sum85 xs∧sum85 xs≤3000000*(xs.length:Int):=by
 induction xs with
 | nil=>exact ⟨Int.le_refl _,Int.le_refl _⟩
 | cons x r ih =>
  obtain ⟨i1,i2⟩:=ih fun y hy=>h y (List.mem_cons_of_mem _ hy)
  obtain ⟨x1,x2⟩:=h x (List.mem_cons_self ..)
  show 0≤x.1+sum85 r∧x.1+sum85 r≤_
  simp only [List.length_cons]
  omega
end
noncomputable section
def ext51:Ext:=[(84,S84),(85,S85)]
theorem ext51Ok:ExtOk Tryz.prog ext51:=⟨⟨ca84,con84⟩,⟨ca85,con85⟩,trivial⟩
def b51:Code:=bodyOf Tryz.f51
theorem hb51:Tryz.f51.body=some b51:=by kernel_rfl
def sig51:List AT:=[AT.p YA2]
def tys51:List Ty:=[.bool]
def kds51:List RK:=[]
def oks51:List AT:=owns sig51
def E51_2 (v3:Int) (x0:List TyB4×Int×Int×Unit):Env:=[(0,.a (.ptr YA2 x0)),(3,.a (.val (.int .i64 v3)))]
def L51_2 (v3:Int) (x0:List TyB4×Int×Int×Unit):Heap:=[]
mutual
def R51:Nat→List TyB4×Int×Int×Unit→List Dyn→Prop
 | 0,_,_=>False
 | n+1,x0,ds=>(R51_2 n (0) (x0) ds)
def R51_2:Nat→Int→List TyB4×Int×Int×Unit→List Dyn→Prop
 | 0,_,_,_=>False
 | n+1,v3,x0,ds=>(if (decide (v3<(x0.1.length:Int)))=true then ((0≤v3)∧(v3<(x0.1.length:Int))∧(if (!g84_0 (List.getD x0.1 (Int.toNat v3) (0,0,())).1 1 3000000)=true then (ds=[Dyn.mk .bool false]) else ((0≤v3)∧(v3<(x0.1.length:Int))∧(if (!g84_0 (List.getD x0.1 (Int.toNat v3) (0,0,())).2.1 0 900)=true then (ds=[Dyn.mk .bool false]) else ((InR .i64 (v3+1))∧(R51_2 n (v3+1) (x0) ds)))))) else (if ((x0.1.length:Int)==0)=true then (ds=[Dyn.mk .bool false]) else (if (decide ((x0.1.length:Int)>12))=true then (ds=[Dyn.mk .bool false]) else ((P85 x0)∧(if (decide (g85_0 x0≤3000000))=true then (if (g84_0 x0.2.1 0 (g85_0 x0))=true then (ds=[Dyn.mk .bool (g84_0 x0.2.2.1 x0.2.1 (g85_0 x0))]) else (ds=[Dyn.mk .bool false])) else (ds=[Dyn.mk .bool false]))))))
end
theorem snd51:∀ n,(∀ (x0:List TyB4×Int×Int×Unit) ds,R51 n x0 ds→∀ K q,AtV Tryz.prog 51 (PostR kds51 oks51 ds [] [] q K) 74 K q [] [.code b51] (entE 0 0 sig51 (x0,())) (entL sig51 (x0,())))∧(∀ (v3:Int) (x0:List TyB4×Int×Int×Unit) ds,R51_2 n v3 x0 ds→∀ K q,AtV Tryz.prog 51 (PostR kds51 oks51 ds [] [] q K) 74 K q [] (cutAt b51 2) (E51_2 v3 x0) (L51_2 v3 x0)):=by
 intro n
 induction n with
 | zero=>exact ⟨fun _ _ h=>by simp only [R51] at h,fun _ _ _ h=>by simp only [R51_2] at h⟩
 | succ n ih =>
 obtain ⟨ih,ih2⟩:=ih
 refine ⟨?_,?_⟩
 ·intro x0 ds h K q
  rw [R51] at h
  exact AtV.go tabOk ext51Ok mixed false [] [] [0,3] [] [] trivial (ih2 _ _ _ h K q) (by kernel_rfl)
 ·intro v3 x0 ds h K q
  rw [R51_2] at h
  by_cases b0:(decide (v3<(x0.1.length:Int)))=true
  ·rw [if_pos b0] at h
   obtain ⟨s0,s1,h⟩:=h
   by_cases b1:(!g84_0 (List.getD x0.1 (Int.toNat v3) (0,0,())).1 1 3000000)=true
   ·rw [if_pos b1] at h
    subst h
    exact AtV.ret Tryz.func51 tabOk ext51Ok mixed false [] tys51 [true,true,true] (a1 b0 (a1 s0 (a1 s1 (a1 trivial (a1 b1 (a1 (rfl:true=true) trivial)))))) (by kernel_rfl)
   ·rw [if_neg b1] at h
    replace b1:=bf_ b1
    obtain ⟨s2,s3,h⟩:=h
    by_cases b2:(!g84_0 (List.getD x0.1 (Int.toNat v3) (0,0,())).2.1 0 900)=true
    ·rw [if_pos b2] at h
     subst h
     exact AtV.ret Tryz.func51 tabOk ext51Ok mixed false [] tys51 [true,false,true] (a1 b0 (a1 s0 (a1 s1 (a1 trivial (a1 b1 (a1 s2 (a1 s3 (a1 trivial (a1 b2 trivial))))))))) (by kernel_rfl)
    ·rw [if_neg b2] at h
     replace b2:=bf_ b2
     obtain ⟨s4,h⟩:=h
     exact AtV.go tabOk ext51Ok mixed false [] [] [0,3] [] [true,false,false] (a1 b0 (a1 s0 (a1 s1 (a1 trivial (a1 b1 (a1 s2 (a1 s3 (a1 trivial (a1 b2 (a1 s4 trivial)))))))))) (ih2 _ _ _ h K q) (by kernel_rfl)
  ·rw [if_neg b0] at h
   replace b0:=bf_ b0
   by_cases b1:((x0.1.length:Int)==0)=true
   ·rw [if_pos b1] at h
    subst h
    exact AtV.ret Tryz.func51 tabOk ext51Ok mixed false [] tys51 [false,true,true] (a1 b0 (a1 b1 (a1 (rfl:true=true) trivial))) (by kernel_rfl)
   ·rw [if_neg b1] at h
    replace b1:=bf_ b1
    by_cases b2:(decide ((x0.1.length:Int)>12))=true
    ·rw [if_pos b2] at h
     subst h
     exact AtV.ret Tryz.func51 tabOk ext51Ok mixed false [] tys51 [false,false,true] (a1 b0 (a1 b1 (a1 b2 trivial))) (by kernel_rfl)
    ·rw [if_neg b2] at h
     replace b2:=bf_ b2
     obtain ⟨s0,h⟩:=h
     by_cases b3:(decide (g85_0 x0≤3000000))=true
     ·rw [if_pos b3] at h
      by_cases b4:(g84_0 x0.2.1 0 (g85_0 x0))=true
      ·rw [if_pos b4] at h
       subst h
       exact AtV.ret Tryz.func51 tabOk ext51Ok mixed false [] tys51 [false,false,false,true,true] (a1 b0 (a1 b1 (a1 b2 (a1 s0 (a1 b3 (a1 trivial (a1 b4 (a1 trivial trivial)))))))) (by kernel_rfl)
      ·rw [if_neg b4] at h
       replace b4:=bf_ b4
       subst h
       exact AtV.ret Tryz.func51 tabOk ext51Ok mixed false [] tys51 [false,false,false,true,false] (a1 b0 (a1 b1 (a1 b2 (a1 s0 (a1 b3 (a1 trivial (a1 b4 trivial))))))) (by kernel_rfl)
     ·rw [if_neg b3] at h
      replace b3:=bf_ b3
      subst h
      exact AtV.ret Tryz.func51 tabOk ext51Ok mixed false [] tys51 [false,false,false,false,false] (a1 b0 (a1 b1 (a1 b2 (a1 s0 (a1 b3 (a1 (rfl:false=false) trivial)))))) (by kernel_rfl)
def ok51 (x:TyB4):Bool:=g84_0 x.1 1 3000000&&g84_0 x.2.1 0 900
def fine51 (x0:(List TyB4×Int×Int×Unit)):Bool:=if decide (g85_0 x0≤3000000)=true then (if g84_0 x0.2.1 0 (g85_0 x0)=true then g84_0 x0.2.2.1 x0.2.1 (g85_0 x0) else false) else false
def g51_0 (x0:(List TyB4×Int×Int×Unit)):Bool:=x0.1.all ok51&&(decide (1≤x0.1.length)&&decide (x0.1.length≤12))&&fine51 x0
def P51 (x0:(List TyB4×Int×Int×Unit)):Prop:=True
theorem in51 {x a b:Int}:g84_0 x a b=true↔a≤x∧x≤b:=by
 unfold g84_0
 by_cases c1:x≥a
 ·by_cases c2:x≤b
  ·simp [c1,c2]
  ·simp [c1,c2]
 ·have:¬ a≤x:=c1
  simp [c1,this]
theorem lenp51 {x0:(List TyB4×Int×Int×Unit)} (h:x0.1.all ok51=true) (hl:x0.1.length≤12):P85 x0∧0≤g85_0 x0∧g85_0 x0≤36000000:=by
 have hx:∀ x∈x0.1,0≤x.1∧x.1≤3000000:=fun x hx=>by
  have:=List.all_eq_true.1 h x hx
  unfold ok51 at this
  rw [Bool.and_eq_true] at this
  have:=in51.1 this.1
  omega
 obtain ⟨s1,s2⟩:=sum85_le x0.1 hx
 refine ⟨⟨by omega,fun x h=>by have:=hx x h;omega⟩,s1,?_⟩
 show sum85 x0.1≤_
 omega
theorem run51 (x0:(List TyB4×Int×Int×Unit)) (hm:x0.1.length≤maxLen) (yes:List Dyn) (hend:∀ n,x0.1.all ok51=true→R51_2 (n+1) (x0.1.length:Int) x0 yes):∀ (k i:Nat) (B:Bool),i+k=x0.1.length→(x0.1.drop i).all ok51=B→(∀ j,j<i→ok51 (x0.1.getD j ((0:Int),(0:Int),()))=true) →
  R51_2 (k+1) (i:Int) x0 (if B=true then yes else [⟨.bool,false⟩]):=by
 intro k
 induction k with
 | zero =>
  intro i B hi hB hp
  have:i=x0.1.length:=by omega
  subst this
  rw [drop_end _ _ (by omega)] at hB
  subst hB
  refine hend 0 (List.all_eq_true.2 fun x hx => ?_)
  obtain ⟨j,hj,rfl⟩:=List.getElem_of_mem hx
  have:=hp j (by omega)
  rwa [getD_lt _ _ _ hj] at this
 | succ k ih =>
  intro i B hi hB hp
  have hlt:i<x0.1.length:=by omega
  have hu:=inR_up hm hlt
  rw [R51_2,if_pos (by simp only [decide_eq_true_eq];omega)]
  rw [drop_get x0.1 i ((0:Int),(0:Int),()) hlt,List.all_cons] at hB
  simp only [Int.toNat_natCast]
  refine ⟨by omega,by omega,?_⟩
  by_cases h1:ok51 (x0.1.getD i ((0:Int),(0:Int),()))=true
  case neg =>
   have h1:=bf_ h1
   rw [h1,Bool.false_and] at hB
   subst hB
   by_cases c1:g84_0 (x0.1.getD i ((0:Int),(0:Int),())).1 1 3000000=true
   ·rw [if_neg (by rw [c1];simp)]
    have c2:g84_0 (x0.1.getD i ((0:Int),(0:Int),())).2.1 0 900=false:=by
     unfold ok51 at h1;rw [c1] at h1;simpa using h1
    exact ⟨by omega,by omega,by rw [if_pos (by rw [c2];rfl)] <;> rfl⟩
   ·rw [if_pos (by rw [bf_ c1];rfl)] <;> rfl
  case pos =>
   have hb:=h1
   rw [h1,Bool.true_and] at hB
   unfold ok51 at hb
   rw [Bool.and_eq_true] at hb
   rw [if_neg (by rw [hb.1];simp)]
   have e1:(((i+1:Nat)):Int)=(i:Int)+1:=by omega
   have hnext:=ih (i+1) B (by omega) hB (fun j hj=>by
    rcases Nat.lt_or_ge j i with h | h
    ·exact hp j h
    ·have:j=i:=by omega
     subst this;exact h1)
   rw [e1] at hnext
   exact ⟨by omega,by omega,by rw [if_neg (by rw [hb.2];simp)];exact ⟨hu,hnext⟩⟩
theorem end51 (x0:(List TyB4×Int×Int×Unit)) (n:Nat) (h:x0.1.all ok51=true):R51_2 (n+1) (x0.1.length:Int) x0 [⟨.bool,(decide (1≤x0.1.length)&&decide (x0.1.length≤12))&&fine51 x0⟩]:=by
 rw [R51_2,if_neg (by simp)]
 by_cases c1:((x0.1.length:Int)==0)=true
 ·rw [if_pos c1]
  have:¬ 1≤x0.1.length:=by simp only [beq_iff_eq] at c1;omega
  rw [decide_eq_false this];rfl
 ·rw [if_neg c1]
  have d1:1≤x0.1.length:=by simp only [beq_iff_eq] at c1;omega
  by_cases c2:(x0.1.length:Int)>12
  ·rw [if_pos (decide_eq_true c2)]
   have:¬ x0.1.length≤12:=by omega
   rw [decide_eq_false this,Bool.and_false];rfl
  ·rw [if_neg (by simpa using c2)]
   have d2:x0.1.length≤12:=by omega
   rw [decide_eq_true d1,decide_eq_true d2]
   refine ⟨(lenp51 h d2).1,?_⟩
   unfold fine51
   split
   ·split
    ·rfl
    ·rfl
   ·rfl
theorem top51 (x0:(List TyB4×Int×Int×Unit)) (hm:x0.1.length≤maxLen):∃ n,R51 n x0 [⟨.bool,g51_0 x0⟩]:=by
 refine ⟨x0.1.length+1+1,?_⟩
 rw [R51]
 have key:=run51 x0 hm _ (end51 x0) x0.1.length 0 _ (by omega) rfl (fun j hj=>by omega)
 rw [List.drop_zero] at key
 unfold g51_0
 cases h:x0.1.all ok51 with
 | true=>rw [if_pos h] at key;rw [Bool.true_and];exact key
 | false=>rw [if_neg (by rw [h];simp)] at key;exact key
def S51:Am.Spec:={ sig:=sig51,pre:=fun ⟨x0,_⟩=>P51 x0,res:=fun ⟨x0,_⟩=>[⟨.bool,g51_0 x0⟩] }
theorem con51:Contract Tryz.prog 51 S51:=contract_of Tryz.func51 hb51 (bl_ (by kernel_rfl)) (fun ⟨x0,_⟩ h hwf K q =>
 let ⟨n,hn⟩:=top51 x0 hwf.1.1.1
 (snd51 n).1 x0 _ hn K q)
end
noncomputable section
def ext52:Ext:=[(84,S84)]
theorem ext52Ok:ExtOk Tryz.prog ext52:=⟨⟨ca84,con84⟩,trivial⟩
def b52:Code:=bodyOf Tryz.f52
theorem hb52:Tryz.f52.body=some b52:=by kernel_rfl
def sig52:List AT:=[AT.v (.int .i64)]
def tys52:List Ty:=[.bool]
def kds52:List RK:=[]
def oks52:List AT:=owns sig52
def P52 (x0:Int):Prop:=True
def g52_0 (x0:Int):Bool:=g84_0 x0 0 3000000
theorem at52 (x0:Int) (h:P52 x0) (K:Ctx) (q:Nat→Value):AtV Tryz.prog 52 (PostR kds52 oks52 [⟨.bool,g52_0 x0⟩] [] [] q K) 5 K q [] [.code b52] (entE 0 0 sig52 (x0,())) (entL sig52 (x0,())):=by
 unfold P52 at h
 unfold g52_0
 exact AtV.ret Tryz.func52 tabOk ext52Ok mixed false [] tys52 [] (a1 trivial trivial) (by kernel_rfl)
def S52:Am.Spec:={ sig:=sig52,pre:=fun ⟨x0,_⟩=>P52 x0,res:=fun ⟨x0,_⟩=>[⟨.bool,g52_0 x0⟩],kds:=kds52 }
theorem con52:Contract Tryz.prog 52 S52:=contract_of Tryz.func52 hb52 (bl_ (by kernel_rfl)) (fun ⟨x0,_⟩ h _ K q=>at52 x0 h K q)
end
noncomputable section
def ext53:Ext:=[(84,S84)]
theorem ext53Ok:ExtOk Tryz.prog ext53:=⟨⟨ca84,con84⟩,trivial⟩
def b53:Code:=bodyOf Tryz.f53
theorem hb53:Tryz.f53.body=some b53:=by kernel_rfl
def sig53:List AT:=[AT.p YA9]
def tys53:List Ty:=[.bool]
def kds53:List RK:=[]
def oks53:List AT:=owns sig53
def P53 (x0:Int×Int×Unit):Prop:=True
def g53_0 (x0:Int×Int×Unit):Bool:=(if (g84_0 x0.1 0 100)=true then g84_0 x0.2.1 1 10000 else false)
theorem at53 (x0:Int×Int×Unit) (h:P53 x0) (K:Ctx) (q:Nat→Value):AtV Tryz.prog 53 (PostR kds53 oks53 [⟨.bool,g53_0 x0⟩] [] [] q K) 15 K q [] [.code b53] (entE 0 0 sig53 (x0,())) (entL sig53 (x0,())):=by
 unfold P53 at h
 unfold g53_0
 by_cases b0:(g84_0 x0.1 0 100)=true
 ·try simp only [if_pos b0] at h ⊢
  exact AtV.ret Tryz.func53 tabOk ext53Ok mixed false [] tys53 [true] (a1 trivial (a1 b0 (a1 trivial trivial))) (by kernel_rfl)
 ·try simp only [if_neg b0] at h ⊢
  replace b0:=bf_ b0
  exact AtV.ret Tryz.func53 tabOk ext53Ok mixed false [] tys53 [false] (a1 trivial (a1 b0 trivial)) (by kernel_rfl)
def S53:Am.Spec:={ sig:=sig53,pre:=fun ⟨x0,_⟩=>P53 x0,res:=fun ⟨x0,_⟩=>[⟨.bool,g53_0 x0⟩],kds:=kds53 }
theorem con53:Contract Tryz.prog 53 S53:=contract_of Tryz.func53 hb53 (bl_ (by kernel_rfl)) (fun ⟨x0,_⟩ h _ K q=>at53 x0 h K q)
end
noncomputable section
def ext54:Ext:=[(84,S84)]
theorem ext54Ok:ExtOk Tryz.prog ext54:=⟨⟨ca84,con84⟩,trivial⟩
def b54:Code:=bodyOf Tryz.f54
theorem hb54:Tryz.f54.body=some b54:=by kernel_rfl
def sig54:List AT:=[AT.p YA4]
def tys54:List Ty:=[.bool]
def kds54:List RK:=[]
def oks54:List AT:=owns sig54
def P54 (x0:Int×Int×Int×Int×Unit):Prop:=True
def g54_0 (x0:Int×Int×Int×Int×Unit):Bool:=(if (g84_0 x0.1 1 2000)=true then (if (g84_0 x0.2.1 100 15000)=true then (if (g84_0 x0.2.2.1 100 x0.2.1)=true then g84_0 x0.2.2.2.1 0 3000000 else false) else false) else false)
theorem at54 (x0:Int×Int×Int×Int×Unit) (h:P54 x0) (K:Ctx) (q:Nat→Value):AtV Tryz.prog 54 (PostR kds54 oks54 [⟨.bool,g54_0 x0⟩] [] [] q K) 33 K q [] [.code b54] (entE 0 0 sig54 (x0,())) (entL sig54 (x0,())):=by
 unfold P54 at h
 unfold g54_0
 by_cases b0:(g84_0 x0.1 1 2000)=true
 ·try simp only [if_pos b0] at h ⊢
  by_cases b1:(g84_0 x0.2.1 100 15000)=true
  ·try simp only [if_pos b1] at h ⊢
   by_cases b2:(g84_0 x0.2.2.1 100 x0.2.1)=true
   ·try simp only [if_pos b2] at h ⊢
    exact AtV.ret Tryz.func54 tabOk ext54Ok mixed false [] tys54 [true,true,true] (a1 trivial (a1 b0 (a1 trivial (a1 b1 (a1 trivial (a1 b2 (a1 trivial trivial))))))) (by kernel_rfl)
   ·try simp only [if_neg b2] at h ⊢
    replace b2:=bf_ b2
    exact AtV.ret Tryz.func54 tabOk ext54Ok mixed false [] tys54 [true,true,false] (a1 trivial (a1 b0 (a1 trivial (a1 b1 (a1 trivial (a1 b2 trivial)))))) (by kernel_rfl)
  ·try simp only [if_neg b1] at h ⊢
   replace b1:=bf_ b1
   exact AtV.ret Tryz.func54 tabOk ext54Ok mixed false [] tys54 [true,false,false] (a1 trivial (a1 b0 (a1 trivial (a1 b1 (a1 (rfl:false=false) trivial))))) (by kernel_rfl)
 ·try simp only [if_neg b0] at h ⊢
  replace b0:=bf_ b0
  exact AtV.ret Tryz.func54 tabOk ext54Ok mixed false [] tys54 [false,false,false] (a1 trivial (a1 b0 (a1 (rfl:false=false) (a1 (rfl:false=false) trivial)))) (by kernel_rfl)
def S54:Am.Spec:={ sig:=sig54,pre:=fun ⟨x0,_⟩=>P54 x0,res:=fun ⟨x0,_⟩=>[⟨.bool,g54_0 x0⟩],kds:=kds54 }
theorem con54:Contract Tryz.prog 54 S54:=contract_of Tryz.func54 hb54 (bl_ (by kernel_rfl)) (fun ⟨x0,_⟩ h _ K q=>at54 x0 h K q)
end
noncomputable section
def ext152:Ext:=[]
theorem ext152Ok:ExtOk Tryz.prog ext152:=trivial
def b152:Code:=bodyOf Tryz.f152
theorem hb152:Tryz.f152.body=some b152:=by kernel_rfl
def sig152:List AT:=[AT.v (.int .u8)]
def tys152:List Ty:=[.bool]
def kds152:List RK:=[]
def oks152:List AT:=owns sig152
def P152 (x0:Int):Prop:=True
def g152_0 (x0:Int):Bool:=(if (decide (x0≥97))=true then decide (x0≤122) else false)
theorem at152 (x0:Int) (h:P152 x0) (K:Ctx) (q:Nat→Value):AtV Tryz.prog 152 (PostR kds152 oks152 [⟨.bool,g152_0 x0⟩] [] [] q K) 9 K q [] [.code b152] (entE 0 0 sig152 (x0,())) (entL sig152 (x0,())):=by
 unfold P152 at h
 unfold g152_0
 by_cases b0:(decide (x0≥97))=true
 ·try simp only [if_pos b0] at h ⊢
  exact AtV.ret Tryz.func152 tabOk ext152Ok mixed false [] tys152 [true] (a1 b0 trivial) (by kernel_rfl)
 ·try simp only [if_neg b0] at h ⊢
  replace b0:=bf_ b0
  exact AtV.ret Tryz.func152 tabOk ext152Ok mixed false [] tys152 [false] (a1 b0 trivial) (by kernel_rfl)
def S152:Am.Spec:={ sig:=sig152,pre:=fun ⟨x0,_⟩=>P152 x0,res:=fun ⟨x0,_⟩=>[⟨.bool,g152_0 x0⟩],kds:=kds152 }
theorem con152:Contract Tryz.prog 152 S152:=contract_of Tryz.func152 hb152 (bl_ (by kernel_rfl)) (fun ⟨x0,_⟩ h _ K q=>at152 x0 h K q)
end
noncomputable section
def ext153:Ext:=[]
theorem ext153Ok:ExtOk Tryz.prog ext153:=trivial
def b153:Code:=bodyOf Tryz.f153
theorem hb153:Tryz.f153.body=some b153:=by kernel_rfl
def sig153:List AT:=[AT.v (.int .u8)]
def tys153:List Ty:=[.bool]
def kds153:List RK:=[]
def oks153:List AT:=owns sig153
def P153 (x0:Int):Prop:=True
def g153_0 (x0:Int):Bool:=(if (decide (x0≥48))=true then decide (x0≤57) else false)
theorem at153 (x0:Int) (h:P153 x0) (K:Ctx) (q:Nat→Value):AtV Tryz.prog 153 (PostR kds153 oks153 [⟨.bool,g153_0 x0⟩] [] [] q K) 9 K q [] [.code b153] (entE 0 0 sig153 (x0,())) (entL sig153 (x0,())):=by
 unfold P153 at h
 unfold g153_0
 by_cases b0:(decide (x0≥48))=true
 ·try simp only [if_pos b0] at h ⊢
  exact AtV.ret Tryz.func153 tabOk ext153Ok mixed false [] tys153 [true] (a1 b0 trivial) (by kernel_rfl)
 ·try simp only [if_neg b0] at h ⊢
  replace b0:=bf_ b0
  exact AtV.ret Tryz.func153 tabOk ext153Ok mixed false [] tys153 [false] (a1 b0 trivial) (by kernel_rfl)
def S153:Am.Spec:={ sig:=sig153,pre:=fun ⟨x0,_⟩=>P153 x0,res:=fun ⟨x0,_⟩=>[⟨.bool,g153_0 x0⟩],kds:=kds153 }
theorem con153:Contract Tryz.prog 153 S153:=contract_of Tryz.func153 hb153 (bl_ (by kernel_rfl)) (fun ⟨x0,_⟩ h _ K q=>at153 x0 h K q)
end
noncomputable section
def ext125:Ext:=[(152,S152),(153,S153)]
theorem ext125Ok:ExtOk Tryz.prog ext125:=⟨⟨ca152,con152⟩,⟨ca153,con153⟩,trivial⟩
def b125:Code:=bodyOf Tryz.f125
theorem hb125:Tryz.f125.body=some b125:=by kernel_rfl
def sig125:List AT:=[AT.v (.str)]
def tys125:List Ty:=[.bool]
def kds125:List RK:=[]
def oks125:List AT:=owns sig125
def E125_4 (v3:Int) (x0:ByteArray):Env:=[(0,.a (.val (.string x0))),(3,.a (.val (.int .i64 v3)))]
def L125_4 (v3:Int) (x0:ByteArray):Heap:=[]
mutual
def R125:Nat→ByteArray→List Dyn→Prop
 | 0,_,_=>False
 | n+1,x0,ds=>(if (ByteArray.toList x0==ByteArray.toList (ByteArray.mk #[]))=true then (ds=[Dyn.mk .bool false]) else (if (decide ((↑(ByteArray.size x0):Int)>10))=true then (ds=[Dyn.mk .bool false]) else ((0<(↑(ByteArray.size x0):Int))∧(if (!g152_0 (↑(UInt8.toNat (List.getD (Array.toList (ByteArray.data x0)) 0 0)):Int))=true then (ds=[Dyn.mk .bool false]) else (R125_4 n (0) (x0) ds)))))
def R125_4:Nat→Int→ByteArray→List Dyn→Prop
 | 0,_,_,_=>False
 | n+1,v3,x0,ds=>(if (decide (v3<(↑(ByteArray.size x0):Int)))=true then ((0≤v3)∧(v3<(↑(ByteArray.size x0):Int))∧(if (!g152_0 (↑(UInt8.toNat (List.getD (Array.toList (ByteArray.data x0)) (Int.toNat v3) 0)):Int))=true then ((0≤v3)∧(v3<(↑(ByteArray.size x0):Int))∧(if (!g153_0 (↑(UInt8.toNat (List.getD (Array.toList (ByteArray.data x0)) (Int.toNat v3) 0)):Int))=true then (ds=[Dyn.mk .bool false]) else ((InR .i64 (v3+1))∧(R125_4 n (v3+1) (x0) ds)))) else ((InR .i64 (v3+1))∧(R125_4 n (v3+1) (x0) ds)))) else (ds=[Dyn.mk .bool true]))
end
theorem snd125:∀ n,(∀ (x0:ByteArray) ds,R125 n x0 ds→∀ K q,AtV Tryz.prog 125 (PostR kds125 oks125 ds [] [] q K) 35 K q [] [.code b125] (entE 0 0 sig125 (x0,())) (entL sig125 (x0,())))∧(∀ (v3:Int) (x0:ByteArray) ds,R125_4 n v3 x0 ds→∀ K q,AtV Tryz.prog 125 (PostR kds125 oks125 ds [] [] q K) 35 K q [] (cutAt b125 4) (E125_4 v3 x0) (L125_4 v3 x0)):=by
 intro n
 induction n with
 | zero=>exact ⟨fun _ _ h=>by simp only [R125] at h,fun _ _ _ h=>by simp only [R125_4] at h⟩
 | succ n ih =>
 obtain ⟨ih,ih4⟩:=ih
 refine ⟨?_,?_⟩
 ·intro x0 ds h K q
  rw [R125] at h
  by_cases b0:(ByteArray.toList x0==ByteArray.toList (ByteArray.mk #[]))=true
  ·rw [if_pos b0] at h
   subst h
   exact AtV.ret Tryz.func125 tabOk ext125Ok mixed false [] tys125 [true,true,true] (a1 b0 (a1 (rfl:true=true) (a1 (rfl:true=true) trivial))) (by kernel_rfl)
  ·rw [if_neg b0] at h
   replace b0:=bf_ b0
   by_cases b1:(decide ((↑(ByteArray.size x0):Int)>10))=true
   ·rw [if_pos b1] at h
    subst h
    exact AtV.ret Tryz.func125 tabOk ext125Ok mixed false [] tys125 [false,true,true] (a1 b0 (a1 b1 (a1 (rfl:true=true) trivial))) (by kernel_rfl)
   ·rw [if_neg b1] at h
    replace b1:=bf_ b1
    obtain ⟨s0,h⟩:=h
    by_cases b2:(!g152_0 (↑(UInt8.toNat (List.getD (Array.toList (ByteArray.data x0)) 0 0)):Int))=true
    ·rw [if_pos b2] at h
     subst h
     exact AtV.ret Tryz.func125 tabOk ext125Ok mixed false [] tys125 [false,false,true] (a1 b0 (a1 b1 (a1 ((by decide):(0:Int)≤(0:Int)) (a1 s0 (a1 trivial (a1 b2 trivial)))))) (by kernel_rfl)
    ·rw [if_neg b2] at h
     replace b2:=bf_ b2
     exact AtV.go tabOk ext125Ok mixed false [] [] [0,3] [] [false,false,false] (a1 b0 (a1 b1 (a1 ((by decide):(0:Int)≤(0:Int)) (a1 s0 (a1 trivial (a1 b2 trivial)))))) (ih4 _ _ _ h K q) (by kernel_rfl)
 ·intro v3 x0 ds h K q
  rw [R125_4] at h
  by_cases b0:(decide (v3<(↑(ByteArray.size x0):Int)))=true
  ·rw [if_pos b0] at h
   obtain ⟨s0,s1,h⟩:=h
   by_cases b1:(!g152_0 (↑(UInt8.toNat (List.getD (Array.toList (ByteArray.data x0)) (Int.toNat v3) 0)):Int))=true
   ·rw [if_pos b1] at h
    obtain ⟨s2,s3,h⟩:=h
    by_cases b2:(!g153_0 (↑(UInt8.toNat (List.getD (Array.toList (ByteArray.data x0)) (Int.toNat v3) 0)):Int))=true
    ·rw [if_pos b2] at h
     subst h
     exact AtV.ret Tryz.func125 tabOk ext125Ok mixed false [] tys125 [true,true,true] (a1 b0 (a1 s0 (a1 s1 (a1 trivial (a1 b1 (a1 s2 (a1 s3 (a1 trivial (a1 b2 trivial))))))))) (by kernel_rfl)
    ·rw [if_neg b2] at h
     replace b2:=bf_ b2
     obtain ⟨s4,h⟩:=h
     exact AtV.go tabOk ext125Ok mixed false [] [] [0,3] [] [true,true,false] (a1 b0 (a1 s0 (a1 s1 (a1 trivial (a1 b1 (a1 s2 (a1 s3 (a1 trivial (a1 b2 (a1 s4 trivial)))))))))) (ih4 _ _ _ h K q) (by kernel_rfl)
   ·rw [if_neg b1] at h
    replace b1:=bf_ b1
    obtain ⟨s2,h⟩:=h
    exact AtV.go tabOk ext125Ok mixed false [] [] [0,3] [] [true,false,false] (a1 b0 (a1 s0 (a1 s1 (a1 trivial (a1 b1 (a1 (rfl:false=false) (a1 s2 trivial))))))) (ih4 _ _ _ h K q) (by kernel_rfl)
  ·rw [if_neg b0] at h
   replace b0:=bf_ b0
   subst h
   exact AtV.ret Tryz.func125 tabOk ext125Ok mixed false [] tys125 [false] (a1 b0 trivial) (by kernel_rfl)
def g125_0 (x0:ByteArray):Bool:=decide (1≤x0.size)&&decide (x0.size≤10)&&g152_0 ((bytesOf x0).getD 0 0)&&(bytesOf x0).all fun b=>g152_0 b||g153_0 b
def P125 (x0:ByteArray):Prop:=True
theorem top125 (x0:ByteArray) (hw:Wf .str x0):R125 (x0.size+1+1) x0 [⟨.bool,g125_0 x0⟩]:=by
 have hl:=bytesOf_length x0
 rw [R125]
 by_cases h0:x0=ByteArray.mk #[]
 ·rw [if_pos ((bytes_eq _ _).2 h0)]
  subst h0
  rfl
 ·rw [if_neg (fun h=>h0 ((bytes_eq _ _).1 h))]
  have hs:1≤x0.size:=by
   rcases Nat.lt_or_ge 0 x0.size with h | h
   ·exact h
   ·exact absurd (bytesOf_inj (s:=x0) (t:=ByteArray.mk #[]) (List.eq_nil_of_length_eq_zero (by rw [hl];omega))) h0
  by_cases h1:(x0.size:Int)>10
  ·rw [if_pos (by simpa using h1)]
   have:¬ x0.size≤10:=by omega
   simp [g125_0,this]
  ·rw [if_neg (by simpa using h1)]
   refine ⟨by omega,?_⟩
   rw [byte_get]
   cases h2:g152_0 ((bytesOf x0).getD 0 0) with
   | false =>
    rw [if_pos (by simp)]
    simp [g125_0,h2, -List.getD_eq_getElem?_getD]
   | true =>
    rw [if_neg (by simp)]
    have key:=loop_test (bytesOf x0) 0 (fun b=>g152_0 b||g153_0 b) [(⟨.bool,false⟩:Dyn)] [⟨.bool,true⟩] (fun n i ds=>R125_4 n i x0 ds) (fun n => ?_) (fun n i hi hok ds hr => ?_) (fun n i hi hok => ?_)
    ·rw [hl] at key
     have e:g125_0 x0=(bytesOf x0).all fun b=>g152_0 b||g153_0 b:=by
      have:x0.size≤10:=by omega
      unfold g125_0
      simp only [hs,this,decide_true,Bool.true_and,h2]
     rw [e]
     cases h:(bytesOf x0).all fun b=>g152_0 b||g153_0 b with
     | true=>rw [if_pos h] at key;exact key
     | false=>rw [if_neg (by rw [h];simp)] at key;exact key
    ·show R125_4 (n+1) ((bytesOf x0).length:Int) x0 _
     rw [R125_4,hl,if_neg (by simp)]
    ·rw [R125_4,if_pos (by simp;omega)]
     simp only [Int.toNat_natCast,byte_get]
     generalize (bytesOf x0).getD i 0=c at *
     refine ⟨by omega,by omega,?_⟩
     have hu:=inR_up (xs:=bytesOf x0) (by rw [hl];exact hw) hi
     cases h3:g152_0 c with
     | true=>rw [if_neg (by simp)];exact ⟨hu,hr⟩
     | false =>
      rw [if_pos (by simp)]
      rw [h3,Bool.false_or] at hok
      refine ⟨by omega,by omega,?_⟩
      rw [if_neg (by rw [hok];simp)]
      exact ⟨hu,hr⟩
    ·simp only [Bool.or_eq_false_iff] at hok
     rw [R125_4,if_pos (by simp;omega)]
     simp only [Int.toNat_natCast,byte_get]
     refine ⟨by omega,by omega,?_⟩
     rw [if_pos (by rw [hok.1];rfl)]
     refine ⟨by omega,by omega,?_⟩
     rw [if_pos (by rw [hok.2];rfl)] <;> trivial
def S125:Am.Spec:={ sig:=sig125,pre:=fun ⟨x0,_⟩=>P125 x0,res:=fun ⟨x0,_⟩=>[⟨.bool,g125_0 x0⟩] }
theorem con125:Contract Tryz.prog 125 S125:=contract_of Tryz.func125 hb125 (bl_ (by kernel_rfl)) (fun ⟨x0,_⟩ h hwf K q =>
 (snd125 _).1 x0 _ (top125 x0 hwf.1) K q)
end
noncomputable section
def ext86:Ext:=[(125,S125),(84,S84)]
theorem ext86Ok:ExtOk Tryz.prog ext86:=⟨⟨ca125,con125⟩,⟨ca84,con84⟩,trivial⟩
def b86:Code:=bodyOf Tryz.f86
theorem hb86:Tryz.f86.body=some b86:=by kernel_rfl
def sig86:List AT:=[AT.p YA5]
def tys86:List Ty:=[.bool]
def kds86:List RK:=[]
def oks86:List AT:=owns sig86
def P86 (x0:ByteArray×Int×Int×Int×Unit):Prop:=True
def g86_0 (x0:ByteArray×Int×Int×Int×Unit):Bool:=(if (g125_0 x0.1)=true then (if (g84_0 x0.2.1 1 200)=true then (if (g84_0 x0.2.2.1 0 40)=true then g84_0 x0.2.2.2.1 0 100000 else false) else false) else false)
theorem at86 (x0:ByteArray×Int×Int×Int×Unit) (h:P86 x0) (K:Ctx) (q:Nat→Value):AtV Tryz.prog 86 (PostR kds86 oks86 [⟨.bool,g86_0 x0⟩] [] [] q K) 29 K q [] [.code b86] (entE 0 0 sig86 (x0,())) (entL sig86 (x0,())):=by
 unfold P86 at h
 unfold g86_0
 by_cases b0:(g125_0 x0.1)=true
 ·try simp only [if_pos b0] at h ⊢
  by_cases b1:(g84_0 x0.2.1 1 200)=true
  ·try simp only [if_pos b1] at h ⊢
   by_cases b2:(g84_0 x0.2.2.1 0 40)=true
   ·try simp only [if_pos b2] at h ⊢
    exact AtV.ret Tryz.func86 tabOk ext86Ok mixed false [] tys86 [true,true,true] (a1 trivial (a1 b0 (a1 trivial (a1 b1 (a1 trivial (a1 b2 (a1 trivial trivial))))))) (by kernel_rfl)
   ·try simp only [if_neg b2] at h ⊢
    replace b2:=bf_ b2
    exact AtV.ret Tryz.func86 tabOk ext86Ok mixed false [] tys86 [true,true,false] (a1 trivial (a1 b0 (a1 trivial (a1 b1 (a1 trivial (a1 b2 trivial)))))) (by kernel_rfl)
  ·try simp only [if_neg b1] at h ⊢
   replace b1:=bf_ b1
   exact AtV.ret Tryz.func86 tabOk ext86Ok mixed false [] tys86 [true,false,false] (a1 trivial (a1 b0 (a1 trivial (a1 b1 (a1 (rfl:false=false) trivial))))) (by kernel_rfl)
 ·try simp only [if_neg b0] at h ⊢
  replace b0:=bf_ b0
  exact AtV.ret Tryz.func86 tabOk ext86Ok mixed false [] tys86 [false,false,false] (a1 trivial (a1 b0 (a1 (rfl:false=false) (a1 (rfl:false=false) trivial)))) (by kernel_rfl)
def S86:Am.Spec:={ sig:=sig86,pre:=fun ⟨x0,_⟩=>P86 x0,res:=fun ⟨x0,_⟩=>[⟨.bool,g86_0 x0⟩],kds:=kds86 }
theorem con86:Contract Tryz.prog 86 S86:=contract_of Tryz.func86 hb86 (bl_ (by kernel_rfl)) (fun ⟨x0,_⟩ h _ K q=>at86 x0 h K q)
end
noncomputable section
def ext55:Ext:=[(86,S86)]
theorem ext55Ok:ExtOk Tryz.prog ext55:=⟨⟨ca86,con86⟩,trivial⟩
def b55:Code:=bodyOf Tryz.f55
theorem hb55:Tryz.f55.body=some b55:=by kernel_rfl
def sig55:List AT:=[AT.v (.sl YA5)]
def tys55:List Ty:=[.bool]
def kds55:List RK:=[]
def oks55:List AT:=owns sig55
def E55_2 (v3:Int) (x0:List TyB1):Env:=[(0,.a (.sl YA5 x0)),(3,.a (.val (.int .i64 v3)))]
def L55_2 (v3:Int) (x0:List TyB1):Heap:=[]
mutual
def R55:Nat→List TyB1→List Dyn→Prop
 | 0,_,_=>False
 | n+1,x0,ds=>(R55_2 n (0) (x0) ds)
def R55_2:Nat→Int→List TyB1→List Dyn→Prop
 | 0,_,_,_=>False
 | n+1,v3,x0,ds=>(if (decide (v3<(x0.length:Int)))=true then ((0≤v3)∧(v3<(x0.length:Int))∧(if (!g86_0 (List.getD x0 (Int.toNat v3) (ByteArray.empty,0,0,0,())))=true then (ds=[Dyn.mk .bool false]) else (if (decide (v3>0))=true then ((InR .i64 (v3 - 1))∧((0≤v3 - 1)∧(v3 - 1<(x0.length:Int))∧((0≤v3)∧(v3<(x0.length:Int))∧(if (!Op.bytesLess (ByteArray.toList (List.getD x0 (Int.toNat (v3 - 1)) (ByteArray.empty,0,0,0,())).1) (ByteArray.toList (List.getD x0 (Int.toNat v3) (ByteArray.empty,0,0,0,())).1))=true then (ds=[Dyn.mk .bool false]) else ((InR .i64 (v3+1))∧(R55_2 n (v3+1) (x0) ds)))))) else ((InR .i64 (v3+1))∧(R55_2 n (v3+1) (x0) ds))))) else (ds=[Dyn.mk .bool (decide ((x0.length:Int)≤12))]))
end
theorem snd55:∀ n,(∀ (x0:List TyB1) ds,R55 n x0 ds→∀ K q,AtV Tryz.prog 55 (PostR kds55 oks55 ds [] [] q K) 36 K q [] [.code b55] (entE 0 0 sig55 (x0,())) (entL sig55 (x0,())))∧(∀ (v3:Int) (x0:List TyB1) ds,R55_2 n v3 x0 ds→∀ K q,AtV Tryz.prog 55 (PostR kds55 oks55 ds [] [] q K) 36 K q [] (cutAt b55 2) (E55_2 v3 x0) (L55_2 v3 x0)):=by
 intro n
 induction n with
 | zero=>exact ⟨fun _ _ h=>by simp only [R55] at h,fun _ _ _ h=>by simp only [R55_2] at h⟩
 | succ n ih =>
 obtain ⟨ih,ih2⟩:=ih
 refine ⟨?_,?_⟩
 ·intro x0 ds h K q
  rw [R55] at h
  exact AtV.go tabOk ext55Ok mixed false [] [] [0,3] [] [] trivial (ih2 _ _ _ h K q) (by kernel_rfl)
 ·intro v3 x0 ds h K q
  rw [R55_2] at h
  by_cases b0:(decide (v3<(x0.length:Int)))=true
  ·rw [if_pos b0] at h
   obtain ⟨s0,s1,h⟩:=h
   by_cases b1:(!g86_0 (List.getD x0 (Int.toNat v3) (ByteArray.empty,0,0,0,())))=true
   ·rw [if_pos b1] at h
    subst h
    exact AtV.ret Tryz.func55 tabOk ext55Ok mixed false [] tys55 [true,true,true] (a1 b0 (a1 s0 (a1 s1 (a1 trivial (a1 b1 (a1 (rfl:true=true) trivial)))))) (by kernel_rfl)
   ·rw [if_neg b1] at h
    replace b1:=bf_ b1
    by_cases b2:(decide (v3>0))=true
    ·rw [if_pos b2] at h
     obtain ⟨s2,h⟩:=h
     obtain ⟨s3,s4,h⟩:=h
     obtain ⟨s5,s6,h⟩:=h
     by_cases b3:(!Op.bytesLess (ByteArray.toList (List.getD x0 (Int.toNat (v3 - 1)) (ByteArray.empty,0,0,0,())).1) (ByteArray.toList (List.getD x0 (Int.toNat v3) (ByteArray.empty,0,0,0,())).1))=true
     ·rw [if_pos b3] at h
      subst h
      exact AtV.ret Tryz.func55 tabOk ext55Ok mixed false [] tys55 [true,false,true,true] (a1 b0 (a1 s0 (a1 s1 (a1 trivial (a1 b1 (a1 b2 (a1 s2 (a1 s3 (a1 s4 (a1 s5 (a1 s6 (a1 b3 trivial)))))))))))) (by kernel_rfl)
     ·rw [if_neg b3] at h
      replace b3:=bf_ b3
      obtain ⟨s7,h⟩:=h
      exact AtV.go tabOk ext55Ok mixed false [] [] [0,3] [] [true,false,true,false] (a1 b0 (a1 s0 (a1 s1 (a1 trivial (a1 b1 (a1 b2 (a1 s2 (a1 s3 (a1 s4 (a1 s5 (a1 s6 (a1 b3 (a1 s7 trivial))))))))))))) (ih2 _ _ _ h K q) (by kernel_rfl)
    ·rw [if_neg b2] at h
     replace b2:=bf_ b2
     obtain ⟨s2,h⟩:=h
     exact AtV.go tabOk ext55Ok mixed false [] [] [0,3] [] [true,false,false,false] (a1 b0 (a1 s0 (a1 s1 (a1 trivial (a1 b1 (a1 b2 (a1 (rfl:false=false) (a1 s2 trivial)))))))) (ih2 _ _ _ h K q) (by kernel_rfl)
  ·rw [if_neg b0] at h
   replace b0:=bf_ b0
   subst h
   exact AtV.ret Tryz.func55 tabOk ext55Ok mixed false [] tys55 [false] (a1 b0 trivial) (by kernel_rfl)
def ok55 (x0:List TyB1) (i:Nat) (x:TyB1):Bool :=
 g86_0 x&&(i==0||Op.bytesLess (ByteArray.toList (x0.getD (i - 1) (ByteArray.empty,(0:Int),(0:Int),(0:Int),())).1) (ByteArray.toList x.1))
def g55_0 (x0:List TyB1):Bool:=allI (ok55 x0) 0 x0&&decide (x0.length≤12)
def P55 (x0:List TyB1):Prop:=True
theorem step55 (n i : Nat) (x0 : List TyB1) (hm : x0.length ≤ maxLen) (hi : i < x0.length) (ds : List Dyn) :
    (if ok55 x0 i (x0.getD i (ByteArray.empty, (0 : Int), (0 : Int), (0 : Int), ())) = true then R55_2 n ((i : Int) + 1) x0 ds else ds = [⟨.bool, false⟩]) → R55_2 (n + 1) (i : Int) x0 ds := by
  intro h
  have hu := inR_up hm hi
  rw [R55_2, if_pos (by simp; omega)]
  refine ⟨by omega, by omega, ?_⟩
  simp only [Int.toNat_natCast]
  unfold ok55 at h
  cases h1 : g86_0 (x0.getD i (ByteArray.empty, (0 : Int), (0 : Int), (0 : Int), ())) with
  | false =>
    rw [h1] at h
    rw [if_pos (by rfl)]
    simpa using h
  | true =>
    rw [h1] at h
    rw [if_neg (by simp)]
    by_cases h0 : (i : Int) > 0
    · rw [if_pos (by simpa using h0)]
      have hi0 : (i == 0) = false := by simp; omega
      have e : ((i : Int) - 1).toNat = i - 1 := by omega
      refine ⟨by rw [i64_iff]; have : maxLen ≤ 9223372036854775807 := by decide
                 omega, by omega, by omega, by omega, by omega, ?_⟩
      rw [e]
      by_cases h2 : Op.bytesLess (ByteArray.toList (x0.getD (i - 1) (ByteArray.empty, (0 : Int), (0 : Int), (0 : Int), ())).1) (ByteArray.toList (x0.getD i (ByteArray.empty, (0 : Int), (0 : Int), (0 : Int), ())).1) = true
      · rw [h2, hi0] at h
        rw [if_neg (by rw [h2]; simp)]
        exact ⟨hu, by simpa using h⟩
      · have h2 := bf_ h2
        rw [h2, hi0] at h
        rw [if_pos (by rw [h2]; rfl)]
        simpa using h
    · rw [if_neg (by simpa using h0)]
      have hi0 : (i == 0) = true := by simp; omega
      rw [hi0] at h
      exact ⟨hu, by simpa using h⟩
theorem top55 (x0:List TyB1) (hw:x0.length≤maxLen):R55 (x0.length+1+1) x0 [⟨.bool,g55_0 x0⟩]:=by
 rw [R55]
 have key:=loop_testI x0 (ByteArray.empty,(0:Int),(0:Int),(0:Int),()) (ok55 x0) [(⟨.bool,false⟩:Dyn)] [⟨.bool,decide (x0.length≤12)⟩] (fun n i ds=>R55_2 n i x0 ds) (fun n => ?_) (fun n i hi hok ds hr => ?_) (fun n i hi hok => ?_)
 ·unfold g55_0
  cases h:allI (ok55 x0) 0 x0 with
  | true=>rw [if_pos h] at key;simpa using key
  | false=>rw [if_neg (by rw [h];simp)] at key;simpa using key
 ·rw [R55_2,if_neg (by simp)]
  have hc:decide ((x0.length:Int)≤12)=decide (x0.length≤12):=by
   congr 1;exact propext ⟨fun h=>by omega,fun h=>by omega⟩
  rw [hc]
 ·exact step55 n i x0 hw hi ds (by rw [if_pos hok];exact hr)
 ·exact step55 n i x0 hw hi _ (by rw [if_neg (by rw [hok];simp)])
def S55:Am.Spec:={ sig:=sig55,pre:=fun ⟨x0,_⟩=>P55 x0,res:=fun ⟨x0,_⟩=>[⟨.bool,g55_0 x0⟩] }
theorem con55:Contract Tryz.prog 55 S55:=contract_of Tryz.func55 hb55 (bl_ (by kernel_rfl)) (fun ⟨x0,_⟩ h hwf K q =>
 (snd55 _).1 x0 _ (top55 x0 hwf.1.1) K q)
end
noncomputable section
def ext56:Ext:=[(84,S84)]
theorem ext56Ok:ExtOk Tryz.prog ext56:=⟨⟨ca84,con84⟩,trivial⟩
def b56:Code:=bodyOf Tryz.f56
theorem hb56:Tryz.f56.body=some b56:=by kernel_rfl
def sig56:List AT:=[AT.p YA7]
def tys56:List Ty:=[.bool]
def kds56:List RK:=[]
def oks56:List AT:=owns sig56
def P56 (x0:Int×Int×Int×Unit):Prop:=True
def g56_0 (x0:Int×Int×Int×Unit):Bool:=(if (g84_0 x0.1 0 200)=true then (if (g84_0 x0.2.1 0 40)=true then g84_0 x0.2.2.1 0 100000 else false) else false)
theorem at56 (x0:Int×Int×Int×Unit) (h:P56 x0) (K:Ctx) (q:Nat→Value):AtV Tryz.prog 56 (PostR kds56 oks56 [⟨.bool,g56_0 x0⟩] [] [] q K) 22 K q [] [.code b56] (entE 0 0 sig56 (x0,())) (entL sig56 (x0,())):=by
 unfold P56 at h
 unfold g56_0
 by_cases b0:(g84_0 x0.1 0 200)=true
 ·try simp only [if_pos b0] at h ⊢
  by_cases b1:(g84_0 x0.2.1 0 40)=true
  ·try simp only [if_pos b1] at h ⊢
   exact AtV.ret Tryz.func56 tabOk ext56Ok mixed false [] tys56 [true,true] (a1 trivial (a1 b0 (a1 trivial (a1 b1 (a1 trivial trivial))))) (by kernel_rfl)
  ·try simp only [if_neg b1] at h ⊢
   replace b1:=bf_ b1
   exact AtV.ret Tryz.func56 tabOk ext56Ok mixed false [] tys56 [true,false] (a1 trivial (a1 b0 (a1 trivial (a1 b1 trivial)))) (by kernel_rfl)
 ·try simp only [if_neg b0] at h ⊢
  replace b0:=bf_ b0
  exact AtV.ret Tryz.func56 tabOk ext56Ok mixed false [] tys56 [false,false] (a1 trivial (a1 b0 (a1 (rfl:false=false) trivial))) (by kernel_rfl)
def S56:Am.Spec:={ sig:=sig56,pre:=fun ⟨x0,_⟩=>P56 x0,res:=fun ⟨x0,_⟩=>[⟨.bool,g56_0 x0⟩],kds:=kds56 }
theorem con56:Contract Tryz.prog 56 S56:=contract_of Tryz.func56 hb56 (bl_ (by kernel_rfl)) (fun ⟨x0,_⟩ h _ K q=>at56 x0 h K q)
end
noncomputable section
def ext88:Ext:=[(84,S84)]
theorem ext88Ok:ExtOk Tryz.prog ext88:=⟨⟨ca84,con84⟩,trivial⟩
def b88:Code:=bodyOf Tryz.f88
theorem hb88:Tryz.f88.body=some b88:=by kernel_rfl
def sig88:List AT:=[AT.v (.int .i64)]
def tys88:List Ty:=[.bool]
def kds88:List RK:=[]
def oks88:List AT:=owns sig88
def P88 (x0:Int):Prop:=True
def g88_0 (x0:Int):Bool:=g84_0 x0 0 100000
theorem at88 (x0:Int) (h:P88 x0) (K:Ctx) (q:Nat→Value):AtV Tryz.prog 88 (PostR kds88 oks88 [⟨.bool,g88_0 x0⟩] [] [] q K) 5 K q [] [.code b88] (entE 0 0 sig88 (x0,())) (entL sig88 (x0,())):=by
 unfold P88 at h
 unfold g88_0
 exact AtV.ret Tryz.func88 tabOk ext88Ok mixed false [] tys88 [] (a1 trivial trivial) (by kernel_rfl)
def S88:Am.Spec:={ sig:=sig88,pre:=fun ⟨x0,_⟩=>P88 x0,res:=fun ⟨x0,_⟩=>[⟨.bool,g88_0 x0⟩],kds:=kds88 }
theorem con88:Contract Tryz.prog 88 S88:=contract_of Tryz.func88 hb88 (bl_ (by kernel_rfl)) (fun ⟨x0,_⟩ h _ K q=>at88 x0 h K q)
end
noncomputable section
def ext89:Ext:=[(84,S84)]
theorem ext89Ok:ExtOk Tryz.prog ext89:=⟨⟨ca84,con84⟩,trivial⟩
def b89:Code:=bodyOf Tryz.f89
theorem hb89:Tryz.f89.body=some b89:=by kernel_rfl
def sig89:List AT:=[AT.v (.int .i64)]
def tys89:List Ty:=[.bool]
def kds89:List RK:=[]
def oks89:List AT:=owns sig89
def P89 (x0:Int):Prop:=True
def g89_0 (x0:Int):Bool:=g84_0 x0 0 1000000
theorem at89 (x0:Int) (h:P89 x0) (K:Ctx) (q:Nat→Value):AtV Tryz.prog 89 (PostR kds89 oks89 [⟨.bool,g89_0 x0⟩] [] [] q K) 5 K q [] [.code b89] (entE 0 0 sig89 (x0,())) (entL sig89 (x0,())):=by
 unfold P89 at h
 unfold g89_0
 exact AtV.ret Tryz.func89 tabOk ext89Ok mixed false [] tys89 [] (a1 trivial trivial) (by kernel_rfl)
def S89:Am.Spec:={ sig:=sig89,pre:=fun ⟨x0,_⟩=>P89 x0,res:=fun ⟨x0,_⟩=>[⟨.bool,g89_0 x0⟩],kds:=kds89 }
theorem con89:Contract Tryz.prog 89 S89:=contract_of Tryz.func89 hb89 (bl_ (by kernel_rfl)) (fun ⟨x0,_⟩ h _ K q=>at89 x0 h K q)
end
noncomputable section
def ext126:Ext:=[(125,S125),(84,S84),(88,S88),(89,S89)]
theorem ext126Ok:ExtOk Tryz.prog ext126:=⟨⟨ca125,con125⟩,⟨ca84,con84⟩,⟨ca88,con88⟩,⟨ca89,con89⟩,trivial⟩
def b126:Code:=bodyOf Tryz.f126
theorem hb126:Tryz.f126.body=some b126:=by kernel_rfl
def sig126:List AT:=[AT.p YA3]
def tys126:List Ty:=[.bool]
def kds126:List RK:=[]
def oks126:List AT:=owns sig126
def P126 (x0:ByteArray×Int×Int×Int×Int×Unit):Prop:=True
def g126_0 (x0:ByteArray×Int×Int×Int×Int×Unit):Bool:=(if (g125_0 x0.1)=true then (if (g84_0 x0.2.1 1 100000)=true then (if (g84_0 x0.2.2.1 1 1000000)=true then (if (g88_0 x0.2.2.2.1)=true then g89_0 x0.2.2.2.2.1 else false) else false) else false) else false)
theorem at126 (x0:ByteArray×Int×Int×Int×Int×Unit) (h:P126 x0) (K:Ctx) (q:Nat→Value):AtV Tryz.prog 126 (PostR kds126 oks126 [⟨.bool,g126_0 x0⟩] [] [] q K) 36 K q [] [.code b126] (entE 0 0 sig126 (x0,())) (entL sig126 (x0,())):=by
 unfold P126 at h
 unfold g126_0
 by_cases b0:(g125_0 x0.1)=true
 ·try simp only [if_pos b0] at h ⊢
  by_cases b1:(g84_0 x0.2.1 1 100000)=true
  ·try simp only [if_pos b1] at h ⊢
   by_cases b2:(g84_0 x0.2.2.1 1 1000000)=true
   ·try simp only [if_pos b2] at h ⊢
    by_cases b3:(g88_0 x0.2.2.2.1)=true
    ·try simp only [if_pos b3] at h ⊢
     exact AtV.ret Tryz.func126 tabOk ext126Ok mixed false [] tys126 [true,true,true,true] (a1 trivial (a1 b0 (a1 trivial (a1 b1 (a1 trivial (a1 b2 (a1 trivial (a1 b3 (a1 trivial trivial))))))))) (by kernel_rfl)
    ·try simp only [if_neg b3] at h ⊢
     replace b3:=bf_ b3
     exact AtV.ret Tryz.func126 tabOk ext126Ok mixed false [] tys126 [true,true,true,false] (a1 trivial (a1 b0 (a1 trivial (a1 b1 (a1 trivial (a1 b2 (a1 trivial (a1 b3 trivial)))))))) (by kernel_rfl)
   ·try simp only [if_neg b2] at h ⊢
    replace b2:=bf_ b2
    exact AtV.ret Tryz.func126 tabOk ext126Ok mixed false [] tys126 [true,true,false,false] (a1 trivial (a1 b0 (a1 trivial (a1 b1 (a1 trivial (a1 b2 (a1 (rfl:false=false) trivial))))))) (by kernel_rfl)
  ·try simp only [if_neg b1] at h ⊢
   replace b1:=bf_ b1
   exact AtV.ret Tryz.func126 tabOk ext126Ok mixed false [] tys126 [true,false,false,false] (a1 trivial (a1 b0 (a1 trivial (a1 b1 (a1 (rfl:false=false) (a1 (rfl:false=false) trivial)))))) (by kernel_rfl)
 ·try simp only [if_neg b0] at h ⊢
  replace b0:=bf_ b0
  exact AtV.ret Tryz.func126 tabOk ext126Ok mixed false [] tys126 [false,false,false,false] (a1 trivial (a1 b0 (a1 (rfl:false=false) (a1 (rfl:false=false) (a1 (rfl:false=false) trivial))))) (by kernel_rfl)
def S126:Am.Spec:={ sig:=sig126,pre:=fun ⟨x0,_⟩=>P126 x0,res:=fun ⟨x0,_⟩=>[⟨.bool,g126_0 x0⟩],kds:=kds126 }
theorem con126:Contract Tryz.prog 126 S126:=contract_of Tryz.func126 hb126 (bl_ (by kernel_rfl)) (fun ⟨x0,_⟩ h _ K q=>at126 x0 h K q)
end
end Go.Proofs.YtmfkgabclbbdhaaGreatDoor
