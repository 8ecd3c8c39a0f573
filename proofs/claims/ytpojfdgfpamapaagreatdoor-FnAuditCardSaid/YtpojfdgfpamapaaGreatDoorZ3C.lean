/- Several texts in one: the functions that this law reaches, and their laws. -/
import Derived.Test.YtpojfdgfpamapaaGreatDoorZ3A
import Derived.Test.YtpojfdgfpamapaaGreatDoorZ3B
import Derived.ProofKit
import Derived.Carry
import Derived.HandedShaped
import Derived.Stop.Joined
import Derived.Lib.Repeat
import Derived.Laws.AppendOwn
import Derived.Sort.Row
import Derived.Sort.Grow
import Derived.Lib.Strings
import Derived.Lib.ItoaLen
import Derived.Lib.SplitLaws
import Derived.Lib.Join
import Derived.Lib.LaidTab
import Derived.Stop.LaidErr
import Derived.Laws.IdiomCopy
import Derived.Test.YtpojfdgfpamapaaGreatDoorRows
import Derived.KernelRfl
import Derived.Shelf.Vars
import Derived.Lib.ItoaNum
namespace Go.Am
set_option linter.unusedVariables false
set_option linter.unusedSimpArgs false
def capsA:(caps:List (Bool×Ty))→capsDen caps→List Atom
 | [],_=>[]
 | (true,t) :: r,x => .ptr t x.1 :: capsA r x.2
 | (false,t) :: r,x=>toAtom t x.1 :: capsA r x.2
def argA (k:Nat):(a:AT)→a.den→PV×Heap
 | .v t,x=>(.a (toAtom t x),[])
 | .p t,x=>(.a (.ptr t x),[])
 | .own t,xs=>(.a (.osl k none),[some ⟨t,xs,false,none,none⟩])
 | .pb t,x=>(.a (.optr k 0 []),[some ⟨t,[x],true,none,some true⟩])
 | .po t,x=>match expl k t x with
  | (ls,es)=>(.a (.bptr (k+es.length) 0 t),es++[some ⟨t,[],false,some ls,none⟩])
 | .sv t,x=>match expl k t x with
  | (ls,es)=>(.a (.rcd t ls),es)
 | .fn f caps,x=>(.fn f (capsA caps x),[])
 | .fns fs,_=>(.a (.sl .fn (fs.map some)),[])
def entE:Nat→Nat→(sig:List AT)→sigDen sig→Env
 | _,_,[],_=>[]
 | i,k,a :: r,x=>match argA k a x.1 with
  | (p,es)=>(i,p) :: entE (i+1) (k+es.length) r x.2
def entH:Nat→(sig:List AT)→sigDen sig→Heap
 | _,[],_=>[]
 | k,a :: r,x=>match argA k a x.1 with
  | (_,es)=>es++entH (k+es.length) r x.2
def entL (sig:List AT) (x:sigDen sig):Heap:=entH 0 sig x
def pinsOf:Nat→List AT→List Nat
 | _,[]=>[]
 | i,a :: r=>match isOwn a with
  | true=>i :: pinsOf (i+1) r
  | false=>pinsOf (i+1) r
def wfCaps:(caps:List (Bool×Ty))→capsDen caps→Prop
 | [],_=>True
 | (_,t) :: r,x=>Wf t x.1∧wfCaps r x.2
def wfA:(a:AT)→a.den→Prop
 | .v t,x=>Wf t x
 | .p t,x=>Wf t x
 | .own t,xs=>Wf (.sl t) xs
 | .pb t,x=>Wf t x
 | .po t,x=>Wf t x
 | .sv t,x=>Wf t x
 | .fn _ caps,x=>wfCaps caps x
 | .fns _,_=>True
def wfSig:(sig:List AT)→sigDen sig→Prop
 | [],_=>True
 | a :: r,x=>wfA a x.1∧wfSig r x.2
def noOwn:List AT→Bool
 | []=>true
 | a :: r => !isOwn a&&noOwn r
section
variable {P:Program} {n:Nat} {K:Ctx} {G:Nat→Prop} {w0 w:World} {a:Act} {V:Nat→Value} {own:Nat→List Nat} {f:FuncId} {R:Ending→World→Prop} {E:Env} {L:Heap}
theorem repB_wf {G:Nat→Prop} {t:Ty} {x:t.den} {v:Value} (h:RepB w G (toAtom t x) v):Wf t x:=by
 cases t with
 | int k=>exact h.2
 | bool=>trivial
 | fn=>trivial
 | str=>exact h.2
 | sl e=>exact wf_slAt (fun _ _=>RepC.wf) h
 | unit=>trivial
 | cons a b=>obtain ⟨cs,_,h⟩:=h;exact h.wf
theorem ptr_wf {G:Nat→Prop} {t:Ty} {x:t.den} {v:Value} (h:PtrAt w G t x v):Wf t x:=by
 obtain ⟨_,_,_,_,_,_,h⟩:=h
 exact h.wf
theorem caps_wf {G:Nat→Prop}:∀ {caps:List (Bool×Ty)} {x:capsDen caps} {vs:List Value},CapsRep w G caps x vs→wfCaps caps x
 | [],_,_,_=>trivial
 | (true,t) :: r,x,vs,⟨_,_,_,h,h2⟩=>⟨ptr_wf h,caps_wf h2⟩
 | (false,t) :: r,x,vs,⟨_,_,_,h,h2⟩=>⟨repB_wf h,caps_wf h2⟩
theorem argsK_wf {G G0:Nat→Prop}:∀ {sig:List AT} {x:sigDen sig} {vs:List Value} {bss:List (List Nat)},ArgsK w G G0 sig x vs bss→wfSig sig x
 | [],_,_,_,_=>trivial
 | a :: r,x,vs,bss,⟨_,_,_,_,_,_,h,h2⟩=>by
  refine ⟨?_,argsK_wf h2⟩
  cases a with
  | v t=>exact repB_wf h.2
  | p t=>exact ptr_wf h.2
  | own t=>exact OwnC.wf h
  | pb t=>obtain ⟨b,off,_,h⟩:=h;exact (EntC.wf h).2 _ (List.mem_singleton.2 rfl)
  | po t=>obtain ⟨b,off,_,h⟩:=h;exact (wf_ownSl (fun _ _ _=>OwnC.wf) h).2 _ (List.mem_singleton.2 rfl)
  | sv t=>obtain ⟨cs,_,h⟩:=h;exact h.wf
  | fn g caps=>obtain ⟨_,_,_,h⟩:=h;exact caps_wf h
  | fns _=>trivial
theorem args_wf {G:Nat→Prop} {sig:List AT} {x:sigDen sig} {vs:List Value} {bss:List (List Nat)} (h:ArgsRep w G sig x vs bss):wfSig sig x:=argsK_wf h
theorem repA_ofB {t:Ty} {x:t.den} {v:Value} (h:RepB w0 G (toAtom t x) v):RepA w0 G L V (toAtom t x) v:=by
 cases t <;> exact h
theorem caps_rep:∀ {caps:List (Bool×Ty)} {x:capsDen caps} {vs:List Value},CapsRep w0 G caps x vs→RepAs w0 G L V (capsA caps x) vs
 | [],_,_,h=>h
 | (true,t) :: r,x,vs,⟨v,s,h1,h,h2⟩=>⟨v,s,h1,h,caps_rep h2⟩
 | (false,t) :: r,x,vs,⟨v,s,h1,h,h2⟩=>⟨v,s,h1,repA_ofB h,caps_rep h2⟩
theorem arg_spec (hR:RelV n K w G w a E L V own) {o:AT} {x:o.den} {v:Value} {bs:List Nat} (h:ArgRep w G K.G0 o x v bs) (hn:bs.Nodup) (hg:∀ b∈bs,Out K G b) (hd:∀ r A,hget L r=some A→∀ b∈own r,b ∉ bs) :
  ∃ V' own',RelV n K w G w a E (L++(argA L.length o x).2) V' own'∧Grown L (argA L.length o x).2 V V' own own' bs∧RepP w G (L++(argA L.length o x).2) V' (argA L.length o x).1 v:=by
 cases o with
 | v t =>
  exact ⟨V,own,by simpa [argA] using hR,Grown.refl _ _ _,repA_ofB h.2⟩
 | p t =>
  exact ⟨V,own,by simpa [argA] using hR,Grown.refl _ _ _,h.2⟩
 | fns fs =>
  exact ⟨V,own,by simpa [argA] using hR,Grown.refl _ _ _,repA_ofB (L:=L++[]) (V:=V) (t := .sl .fn) (x:=fs.map some) h.2⟩
 | fn f caps =>
  obtain ⟨_,vs,hv,hh⟩:=h
  exact ⟨V,own,by simpa [argA] using hR,Grown.refl _ _ _,vs,hv,caps_rep hh⟩
 | own t =>
  have hE:EntC w G w ⟨t,x,false,none,none⟩ v bs:=EntC.own.2 h
  obtain ⟨h1,h2⟩:=grow_one hR hE hn hg hd
  exact ⟨_,_,h1,h2,repA_new (w0:=w) (G:=G) (u:=w) (G':=G) hE⟩
 | pb t =>
  obtain ⟨b,off,rfl,hE0⟩:=h
  have hE:EntC w G w ⟨t,[x],true,none,some true⟩ (.slice (some ⟨b,off,none⟩) 1 1) bs:=EntC.keepG (A:=⟨t,[x],true,none,none⟩) hR.gsub (fun _ _=>rfl) (fun _ _=>rfl) hE0
  obtain ⟨h1,h2⟩:=grow_one hR hE hn hg hd (hsm:=fun q hq=>⟨⟨b,off,rfl⟩,fun _=>⟨rfl,hE0⟩⟩)
  refine ⟨_,_,h1,h2,⟨t,[x],true,none,some true⟩,hget_new _ _,by simp,b,off,1,1,0,t,upd1_same _ _ _,rfl,by simp⟩
 | po t =>
  obtain ⟨b,off,rfl,hO⟩:=h
  rcases hO.2 with ⟨_,h1,_,_⟩ | ⟨b2,off2,cap,cur,ty,fz,bss,h1,h2,h3,h4,h5,h6,h7,h8,h9⟩
  ·cases h1
  ·simp only [Value.slice.injEq,Option.some.injEq,Addr.mk.injEq] at h1
   obtain ⟨⟨q1,q2,_⟩,_,q3⟩:=h1
   subst q1 q2 q3
   obtain ⟨bi,rfl⟩:∃ bi,bss=[bi]:=by
    match bss,h7 with
    | [bi],_=>exact ⟨bi,rfl⟩
   obtain ⟨cs,g1,g2,g3⟩:=h9 0 x bi rfl rfl
   have hcells:CellsAt w b off cs:=fun j c hj=>by
    simp only [World.cell?, h5]
    have:=g2 j c hj
    simpa using this
   have h8:bs=b :: bi:=by rw [h8];simp
   subst h8
   obtain ⟨hb,hni⟩:=List.nodup_cons.1 hn
   obtain ⟨V1,own1,r1,k1,l1,n1⟩:=expl_spec hR g3 hni (fun c hc=>hg c (List.mem_cons_of_mem _ hc)) (fun r A hA c hc hm=>hd r A hA c hc (List.mem_cons_of_mem _ hm))
   have hE:EntC w G w ⟨t,[],false,some (expl L.length t x).1,none⟩ (.slice (some ⟨b,off,none⟩) 0 1) [b] :=
    ⟨by simp [maxLen],.inr ⟨b,off,1,cur,ty,fz,[],rfl,Nat.zero_le _,h3,h4,h5,h6,rfl,rfl,fun i y bi hy=>by simp at hy⟩⟩
   have hap:=k1.apart (rest:=[b]) (fun r A hA c hc hm=>hd r A hA c hc (by rw [List.mem_singleton.1 hm];exact List.mem_cons_self ..)) (fun c hc hm=>hb (by rw [← List.mem_singleton.1 hm];exact hc))
   obtain ⟨h10,h11⟩:=grow_one r1 hE (by simp) (fun c hc=>by rw [List.mem_singleton.1 hc];exact hg b (List.mem_cons_self ..)) hap (hbox:=fun l hl=>by cases hl;exact ⟨b,off,cs,rfl,g1,n1,hcells,l1⟩)
   have e2:(argA L.length (.po t) x).2=(expl L.length t x).2++[some ⟨t,[],false,some (expl L.length t x).1,none⟩]:=rfl
   have e1:(argA L.length (.po t) x).1 = .a (.bptr (L.length+(expl L.length t x).2.length) 0 t):=rfl
   rw [e1,e2, ← List.append_assoc]
   have hlen:(L++(expl L.length t x).2).length=L.length+(expl L.length t x).2.length:=by simp
   refine ⟨_,_,h10,k1.trans h11 (fun c hc=>List.mem_cons_of_mem _ hc) (fun c hc=>by rw [List.mem_singleton.1 hc];exact List.mem_cons_self ..),?_⟩
   rw [← hlen]
   exact ⟨_,_,b,off,hget_new _ _,rfl,upd1_same _ _ _,rfl,by simp⟩
 | sv t =>
  obtain ⟨cs,rfl,ho⟩:=h
  obtain ⟨V1,own1,r1,k1,l1,n1⟩:=expl_spec hR ho hn hg hd
  exact ⟨V1,own1,r1,k1,cs,rfl,n1,l1⟩
theorem ent_spec:∀ {sig:List AT} {x:sigDen sig} {vs:List Value} {bss:List (List Nat)} {L:Heap} {V:Nat→Value} {own:Nat→List Nat} {i:Nat},RelV n K w G w a E L V own→ArgsK w G K.G0 sig x vs bss→bss.flatten.Nodup→(∀ b∈bss.flatten,Out K G b)→(∀ r A,hget L r=some A→∀ b∈own r,b ∉ bss.flatten) →
  (∀ j v,vs[j]? = some v→a.tmps.getD (i+j) undef=v) →
  ∃ V' own',RelV n K w G w a E (L++entH L.length sig x) V' own'∧(∀ r,(∃ B,hget L r=some B)→Agree L V (L++entH L.length sig x) V' r)∧∀ j,RepP w G (L++entH L.length sig x) V' ((entE i L.length sig x).get j) (a.tmps.getD j undef)
 | [],x,vs,bss,L,V,own,i,hR,_,_,_,_,_=>⟨V,own,by simpa [entH] using hR,fun r _=>Agree.of_same rfl (by simp [entH]),fun j=>trivial⟩
 | o :: sig,x,vs,bss,L,V,own,i,hR,⟨v,s,b,bs,h1,h2,h,h3⟩,hn,hg,hd,ht=>by
  subst h1 h2
  obtain ⟨hn1,hn2,hn3⟩:=nodup_flatten_cons hn
  obtain ⟨V1,own1,r1,g1,p1⟩:=arg_spec hR h hn1 (fun c hc=>hg c (by simp [hc])) (fun r A hA c hc hm=>hd r A hA c hc (by simp [hm]))
  have hlen:(L++(argA L.length o x.1).2).length=L.length+(argA L.length o x.1).2.length:=by simp
  obtain ⟨V2,own2,r2,a2,p2⟩:=ent_spec (i:=i+1) r1 h3 hn2 (fun c hc=>hg c (by rw [List.flatten_cons];exact List.mem_append_right _ hc)) (g1.apart (fun r A hA c hc hm=>hd r A hA c hc (by rw [List.flatten_cons];exact List.mem_append_right _ hm)) hn3) (fun j u hj=>by
   have:=ht (j+1) u (by simpa using hj)
   rwa [show i+(j+1)=i+1+j from by omega] at this)
  rw [hlen] at r2 a2 p2
  have e1:entH L.length (o :: sig) x=(argA L.length o x.1).2++entH (L.length+(argA L.length o x.1).2.length) sig x.2:=rfl
  have e2:entE i L.length (o :: sig) x=(i,(argA L.length o x.1).1) :: entE (i+1) (L.length+(argA L.length o x.1).2.length) sig x.2:=rfl
  rw [e1,e2, ← List.append_assoc]
  refine ⟨V2,own2,r2,fun r hr => ?_,fun j => ?_⟩
  ·have a1:=g1.agree r hr
   obtain ⟨B,hB⟩:=hr
   obtain ⟨B',hB',_⟩:=a1.2 B hB
   exact a1.trans (a2 r ⟨B',hB'⟩)
  ·simp only [Env.get]
   cases hij:Nat.beq i j with
   | true =>
    obtain rfl:=Nat.eq_of_beq_eq_true hij
    simp only [cond_true]
    have:=ht 0 v rfl
    rw [Nat.add_zero] at this
    rw [this]
    exact repP_agree p1 fun r hr=>a2 r (repP_live p1 r hr)
   | false =>
    simp only [cond_false]
    exact p2 j
theorem own_vals {G G0:Nat→Prop}:∀ {sig:List AT} {x:sigDen sig} {vs:List Value} {bss:List (List Nat)} {i:Nat} {q:Nat→Value},ArgsK w G G0 sig x vs bss→(∀ j v,vs[j]? = some v→q (i+j)=v)→ownVals sig vs=(pinsOf i sig).map q
 | [],x,vs,bss,i,q,h,_=>by obtain ⟨rfl,rfl⟩:=h;rfl
 | a :: r,x,vs,bss,i,q,⟨v,s,b,bs,h1,h2,h,h3⟩,hq=>by
  subst h1 h2
  have h0:q i=v:=by have:=hq 0 v rfl;simpa using this
  have ih:=own_vals (i:=i+1) (q:=q) h3 (fun j u hj=>by have:=hq (j+1) u (by simpa using hj);rw [show i+1+j=i+(j+1) by omega];exact this)
  cases a with
  | v t=>exact ih
  | p t=>exact ih
  | fn g caps=>exact ih
  | fns _=>exact ih
  | own t=>simp only [ownVals,pinsOf,isOwn,List.map_cons,h0,ih]
  | pb t=>simp only [ownVals,pinsOf,isOwn,List.map_cons,h0,ih]
  | po t=>simp only [ownVals,pinsOf,isOwn,List.map_cons,h0,ih]
  | sv t=>simp only [ownVals,pinsOf,isOwn,List.map_cons,h0,ih]
def PostR (kds:List RK) (oks:List AT) (ds:List Dyn) (us:List (Option Lst)) (pins:List Nat) (q:Nat→Value) (K:Ctx) (e:Ending) (w':World):Prop :=
 PostC K.w0 K.O K.Ga K.G0 kds ds oks us (pins.map q) e w'
theorem contract_of {fn:Func} {c:Code} {S:Spec} (hf:P.funcs[f]? = some fn) (hb:fn.body=some c) (hl:S.sig.length≤fn.ntmps)
  (h:∀ x,S.pre x→wfSig S.sig x→∀ K q,AtV P f (PostR S.kds (owns S.sig) (S.res x) (S.upd x) (pinsOf 0 S.sig) q K) fn.ntmps K q (pinsOf 0 S.sig) [.code c] (entE 0 0 S.sig x) (entL S.sig x)):Contract P f S:=by
 intro w G G0 x vs bss hgo hG hG0 hpre hargs hnd
 have hlen:=args_len hargs
 have hget0:∀ j v,vs[j]? = some v→(vs.toArray++Array.replicate (fn.ntmps - vs.toArray.size) undef).getD j undef=v:=fun j v hj=>by
  have hlt:=(List.getElem?_eq_some_iff.1 hj).1
  rw [Array.getD_eq_getD_getElem?, Array.getElem?_append_left (by simpa using hlt)]
  simp [hj]
 let q:Nat→Value:=fun i=>(vs.toArray++Array.replicate (fn.ntmps - vs.toArray.size) undef).getD i undef
 let K:Ctx:=⟨w,bss.flatten,G0,G⟩
 let a0:Act:={ tmps:=vs.toArray++Array.replicate (fn.ntmps - vs.toArray.size) undef,defers:=[] }
 have hov:ownVals S.sig vs=(pinsOf 0 S.sig).map q:=own_vals hargs (fun j v hj=>by rw [Nat.zero_add];exact hget0 j v hj)
 have h0:RelV fn.ntmps K w G w a0 [] [] (fun _=>undef) (fun _=>[]):=by
  refine ⟨hgo,Kept.refl _ _,?_,rfl,fun b hb=>(hG b hb).1,fun _ _=>rfl,hG0,fun b hb=>hG b (hG0 b hb),fun b hb => .inl hb,(fun r A hr=>by cases hr),(fun r A hr=>by cases hr),(fun r A hr=>by cases hr),(fun r s A B hr=>by cases hr),(fun r A ls hr=>by cases hr),(fun r A q hr=>by cases hr),fun i=>trivial⟩
  show (vs.toArray++Array.replicate (fn.ntmps - vs.toArray.size) undef).size=fn.ntmps
  simp [hlen];omega
 obtain ⟨V,own,h1,_,h2⟩:=ent_spec (i:=0) h0 hargs hnd (fun b hb=>⟨fun h=>h.2 hb,fun h=>(hG b h).2 hb⟩) (fun r A hr=>by cases hr) (fun j v hj=>by rw [Nat.zero_add];exact hget0 j v hj)
 have h3:RelV fn.ntmps K w G w a0 (entE 0 0 S.sig x) (entL S.sig x) V own:={ h1 with env:=fun i=>h2 i }
 refine (calls_of_run hf hb (h x hpre (argsK_wf hargs) K q a0 w w G V own h3 (fun t ht=>rfl))).mono ?_
 intro e w' hp
 rw [hov]
 exact hp
def updOne (L:Heap):AT→PV→Option (Lst×List Nat)
 | .own t,.a (.osl k none)=>match hget L k with
  | some A=>match A.bor with
   | false=>some (⟨A.t,A.xs⟩,[k])
   | true=>none
  | none=>none
 | .pb t,.a (.optr k 0 [])=>match hget L k with
  | some A=>match A.sm with
   | some true=>if h:A.t=t then (match one1 (castL h A.xs) with | some x=>some (⟨t,[x]⟩,[k]) | none=>none) else none
   | _=>none
  | none=>none
 | .po t,.a A=>match decPo L t A with
  | some (x,us)=>some (⟨t,[x]⟩,us)
  | none=>none
 | .sv t,.a A=>match decSv L t A with
  | some (x,us)=>some (⟨t,[x]⟩,us)
  | none=>none
 | _,_=>none
def updO (E:Env) (L:Heap) (gone:List Nat):List Nat→List AT→List (Option Lst)×List Nat
 | i :: r,o :: os=>match updO E L gone r os with
  | (us,rs)=>match updOne L o (E.get i) with
   | some (A,ks)=>match disjB ks gone with
    | true=>(some A :: us,ks++rs)
    | false=>(none :: us,rs)
   | none=>(none :: us,rs)
 | _ :: r,[]=>(none :: (updO E L gone r []).1,[])
 | [],_=>([],[])
theorem updOne_spec (hR:RelV n K w0 G w a E L V own) {o:AT} {p:PV} {A:Lst} {ks:List Nat} {v:Value} (hp:RepP w0 G L V p v) (h:updOne L o p=some (A,ks)):UpdOne w K.G0 o A v (ks.map own).flatten∧∀ r∈ks,∃ B,hget L r=some B:=by
 unfold updOne at h
 split at h
 ·rename_i t k
  split at h
  ·rename_i B hB
   split at h
   ·rename_i hbor
    cases h
    obtain ⟨B',hB',h1,_⟩:=hp
    rw [hB] at hB';cases hB'
    have hE:=hR.heap k B hB
    obtain ⟨tB,xB,bB,lB,sB⟩:=B
    simp only at hbor
    subst hbor
    refine ⟨?_,fun r hr=>by rw [List.mem_singleton.1 hr];exact ⟨_,hB⟩⟩
    rw [h1 rfl]
    simp only [List.map_cons,List.map_nil,List.flatten_cons,List.flatten_nil,List.append_nil]
    exact EntC.own.1 hE
   ·cases h
  ·cases h
 ·rename_i t k
  split at h
  ·rename_i B hB
   split at h
   ·rename_i hsm
    split at h
    ·rename_i ht
     split at h
     ·rename_i x hx
      cases h
      obtain ⟨B',hB',hi,b,off,m,cap,po,t',hv,hpp,rfl⟩:=hp
      rw [hB] at hB';cases hB'
      simp only [pathOff,Option.some.injEq,Prod.mk.injEq] at hpp
      obtain ⟨rfl,rfl⟩:=hpp
      obtain ⟨⟨b1,off1,hv1⟩,hsm2⟩:=hR.small k B true hB hsm
      obtain ⟨hbor,hE⟩:=hsm2 rfl
      obtain ⟨tB,xB,bB,lB,sB⟩:=B
      simp only at hbor ht
      subst ht
      have hy:xB=[x]:=one1_eq hx
      subst hbor hy
      rw [hv1] at hv hE
      cases hv
      refine ⟨⟨x,rfl,b,off,by simp,?_⟩,fun r hr=>by rw [List.mem_singleton.1 hr];exact ⟨_,hB⟩⟩
      simp only [List.map_cons,List.map_nil,List.flatten_cons,List.flatten_nil,List.append_nil]
      exact EntC.keepG (A:=⟨tB,[x],true,none,none⟩) (fun _ h=>h) (fun c hc=>hR.gref c (hR.gsub c hc)) (fun _ _=>rfl) hE
     ·cases h
    ·cases h
   ·cases h
  ·cases h
 ·rename_i t A1
  split at h
  ·rename_i x us hpo
   cases h
   obtain ⟨h1,h2,_⟩:=decPo_rep hR (Kept.refl _ _) hp hpo
   exact ⟨⟨x,rfl,h1⟩,h2⟩
  ·cases h
 ·rename_i t A1
  split at h
  ·rename_i x us hsv
   cases h
   obtain ⟨h1,h2⟩:=decSv_rep hR (Kept.refl _ _) hp hsv
   exact ⟨⟨x,rfl,h1⟩,h2⟩
  ·cases h
 ·cases h
theorem updO_spec {q:Nat→Value} {gone:List Nat} (hR:RelV n K w0 G w a E L V own):∀ {ps:List Nat} {os:List AT},ps.length≤os.length→(∀ t∈ps,a.tmps.getD t undef=q t) →
  ∃ ubs,UpdK w K.G0 os (updO E L gone ps os).1 (ps.map q) ubs∧ubs.flatten=((updO E L gone ps os).2.map own).flatten∧∀ r∈(updO E L gone ps os).2,∃ B,hget L r=some B
 | [],os,_,_=>⟨[],by cases os <;> exact ⟨rfl,rfl⟩,by cases os <;> rfl,fun r hr=>by cases os <;> cases hr⟩
 | i :: ps,[],hl,_=>by simp at hl
 | i :: ps,o :: os,hl,hq=>by
  obtain ⟨ubs,h1,h2,h3⟩:=updO_spec hR (ps:=ps) (os:=os) (by simpa using hl) (fun t ht=>hq t (List.mem_cons_of_mem _ ht))
  simp only [updO]
  have skip:∃ ubs,UpdK w K.G0 (o :: os) (none :: (updO E L gone ps os).1) ((i :: ps).map q) ubs∧ubs.flatten=((updO E L gone ps os).2.map own).flatten∧∀ r∈(updO E L gone ps os).2,∃ B,hget L r=some B :=
   ⟨[] :: ubs,⟨_,_,_,rfl,rfl,h1⟩,by simpa using h2,h3⟩
  split
  ·rename_i A ks hk
   split
   ·have hv:=hR.env i
    rw [hq i (List.mem_cons_self ..)] at hv
    obtain ⟨g1,g2⟩:=updOne_spec hR hv hk
    refine ⟨(ks.map own).flatten :: ubs,⟨_,_,_,_,rfl,rfl,g1,h1⟩,by simp [h2],fun r hr => ?_⟩
    rcases List.mem_append.1 hr with hr | hr
    ·exact g2 r hr
    ·exact h3 r hr
   ·exact skip
  ·exact skip
def decO (L:Heap):(t:Ty)→Atom→Option (t.den×List Nat)
 | .sl e,.osl r none=>match hget L r with
  | some A=>match A.bor with
   | true=>none
   | false=>if h:A.t=e then some (castL h A.xs,[r]) else none
  | none=>none
 | .sl e,.osl r (some (lo,hi))=>match hget L r with
  | some A=>match e.flat && !A.bor with
   | true=>if h:A.t=e then some (rgL (some (lo,hi)) (castL h A.xs),[r]) else none
   | false=>none
  | none=>none
 | .sl e,.val (.slice none _ _)=>some ([],[])
 | t,.rcd t' ls=>match decide (t'=t),t.agg with
  | true,true=>ownLs L t ls
  | _,_=>none
 | t,A=>match t.flat with
  | true=>match decB t A with
   | some x=>some (x,[])
   | none=>none
  | false=>none
def decK (L:Heap):RK→(t:Ty)→Atom→Option (t.den×List Nat)
 | .own,t,A=>decO L t A
 | .frz,t,A=>match decB t (stAtom A) with
  | some x=>some (x,[])
  | none=>none
 | .bx,t,A=>match decPb L t A with
  | some (x,us)=>some (x,us)
  | none=>none
def cellA (tab:List TI) (L:Heap) (T:TypeId) (A:Atom):Option Atom :=
 match (tabGet tab T).ty with
 | some t=>loadA L t A
 | none=>none
def finA (tab:List TI) (E:Env) (L:Heap):List RK→List Ty→List ResultVar→Option (List Dyn×List Nat)
 | _,[],[]=>some ([],[])
 | ks,t :: ts,.tmp i :: r=>match E.get i with
  | .a A=>match decK L (RK.hd ks) t A,finA tab E L ks.tail ts r with
   | some (x,us),some (ds,vs)=>some (⟨t,x⟩ :: ds,us++vs)
   | _,_=>none
  | _=>none
 | ks,t :: ts,.cell i T :: r=>match E.get i with
  | .a A=>match cellA tab L T A with
   | some B=>match decK L (RK.hd ks) t B,finA tab E L ks.tail ts r with
    | some (x,us),some (ds,vs)=>some (⟨t,x⟩ :: ds,us++vs)
    | _,_=>none
   | none=>none
  | _=>none
 | _,_,_=>none
def frzF (tab:List TI) (E:Env) (L:Heap):List RK→List ResultVar→List Nat
 | .frz :: ks,.tmp i :: r=>(match E.get i with
  | .a A=>refA A
  | _=>[])++frzF tab E L ks r
 | .frz :: ks,.cell i T :: r=>(match E.get i with
  | .a A=>match cellA tab L T A with
   | some B=>refA B
   | none=>[]
  | _=>[])++frzF tab E L ks r
 | _ :: ks,_ :: r=>frzF tab E L ks r
 | _,_=>[]
theorem isVal_of {t:Ty} {cs:List Value} (hl:cs.length=t.size):IsVal t cs (valOf t cs):=by
 cases t <;> simp only [IsVal,valOf,Ty.agg,if_true,if_false,Bool.false_eq_true]
 all_goals (match cs,hl with | [c],_=>rfl)
theorem cell_run {T:TypeId} {u v:Value} (h:(Instr.loadAt T u).run P w = .ok v w):(do loadVar T (← asAddr u):Sem Value).run P w = .ok v w:=by
 cases u with
 | pointer a =>
  cases a with
  | none=>simp [Instr.loadAt,Instr.sureAddr] at h
  | some a=>simpa [Instr.loadAt,Instr.sureAddr,asAddr] using h
 | _=>simp [Instr.loadAt,Instr.sureAddr] at h
theorem decO_flat (hR:RelV n K w0 G w a E L V own) {t:Ty} {A:Atom} {x:t.den} {us:List Nat} {v:Value} (hv:RepA w0 G L V A v) (h:(match t.flat with | true=>(match decB t A with | some x=>some (x,([]:List Nat)) | none=>none) | false=>none)=some (x,us)) :
  us=[]∧∃ cs,OwnC w t x cs []∧IsVal t cs v:=by
 split at h
 ·rename_i hf
  split at h
  ·rename_i y hd
   cases h
   obtain ⟨cs,hv,_,_,hent⟩:=entR_of_decB (repB_of_decB hv hd) hd false (fun _=>hf)
   exact ⟨rfl,cs,hent w,by rw [hv];exact isVal_of (OwnC.length (hent w))⟩
  ·cases h
 ·cases h
theorem decO_spec (hR:RelV n K w0 G w a E L V own) {t:Ty} {A:Atom} {x:t.den} {us:List Nat} {v:Value} (hv:RepA w0 G L V A v) (h:decO L t A=some (x,us)) :
  (∃ cs,OwnC w t x cs (us.map own).flatten∧IsVal t cs v)∧∀ r∈us,∃ B,hget L r=some B:=by
 unfold decO at h
 split at h
 ·rename_i e r
  have h':slW L e (.osl r none)=some (x,us):=h
  obtain ⟨h1,h2⟩:=slW_rep hR (l := .osl r none) (v:=v) hv h'
  exact ⟨⟨[v],h1,rfl⟩,h2⟩
 ·rename_i e r lo hi
  have h':slW L e (.osl r (some (lo,hi)))=some (x,us):=h
  obtain ⟨h1,h2⟩:=slW_rep hR (l := .osl r (some (lo,hi))) (v:=v) hv h'
  exact ⟨⟨[v],h1,rfl⟩,h2⟩
 ·rename_i e n c
  cases h
  obtain ⟨rfl,hn,hc⟩:=hv
  subst hn hc
  exact ⟨⟨_,⟨_,rfl,by simp [maxLen],.inl ⟨_,rfl,rfl,rfl⟩⟩,rfl⟩,fun r hr=>by cases hr⟩
 ·rename_i t' ls
  split at h
  ·rename_i ht ha
   obtain rfl:=of_decide_eq_true ht
   obtain ⟨cs,rfl,hl,hr⟩:=hv
   obtain ⟨h1,h2⟩:=ownLs_rep hR hr h
   refine ⟨⟨cs,h1,?_⟩,h2⟩
   have:=isVal_of h1.length
   rwa [valOf,if_pos ha] at this
  ·cases h
 ·obtain ⟨rfl,cs,h1,h2⟩:=decO_flat hR hv h
  exact ⟨⟨cs,by simpa using h1,h2⟩,fun r hr=>by cases hr⟩
def NewG (K:Ctx) (G:Nat→Prop) (b:Nat):Prop:=G b∧¬ Good K.w0 K.O b
theorem decK_spec (hR:RelV n K w0 G w a E L V own) {k:RK} {t:Ty} {A:Atom} {x:t.den} {us:List Nat} {v:Value} (hv:RepA w0 G L V A v) (h:decK L k t A=some (x,us)) :
  ResOne w K.Ga (NewG K G) k ⟨t,x⟩ v (us.map own).flatten∧∀ r∈us,∃ B,hget L r=some B:=by
 have hup:∀ b,G b→K.Ga b∨NewG K G b:=fun b hb=>(hR.gup b hb).imp_right fun h=>⟨hb,h⟩
 cases k with
 | own=>exact decO_spec hR hv h
 | frz =>
  simp only [decK] at h
  split at h
  ·rename_i y hd
   cases h
   obtain ⟨cs,hr,hvv⟩:=decB_spec (repB_of_decB (stAtom_rep hv) hd) hd
   refine ⟨⟨rfl,cs,hr.keep hup hR.gref,?_⟩,fun r hr=>by cases hr⟩
   rw [hvv]
   exact isVal_of hr.length
  ·cases h
 | bx =>
  simp only [decK] at h
  split at h
  ·rename_i y us' hd
   cases h
   obtain ⟨⟨b,off,h1,h2⟩,r,B,b',off',e1,_,e3,_⟩:=decPb_rep (q:=false) hR (Kept.refl _ _) hv hd (fun h=>by cases h)
   refine ⟨⟨b,off,h1,EntC.keepG (A:=⟨t,[x],true,none,none⟩) (fun c hc=>hup c hc) (fun _ _=>rfl) (fun _ _=>rfl) h2⟩,fun s hs => ?_⟩
   rw [e1] at hs
   rw [List.mem_singleton.1 hs]
   exact ⟨B,e3⟩
  ·cases h
theorem finA_spec {tab:List TI} (hT:TabOk P tab) (hR:RelV n K w0 G w a E L V own):∀ {ks:List RK} {ts:List Ty} {rv:List ResultVar} {ds:List Dyn} {us:List Nat},finA tab E L ks ts rv=some (ds,us) →
  ∃ rs bss,(rv.mapM fun x=>(match x with | .tmp t=>pure (a.tmps.getD t undef) | .cell b t=>do loadVar t (← asAddr (a.tmps.getD b undef)):Sem Value)).run P w = .ok rs w∧rs.length=rv.length∧ResK w K.Ga (NewG K G) ks ds rs bss∧bss.flatten=(us.map own).flatten∧∀ r∈us,∃ B,hget L r=some B
 | ks,[],[],ds,us,h=>by
  have h':ds=[]∧us=[]:=by cases ks <;> (cases h;exact ⟨rfl,rfl⟩)
  obtain ⟨rfl,rfl⟩:=h'
  exact ⟨[],[],by simp,rfl,by cases ks <;> exact ⟨rfl,rfl⟩,rfl,fun r hr=>by cases hr⟩
 | ks,t :: ts,.tmp i :: rv,ds,us,h=>by
  simp only [finA] at h
  split at h
  ·rename_i A hA
   split at h
   ·rename_i x u ds' vs hd hf
    cases h
    have hv:RepA w0 G L V A (a.tmps.getD i undef):=by
     have:=hR.env i
     rw [hA] at this
     exact this
    obtain ⟨h1,h3⟩:=decK_spec hR hv hd
    obtain ⟨rs,bss,g1,g2,g3,g4,g5⟩:=finA_spec hT hR hf
    refine ⟨a.tmps.getD i undef :: rs,(u.map own).flatten :: bss,?_,by simp [g2],by cases ks <;> exact ⟨_,_,_,_,rfl,rfl,h1,g3⟩,?_,?_⟩
    ·rw [List.mapM_cons]
     simp only [Sem.run_bind,Sem.run_pure,Result.andThen_ok]
     rw [g1]
     rfl
    ·simp [g4]
    ·intro r hr
     rcases List.mem_append.1 hr with hr | hr
     ·exact h3 r hr
     ·exact g5 r hr
   ·cases h
  ·cases h
 | ks,t :: ts,.cell i T :: rv,ds,us,h=>by
  simp only [finA] at h
  split at h
  ·rename_i A hA
   split at h
   ·rename_i B hB
    split at h
    ·rename_i x u ds' vs hd hf
     cases h
     have hv:RepA w0 G L V A (a.tmps.getD i undef):=by
      have:=hR.env i
      rw [hA] at this
      exact this
     unfold cellA at hB
     split at hB
     ·rename_i t0 ht0
      obtain ⟨v,hv',hrun⟩:=loadA_spec (P:=P) hR (TI.ty_ok (hT T) ht0) hv hB
      obtain ⟨h1,h3⟩:=decK_spec hR hv' hd
      obtain ⟨rs,bss,g1,g2,g3,g4,g5⟩:=finA_spec hT hR hf
      refine ⟨v :: rs,(u.map own).flatten :: bss,?_,by simp [g2],by cases ks <;> exact ⟨_,_,_,_,rfl,rfl,h1,g3⟩,?_,?_⟩
      ·have hc:=cell_run (hrun w (Kept.refl _ _))
       rw [List.mapM_cons,Sem.run_bind]
       refine (congrArg (fun r=>Result.andThen r _) hc).trans ?_
       simp only [Result.andThen_ok,Sem.run_bind]
       rw [g1]
       rfl
      ·simp [g4]
      ·intro r hr
       rcases List.mem_append.1 hr with hr | hr
       ·exact h3 r hr
       ·exact g5 r hr
     ·cases hB
    ·cases h
   ·cases h
  ·cases h
 | ks,[],_ :: _,_,_,h=>by cases ks <;> cases h
 | ks,_ :: _,[],_,_,h=>by cases ks <;> cases h
def runF (tab:List TI) (ext:Ext) (wr:Bool) (n:Nat) (stops:List Nat) (m:Nat) (pins:List Nat) (oks:List AT) (kds:List RK) (ts:List Ty) (rv:Array ResultVar) (path:List Bool) (k:List Item) (E:Env) (L:Heap):Option (List Dyn×List (Option Lst)×List Prop) :=
 match runA tab ext wr n stops m true k ⟨path,[],E,L,[],pins⟩ with
 | some (.fin S)=>match frzAll (frzF tab S.E S.L kds rv.toList) (S.E,S.L) with
  | (E1,L1)=>match finA tab E1 L1 kds ts rv.toList with
   | some (ds,us)=>match nodupB ((updO E1 L1 us pins oks).2++us)&&decide (S.pins=pins)&&Nat.ble pins.length oks.length with
    | true=>some (ds,(updO E1 L1 us pins oks).1,S.cs)
    | false=>none
   | none=>none
 | _=>none
def WeakU:List (Option Lst)→List (Option Lst)→Prop
 | [],[]=>True
 | u :: r,u' :: r'=>(u'=u∨u'=none)∧WeakU r r'
 | _,_=>False
theorem PostR.weak {kds:List RK} {oks:List AT} {ds:List Dyn} {us us':List (Option Lst)} {pins:List Nat} {q:Nat→Value} {K:Ctx} {e:Ending} {w':World} (h:PostR kds oks ds us pins q K e w') (hw:WeakU us us'):PostR kds oks ds us' pins q K e w':=by
 obtain ⟨rs,ubs,rbs,F,h1,h2,h3,h4,h5,h6,h7⟩:=h
 have key:∀ (us us':List (Option Lst)) (os:List AT) (vs:List Value) (ubs:List (List Nat)),WeakU us us'→UpdK w' K.G0 os us vs ubs→∃ nbs:List (List Nat),UpdK w' K.G0 os us' vs nbs∧nbs.flatten.Sublist ubs.flatten:=by
  intro us
  induction us with
  | nil =>
   intro us' os vs ubs hw h
   cases us' with
   | nil=>exact ⟨ubs,h,List.Sublist.refl _⟩
   | cons _ _=>cases hw
  | cons u r ih =>
   intro us' os vs ubs hw h
   cases us' with
   | nil=>cases hw
   | cons u' r' =>
    obtain ⟨hu,hw⟩:=hw
    cases os with
    | nil=>cases u <;> exact h.elim
    | cons o os =>
     cases u with
     | none =>
      obtain ⟨v,s,bs,rfl,rfl,h⟩:=h
      obtain ⟨nbs,g1,g2⟩:=ih _ _ _ _ hw h
      have:u'=none:=by rcases hu with h | h <;> exact h
      subst this
      exact ⟨[] :: nbs,⟨_,_,_,rfl,rfl,g1⟩,by simpa using g2⟩
     | some A =>
      obtain ⟨v,s,b,bs,rfl,rfl,h0,h⟩:=h
      obtain ⟨nbs,g1,g2⟩:=ih _ _ _ _ hw h
      rcases hu with rfl | rfl
      ·exact ⟨b :: nbs,⟨_,_,_,_,rfl,rfl,h0,g1⟩,by simpa using g2⟩
      ·exact ⟨[] :: nbs,⟨_,_,_,rfl,rfl,g1⟩,by simpa using g2.trans (List.sublist_append_right _ _)⟩
 obtain ⟨nbs,g1,g2⟩:=key _ _ _ _ _ hw h4
 have g3:(nbs.flatten++rbs.flatten).Sublist (ubs.flatten++rbs.flatten):=g2.append_right _
 refine ⟨rs,nbs,rbs,F,h1,h2,h3,g1,h5.sublist g3,fun b hb=>h6 b (g3.subset hb),fun b hb => ?_⟩
 obtain ⟨k1,k2,k3⟩:=h7 b hb
 exact ⟨k1,k2,fun hm=>k3 (g3.subset hm)⟩
theorem AtV.mono {R':Ending→World→Prop} {q:Nat→Value} {ps:List Nat} {k:List Item} (h:AtV P f R n K q ps k E L) (hm:∀ e w,R e w→R' e w):AtV P f R' n K q ps k E L:=by
 intro a w w0 G V own hR hq b cs hb hk
 obtain ⟨e,w',fr,h1,h2⟩:=h a w w0 G V own hR hq b cs hb hk
 exact ⟨e,w',fr,hm _ _ h1,h2⟩
theorem AtV.weak {kds:List RK} {oks:List AT} {ds:List Dyn} {us us':List (Option Lst)} {q:Nat→Value} {pins ps:List Nat} {k:List Item} (h:AtV P f (PostR kds oks ds us pins q K) n K q ps k E L) (hw:WeakU us us'):AtV P f (PostR kds oks ds us' pins q K) n K q ps k E L :=
 h.mono fun _ _ h=>h.weak hw
theorem AtV.fin {fn:Func} (hf:P.funcs[f]? = some fn) {tab:List TI} {ext:Ext} (hT:TabOk P tab) (hX:ExtOk P ext) (hm:P.follows .mixedOrders=true) {q:Nat→Value} {pins:List Nat} {oks:List AT} {kds:List RK} {wr:Bool} {stops:List Nat} {m:Nat} {ts:List Ty} {path:List Bool} {k:List Item} {ds:List Dyn} {us:List (Option Lst)} {cs:List Prop}
  (h:runF tab ext wr n stops m pins oks kds ts fn.results path k E L=some (ds,us,cs)) (hc:All cs):AtV P f (PostR kds oks ds us pins q K) n K q pins k E L:=by
 intro a w w0 G V own hR hq
 unfold runF at h
 split at h
 ·rename_i S hr
  split at h
  rename_i E1 L1 hfrz
  split at h
  ·rename_i ds' us' hfin
   split at h
   ·rename_i hnd
    simp only [Bool.and_eq_true,decide_eq_true_eq,Nat.ble_eq] at hnd
    obtain ⟨⟨hnd,hp⟩,hpl⟩:=hnd
    cases h
    refine runA_run hT hX hm hr hc hR ⟨fun t d ht=>by simp [lookB] at ht,hq⟩ ?_
    intro a' w' w1 G1 V' own' hR1 hq'
    rw [hp] at hq'
    obtain ⟨w2,G2,hR'⟩:=frzAll_spec (rs:=frzF tab S.E S.L kds fn.results.toList) hR1
    rw [hfrz] at hR'
    obtain ⟨rs,bss,g1,g2,g3,g4,g5⟩:=finA_spec (P:=P) hT hR' hfin
    obtain ⟨ubs,k1,k2,k3⟩:=updO_spec (gone:=us') hR' hpl hq'
    have hall:ubs.flatten++bss.flatten=(((updO E1 L1 us' pins oks).2++us').map own').flatten:=by rw [k2,g4,List.map_append,List.flatten_append]
    have hlive:∀ r∈(updO E1 L1 us' pins oks).2++us',∃ B,hget L1 r=some B:=fun r hr=>by
     rcases List.mem_append.1 hr with hr | hr
     ·exact k3 r hr
     ·exact g5 r hr
    have hout:∀ b∈ubs.flatten++bss.flatten,Am.Out K G2 b:=by
     intro b hb
     rw [hall] at hb
     obtain ⟨l,hl,hb⟩:=List.mem_flatten.1 hb
     obtain ⟨r,hr,rfl⟩:=List.mem_map.1 hl
     obtain ⟨B,hB⟩:=hlive r hr
     exact hR'.good r B hB b hb
    refine ⟨hR'.defers,fn,packV rs,hf,?_,rs,ubs,bss,NewG K G2,rfl,hR'.kept,g3,k1,?_,fun b hb=>(hout b hb).1,fun b hb=>⟨hR'.glt b hb.1,hb.2,fun hm=>(hout b hm).2 hb.1⟩⟩
    ·unfold results
     have hm':(fn.results.mapM fun x=>(match x with | .tmp t=>pure (a'.tmps.getD t undef) | .cell b t=>do loadVar t (← asAddr (a'.tmps.getD b undef)):Sem Value)).run P w' = .ok rs.toArray w':=by
      rw [show fn.results=fn.results.toList.toArray from rfl,List.mapM_toArray]
      simp only [map_eq_pure_bind,Sem.run_bind,g1,Result.andThen_ok,Sem.run_pure]
     simp only [Sem.run_bind]
     refine (congrArg (fun r=>Result.andThen r _) hm').trans ?_
     simp only [Result.andThen_ok,Sem.run_pure]
     congr 1
     match rs with
     | []=>rfl
     | [v]=>rfl
     | _ :: _ :: _=>simp [packV]
    ·rw [hall];exact own_nodup hR' (nodupB_spec hnd) hlive
   ·cases h
  ·cases h
 ·cases h
end
end Go.Am
namespace Go.Am
open Go.ChangeShapes Go.WideShapes Go.ChangeAt Go.RowKit
set_option linter.unusedVariables false
set_option linter.unusedSimpArgs false
def wrapB (P:Program) (agg:Bool) (T:TypeId) (k:TypeId ⊕ (List Field×Nat)→Bool):Bool :=
 match agg with
 | true=>match P.underlying T with
  | some (.struct fs)=>k (.inr (fs.toList,0))
  | _=>false
 | false=>k (.inl T)
def readsB (P:Program):Ty→TypeId ⊕ (List Field×Nat)→Bool
 | .int k,.inl T=>isIntB k (P.underlying T)
 | .bool,.inl T=>isBoolB (P.underlying T)
 | .str,.inl T=>isStrB (P.underlying T)
 | .unit,.inr ([],_)=>true
 | .cons a b,.inr (f :: fs,o)=>Nat.beq f.offset o&&(Nat.beq (P.cellsOf f.type) a.size&&(wrapB P a.agg f.type (readsB P a)&&readsB P b (.inr (fs,o+a.size))))
 | _,_=>false
def readsT (P:Program) (t:Ty) (T:TypeId):Bool:=Nat.beq (P.cellsOf T) t.size&&wrapB P t.agg T (readsB P t)
section
variable {H:Type} {enc:TypeId×Value→H} {P:Program} {w:World} {base:Nat} {spare:Nat→Bool} {held:Bool} {G:Nat→Prop}
def TrodOne (enc:TypeId×Value→H) (P:Program) (w:World) (base:Nat) (spare:Nat→Bool) (held:Bool) (cs:List Value) (f:Field):Prop :=
 ∃ n x,DataW.trod enc P w base spare held n f.type ((cs.drop f.offset).take (P.cellsOf f.type))=some x
theorem trod_fields {T:TypeId} {fs:Array Field} {fuel:Nat} {cs:List Value} {x:DataW H×List MemPlace} (ht:P.underlying T=some (.struct fs)) (h:DataW.trod enc P w base spare held fuel T cs=some x) :
  cs.length=P.cellsOf T∧∀ f∈fs.toList,TrodOne enc P w base spare held cs f:=by
 obtain ⟨xs,n,_,_,hl,hx,hf⟩:=DataW.trod_struct ht h
 refine ⟨hl,fun f hf' => ?_⟩
 obtain ⟨i,hi⟩:=List.getElem?_of_mem hf'
 rw [Array.getElem?_toList] at hi
 have hlt:i<fs.size:=(Array.getElem?_eq_some_iff.1 hi).1
 have:=hf i f hi
 exact ⟨n,xs[i]'(by omega),by rw [this];exact List.getElem?_eq_getElem _⟩
theorem trod_rep:∀ (t:Ty),
  (∀ T fuel cs x,wrapB P t.agg T (readsB P t)=true→P.cellsOf T=t.size→DataW.trod enc P w base spare held fuel T cs=some x→∃ y,RepC w G t y cs) ∧
  (∀ fs o cs,readsB P t (.inr (fs,o))=true→(∀ f∈fs,TrodOne enc P w base spare held cs f)→cs.length=o+t.size→∃ y,RepC w G t y (cs.drop o))
 | .int k=>by
  refine ⟨fun T fuel cs x h _ ht => ?_,fun fs o cs h=>by simp [readsB] at h⟩
  have hu:=isIntB_eq (by simpa [wrapB,Ty.agg,readsB] using h)
  obtain ⟨n,rfl,_,hw⟩:=DataW.trod_int hu ht
  exact ⟨n,rfl,by simpa [Lit.wf,InR] using hw⟩
 | .bool=>by
  refine ⟨fun T fuel cs x h _ ht => ?_,fun fs o cs h=>by simp [readsB] at h⟩
  have hu:=isBoolB_eq (by simpa [wrapB,Ty.agg,readsB] using h)
  obtain ⟨b,rfl,_⟩:=DataW.trod_bool hu ht
  exact ⟨b,rfl⟩
 | .fn=>⟨fun T fuel cs x h=>by simp [wrapB,Ty.agg,readsB] at h,fun fs o cs h=>by simp [readsB] at h⟩
 | .str=>by
  refine ⟨fun T fuel cs x h _ ht => ?_,fun fs o cs h=>by simp [readsB] at h⟩
  have hu:=isStrB_eq (by simpa [wrapB,Ty.agg,readsB] using h)
  obtain ⟨s,rfl,_,hs⟩:=DataW.trod_string hu ht
  exact ⟨s,rfl,hs⟩
 | .sl e=>by
  exact ⟨fun T fuel cs x h=>by simp [wrapB,Ty.agg,readsB] at h,fun fs o cs h=>by simp [readsB] at h⟩
 | .unit=>by
  have hB:∀ fs o cs,readsB P .unit (.inr (fs,o))=true→(∀ f∈fs,TrodOne enc P w base spare held cs f)→cs.length=o+Ty.unit.size→∃ y,RepC w G .unit y (cs.drop o):=by
   intro fs o cs h _ hl
   refine ⟨(),?_⟩
   show cs.drop o=[]
   rw [List.drop_eq_nil_iff]
   simp [Ty.size] at hl
   omega
  refine ⟨fun T fuel cs x h hc ht => ?_,hB⟩
  simp only [wrapB,Ty.agg] at h
  split at h
  ·rename_i fs hu
   obtain ⟨h1,h2⟩:=trod_fields hu ht
   simpa using hB _ _ cs h h2 (by rw [h1,hc];simp)
  ·cases h
 | .cons a b=>by
  obtain ⟨ha,_⟩:=trod_rep a
  obtain ⟨_,hb⟩:=trod_rep b
  have hB:∀ fs o cs,readsB P (.cons a b) (.inr (fs,o))=true→(∀ f∈fs,TrodOne enc P w base spare held cs f)→cs.length=o+(Ty.cons a b).size→∃ y,RepC w G (.cons a b) y (cs.drop o):=by
   intro fs o cs h hf hl
   match fs,h with
   | [],h=>simp [readsB] at h
   | f :: fs,h =>
    simp only [readsB,Bool.and_eq_true] at h
    obtain ⟨h1,h2,h3,h4⟩:=h
    have h1:=Nat.eq_of_beq_eq_true h1
    have h2:=Nat.eq_of_beq_eq_true h2
    simp only [Ty.size] at hl
    obtain ⟨n,x,hx⟩:=hf f (List.mem_cons_self ..)
    rw [h1,h2] at hx
    obtain ⟨y1,hy1⟩:=ha _ _ _ _ h3 h2 hx
    obtain ⟨y2,hy2⟩:=hb fs (o+a.size) cs h4 (fun g hg=>hf g (List.mem_cons_of_mem _ hg)) (by omega)
    refine ⟨(y1,y2),_,_,?_,hy1,hy2⟩
    rw [← List.drop_drop]
    exact (List.take_append_drop _ _).symm
  refine ⟨fun T fuel cs x h hc ht => ?_,hB⟩
  simp only [wrapB,Ty.agg] at h
  split at h
  ·rename_i fs hu
   obtain ⟨h1,h2⟩:=trod_fields hu ht
   simpa using hB _ _ cs h h2 (by rw [h1,hc];simp)
  ·cases h
theorem cells_list {a:Addr} {n:Nat} {cs:List Value} (h:w.cells? base a n=some cs):cs.length=n∧∀ j c,cs[j]? = some c→w.cell? (a.add j)=some c:=by
 unfold World.cells? at h
 split at h
 ·have key:∀ (l:List Nat) (cs:List Value),(l.mapM fun i=>w.cell? (a.add i))=some cs→cs.length=l.length∧∀ (j:Nat) (c:Value) (i:Nat),cs[j]? = some c→l[j]? = some i→w.cell? (a.add i)=some c:=by
   intro l
   induction l with
   | nil=>intro cs h;simp at h;subst h;simp
   | cons i l ih =>
    intro cs h
    rw [List.mapM_cons] at h
    cases hc:w.cell? (a.add i) with
    | none=>simp [hc] at h
    | some c =>
     cases hr:l.mapM fun i=>w.cell? (a.add i) with
     | none=>simp [hc,hr] at h
     | some r =>
      simp [hc,hr] at h
      subst h
      obtain ⟨h1,h2⟩:=ih r hr
      refine ⟨by simp [h1],fun j c' i' hj hi => ?_⟩
      cases j with
      | zero=>simp at hj hi;subst hj hi;exact hc
      | succ j=>exact h2 j c' i' (by simpa using hj) (by simpa using hi)
  obtain ⟨h1,h2⟩:=key _ _ h
  refine ⟨by simpa using h1,fun j c hj=>h2 j c j hj ?_⟩
  have hlt:=(List.getElem?_eq_some_iff.1 hj).1
  have h1':cs.length=n:=by simpa using h1
  rw [List.getElem?_range (by omega)]
 ·cases h
def FitV (w:World) (v:Value):Prop:=∀ a len cap,v = .slice (some a) len cap→a.spot=none∧a.block<w.heap.size
theorem has_fit {r:Reach} {b0:Nat} {a:Addr} {e:TypeId} {n:Nat} (h:w.has P r b0 a e n):a.spot=none∧a.block<w.heap.size:=by
 obtain ⟨_,hs,row,cells,hsh,_⟩:=h
 refine ⟨hs,?_⟩
 rcases Nat.lt_or_ge a.block w.heap.size with hlt | hge
 ·exact hlt
 ·simp [World.shape?, Array.getElem?_eq_none hge] at hsh
theorem cell_fit {r:Reach} {b0:Nat} {u:TypeId} {v:Value} (h:Cell.okWide P w r b0 u v):FitV w v:=by
 rintro a len cap rfl
 unfold Cell.okWide at h
 split at h
 all_goals first
  | (rename_i hv;cases hv;done)
  | skip
 unfold Cell.ok at h
 split at h
 all_goals first
  | (rename_i hv;cases hv;done)
  | (cases h;done)
  | skip
 rename_i hv
 cases hv
 exact has_fit h.2.2
theorem row_fit {r:Reach} {b0:Nat} {T:TypeId} {cs:Array Value} (h:Row.okWide P w r b0 T cs):∀ v∈cs.toList,FitV w v:=by
 obtain ⟨ts,_,_,h⟩:=h
 intro v hv
 obtain ⟨i,hi⟩:=List.getElem?_of_mem hv
 rw [Array.getElem?_toList] at hi
 obtain ⟨u,_,hu⟩:=h i v hi
 exact cell_fit hu
theorem trod_slice_rep {e:Ty} {E T:TypeId} {fuel:Nat} {cs:List Value} {x:DataW H×List MemPlace} (hu:P.underlying T=some (.slice E)) (hr:readsT P e E=true) (hz:e.size≠0) (hf:∀ v∈cs,FitV w v)
  (h:DataW.trod enc P w base spare held fuel T cs=some x):∃ (v:Value) (ys:List e.den),cs=[v]∧SlAt w (Good w []) (RepC w (Good w []) e) e.size ys v:=by
 simp only [readsT,Bool.and_eq_true] at hr
 obtain ⟨hc,hr⟩:=hr
 have hc:=Nat.eq_of_beq_eq_true hc
 rcases DataW.trod_slice hu h with ⟨h1,_⟩ | ⟨a,len,cap,elems,rest,n,_,h1,_,_,hl,hm,hlen,hel,_⟩
 ·exact ⟨_,[],h1,by simp [maxLen],.inl ⟨_,rfl,rfl⟩⟩
 ·subst h1
  obtain ⟨hs,hb⟩:=hf _ (List.mem_singleton.2 rfl) _ _ _ rfl
  obtain ⟨b,off,spot⟩:=a
  simp only at hs hb
  subst hs
  have each:∀ i,i<len→∃ y cs,cs.length=e.size∧(∀ j c,cs[j]? = some c→w.cell? ⟨b,off+i*e.size+j,none⟩=some c)∧RepC w (Good w []) e y cs:=by
   intro i hi
   have hx:=hel i hi
   rw [List.getElem?_eq_getElem (by omega)] at hx
   simp only [Option.bind_eq_some_iff] at hx
   obtain ⟨cs,g1,g2⟩:=hx
   obtain ⟨k1,k2⟩:=cells_list g1
   obtain ⟨y,hy⟩:=(trod_rep (G:=Good w []) e).1 E _ _ _ hr hc g2
   refine ⟨y,cs,by rw [k1,hc],fun j c hj => ?_,hy⟩
   have:=k2 j c hj
   rw [hc] at this
   rw [Addr.add_lit,Addr.add_lit] at this
   exact this
  have build:∀ k,k≤len→∃ ys:List e.den,ys.length=k∧∀ i y,ys[i]? = some y→∃ cs,cs.length=e.size∧(∀ j c,cs[j]? = some c→w.cell? ⟨b,off+i*e.size+j,none⟩=some c)∧RepC w (Good w []) e y cs:=by
   intro k
   induction k with
   | zero=>intro _;exact ⟨[],rfl,fun i y h=>by simp at h⟩
   | succ k ih =>
    intro hk
    obtain ⟨ys,h1,h2⟩:=ih (by omega)
    obtain ⟨y,cs,g1,g2,g3⟩:=each k (by omega)
    refine ⟨ys++[y],by simp [h1],fun i z hz => ?_⟩
    by_cases hi:i<ys.length
    ·rw [List.getElem?_append_left hi] at hz
     exact h2 i z hz
    ·have hlt:=(List.getElem?_eq_some_iff.1 hz).1
     simp at hlt
     have:i=k:=by omega
     subst this
     rw [List.getElem?_append_right (by omega)] at hz
     simp [h1] at hz
     subst hz
     exact ⟨cs,g1,g2,g3⟩
  obtain ⟨ys,h1,h2⟩:=build len (Nat.le_refl _)
  exact ⟨_,ys,rfl,by omega,.inr ⟨b,off,cap,by rw [h1],by omega,by omega,⟨hb,by simp⟩,h2⟩⟩
def readsW (P:Program):Ty→TypeId ⊕ (List Field×Nat)→Bool
 | .sl e,.inl T=>match P.underlying T with
  | some (.slice E)=>readsT P e E && !Nat.beq e.size 0
  | _=>false
 | .unit,.inr ([],_)=>true
 | .cons a b,.inr (f :: fs,o)=>Nat.beq f.offset o&&(Nat.beq (P.cellsOf f.type) a.size&&(wrapB P a.agg f.type (readsW P a)&&readsW P b (.inr (fs,o+a.size))))
 | .int k,x=>readsB P (.int k) x
 | .bool,x=>readsB P .bool x
 | .str,x=>readsB P .str x
 | _,_=>false
theorem trod_repW:∀ (t:Ty),
  (∀ T fuel cs x,wrapB P t.agg T (readsW P t)=true→P.cellsOf T=t.size→(∀ v∈cs,FitV w v)→DataW.trod enc P w base spare held fuel T cs=some x→∃ y,RepC w (Good w []) t y cs) ∧
  (∀ fs o cs,readsW P t (.inr (fs,o))=true→(∀ f∈fs,TrodOne enc P w base spare held cs f)→(∀ v∈cs,FitV w v)→cs.length=o+t.size→∃ y,RepC w (Good w []) t y (cs.drop o))
 | .int k=>by
  refine ⟨fun T fuel cs x h hc _ ht=>(trod_rep (.int k)).1 T fuel cs x ?_ hc ht,fun fs o cs h=>by simp [readsW,readsB] at h⟩
  simpa [wrapB,Ty.agg,readsW] using h
 | .bool=>by
  refine ⟨fun T fuel cs x h hc _ ht=>(trod_rep .bool).1 T fuel cs x ?_ hc ht,fun fs o cs h=>by simp [readsW,readsB] at h⟩
  simpa [wrapB,Ty.agg,readsW] using h
 | .fn=>⟨fun T fuel cs x h=>by simp [wrapB,Ty.agg,readsW] at h,fun fs o cs h=>by simp [readsW] at h⟩
 | .str=>by
  refine ⟨fun T fuel cs x h hc _ ht=>(trod_rep .str).1 T fuel cs x ?_ hc ht,fun fs o cs h=>by simp [readsW,readsB] at h⟩
  simpa [wrapB,Ty.agg,readsW] using h
 | .sl e=>by
  refine ⟨fun T fuel cs x h hc hf ht => ?_,fun fs o cs h=>by simp [readsW] at h⟩
  simp only [wrapB,Ty.agg,readsW] at h
  split at h
  ·rename_i E hu
   simp only [Bool.and_eq_true,Bool.not_eq_true'] at h
   obtain ⟨v,ys,h1,h2⟩:=trod_slice_rep hu h.1 (fun hz=>by have:=h.2;rw [hz] at this;simp at this) hf ht
   exact ⟨ys,v,h1,h2⟩
  ·cases h
 | .unit=>by
  have hB:∀ fs o cs,readsW P .unit (.inr (fs,o))=true→(∀ f∈fs,TrodOne enc P w base spare held cs f)→cs.length=o+Ty.unit.size→∃ y,RepC w (Good w []) .unit y (cs.drop o):=by
   intro fs o cs h _ hl
   refine ⟨(),?_⟩
   show cs.drop o=[]
   rw [List.drop_eq_nil_iff]
   simp [Ty.size] at hl
   omega
  refine ⟨fun T fuel cs x h hc _ ht => ?_,fun fs o cs h1 h2 _ h3=>hB fs o cs h1 h2 h3⟩
  simp only [wrapB,Ty.agg] at h
  split at h
  ·rename_i fs hu
   obtain ⟨h1,h2⟩:=trod_fields hu ht
   simpa using hB _ _ cs h h2 (by rw [h1,hc];simp)
  ·cases h
 | .cons a b=>by
  obtain ⟨ha,_⟩:=trod_repW a
  obtain ⟨_,hb⟩:=trod_repW b
  have hB:∀ fs o cs,readsW P (.cons a b) (.inr (fs,o))=true→(∀ f∈fs,TrodOne enc P w base spare held cs f)→(∀ v∈cs,FitV w v)→cs.length=o+(Ty.cons a b).size→∃ y,RepC w (Good w []) (.cons a b) y (cs.drop o):=by
   intro fs o cs h hf hfit hl
   match fs,h with
   | [],h=>simp [readsW] at h
   | f :: fs,h =>
    simp only [readsW,Bool.and_eq_true] at h
    obtain ⟨h1,h2,h3,h4⟩:=h
    have h1:=Nat.eq_of_beq_eq_true h1
    have h2:=Nat.eq_of_beq_eq_true h2
    simp only [Ty.size] at hl
    obtain ⟨n,x,hx⟩:=hf f (List.mem_cons_self ..)
    rw [h1,h2] at hx
    obtain ⟨y1,hy1⟩:=ha _ _ _ _ h3 h2 (fun v hv=>hfit v (List.mem_of_mem_drop (List.mem_of_mem_take hv))) hx
    obtain ⟨y2,hy2⟩:=hb fs (o+a.size) cs h4 (fun g hg=>hf g (List.mem_cons_of_mem _ hg)) hfit (by omega)
    refine ⟨(y1,y2),_,_,?_,hy1,hy2⟩
    rw [← List.drop_drop]
    exact (List.take_append_drop _ _).symm
  refine ⟨fun T fuel cs x h hc hfit ht => ?_,hB⟩
  simp only [wrapB,Ty.agg] at h
  split at h
  ·rename_i fs hu
   obtain ⟨h1,h2⟩:=trod_fields hu ht
   simpa using hB _ _ cs h h2 hfit (by rw [h1,hc];simp)
  ·cases h
def argB (P:Program):Ty→TypeId→Bool
 | .sl e,T=>match P.underlying T with
  | some (.slice E)=>readsT P e E && !Nat.beq e.size 0
  | _=>false
 | t,T=>readsT P t T||(t.agg&&(Nat.beq (P.cellsOf T) t.size&&wrapB P true T (readsW P t)))
theorem okWide_agg {r:Reach} {b0:Nat} {T:TypeId} {v:Value} {fs:Array Field} (hu:P.underlying T=some (.struct fs)) (h:Value.okWide P w r b0 T v):∃ cs,v = .agg cs:=by
 simp only [Value.okWide,hu] at h
 obtain ⟨cs,hv,_⟩:=h
 exact ⟨cs,hv⟩
theorem trod_flat_arg {r:Reach} {b0:Nat} {t:Ty} {T:TypeId} {v:Value} {d:DataW H} {ps:List MemPlace} (hB:readsT P t T=true) (hv:Value.okWide P w r b0 T v) (h:DataW.Trod enc P w base spare held T v d ps) :
  ∃ x:t.den,RepB w G (toAtom t x) v:=by
 simp only [readsT,Bool.and_eq_true] at hB
 obtain ⟨hc,hB⟩:=hB
 have hc:=Nat.eq_of_beq_eq_true hc
 obtain ⟨fuel,hf⟩:=h
 obtain ⟨y,hy⟩:=(trod_rep (G:=G) t).1 T fuel _ _ hB hc hf
 refine ⟨y,?_⟩
 cases t with
 | int k =>
  have hu:=isIntB_eq (by simpa [wrapB,Ty.agg,readsB] using hB)
  obtain ⟨n,rfl⟩:=okWide_int hu hv
  obtain ⟨h1,h2⟩:=hy
  simp [Value.cells] at h1
  subst h1
  exact ⟨rfl,h2⟩
 | bool =>
  have hu:=isBoolB_eq (by simpa [wrapB,Ty.agg,readsB] using hB)
  obtain ⟨b,rfl⟩:=okWide_bool hu hv
  have h1:([.bool b]:List Value)=[.bool y]:=hy
  cases h1
  exact ⟨rfl,trivial⟩
 | fn=>simp [wrapB,Ty.agg,readsB] at hB
 | str =>
  have hu:=isStrB_eq (by simpa [wrapB,Ty.agg,readsB] using hB)
  obtain ⟨s,rfl⟩:=okWide_string hu hv
  obtain ⟨h1,h2⟩:=hy
  simp [Value.cells] at h1
  subst h1
  exact ⟨rfl,h2⟩
 | sl e=>simp [wrapB,Ty.agg,readsB] at hB
 | unit =>
  simp only [wrapB,Ty.agg] at hB
  split at hB
  ·rename_i fs hu
   obtain ⟨cs,rfl⟩:=okWide_agg hu hv
   exact ⟨cs.toList,by simp,hy⟩
  ·cases hB
 | cons a b =>
  simp only [wrapB,Ty.agg] at hB
  split at hB
  ·rename_i fs hu
   obtain ⟨cs,rfl⟩:=okWide_agg hu hv
   exact ⟨cs.toList,by simp,hy⟩
  ·cases hB
theorem has_spot {r:Reach} {b0:Nat} {T E:TypeId} {a:Addr} {len cap:Nat} (hu:P.underlying T=some (.slice E)) (hv:Value.okWide P w r b0 T (.slice (some a) len cap)):a.spot=none∧a.block<w.heap.size:=by
 simp only [Value.okWide,hu,Cell.okWide,Cell.ok] at hv
 obtain ⟨_,_,hh⟩:=hv
 obtain ⟨_,hs,row,cells,hsh,_⟩:=hh
 refine ⟨hs,?_⟩
 rcases Nat.lt_or_ge a.block w.heap.size with hlt | hge
 ·exact hlt
 ·simp [World.shape?, Array.getElem?_eq_none hge] at hsh
theorem trod_arg {r:Reach} {b0:Nat} {t:Ty} {T:TypeId} {v:Value} {d:DataW H} {ps:List MemPlace} (hB:argB P t T=true) (hv:Value.okWide P w r b0 T v) (h:DataW.Trod enc P w base spare held T v d ps) :
  ∃ x:t.den,RepB w (Good w []) (toAtom t x) v:=by
 unfold argB at hB
 split at hB
 ·rename_i e
  split at hB
  ·rename_i E hu
   simp only [Bool.and_eq_true,Bool.not_eq_true'] at hB
   obtain ⟨a0,len,cap,rfl⟩:=okWide_slice hu hv
   obtain ⟨fuel,hf⟩:=h
   have hfit:∀ u∈(Value.slice a0 len cap).cells.toList,FitV w u:=fun u hu'=>by
    simp [Value.cells] at hu'
    subst hu'
    rintro a l c he
    cases he
    exact has_spot hu hv
   obtain ⟨u,ys,h1,h2⟩:=trod_slice_rep hu hB.1 (fun hz=>by have:=hB.2;rw [hz] at this;simp at this) hfit hf
   simp [Value.cells] at h1
   subst h1
   exact ⟨ys,h2⟩
  ·cases hB
 ·rename_i hns
  rw [Bool.or_eq_true] at hB
  rcases hB with hB | hB
  ·exact trod_flat_arg hB hv h
  ·simp only [Bool.and_eq_true] at hB
   obtain ⟨ha,hc,hB⟩:=hB
   have hc:=Nat.eq_of_beq_eq_true hc
   obtain ⟨fuel,hf⟩:=h
   have hB':=hB
   unfold wrapB at hB
   simp only at hB
   split at hB
   ·rename_i fs hu
    simp only [Value.okWide,hu] at hv
    obtain ⟨cs,rfl,_,hrow⟩:=hv
    obtain ⟨y,hy⟩:=(trod_repW t).1 T fuel _ _ (by rw [ha];exact hB') hc (row_fit hrow) (by simpa [Value.cells] using hf)
    refine ⟨y,?_⟩
    cases t with
    | cons a b=>exact ⟨cs.toList,by simp,hy⟩
    | unit=>exact ⟨cs.toList,by simp,hy⟩
    | _=>cases ha
   ·cases hB
theorem trod_args {r:Reach} {b0:Nat}:∀ {ts:List Ty} {Ts:List TypeId} {vs:List Value} {ds:List (DataW H)} {ps:List MemPlace},ts.length=Ts.length→(∀ (i:Nat) (t:Ty) (T:TypeId),ts[i]? = some t→Ts[i]? = some T→argB P t T=true) →
  (∀ (j:Nat) T v,Ts[j]? = some T→vs[j]? = some v→Value.okWide P w r b0 T v)→DataW.TrodAll enc P w base spare held Ts vs ds ps →
  ∃ (x:sigDen (ts.map AT.v)) (bss:List (List Nat)),bss.flatten=[]∧ArgsRep w (Good w []) (ts.map AT.v) x vs bss
 | [],[],[],[],_,_,_,_,_=>⟨(),[],rfl,rfl,rfl⟩
 | t :: ts,T :: Ts,v :: vs,d :: ds,ps,hl,hB,hv,h=>by
  obtain ⟨p,q,h1,h2,_⟩:=h
  obtain ⟨x,hx⟩:=trod_arg (hB 0 t T rfl rfl) (hv 0 T v rfl rfl) h1
  obtain ⟨y,bss,hb,hy⟩:=trod_args (by simpa using hl) (fun i t T h1 h2=>hB (i+1) t T (by simpa using h1) (by simpa using h2)) (fun j T v h1 h2=>hv (j+1) T v (by simpa using h1) (by simpa using h2)) h2
  exact ⟨(x,y),[] :: bss,by simpa using hb,v,vs,[],bss,rfl,rfl,⟨rfl,hx⟩,hy⟩
 | [],_ :: _,_,_,_,hl,_,_,_=>by simp at hl
 | _ :: _,[],_,_,_,hl,_,_,_=>by simp at hl
end
end Go.Am
namespace Go.Am
open Go.ChangeShapes Go.WideShapes Go.ChangeAt Go.RowKit
set_option linter.unusedVariables false
set_option linter.unusedSimpArgs false
section
variable {H:Type} {enc:TypeId×Value→H} {P:Program} {W W':World}
theorem trodAll_below (hl:laidOutB P=true) (hb:Below W.heap.size W W'):∀ {ts:List TypeId} {vs:List Value} {ds:List (DataW H)} {ps:List MemPlace},(∀ t∈ts,P.readableRec t=true∧t<P.types.size) →
  DataW.TrodAll enc P W 0 (fun _=>true) true ts vs ds ps→(∀ x∈ps,x.block<W.heap.size)→DataW.TrodAll enc P W' 0 (fun b=>decide (b<W.heap.size)) true ts vs ds ps
 | [],[],[],_,_,h,_=>h
 | t :: ts,v :: vs,d :: ds,ps,hr,⟨p,q,h1,h2,e⟩,hlt=>by
  obtain ⟨r1,r2⟩:=hr t (List.mem_cons_self ..)
  refine ⟨p,q,Below.trod hl r1 r2 h1 hb (fun x hx=>hlt x (by rw [e];exact List.mem_append_left _ hx)),trodAll_below hl hb (fun t ht=>hr t (List.mem_cons_of_mem _ ht)) h2 (fun x hx=>hlt x (by rw [e];exact List.mem_append_right _ hx)),e⟩
 | [],[],_ :: _,_,_,h,_=>h.elim
 | [],_ :: _,_,_,_,h,_=>h.elim
 | _ :: _,[],_,_,_,h,_=>h.elim
 | _ :: _,_ :: _,[],_,_,h,_=>h.elim
theorem trodAll_len {base:Nat} {sp:Nat→Bool} {held:Bool}:∀ {ts:List TypeId} {vs:List Value} {ds:List (DataW H)} {ps:List MemPlace},DataW.TrodAll enc P W base sp held ts vs ds ps→ds.length=ts.length∧vs.length=ts.length
 | [],[],[],_,h=>⟨rfl,rfl⟩
 | t :: ts,v :: vs,d :: ds,ps,⟨p,q,h1,h2,e⟩=>by obtain ⟨a,b⟩:=trodAll_len h2;exact ⟨by simp [a],by simp [b]⟩
 | [],[],_ :: _,_,h=>h.elim
 | [],_ :: _,_,_,h=>h.elim
 | _ :: _,[],_,_,h=>h.elim
 | _ :: _,_ :: _,[],_,h=>h.elim
end
def argsB (P:Program):List Ty→List TypeId→Bool
 | [],[]=>true
 | t :: ts,T :: Ts=>argB P t T&&argsB P ts Ts
 | _,_=>false
theorem argsB_spec {P:Program}:∀ {ts:List Ty} {Ts:List TypeId},argsB P ts Ts=true→ts.length=Ts.length∧∀ (i:Nat) (t:Ty) (T:TypeId),ts[i]? = some t→Ts[i]? = some T→argB P t T=true
 | [],[],_=>⟨rfl,fun i t T h=>by simp at h⟩
 | t :: ts,T :: Ts,h=>by
  simp only [argsB,Bool.and_eq_true] at h
  obtain ⟨h1,h2⟩:=argsB_spec h.2
  refine ⟨by simp [h1],fun i u U hu hU => ?_⟩
  cases i with
  | zero=>simp at hu hU;subst hu hU;exact h.1
  | succ i=>exact h2 i u U (by simpa using hu) (by simpa using hU)
 | [],_ :: _,h=>by cases h
 | _ :: _,[],h=>by cases h
def lawSpec (ts:List Ty):Spec:={ sig:=ts.map AT.v,pre:=fun _=>True,res:=fun _=>[⟨.bool,true⟩] }
theorem law_calls {H:Type} {enc:TypeId×Value→H} {C:Checked} {f:FuncId} {fn:Func} {s:ChangeSpec} {apart fresh handsOn:Bool}
  (hl:laidOutB C.prog=true) (hr:(fn.params.toList.all fun t=>C.prog.readableRec t&&Nat.blt t C.prog.types.size)=true)
  (ts:List Ty) (hts:argsB C.prog ts fn.params.toList=true) {tb:TypeId} (hres:fn.resultTypes = #[tb]) (htb:C.prog.underlying tb=some .bool) (hvars:s.vars=[])
  (hs:∀ ds:List (DataW H),ds.length=fn.params.toList.length→(s.fn H (ds++[])).results=[.lit (.bool true)]∧(s.fn H (ds++[])).args=ds∧(s.fn H (ds++[])).vars=[])
  (hcon:Contract C.prog f (lawSpec ts)) {W:World} (hg:GInv W) {base:Nat} {args:Array Value} {ds gs:List (DataW H)} {before:List MemPlace}
  (hval:∀ (j:Nat) t v,fn.params[j]? = some t→args[j]? = some v→Value.okWide C.prog W .any base t v)
  (hW:DataW.Whole enc C.prog fn.params.toList s.vars apart W args.toList ds gs before) :
  Calls C.prog f args W fun e W'=>∃ v,e = .returned v∧s.post enc C.prog fn apart fresh handsOn false W args v W':=by
 have hW':=hW
 obtain ⟨p,q,hA,hV,hbef,hfz,hnd⟩:=hW
 rw [hvars] at hV
 obtain ⟨rfl,rfl⟩:=trodVars_none hV
 obtain ⟨hlen,hall⟩:=argsB_spec hts
 obtain ⟨x,bss,hb0,hx⟩:=trod_args (r := .any) (b0:=base) hlen hall (fun j T v h1 h2=>hval j T v (by simpa using h1) (by simpa using h2)) hA
 have hcall:=hcon W (Good W []) (Good W []) x args.toList bss (by rw [hb0];exact ⟨hg,hg.size,fun b hb=>by cases hb⟩) (by rw [hb0];exact fun b hb=>hb) (fun b hb=>hb) trivial hx (by rw [hb0];exact List.nodup_nil)
 rw [hb0] at hcall
 refine hcall.mono ?_
 rintro e W' ⟨rs,ubs,rbs,F,rfl,hk,hrr,_⟩
 have hrs:rs=[.bool true]:=by
  obtain ⟨v,s',b,bs,h1,h2,⟨cs,h3,h4⟩,h5⟩:=hrr
  obtain ⟨h3,_⟩:=h3
  simp only [IsVal] at h4
  rw [h3] at h4
  cases h4
  rw [h1,h5.1]
 subst hrs
 have hbel:=hk.below
 obtain ⟨g1,g2,g3⟩:=hs ds (trodAll_len hA).1
 have hlt:∀ y∈p,y.block<W.heap.size:=fun y hy=>hW'.lt y (by rw [hbef];exact List.mem_append_left _ hy)
 have hr':∀ t∈fn.params.toList,C.prog.readableRec t=true∧t<C.prog.types.size:=fun t ht=>by
  have:=List.all_eq_true.1 hr t ht
  simp only [Bool.and_eq_true] at this
  exact ⟨this.1,Nat.le_of_ble_eq_true this.2⟩
 refine ⟨.bool true,rfl,ds,[],before,[],p,[],hW',?_,?_,?_,hbel.frame _,fun h=>by cases h⟩
 ·rw [hres,g1]
  exact trodAll_mk1 (shut_bool htb true)
 ·rw [g2]
  exact trodAll_below hl hbel hr' hA hlt
 ·rw [hvars,g3]
  rfl
theorem law_lifted_laid {H:Type} {enc:TypeId×Value→H} {a:Assume} {C:Checked} {os:Os} {f:FuncId} {fn:Func} {s:ChangeSpec} {conds:List PathCond} {apart fresh handsOn:Bool} {laid:List (String×DataW Unit)}
  (own:ownKnob C.prog.godebug=none) (started:os.Started) (noInit:C.prog.inits.idxOf? f=none) (hfn:C.prog.funcs[f]? = some fn)
  (witness:∃ (w:World) (tape:Tape) (i:Input),w.os=os∧(w.forCall tape i).Shaped C.prog∧i.vars=[]∧Input.okWide C.prog (w.forCall tape i) .any w.heap.size f i ∧
   ((s.pre enc C.prog fn conds apart (w.forCall tape i).memory i.args∧laidMetH C.prog laid (w.forCall tape i).memory)∧sizedMet enc C.prog fn (OpenSpec.ofChange s) apart (w.forCall tape i).memory i.args)∧a.holds C.prog (lone (Frame.enter C.prog f i.args .normal) [] (w.forCall tape i)))
  (hl:laidOutB C.prog=true) (hr:(fn.params.toList.all fun t=>C.prog.readableRec t&&Nat.blt t C.prog.types.size)=true)
  (ts:List Ty) (hts:argsB C.prog ts fn.params.toList=true) {tb:TypeId} (hres:fn.resultTypes = #[tb]) (htb:C.prog.underlying tb=some .bool) (hvars:s.vars=[])
  (hs:∀ ds:List (DataW H),ds.length=fn.params.toList.length→(s.fn H (ds++[])).results=[.lit (.bool true)]∧(s.fn H (ds++[])).args=ds∧(s.fn H (ds++[])).vars=[])
  (hg:∀ W:World,W.ShapedOpen C.prog→laidMetH C.prog laid W→GInv W) (hcon:Contract C.prog f (lawSpec ts)) :
  ReturnsInHanded a C os f .any (fun w args=>(s.pre enc C.prog fn conds apart w args∧laidMetH C.prog laid w)∧sizedMet enc C.prog fn (OpenSpec.ofChange s) apart w args) (s.post enc C.prog fn apart fresh handsOn false):=by
 refine returnsInHanded_of_calls own started noInit witness ?_
 intro w tape i _ hsh _ hok hpre hholds
 obtain ⟨_,_,_,fn',hfn',_,_,_,_,hval⟩:=hok
 have e:fn'=fn:=Option.some.inj (hfn'.symm.trans hfn)
 subst e
 obtain ⟨⟨⟨ds,gs,before,hw,hc⟩,hx⟩,hz⟩:=hpre
 have hw':=DataW.Whole.of_heap (w':=w.forCall tape i) (by rfl) hw
 have hx':laidMetH C.prog laid (w.forCall tape i):=hx.of_heap (by rfl)
 refine (law_calls (fresh:=fresh) (handsOn:=handsOn) hl hr ts hts hres htb hvars hs hcon (hg _ hsh hx') hval hw').mono fun e W' ⟨v,he,hp⟩ => ?_
 subst he
 exact ChangeSpec.post_blind hp
end Go.Am
namespace Go.Am
set_option linter.unusedVariables false
set_option linter.unusedSimpArgs false
def bodyOf (f:Func):Code:=match f.body with | some c=>c | none => .skip
def firstRegion:Code→Nat
 | .region id _ _=>id
 | .seq x _=>firstRegion x
 | .block _ c=>firstRegion c
 | .loop c=>firstRegion c
 | .scope c=>firstRegion c
 | _=>999999
def orL:Option (List Item)→Option (List Item)→Option (List Item)
 | some k,_=>some k
 | none,x=>x
def findC (id:Nat):Code→List Item→Option (List Item)
 | .seq x y,k=>orL (findC id x (.code y :: k)) (findC id y k)
 | .block b c,k=>findC id c (.inBlock b :: k)
 | .loop c,k=>match Nat.beq (firstRegion c) id with
  | true=>some (.code c :: .inLoop c :: k)
  | false=>findC id c (.inLoop c :: k)
 | .cond _ x y,k=>orL (findC id x k) (findC id y k)
 | .region r ops d,k=>match Nat.beq r id with
  | true=>some (.code (.region r ops d) :: k)
  | false=>none
 | _,_=>none
def cutAt (c:Code) (id:Nat):List Item:=match findC id c [] with | some k=>k | none=>[]
def nilLeaf (r i:Nat) (ty:Ty) (EL:Env×Heap):Env×Heap :=
 match hget EL.2 r with
 | some A=>match A.ls with
  | some ls=>match ls[i]? with
   | some (.val (.slice none _ _))=>(EL.1,hset (EL.2++[some ⟨ty,[], !ty.flat,none,none⟩]) r (some ⟨A.t,A.xs,A.bor,some (ls.set i (.osl EL.2.length none)),A.sm⟩))
   | _=>EL
  | none=>EL
 | none=>EL
def nilA0 (t:Nat) (ty:Ty) (EL:Env×Heap):Env×Heap :=
 match EL.1.get t with
 | .a (.val (.slice none _ _))=>(EL.1.set t (.a (.osl EL.2.length none)),EL.2++[some ⟨ty,[], !ty.flat,none,none⟩])
 | _=>EL
def nilA (t:Nat) (ty:Ty) (EL:Env×Heap):Env×Heap :=
 match Nat.ble 1000000 t with
 | true=>match EL.1.get (t % 1000000) with
  | .a (.bptr r _ _)=>nilLeaf r (t / 1000000 - 1) ty EL
  | .a (.optr r _ _)=>nilLeaf r (t / 1000000 - 1) ty EL
  | _=>EL
 | false=>nilA0 t ty EL
def nilsA:List (Nat×Ty)→Env×Heap→Env×Heap
 | [],EL=>EL
 | (t,ty) :: r,EL=>nilsA r (nilA t ty EL)
def borUp1 (A:Arr):Arr :=
 match A.t.flat,A.bor with
 | false,false=>match A.ls,A.sm with
  | none,none=>match A.xs.isEmpty with
   | true=>⟨A.t,A.xs,true,none,none⟩
   | false=>A
  | _,_=>A
 | _,_=>A
def borUp (L:Heap):Heap:=L.map fun o=>match o with | some A=>some (borUp1 A) | none=>none
theorem hget_borUp:∀ (L:Heap) (s:Nat),hget (borUp L) s=(hget L s).map borUp1
 | [],_=>rfl
 | some B :: L,0=>rfl
 | none :: L,0=>rfl
 | o :: L,s+1=>hget_borUp L s
theorem borUp1_cases (A:Arr):borUp1 A=A∨(A.xs=[]∧A.ls=none∧A.sm=none∧borUp1 A=⟨A.t,A.xs,true,none,none⟩):=by
 unfold borUp1
 split
 ·split
  ·split
   ·rename_i h1 h2 _ h3
    exact .inr ⟨List.isEmpty_iff.1 h3,h1,h2,rfl⟩
   ·exact .inl rfl
  ·exact .inl rfl
 ·exact .inl rfl
section
variable {P:Program} {n:Nat} {K:Ctx} {G:Nat→Prop} {w0 w:World} {a:Act} {V:Nat→Value} {own:Nat→List Nat} {f:FuncId} {R:Ending→World→Prop} {E:Env} {L:Heap}
theorem RelV.reset (hR:RelV n K w0 G w a E L V own) {t:Nat} {p:PV} (hp:RepP w0 G L V p (a.tmps.getD t undef)):RelV n K w0 G w a (E.set t p) L V own :=
 ⟨hR.glob,hR.kept,hR.size,hR.defers,hR.glt,hR.gref,hR.gsub,hR.gold,hR.gup,hR.heap,hR.good,hR.nodup,hR.apart,hR.boxs,hR.small,fun i=>by
  rw [Env.get_set]
  split
  ·rename_i h;subst h;exact hp
  ·exact hR.env i⟩
theorem repLs_nil {V':Nat→Value} {L':Heap} {x:Leaf} {u:Value} (hx:RepL w0 G L' V' x u):∀ {ls:List Leaf} {cs:List Value} {i:Nat},RepLs w0 G L' V' ls cs→cs[i]? = some u→RepLs w0 G L' V' (ls.set i x) cs
 | [],cs,i,h,hi=>h
 | y :: ls,cs,0,⟨v,r,h1,h2,h3⟩,hi=>by
  subst h1
  simp at hi
  subst hi
  exact ⟨v,r,rfl,hx,h3⟩
 | y :: ls,cs,i+1,⟨v,r,h1,h2,h3⟩,hi=>by
  subst h1
  exact ⟨v,r,rfl,h2,repLs_nil hx h3 (by simpa using hi)⟩
theorem repLs_at {V':Nat→Value} {L':Heap} {x:Leaf}:∀ {ls:List Leaf} {cs:List Value} {i:Nat},RepLs w0 G L' V' ls cs→ls[i]? = some x→∃ u,cs[i]? = some u∧RepL w0 G L' V' x u
 | [],cs,i,h,hi=>by simp at hi
 | y :: ls,cs,0,⟨v,r,h1,h2,h3⟩,hi=>by
  subst h1
  simp at hi
  subst hi
  exact ⟨v,by simp,h2⟩
 | y :: ls,cs,i+1,⟨v,r,h1,h2,h3⟩,hi=>by
  subst h1
  obtain ⟨u,h4,h5⟩:=repLs_at h3 (by simpa using hi)
  exact ⟨u,by simpa using h4,h5⟩
theorem nilLeaf_spec (hR:RelV n K w0 G w a E L V own) (r i:Nat) (ty:Ty):∃ V' own',RelV n K w0 G w a (nilLeaf r i ty (E,L)).1 (nilLeaf r i ty (E,L)).2 V' own':=by
 unfold nilLeaf
 split
 ·rename_i A hA
  split
  ·rename_i ls hls
   split
   ·rename_i m c hi
    have hE:EntC w0 G w ⟨ty,[], !ty.flat,none,none⟩ (.slice none 0 0) []:=⟨by simp [maxLen],.inl ⟨_,rfl,rfl,rfl⟩⟩
    have hR':=hR.grow hE List.nodup_nil (fun b hb=>by cases hb) (fun r A hA b hb hm=>by cases hm)
    have hrl:r<L.length:=hget_lt hA
    have hA':hget (L++[some ⟨ty,[], !ty.flat,none,none⟩]) r=some A:=by
     rw [hget_append,if_pos hrl]
     exact hA
    obtain ⟨b,off,cs,h1,h2,h3,h4,h5⟩:=hR'.boxs r A ls hA' hls
    obtain ⟨u,hu,hv⟩:=repLs_at h5 hi
    obtain ⟨hv,h0,h6⟩:=hv
    obtain ⟨h7,h8⟩:=h0
    subst h7 h8
    subst hv
    refine ⟨_,_,hR'.setLs hA' hls ⟨b,off,cs,h1,h2,by rw [List.length_set];exact h3,h4,repLs_nil ?_ h5 hu⟩⟩
    exact repA_new (w0:=w0) (G:=G) (u:=w0) (G':=G) (w:=w) hE
   ·exact ⟨V,own,hR⟩
  ·exact ⟨V,own,hR⟩
 ·exact ⟨V,own,hR⟩
theorem nilA_spec (hR:RelV n K w0 G w a E L V own) (t:Nat) (ty:Ty):∃ V' own',RelV n K w0 G w a (nilA t ty (E,L)).1 (nilA t ty (E,L)).2 V' own':=by
 unfold nilA
 split
 ·split
  ·exact nilLeaf_spec hR _ _ ty
  ·exact nilLeaf_spec hR _ _ ty
  ·exact ⟨V,own,hR⟩
 unfold nilA0
 split
 ·rename_i m c hg
  have hv:=hR.env t
  simp only at hg
  rw [hg] at hv
  obtain ⟨hv,h0,h1⟩:=hv
  subst h0 h1
  have hE:EntC w0 G w ⟨ty,[], !ty.flat,none,none⟩ (.slice none 0 0) []:=⟨by simp [maxLen],.inl ⟨_,rfl,rfl,rfl⟩⟩
  have hR':=hR.grow hE List.nodup_nil (fun b hb=>by cases hb) (fun r A hA b hb hm=>by cases hm)
  refine ⟨_,_,hR'.reset ?_⟩
  rw [hv]
  exact repA_new (w0:=w0) (G:=G) (u:=w0) (G':=G) (w:=w) hE
 ·exact ⟨V,own,hR⟩
theorem nilsA_spec:∀ {l:List (Nat×Ty)} {E:Env} {L:Heap} {V:Nat→Value} {own:Nat→List Nat},RelV n K w0 G w a E L V own→∃ V' own',RelV n K w0 G w a (nilsA l (E,L)).1 (nilsA l (E,L)).2 V' own'
 | [],E,L,V,own,hR=>⟨V,own,hR⟩
 | (t,ty) :: r,E,L,V,own,hR=>by
  obtain ⟨V',own',h⟩:=nilA_spec hR t ty
  show ∃ V' own',RelV n K w0 G w a (nilsA r (nilA t ty (E,L))).1 (nilsA r (nilA t ty (E,L))).2 V' own'
  generalize nilA t ty (E,L)=EL at h
  obtain ⟨E1,L1⟩:=EL
  exact nilsA_spec h
theorem RelV.borUp (hR:RelV n K w0 G w a E L V own):RelV n K w0 G w a E (Am.borUp L) V own:=by
 have hback:∀ s B,hget (Am.borUp L) s=some B→∃ C,hget L s=some C∧B=borUp1 C:=fun s B h=>by
  rw [hget_borUp] at h
  cases hC:hget L s with
  | none=>rw [hC] at h;cases h
  | some C=>rw [hC] at h;cases h;exact ⟨C,rfl,rfl⟩
 have ht:∀ C,(borUp1 C).t=C.t:=fun C=>by rcases borUp1_cases C with h | ⟨_,_,_,h⟩ <;> rw [h]
 have hl:∀ C,(borUp1 C).xs.length=C.xs.length:=fun C=>by rcases borUp1_cases C with h | ⟨_,_,_,h⟩ <;> rw [h]
 have hls:∀ C,(borUp1 C).ls=C.ls:=fun C=>by rcases borUp1_cases C with h | ⟨_,h2,_,h⟩ <;> rw [h];exact h2.symm
 have hag:∀ s,Agree L V (Am.borUp L) V s:=fun s=>⟨rfl,fun A hA=>⟨borUp1 A,by rw [hget_borUp,hA];rfl,ht A,hl A,fun ls h=>⟨ls,by rw [hls];exact h⟩⟩⟩
 refine ⟨hR.glob,hR.kept,hR.size,hR.defers,hR.glt,hR.gref,hR.gsub,hR.gold,hR.gup,?_,?_,?_,?_,?_,?_,fun i => ?_⟩
 ·intro s B hs
  obtain ⟨C,h2,rfl⟩:=hback s B hs
  have h:=hR.heap s C h2
  rcases borUp1_cases C with e | ⟨e1,e2,e3,e⟩
  ·rw [e];exact h
  ·rw [e]
   obtain ⟨t,xs,bor,ls,sm⟩:=C
   simp only at e1
   subst e1
   refine ⟨h.1,?_⟩
   rcases h.2 with h | ⟨b,off,cap,cur,ty,fz,bss,h1,h2,h3,h4,h5,h6,h7,h8,h9⟩
   ·exact .inl h
   ·exact .inr ⟨b,off,cap,cur,ty,fz,bss,h1,h2,h3,h4,h5,h6,h7,h8,fun i x bi hx _=>by simp at hx⟩
 ·intro s B hs
  obtain ⟨C,h2,rfl⟩:=hback s B hs
  exact hR.good s C h2
 ·intro s B hs
  obtain ⟨C,h2,rfl⟩:=hback s B hs
  exact hR.nodup s C h2
 ·intro s u B D hs hu hsu
  obtain ⟨C,h2,rfl⟩:=hback s B hs
  obtain ⟨F,h4,rfl⟩:=hback u D hu
  exact hR.apart s u C F h2 h4 hsu
 ·intro s B ls hs hl'
  obtain ⟨C,h2,rfl⟩:=hback s B hs
  rw [hls] at hl'
  rw [ht]
  exact (hR.boxs s C ls h2 hl').agree fun u _=>hag u
 ·intro s B q hs hq
  obtain ⟨C,h2,rfl⟩:=hback s B hs
  rcases borUp1_cases C with e | ⟨_,_,_,e⟩
  ·rw [e] at hq ⊢;exact hR.small s C q h2 hq
  ·rw [e] at hq;cases hq
 ·exact repP_agree (hR.env i) fun u _=>hag u
def runN (tab:List TI) (ext:Ext) (wr:Bool) (n:Nat) (stops:List Nat) (m:Nat) (pins:List Nat) (nils:List (Nat×Ty)) (ks:List Nat) (rs:List Nat) (path:List Bool) (k:List Item) (E:Env) (L:Heap):Option (List Item×Env×Heap×List Prop) :=
 match runA tab ext wr n stops m true k ⟨path,[],E,L,[],pins⟩ with
 | some (.stop k' S)=>match nilsA nils (S.E,S.L) with
  | (E1,L1)=>match nodupB rs&&envIn rs (Am.keepE E1 ks)&&heapIn rs (borUp L1) rs&&decide (S.pins=pins) with
   | true=>some (k',renE rs (Am.keepE E1 ks),pickL rs (borUp L1),S.cs)
   | false=>none
 | _=>none
theorem AtV.runN {tab:List TI} {ext:Ext} (hT:TabOk P tab) (hX:ExtOk P ext) (hm:P.follows .mixedOrders=true) {wr:Bool} {stops:List Nat} {m:Nat} {q:Nat→Value} {pins:List Nat} {nils:List (Nat×Ty)} {ks:List Nat} {rs:List Nat} {path:List Bool} {k k':List Item} {E':Env} {L':Heap} {cs:List Prop}
  (h:Am.runN tab ext wr n stops m pins nils ks rs path k E L=some (k',E',L',cs)) (hc:All cs) (hk:AtV P f R n K q pins k' E' L'):AtV P f R n K q pins k E L:=by
 intro a w w0 G V own hR hq
 unfold Am.runN at h
 split at h
 ·rename_i k1 S hr
  split at h
  rename_i E1 L1 hnil
  split at h
  ·rename_i hb
   simp only [Bool.and_eq_true,decide_eq_true_eq] at hb
   obtain ⟨⟨⟨hn,hb⟩,hh⟩,hp⟩:=hb
   cases h
   refine runA_run hT hX hm hr hc hR ⟨fun t d ht=>by simp [lookB] at ht,hq⟩ ?_
   intro a' w' w1 G1 V' own' hR' hq'
   rw [hp] at hq'
   obtain ⟨V2,own2,hR2⟩:=nilsA_spec (l:=nils) hR'
   rw [hnil] at hR2
   exact hk _ _ _ _ _ _ ((hR2.borUp.keepE ks).renum hn hb hh) hq'
  ·cases h
 ·cases h
end
end Go.Am
namespace Go.Am
set_option linter.unusedVariables false
instance (k:IntKind) (n:Int):Decidable (InR k n):=inferInstanceAs (Decidable (k.min≤n∧n≤k.max))
theorem ArgsRep.wf {w:World} {G:Nat→Prop} {sig:List AT} {x:sigDen sig} {vs:List Value} {bss:List (List Nat)} (h:ArgsRep w G sig x vs bss):wfSig sig x:=args_wf h
theorem Contract.says {P:Program} {f:FuncId} {sig:List AT} {pre pre':sigDen sig→Prop} {upd:sigDen sig→List (Option Lst)} {res res':sigDen sig→List Dyn} {kds:List RK}
  (hc:Contract P f { sig:=sig,pre:=pre,upd:=upd,res:=res,kds:=kds }) (h:∀ x,pre' x→wfSig sig x→pre x∧res x=res' x):Contract P f { sig:=sig,pre:=pre',upd:=upd,res:=res',kds:=kds }:=by
 intro w G G0 x vs bss hgo hG hG0 hp ha hn
 obtain ⟨h1,h2⟩:=h x hp (argsK_wf ha)
 have:=hc w G G0 x vs bss hgo hG hG0 h1 ha hn
 simp only at this ⊢
 rw [h2] at this
 exact this
end Go.Am
namespace Go.Am
set_option linter.unusedVariables false
set_option linter.unusedSimpArgs false
theorem bytes_eq (a b:ByteArray):(ByteArray.toList a==ByteArray.toList b)=true↔a=b:=by
 rw [← beq_toListBytes]
 obtain ⟨⟨x⟩⟩:=a
 obtain ⟨⟨y⟩⟩:=b
 show ((⟨x⟩:Array UInt8)==⟨y⟩)=true↔_
 simp
theorem eqD_eq:∀ {t:Ty} {x y:t.den},t.flat=true→(eqD t x y=true↔x=y)
 | .int _,x,y,_=>by simp [eqD]
 | .bool,x,y,_=>by simp [eqD]
 | .fn,x,y,_=>by simp [eqD]
 | .str,x,y,_=>by simp only [eqD];exact bytes_eq x y
 | .unit,x,y,_=>by simp [eqD]
 | .cons a b,x,y,h=>by
  simp only [Ty.flat,Bool.and_eq_true] at h
  obtain ⟨x1,x2⟩:=x
  obtain ⟨y1,y2⟩:=y
  simp only [eqD,Bool.and_eq_true,eqD_eq h.1,eqD_eq h.2,Prod.mk.injEq]
 | .sl _,_,_,h=>by cases h
theorem getD_lt {α:Type} (xs:List α) (i:Nat) (d:α) (h:i<xs.length):xs.getD i d=xs[i]:=by
 rw [List.getD_eq_getElem?_getD,List.getElem?_eq_getElem h];rfl
theorem drop_get {α:Type} (xs:List α) (i:Nat) (d:α) (h:i<xs.length):xs.drop i=xs.getD i d :: xs.drop (i+1):=by
 rw [getD_lt xs i d h, ← List.drop_eq_getElem_cons h]
theorem drop_end {α:Type} (xs:List α) (i:Nat) (h:xs.length≤i):xs.drop i=[]:=List.drop_eq_nil_iff.2 h
theorem inR_up {α:Type} {xs:List α} (h:xs.length≤maxLen) {i:Nat} (hi:i<xs.length):InR .i64 ((i:Int)+1):=by
 have e1:(IntKind.i64).min = -9223372036854775808:=by decide
 have e2:(IntKind.i64).max=9223372036854775807:=by decide
 have hm:maxLen≤9223372036854775807:=by decide
 simp only [InR,e1,e2]
 omega
theorem i64_iff (n:Int):InR .i64 n ↔ -9223372036854775808≤n∧n≤9223372036854775807:=by
 have e1:(IntKind.i64).min = -9223372036854775808:=by decide
 have e2:(IntKind.i64).max=9223372036854775807:=by decide
 simp only [InR,e1,e2]
theorem u8_iff (n:Int):InR .u8 n↔0≤n∧n≤255:=by
 have e1:(IntKind.u8).min=0:=by decide
 have e2:(IntKind.u8).max=255:=by decide
 simp only [InR,e1,e2]
end Go.Am
namespace Go.Am
set_option linter.unusedVariables false
set_option linter.unusedSimpArgs false
theorem bytesOf_length (s:ByteArray):(bytesOf s).length=s.size:=by simp [bytesOf]
theorem byte_get (s:ByteArray) (i:Nat):((List.getD (Array.toList (ByteArray.data s)) i 0).toNat:Int)=(bytesOf s).getD i 0:=by
 unfold bytesOf
 rw [List.getD_eq_getElem?_getD,List.getD_eq_getElem?_getD,List.getElem?_map]
 cases h:s.data.toList[i]? with
 | none=>rfl
 | some b=>rfl
theorem bytesOf_range (s:ByteArray):∀ b∈bytesOf s,0≤b∧b≤255:=by
 intro b hb
 unfold bytesOf at hb
 obtain ⟨x,_,rfl⟩:=List.mem_map.1 hb
 have:=x.toNat_lt
 omega
theorem bytesOf_inj {s t:ByteArray} (h:bytesOf s=bytesOf t):s=t:=by
 obtain ⟨⟨x⟩⟩:=s
 obtain ⟨⟨y⟩⟩:=t
 congr 2
 unfold bytesOf at h
 simp only at h
 induction x generalizing y with
 | nil=>cases y with
  | nil=>rfl
  | cons b s=>cases h
 | cons a r ih=>cases y with
  | nil=>cases h
  | cons b s =>
   simp only [List.map_cons,List.cons.injEq] at h
   have h1:a=b:=by
    have:=h.1
    exact UInt8.toNat_inj.1 (by omega)
   rw [h1,ih s h.2]
def goL {α β δ:Type} (f:β→α→Except δ β) (fin:β→δ):β→List α→δ
 | b,[]=>fin b
 | b,x :: r=>match f b x with
  | .ok b'=>goL f fin b' r
  | .error d=>d
theorem loop_list {α β δ:Type} (xs:List α) (d:α) (f:β→α→Except δ β) (fin:β→δ) (Inv:Nat→β→Prop) (R:Nat→Int→β→δ→Prop)
  (hend:∀ n b,Inv xs.length b→R (n+1) xs.length b (fin b))
  (hstep:∀ n (i:Nat) b,i<xs.length→Inv i b→match f b (xs.getD i d) with
   | .ok b'=>Inv (i+1) b'∧∀ ds,R n (((i:Nat):Int)+1) b' ds→R (n+1) (i:Int) b ds
   | .error ds=>R (n+1) (i:Int) b ds) :
  ∀ (k i:Nat) b,i+k=xs.length→Inv i b→R (k+1) (i:Int) b (goL f fin b (xs.drop i)):=by
 intro k
 induction k with
 | zero =>
  intro i b hi hinv
  have:i=xs.length:=by omega
  subst this
  rw [drop_end xs _ (Nat.le_refl _)]
  exact hend 0 b hinv
 | succ k ih =>
  intro i b hi hinv
  have h:=hstep (k+1) i b (by omega) hinv
  rw [drop_get xs i d (by omega)]
  simp only [goL]
  split at h
  ·rename_i b' hf
   have:=ih (i+1) b' (by omega) h.1
   exact h.2 _ (by simpa using this)
  ·exact h
theorem loop_all {α β δ:Type} (xs:List α) (d:α) (f:β→α→Except δ β) (fin:β→δ) (Inv:Nat→β→Prop) (R:Nat→Int→β→δ→Prop) {b:β} (h0:Inv 0 b)
  (hend:∀ n b,Inv xs.length b→R (n+1) xs.length b (fin b))
  (hstep:∀ n (i:Nat) b,i<xs.length→Inv i b→match f b (xs.getD i d) with
   | .ok b'=>Inv (i+1) b'∧∀ ds,R n (((i:Nat):Int)+1) b' ds→R (n+1) (i:Int) b ds
   | .error ds=>R (n+1) (i:Int) b ds):R (xs.length+1) 0 b (goL f fin b xs):=by
 have:=loop_list xs d f fin Inv R hend hstep xs.length 0 b (by omega) h0
 simpa using this
theorem goL_all {α δ:Type} (q:α→Bool) (no yes:δ):∀ (l:List α) (f:Unit→α→Except δ Unit) (fin:Unit→δ),(∀ x,f () x=if q x=true then .ok () else .error no)→fin ()=yes→goL f fin () l=if l.all q=true then yes else no
 | [],f,fin,hf,hfin=>by simp [goL,hfin]
 | x :: r,f,fin,hf,hfin=>by
  simp only [goL,hf]
  cases h:q x with
  | true=>simp only [if_true];rw [goL_all q no yes r f fin hf hfin];simp [h]
  | false=>simp [h]
theorem loop_test {α δ:Type} (xs:List α) (d:α) (q:α→Bool) (no yes:δ) (R:Nat→Int→δ→Prop) (hend:∀ n,R (n+1) xs.length yes)
  (hok:∀ n (i:Nat),i<xs.length→q (xs.getD i d)=true→∀ ds,R n (((i:Nat):Int)+1) ds→R (n+1) (i:Int) ds)
  (hno:∀ n (i:Nat),i<xs.length→q (xs.getD i d)=false→R (n+1) (i:Int) no):R (xs.length+1) 0 (if xs.all q=true then yes else no):=by
 have key:=loop_all (b:=()) xs d (fun (_:Unit) x=>if q x=true then .ok () else .error no) (fun _=>yes) (fun _ _=>True) (fun n i _ ds=>R n i ds) trivial (fun n _ _=>hend n) (fun n i _ hi _=>by
  cases h:q (xs.getD i d) with
  | true=>exact ⟨trivial,hok n i hi h⟩
  | false=>exact hno n i hi h)
 rw [goL_all q no yes _ _ _ (fun _=>rfl) rfl] at key
 exact key
def allI {α:Type} (q:Nat→α→Bool):Nat→List α→Bool
 | _,[]=>true
 | i,x :: r=>q i x&&allI q (i+1) r
theorem loop_testI {α δ:Type} (xs:List α) (d:α) (q:Nat→α→Bool) (no yes:δ) (R:Nat→Int→δ→Prop) (hend:∀ n,R (n+1) xs.length yes)
  (hok:∀ n (i:Nat),i<xs.length→q i (xs.getD i d)=true→∀ ds,R n (((i:Nat):Int)+1) ds→R (n+1) (i:Int) ds)
  (hno:∀ n (i:Nat),i<xs.length→q i (xs.getD i d)=false→R (n+1) (i:Int) no):R (xs.length+1) 0 (if allI q 0 xs=true then yes else no):=by
 have key:∀ (k i:Nat),i+k=xs.length→R (k+1) (i:Int) (if allI q i (xs.drop i)=true then yes else no):=by
  intro k
  induction k with
  | zero =>
   intro i hi
   have:i=xs.length:=by omega
   subst this
   rw [drop_end xs _ (Nat.le_refl _)]
   simpa [allI] using hend 0
  | succ k ih =>
   intro i hi
   rw [drop_get xs i d (by omega)]
   by_cases h:q i (xs.getD i d)=true
   ·have h2:=hok (k+1) i (by omega) h _ (by have:=ih (i+1) (by omega);rwa [show ((i+1:Nat):Int)=(i:Int)+1 from by omega] at this)
    simp only [allI,h,Bool.true_and]
    exact h2
   ·have h:=Bool.eq_false_iff.2 h
    simp only [allI,h,Bool.false_and,Bool.false_eq_true,if_false]
    exact hno (k+1) i (by omega) h
 have:=key xs.length 0 (by omega)
 simpa using this
theorem allI_plain {α:Type} (q:α→Bool):∀ (l:List α) (i:Nat),allI (fun _ x=>q x) i l=l.all q
 | [],_=>rfl
 | x :: r,i=>by simp [allI,allI_plain q r]
theorem allI_congr {α:Type} {p q:Nat→α→Bool}:∀ (l:List α) (i:Nat),(∀ j x,i≤j→p j x=q j x)→allI p i l=allI q i l
 | [],_,_=>rfl
 | x :: r,i,h=>by
  simp only [allI]
  rw [h i x (Nat.le_refl _),allI_congr r (i+1) (fun j x hj=>h j x (by omega))]
theorem loop_find {α δ:Type} (xs:List α) (d:α) (q:α→Bool) (none':δ) (some':Int→δ) (R:Nat→Int→δ→Prop) (hend:∀ n,R (n+1) xs.length none')
  (hgo:∀ n (i:Nat),i<xs.length→q (xs.getD i d)=false→∀ ds,R n (((i:Nat):Int)+1) ds→R (n+1) (i:Int) ds)
  (hhit:∀ n (i:Nat),i<xs.length→q (xs.getD i d)=true→R (n+1) (i:Int) (some' i)):R (xs.length+1) 0 (match xs.findIdx? q with | some k=>some' (k:Nat) | none=>none'):=by
 have key:∀ (k i:Nat),i+k=xs.length→R (k+1) (i:Int) (match (xs.drop i).findIdx? q with | some j=>some' ((i+j:Nat):Int) | none=>none'):=by
  intro k
  induction k with
  | zero =>
   intro i hi
   have:i=xs.length:=by omega
   subst this
   rw [drop_end xs _ (Nat.le_refl _)]
   exact hend 0
  | succ k ih =>
   intro i hi
   rw [drop_get xs i d (by omega),List.findIdx?_cons]
   cases h:q (xs.getD i d) with
   | true=>simpa using hhit (k+1) i (by omega) h
   | false =>
    have h2:=hgo (k+1) i (by omega) h _ (by have:=ih (i+1) (by omega);simpa using this)
    simp only [Bool.false_eq_true,if_false]
    cases hf:List.findIdx? q (List.drop (i+1) xs) with
    | none=>rw [hf] at h2;simpa using h2
    | some j =>
     rw [hf] at h2
     simp only [Option.map_some] at h2 ⊢
     rw [show i+(j+1)=i+1+j from by omega]
     exact h2
 have:=key xs.length 0 (by omega)
 simpa using this
def idx:Option Nat→Int
 | some k=>(k:Nat)
 | none => -1
theorem findIdx_any {α:Type} (q:α→Bool):∀ (l:List α),idx (l.findIdx? q)≥0↔l.any q=true:=by
 intro l
 have h:=List.findIdx?_isSome (xs:=l) (p:=q)
 rw [← h]
 cases l.findIdx? q with
 | none=>simp [idx]
 | some k=>simp [idx]
theorem mem_getD {α:Type} (xs:List α) (i:Nat) (d:α) (h:i<xs.length):xs.getD i d∈xs:=by
 rw [getD_lt _ _ _ h];exact List.getElem_mem _
end Go.Am
namespace Go.Am
set_option linter.unusedVariables false
set_option linter.unusedSimpArgs false
open Go.RowKit (Below)
theorem args_noOwn {w:World} {G:Nat→Prop}:∀ {sig:List AT} {x:sigDen sig} {vs:List Value} {bss:List (List Nat)},noOwn sig=true→ArgsRep w G sig x vs bss→bss.flatten=[]∧ownVals sig vs=[]
 | [],_,vs,bss,_,⟨h1,h2⟩=>by subst h1 h2;exact ⟨rfl,rfl⟩
 | .v t :: r,x,vs,bss,h,⟨v,s,b,bs,h1,h2,h3,h4⟩=>by
  subst h1 h2
  obtain ⟨e1,e2⟩:=args_noOwn (sig:=r) h h4
  exact ⟨by rw [List.flatten_cons,h3.1,e1];rfl,e2⟩
 | .p t :: r,x,vs,bss,h,⟨v,s,b,bs,h1,h2,h3,h4⟩=>by
  subst h1 h2
  obtain ⟨e1,e2⟩:=args_noOwn (sig:=r) h h4
  exact ⟨by rw [List.flatten_cons,h3.1,e1];rfl,e2⟩
 | .fn f c :: r,x,vs,bss,h,⟨v,s,b,bs,h1,h2,h3,h4⟩=>by
  subst h1 h2
  obtain ⟨e1,e2⟩:=args_noOwn (sig:=r) h h4
  exact ⟨by rw [List.flatten_cons,h3.1,e1];rfl,e2⟩
 | .fns f :: r,x,vs,bss,h,⟨v,s,b,bs,h1,h2,h3,h4⟩=>by
  subst h1 h2
  obtain ⟨e1,e2⟩:=args_noOwn (sig:=r) h h4
  exact ⟨by rw [List.flatten_cons,h3.1,e1];rfl,e2⟩
 | .own t :: r,_,_,_,h,_=>by cases h
 | .pb t :: r,_,_,_,h,_=>by cases h
 | .po t :: r,_,_,_,h,_=>by cases h
 | .sv t :: r,_,_,_,h,_=>by cases h
theorem plain_noOwn:∀ {sig:List AT},noOwn sig=true→plainSig sig=true
 | [],_=>rfl
 | .v t :: r,h=>plain_noOwn (sig:=r) h
 | .p t :: r,h=>plain_noOwn (sig:=r) h
 | .fn f c :: r,h=>plain_noOwn (sig:=r) h
 | .fns f :: r,h=>plain_noOwn (sig:=r) h
 | .own t :: r,h=>by cases h
 | .pb t :: r,h=>by cases h
 | .po t :: r,h=>by cases h
 | .sv t :: r,h=>by cases h
theorem own_of_wf {w:World}:∀ {t:Ty} {x:t.den},t.flat=true→Wf t x→OwnC w t x (fcells t x) []
 | .int _,_,_,h=>⟨rfl,h,rfl⟩
 | .bool,_,_,_=>⟨rfl,rfl⟩
 | .fn,_,_,_=>⟨rfl,rfl⟩
 | .str,_,_,h=>⟨rfl,h,rfl⟩
 | .unit,_,_,_=>⟨rfl,rfl⟩
 | .cons a b,x,hf,h=>by
  simp only [Ty.flat,Bool.and_eq_true] at hf
  exact ⟨_,_,[],[],rfl,rfl,own_of_wf hf.1 h.1,own_of_wf hf.2 h.2⟩
 | .sl _,_,h,_=>by cases h
theorem isVal_valOf {w:World} {t:Ty} {x:t.den} {cs:List Value} {bs:List Nat} (h:OwnC w t x cs bs):IsVal t cs (valOf t cs):=by
 have hl:=h.length
 cases t <;> simp only [IsVal,valOf,Ty.agg,if_true,if_false,Bool.false_eq_true]
 all_goals (match cs,hl with | [c],_=>rfl)
theorem resRep_flat {w:World}:∀ {ds:List Dyn},(∀ d∈ds,d.t.flat=true∧Wf d.t d.x)→ResRep w ds (ds.map fun d=>valOf d.t (fcells d.t d.x)) (ds.map fun _=>[])
 | [],_=>⟨rfl,rfl⟩
 | d :: r,h=>by
  obtain ⟨h1,h2⟩:=h d (List.mem_cons_self ..)
  have ho:=own_of_wf (w:=w) h1 h2
  exact ⟨_,_,_,_,_,rfl,rfl,ho,isVal_valOf ho,resRep_flat fun d hd=>h d (List.mem_cons_of_mem _ hd)⟩
theorem flat_nils (ds:List Dyn):(ds.map fun _=>([]:List Nat)).flatten=[]:=by
 induction ds with
 | nil=>rfl
 | cons d r ih=>simp
theorem contract_flat {P:Program} {f:FuncId} {sig:List AT} {pre:sigDen sig→Prop} {res:sigDen sig→List Dyn} (hno:noOwn sig=true)
  (h:∀ (w:World) (x:sigDen sig) (vs:List Value) (bss:List (List Nat)),GInv w→pre x→wfSig sig x→ArgsRep w (Good w []) sig x vs bss →
   (∀ d∈res x,d.t.flat=true∧Wf d.t d.x)∧Calls P f vs.toArray w fun e w'=>e = .returned (packV ((res x).map fun d=>valOf d.t (fcells d.t d.x)))∧Kept [] w w') :
  Contract P f { sig:=sig,pre:=pre,res:=res }:=by
 refine Contract0.up (plain_noOwn hno) rfl ?_
 intro w x vs bss hgo hp ha hn
 obtain ⟨e1,e2⟩:=args_noOwn hno ha
 have ha':=ha
 rw [e1] at ha'
 obtain ⟨h1,h2⟩:=h w x vs bss hgo.inv hp (args_wf ha) ha'
 refine h2.mono ?_
 rintro e w' ⟨rfl,hk⟩
 refine ⟨_,[],_,rfl,by rw [e1];exact hk,resRep_flat h1,by rw [e2];exact ⟨rfl,rfl⟩,?_,?_⟩
 ·simp only [flat_nils,List.flatten_nil,List.append_nil];exact List.nodup_nil
 ·simp only [flat_nils,List.flatten_nil,List.append_nil];intro b hb;cases hb
theorem ResK.toRep {w:World} {G F:Nat→Prop}:∀ {ds:List Dyn} {rs:List Value} {rbs:List (List Nat)},ResK w G F [] ds rs rbs→ResRep w ds rs rbs
 | [],_,_,h=>h
 | d :: r,_,_,⟨v,s,b,bs,h1,h2,⟨cs,h3,h4⟩,h5⟩=>⟨v,s,b,bs,cs,h1,h2,h3,h4,h5.toRep⟩
theorem Contract.down {P:Program} {f:FuncId} {S:Spec} (hk:S.kds=[]) (h:Contract P f S) (w:World) (x:sigDen S.sig) (vs:List Value) (bss:List (List Nat)) (hg:GOk w bss.flatten) (hp:S.pre x)
  (ha:ArgsRep w (Good w bss.flatten) S.sig x vs bss) (hn:bss.flatten.Nodup) :
  Calls P f vs.toArray w fun e w'=>∃ (rs:List Value) (ubs rbs:List (List Nat)),e = .returned (packV rs)∧Kept bss.flatten w w'∧ResRep w' (S.res x) rs rbs∧True:=by
 refine (h w (Good w bss.flatten) (Good w bss.flatten) x vs bss hg (fun _ h=>h) (fun _ h=>h) hp ha hn).mono ?_
 rintro e w' ⟨rs,ubs,rbs,F,h1,h2,h3,_⟩
 rw [hk] at h3
 exact ⟨rs,ubs,rbs,h1,h2,h3.toRep,trivial⟩
end Go.Am
namespace Go.Am
set_option linter.unusedVariables false
set_option linter.unusedSimpArgs false
theorem goL_fold {α β δ:Type} (f:β→α→Except δ β) (g:β→α→β) (fin:β→δ) (hf:∀ b x,f b x = .ok (g b x)):∀ (l:List α) (b:β),goL f fin b l=fin (l.foldl g b)
 | [],_=>rfl
 | x :: r,b=>by
  simp only [goL,hf,List.foldl_cons]
  exact goL_fold f g fin hf r _
theorem loop_fold {α β δ:Type} (xs:List α) (d:α) (g:β→α→β) (fin:β→δ) (Inv:Nat→β→Prop) (R:Nat→Int→β→δ→Prop) {b:β} (h0:Inv 0 b)
  (hend:∀ n b,Inv xs.length b→R (n+1) xs.length b (fin b))
  (hstep:∀ n (i:Nat) b,i<xs.length→Inv i b→Inv (i+1) (g b (xs.getD i d))∧∀ ds,R n (((i:Nat):Int)+1) (g b (xs.getD i d)) ds→R (n+1) (i:Int) b ds):R (xs.length+1) 0 b (fin (xs.foldl g b)):=by
 have key:=loop_all xs d (fun b x => .ok (g b x)) fin Inv R h0 hend (fun n i b hi hb=>hstep n i b hi hb)
 rwa [goL_fold _ g _ (fun _ _=>rfl)] at key
end Go.Am
namespace Go.Am
set_option linter.unusedVariables false
set_option linter.unusedSimpArgs false
theorem bl_irrefl:∀ x:List UInt8,Op.bytesLess x x=false
 | []=>rfl
 | a :: x=>by simp [Op.bytesLess,bl_irrefl x]
theorem bl_cons (a b:UInt8) (x y:List UInt8):Op.bytesLess (a :: x) (b :: y)=true↔a.toNat<b.toNat∨(a.toNat=b.toNat∧Op.bytesLess x y=true):=by
 simp only [Op.bytesLess,Bool.or_eq_true,decide_eq_true_eq,Bool.and_eq_true,beq_iff_eq,UInt8.lt_iff_toNat_lt,UInt8.toNat_inj]
theorem bl_trans:∀ x y z:List UInt8,Op.bytesLess x y=true→Op.bytesLess y z=true→Op.bytesLess x z=true
 | x,y,[],_,h=>by cases y <;> cases h
 | [],y,c :: z,_,_=>rfl
 | a :: x,[],c :: z,h,_=>by cases h
 | a :: x,b :: y,c :: z,h1,h2=>by
  rw [bl_cons] at *
  rcases h1 with h1 | ⟨e1,h1⟩
  ·rcases h2 with h2 | ⟨e2,h2⟩
   ·exact .inl (by omega)
   ·exact .inl (by omega)
  ·rcases h2 with h2 | ⟨e2,h2⟩
   ·exact .inl (by omega)
   ·exact .inr ⟨by omega,bl_trans x y z h1 h2⟩
theorem bl_tri:∀ x y:List UInt8,Op.bytesLess x y=false→Op.bytesLess y x=false→x=y
 | [],[],_,_=>rfl
 | [],b :: y,h,_=>by cases h
 | a :: x,[],_,h=>by cases h
 | a :: x,b :: y,h1,h2=>by
  have n1:=mt (bl_cons a b x y).2 (by rw [h1];simp)
  have n2:=mt (bl_cons b a y x).2 (by rw [h2];simp)
  have e:a.toNat=b.toNat:=by omega
  have e':=UInt8.toNat_inj.1 e
  have l1:Op.bytesLess x y=false:=Bool.eq_false_iff.2 fun h=>n1 (.inr ⟨e,h⟩)
  have l2:Op.bytesLess y x=false:=Bool.eq_false_iff.2 fun h=>n2 (.inr ⟨e.symm,h⟩)
  rw [e',bl_tri x y l1 l2]
theorem toList_inj {a b:ByteArray} (h:ByteArray.toList a=ByteArray.toList b):a=b:=(bytes_eq a b).1 (by rw [h];simp)
end Go.Am
namespace Go.Am
set_option linter.unusedVariables false
set_option linter.unusedSimpArgs false
end Go.Am
namespace Go.Am
set_option linter.unusedVariables false
set_option linter.unusedSimpArgs false
def repB (c:UInt8) (n:Nat):ByteArray:=⟨(Lib.repeatL [c] n).toArray⟩
end Go.Am
namespace Go.Am
set_option linter.unusedVariables false
set_option linter.unusedSimpArgs false
open Go.RowKit (Below)
theorem row_flat {w:World} {t:Ty} (hf:t.flat=true):∀ {xs:List t.den},(∀ x∈xs,Wf t x)→Row (OwnC w t) t.size xs (xs.map (fcells t)) (xs.map fun _=>[])
 | [],_=>⟨rfl,rfl⟩
 | x :: r,h=>by
  have ho:=own_of_wf (w:=w) hf (h x (List.mem_cons_self ..))
  exact ⟨_,_,_,_,rfl,rfl,ho.length,ho,row_flat hf fun y hy=>h y (List.mem_cons_of_mem _ hy)⟩
theorem nils_flatten {α:Type} (xs:List α):(xs.map fun _=>([]:List Nat)).flatten=[]:=by
 induction xs with
 | nil=>rfl
 | cons x r ih=>simp
theorem own_of_row {w:World} {t:Ty} (hf:t.flat=true) {base:Nat} {e:TypeId} {v:Value} {xs:List t.den} (hw:∀ x∈xs,Wf t x) (hm:xs.length≤maxLen)
  (h:w.ownsRow base e t.size v xs.length (xs.map (fcells t)).flatten):∃ bs,OwnC w (.sl t) xs [v] bs∧bs.Nodup∧∀ b∈bs,base≤b:=by
 rcases h.2 with ⟨rfl,hn⟩ | ⟨g,cap,cur,rfl,hb,hh,h1,h2,h3,h4⟩
 ·have:xs=[]:=List.eq_nil_of_length_eq_zero hn
  subst this
  exact ⟨[],⟨_,rfl,by simp,.inl ⟨_,rfl,rfl,rfl⟩⟩,List.nodup_nil,fun b hb=>by cases hb⟩
 ·have hrow:=row_flat (w:=w) hf hw
  have ho:=ownSl_of_row hrow (b:=g) (off:=0) (cap:=cap) (cur:=cur) (ty:=e) (fz:=(0,0)) hm h1 h2 (by rw [Nat.zero_add,h3];exact Nat.le_refl _) hh (freeS_zero _ _) (fun j c hj=>by
   rw [Nat.zero_add, ← Array.getElem?_toList]
   have hl:j<xs.length*t.size:=by
    have:=(List.getElem?_eq_some_iff.1 hj).1
    rw [hrow.len.2.2] at this
    exact this
   rw [← h4,List.getElem?_take,if_pos hl] at hj
   exact hj)
  rw [nils_flatten] at ho
  exact ⟨[g],⟨_,rfl,ho⟩,by simp,fun b hb'=>by simp at hb';omega⟩
def bls (xs:List ByteArray):List (List UInt8):=xs.map fun s=>s.data.toList
end Go.Am
namespace Go.Am
set_option linter.unusedVariables false
set_option linter.unusedSimpArgs false
end Go.Am
namespace Go.Am
set_option linter.unusedVariables false
set_option linter.unusedSimpArgs false
def bump (h:List Int):List Int:=List.set h (Int.toNat ((↑(List.length h):Int) - 1)) (List.getD h (Int.toNat ((↑(List.length h):Int) - 1)) 0+1)
def cntNew (xs:List ByteArray) (i:Nat) (x:ByteArray):Bool:=decide (i=0) || !(ByteArray.toList x==ByteArray.toList (xs.getD (i - 1) ByteArray.empty))
def cntStep (xs:List ByteArray) (b:(List ByteArray×List Int)×Nat) (x:ByteArray):(List ByteArray×List Int)×Nat :=
 if cntNew xs b.2 x=true then ((b.1.1++[x],bump (b.1.2++[0])),b.2+1) else ((b.1.1,bump b.1.2),b.2+1)
def counted (xs:List ByteArray):(List ByteArray×List Int)×Nat:=xs.foldl (cntStep xs) (([],[]),0)
end Go.Am
namespace Go.Am
set_option linter.unusedVariables false
set_option linter.unusedSimpArgs false
open Go.Sort (grow)
def numB (n:Int):ByteArray:=⟨(Lib.itoa n).toArray⟩
theorem numB_size (n:Int) (h0 : -9223372036854775808≤n) (h1:n≤9223372036854775807):(numB n).size≤21:=by
 show (Lib.itoa n).toArray.size≤21
 rw [List.size_toArray]
 exact Lib.itoa_length_le n h0 h1
theorem kept_grow (w:World) (n:Nat) (os:Array Obj):Kept [] w (grow (w.drewN n) os) where
 os:=rfl
 tape:=rfl
 output:=rfl
 size:=by show w.heap.size≤(w.heap++os).size;rw [Array.size_append];omega
 block:=fun k hk _=>by
  show (w.heap++os)[k]? = w.heap[k]?
  exact Array.getElem?_append_left hk
theorem splitB_part (sep:ByteArray) (save:Nat):∀ (k:Nat) (s y:ByteArray),y∈Lib.splitB sep save k s→y.size≤s.size
 | 0,s,y,h=>by rw [Lib.splitB_zero,List.mem_singleton] at h;rw [h];exact Nat.le_refl _
 | k+1,s,y,h=>by
  unfold Lib.splitB at h
  split at h
  ·rw [List.mem_singleton] at h;rw [h];exact Nat.le_refl _
  ·rcases List.mem_cons.1 h with rfl | h
   ·rw [ByteArray.size_extract];omega
   ·have:=splitB_part sep save k _ y h
    rw [ByteArray.size_extract] at this
    omega
def splitC (c:UInt8):List UInt8→List (List UInt8)
 | []=>[[]]
 | b :: r=>if b=c then [] :: splitC c r else match splitC c r with
  | []=>[[b]]
  | p :: ps=>(b :: p) :: ps
theorem splitC_ne (c:UInt8):∀ l,splitC c l≠[]
 | []=>by simp [splitC]
 | b :: r=>by
  unfold splitC
  split
  ·simp
  ·split <;> simp
theorem splitC_free (c:UInt8):∀ {p:List UInt8},c ∉ p→splitC c p=[p]
 | [],_=>rfl
 | b :: r,h=>by
  have h1:b≠c:=fun e=>h (by rw [e];exact List.mem_cons_self ..)
  have h2:c ∉ r:=fun e=>h (List.mem_cons_of_mem _ e)
  unfold splitC
  rw [if_neg h1,splitC_free c h2]
theorem splitC_hit (c:UInt8):∀ {p:List UInt8} (r:List UInt8),c ∉ p→splitC c (p++c :: r)=p :: splitC c r
 | [],r,_=>by simp [splitC]
 | b :: q,r,h=>by
  have h1:b≠c:=fun e=>h (by rw [e];exact List.mem_cons_self ..)
  have h2:c ∉ q:=fun e=>h (List.mem_cons_of_mem _ e)
  rw [List.cons_append,splitC,if_neg h1,splitC_hit c r h2]
theorem splitC_length (c:UInt8):∀ l,(splitC c l).length=l.count c+1
 | []=>rfl
 | b :: r=>by
  unfold splitC
  split
  ·rename_i h;subst h;rw [List.length_cons,splitC_length];simp
  ·rename_i h
   have:=splitC_length c r
   rw [List.count_cons_of_ne (by simpa using h)]
   split
   ·rename_i e;exact absurd e (splitC_ne c r)
   ·rename_i q qs e
    rw [e] at this
    simpa using this
theorem index_one_none (c:UInt8):∀ {l:List UInt8},c ∉ l→Lib.index l [c] = -1
 | [],_=>by simp [Lib.index]
 | b :: r,h=>by
  have h1:b≠c:=fun e=>h (by rw [e];exact List.mem_cons_self ..)
  have h2:c ∉ r:=fun e=>h (List.mem_cons_of_mem _ e)
  rw [Lib.index,index_one_none c h2]
  simp [List.isPrefixOf,Ne.symm h1]
theorem index_one_hit (c:UInt8):∀ {p:List UInt8} (r:List UInt8),c ∉ p→Lib.index (p++c :: r) [c]=(p.length:Int)
 | [],r,_=>by simp [Lib.index,List.isPrefixOf]
 | b :: q,r,h=>by
  have h1:b≠c:=fun e=>h (by rw [e];exact List.mem_cons_self ..)
  have h2:c ∉ q:=fun e=>h (List.mem_cons_of_mem _ e)
  rw [List.cons_append,Lib.index,index_one_hit c r h2]
  have:¬ ((q.length:Int) == -1)=true:=fun e=>by have:=beq_iff_eq.1 e;omega
  have h3:([c]:List UInt8).isPrefixOf (b :: (q++c :: r))=false:=by simp [List.isPrefixOf,Ne.symm h1]
  rw [h3,if_neg (by simp),if_neg this]
  simp
theorem split_at (c:UInt8):∀ (l:List UInt8),c ∉ l∨∃ p r,l=p++c :: r∧c ∉ p
 | [] => .inl (by simp)
 | b :: l=>by
  by_cases h:b=c
  ·exact .inr ⟨[],l,by rw [h];rfl,by simp⟩
  ·rcases split_at c l with h1 | ⟨p,r,rfl,h2⟩
   ·exact .inl (fun hm=>by rcases List.mem_cons.1 hm with rfl | hm;exact h rfl;exact h1 hm)
   ·exact .inr ⟨b :: p,r,rfl,fun hm=>by rcases List.mem_cons.1 hm with rfl | hm;exact h rfl;exact h2 hm⟩
theorem splitK_one (c:UInt8):∀ (k:Nat) (l:List UInt8),l.count c≤k→Lib.splitK [c] 0 k l=splitC c l
 | 0,l,h=>by
  have hn:c ∉ l:=fun hm=>by have:=List.count_pos_iff.2 hm;omega
  rw [splitC_free c hn];rfl
 | k+1,l,h=>by
  rcases split_at c l with hn | ⟨p,r,rfl,hn⟩
  ·rw [splitC_free c hn,Lib.splitK,index_one_none c hn,if_pos (by rfl)]
  ·have hc:r.count c≤k:=by
    rw [List.count_append,List.count_cons_self] at h
    omega
   rw [splitC_hit c r hn,Lib.splitK,index_one_hit c r hn,if_neg (fun e=>by have:=beq_iff_eq.1 e;omega)]
   congr 1
   ·simp
   ·have e:(p++c :: r).drop (((p.length:Int)).toNat+[c].length)=r:=by
     simp only [Int.toNat_natCast,List.length_singleton]
     rw [List.drop_append,List.drop_of_length_le (by omega),Nat.add_sub_cancel_left]
     rfl
    rw [e]
    exact splitK_one c k r hc
def bss (ls:List (List UInt8)):List ByteArray:=ls.map fun l=>⟨l.toArray⟩
theorem bss_data (xs:List ByteArray):bss (xs.map fun x=>x.data.toList)=xs:=by
 unfold bss
 rw [List.map_map]
 conv=>rhs;rw [← List.map_id xs]
 rfl
theorem splitB_one (c:UInt8) (s:ByteArray):Lib.splitB ⟨#[c]⟩ 0 (Lib.countB s ⟨#[c]⟩) s=bss (splitC c s.data.toList):=by
 have h:=Lib.splitB_data ⟨#[c]⟩ 0 (Lib.countB s ⟨#[c]⟩) s
 have e:Lib.countB s ⟨#[c]⟩=s.data.toList.count c:=by
  show Lib.count s.data.toList [c]=_
  exact Lib.count_one c _
 have h2:=splitK_one c (Lib.countB s ⟨#[c]⟩) s.data.toList (by rw [e];exact Nat.le_refl _)
 rw [← bss_data (Lib.splitB ⟨#[c]⟩ 0 (Lib.countB s ⟨#[c]⟩) s),h]
 show bss (Lib.splitK [c] 0 _ _)=_
 rw [h2]
end Go.Am
namespace Go.Am
set_option linter.unusedVariables false
set_option linter.unusedSimpArgs false
def layCells (w:World):List (Nat×List Value)→World
 | []=>w
 | (g,cs) :: r=>layCells { w with heap:=w.heap.modify g fun
   | .cells _ t fz => .cells cs.toArray t fz
   | o=>o } r
def numCells:DataW Unit→List Value
 | .agg ps=>ps.filterMap fun
  | .lit (.int k z)=>some (.int k z)
  | _=>none
 | _=>[]
theorem laid_drop {P:Program} {W:World}:∀ {l:List (String×DataW Unit)} {i:Nat} {x:String×DataW Unit},laidMet P l W→l[i]? = some x→∃ r,laidMet P (x :: r) W
 | [],i,x,_,h=>by simp at h
 | y :: l,0,x,h,hi=>by simp at hi;subst hi;exact ⟨l,h⟩
 | y :: l,i+1,x,h,hi=>laid_drop (l:=l) (i:=i) h.tail (by simpa using hi)
theorem tab_of_laid {P:Program} {W:World} {l:List (String×DataW Unit)} {i:Nat} {name:String} {k:IntKind} {zs:List Int} {g n:Nat} {t e:TypeId} (h:laidMet P l W) (hi:l[i]? = some (name,Lib.tabData k zs))
  (hg:P.globalNamed name=some g) (hty:(P.globals[g]?).map (·.type)=some t) (ht:P.underlying t=some (.array n e)) (he:P.underlying e=some (.int k)) (hce:P.cellsOf e=1) (hct:P.cellsOf t=n):Lib.TabIs P W name k zs:=by
 obtain ⟨r,h⟩:=laid_drop h hi
 exact Lib.tabIs_of_head hg hty ht he hce hct h
end Go.Am
namespace Go.Am
set_option linter.unusedVariables false
set_option linter.unusedSimpArgs false
open Go.RowKit (Below)
theorem fcells_one:∀ {t:Ty} {x:t.den},t.flat=true→∀ u∈fcells t x,u.oneCell'=true
 | .int _,_,_,u,hu=>by simp [fcells] at hu;subst hu;rfl
 | .bool,_,_,u,hu=>by simp [fcells] at hu;subst hu;rfl
 | .fn,x,_,u,hu=>by simp [fcells] at hu;subst hu;exact fnV_one x
 | .str,_,_,u,hu=>by simp [fcells] at hu;subst hu;rfl
 | .sl _,_,h,_,_=>by cases h
 | .unit,_,_,u,hu=>by simp [fcells] at hu
 | .cons a b,x,hf,u,hu=>by
  simp only [Ty.flat,Bool.and_eq_true] at hf
  simp only [fcells,List.mem_append] at hu
  rcases hu with hu | hu
  ·exact fcells_one hf.1 u hu
  ·exact fcells_one hf.2 u hu
def fcs (t:Ty) (xs:List t.den):List Value:=(xs.map (fcells t)).flatten
theorem row_fcells {w:World} {t:Ty} (hf:t.flat=true):∀ {xs:List t.den} {css:List (List Value)} {bss:List (List Nat)},Row (OwnC w t) t.size xs css bss→css=xs.map (fcells t)∧bss.flatten=[]∧∀ x∈xs,Wf t x
 | [],css,bss,⟨h1,h2⟩=>by subst h1 h2;exact ⟨rfl,rfl,fun x h=>by cases h⟩
 | x :: r,css,bss,⟨c,cs,b,bs,h1,h2,h3,h4,h5⟩=>by
  subst h1 h2
  obtain ⟨e1,e2,e3⟩:=row_fcells hf h5
  have e4:b=[]:=(h4.flat (w':=w) (G:=fun _=>True) hf).2
  refine ⟨by rw [e1,own_fcells hf h4];rfl,by simp [e2,e4],fun y hy => ?_⟩
  rcases List.mem_cons.1 hy with rfl | hy
  ·exact h4.wf
  ·exact e3 y hy
theorem fcs_length {t:Ty} (hf:t.flat=true) {xs:List t.den} (hw:∀ x∈xs,Wf t x):(fcs t xs).length=xs.length*t.size :=
 (row_flat (w:=default) hf hw).len.2.2
theorem slAt_flat {w:World} {G:Nat→Prop} {t:Ty} (hf:t.flat=true) {xs:List t.den} {v:Value} (h:SlAt w G (RepC w G t) t.size xs v) :
  (∀ x∈xs,Wf t x)∧xs.length≤maxLen∧((∃ ad,v = .slice ad 0 0∧xs=[]) ∨
   ∃ b off cap,v = .slice (some ⟨b,off,none⟩) xs.length cap∧xs.length≤cap∧cap≤maxLen∧G b∧∀ j u,(fcs t xs)[j]? = some u→w.cell? ⟨b,off+j,none⟩=some u):=by
 refine ⟨(wf_slAt (fun _ _=>RepC.wf) h).2,h.1,?_⟩
 have hl:=h.2
 obtain ⟨css,bss,hrow,hflat,hcase⟩:=SlAt.row h
 rcases hcase with ⟨ad,rfl,rfl⟩ | ⟨b',off,cap,rfl,hG,hcells⟩
 ·exact .inl ⟨ad,rfl,rfl⟩
 ·rcases hl with ⟨ad,e,rfl⟩ | ⟨b2,off2,cap2,e,h2,h3,h4,_⟩
  ·simp only [Value.slice.injEq] at e
   obtain ⟨e1,e2,e3⟩:=e
   exact .inl ⟨some ⟨b',off,none⟩,by rw [e3];rfl,rfl⟩
  ·cases e
   refine .inr ⟨b',off,cap,rfl,h2,h3,hG,fun j u hj=>hcells j u ?_⟩
   have hr:Row (OwnC w t) t.size xs css bss:=hrow.mono fun y c b _ hh=>by
    obtain ⟨g1,g2⟩:=hh
    subst g2
    exact g1.own hf
   rw [(row_fcells hf hr).1]
   exact hj
theorem own_flat_mk {w:World} {t:Ty} (hf:t.flat=true) {xs:List t.den} (hw:∀ x∈xs,Wf t x) {n b off cap:Nat} {cur:Array Value} {ty:TypeId} {fz:Nat×Nat} (hn:n=xs.length) (h2:xs.length≤cap) (h3:cap≤maxLen) (h4:off+cap*t.size≤cur.size)
  (h5:w.heap[b]? = some (.cells cur ty fz)) (h6:FreeS t.size fz cur.size) (h8:∀ j u,(fcs t xs)[j]? = some u→cur[off+j]? = some u):OwnC w (.sl t) xs [.slice (some ⟨b,off,none⟩) n cap] [b]:=by
 subst hn
 have hrow:=row_flat (w:=w) hf hw
 have ho:=ownSl_of_row hrow (b:=b) (off:=off) (cap:=cap) (cur:=cur) (ty:=ty) (fz:=fz) (Nat.le_trans h2 h3) h2 h3 h4 h5 h6 h8
 rw [nils_flatten] at ho
 exact ⟨_,rfl,ho⟩
def cloneSpec (t:Ty):Spec:={ sig:=[AT.v (.sl t)],pre:=fun ⟨x0,_⟩=>x0.length≤1048576,res:=fun ⟨x0,_⟩=>[⟨.sl t,x0⟩] }
theorem clone_contract {P:Program} {f:FuncId} {t:Ty} {e:TypeId} (hf:t.flat=true)
  (hnil:∀ w:World,Calls P f #[.slice none 0 0] w fun e w'=>e = .returned (.slice none 0 0)∧w'=w)
  (hsome:∀ (w:World) (a:Addr) (n c:Nat) (news:List Value),news.length=n*t.size→n≤1048576→(∀ j u,news[j]? = some u→w.cell? (a.add j)=some u)→(∀ u∈news,u.oneCell'=true) →
   Calls P f #[.slice (some a) n c] w fun r w'=>∃ v',r = .returned v'∧w'.ownsRow w.heap.size e t.size v' n news∧Below w.heap.size w w') :
  Contract P f (cloneSpec t):=by
 refine Contract0.up rfl rfl ?_
 rintro w ⟨x0,u⟩ vs bss hgo hp ⟨v,s,b,bs,rfl,rfl,⟨rfl,ho⟩,rfl,rfl⟩ hn
 have hp:x0.length≤1048576:=hp
 have hm:x0.length≤maxLen:=by unfold maxLen;omega
 obtain ⟨hw,_,hcase⟩:=slAt_flat hf ho
 have hfin:∀ (v':Value) (w':World),w'.ownsRow w.heap.size e t.size v' x0.length (fcs t x0)→Below w.heap.size w w' →
   ∃ rs ubs rbs,Ending.returned v' = .returned (packV rs)∧Kept ([[]]:List (List Nat)).flatten w w'∧ResRep w' [⟨.sl t,x0⟩] rs rbs∧UpdRep w' [] (ownVals [AT.v (.sl t)] [v]) ubs∧(ubs.flatten++rbs.flatten).Nodup∧∀ b∈ubs.flatten++rbs.flatten,¬ Am.Good w ([[]]:List (List Nat)).flatten b:=fun v' w' h1 h2=>by
  obtain ⟨bs,g1,g2,g3⟩:=own_of_row hf hw hm h1
  refine ⟨[v'],[],[bs],rfl,Kept.of_below h2,⟨_,_,_,_,_,rfl,rfl,g1,rfl,rfl,rfl⟩,⟨rfl,rfl⟩,by simpa using g2,fun b hb hg => ?_⟩
  simp at hb
  have:=g3 b hb
  have:=hg.1
  omega
 rcases hcase with ⟨ad,rfl,rfl⟩ | ⟨b',off,cap,rfl,h2,h3,hG,hcells⟩
 ·cases ad with
  | none =>
   refine (hnil w).mono ?_
   rintro r w' ⟨rfl,rfl⟩
   exact hfin _ _ ⟨by simp [fcs],.inl ⟨rfl,rfl⟩⟩ (Below.refl _ _)
  | some a =>
   refine (hsome w a 0 0 [] (by simp) (by omega) (fun j u h=>by simp at h) (fun u h=>by cases h)).mono ?_
   rintro r w' ⟨v',rfl,h1,h2⟩
   exact hfin _ _ h1 h2
 ·refine (hsome w ⟨b',off,none⟩ x0.length cap (fcs t x0) (fcs_length hf hw) hp (fun j u hj=>by rw [Addr.add_lit];exact hcells j u hj) (fun u hu => ?_)).mono ?_
  ·obtain ⟨l,hl,hu⟩:=List.mem_flatten.1 hu
   obtain ⟨x,_,rfl⟩:=List.mem_map.1 hl
   exact fcells_one hf u hu
  ·rintro r w' ⟨v',rfl,h1,h2⟩
   exact hfin _ _ h1 h2
end Go.Am
namespace Go.Am
set_option linter.unusedVariables false
set_option linter.unusedSimpArgs false
open Go.RowKit (Below)
section
variable {P:Program}
end
structure OwnAt (w:World) (t:Ty) (xs:List t.den) (b off cap:Nat) (cur:Array Value) (ty:TypeId) (fz:Nat×Nat):Prop where
 wf:∀ x∈xs,Wf t x
 len:xs.length≤cap
 capm:cap≤maxLen
 fit:off+cap*t.size≤cur.size
 blk:w.heap[b]? = some (.cells cur ty fz)
 free:FreeS t.size fz cur.size
 has:∀ j u,(fcs t xs)[j]? = some u→cur[off+j]? = some u
theorem OwnAt.cell {w:World} {t:Ty} {xs:List t.den} {b off cap:Nat} {cur:Array Value} {ty:TypeId} {fz:Nat×Nat} (h:OwnAt w t xs b off cap cur ty fz):∀ j u,(fcs t xs)[j]? = some u→w.cell? ⟨b,off+j,none⟩=some u:=fun j u hj=>by
 simp only [World.cell?, h.blk]
 exact h.has j u hj
theorem OwnAt.lt {w:World} {t:Ty} {xs:List t.den} {b off cap:Nat} {cur:Array Value} {ty:TypeId} {fz:Nat×Nat} (h:OwnAt w t xs b off cap cur ty fz):b<w.heap.size:=by
 rcases Nat.lt_or_ge b w.heap.size with h' | h'
 ·exact h'
 ·have:=h.blk
  rw [Array.getElem?_eq_none h'] at this;cases this
end Go.Am
namespace Go.Am
set_option linter.unusedVariables false
set_option linter.unusedSimpArgs false
open Go.RowKit (Below)
end Go.Am
namespace Go.Am
set_option linter.unusedVariables false
def bump1 (h:List Int) (k:Int):List Int:=h.set k.toNat (h.getD k.toNat 0+1)
theorem bump1_length (h:List Int) (k:Int):(bump1 h k).length=h.length:=by simp [bump1]
theorem bump1_all {h:List Int} {n:Nat} (hc:∀ c∈h,0≤c∧c≤n) (k:Int):∀ c∈bump1 h k,0≤c∧c≤((n+1:Nat):Int):=by
 intro c hm
 rcases List.mem_or_eq_of_mem_set hm with hm | hm
 ·have:=hc c hm;omega
 ·by_cases hlt:k.toNat<h.length
  ·have:=hc _ (mem_getD h k.toNat 0 hlt);omega
  ·rw [List.getD_eq_getElem?_getD,List.getElem?_eq_none (by omega)] at hm
   simp only [Option.getD_none] at hm
   omega
theorem getD_all {h:List Int} {n:Int} (hn:0≤n) (hc:∀ c∈h,0≤c∧c≤n) (k:Nat):0≤h.getD k 0∧h.getD k 0≤n:=by
 by_cases hlt:k<h.length
 ·exact hc _ (mem_getD h k 0 hlt)
 ·rw [List.getD_eq_getElem?_getD,List.getElem?_eq_none (by omega)]
  exact ⟨Int.le_refl _,hn⟩
noncomputable def sel2 {α β:Type} (a:α) (b:β) (Q:α→β→Prop):α×β :=
 @dite _ (∃ p:α×β,Q p.1 p.2) (Classical.propDecidable _) (fun h=>Classical.choose h) (fun _=>(a,b))
theorem sel2_spec {α β:Type} {a:α} {b:β} {Q:α→β→Prop} {x:α} {y:β} (h:Q x y):Q (sel2 a b Q).1 (sel2 a b Q).2:=by
 have hp:∃ p:α×β,Q p.1 p.2:=⟨(x,y),h⟩
 unfold sel2
 rw [dif_pos hp]
 exact Classical.choose_spec hp
end Go.Am
namespace Go.Am
set_option linter.unusedVariables false
set_option linter.unusedSimpArgs false
def runCN (o:Option (List Item×Env×Heap×List Prop)):Option (List Item×Env×Heap)×Prop :=
 match o with
 | some (k,E,L,cs)=>(some (k,E,L),All cs)
 | none=>(none,True)
def runCF (o:Option (List Dyn×List (Option Lst)×List Prop)):Option (List Dyn×List (Option Lst))×Prop :=
 match o with
 | some (ds,us,cs)=>(some (ds,us),All cs)
 | none=>(none,True)
theorem a1 {p q:Prop} (x:p) (y:q):p∧q:=⟨x,y⟩
section
variable {P:Program} {f:FuncId} {R:Ending→World→Prop} {n:Nat} {K:Ctx} {E:Env} {L:Heap}
theorem AtV.go {tab:List TI} {ext:Ext} (hT:TabOk P tab) (hX:ExtOk P ext) (hm:P.follows .mixedOrders=true) (wr:Bool) (stops:List Nat) {q:Nat→Value} {pins:List Nat} (nils:List (Nat×Ty)) (ks:List Nat) (rs:List Nat) (path:List Bool) {k k':List Item} {E':Env} {L':Heap} {C:Prop}
  (hc:C) (hk:AtV P f R n K q pins k' E' L') (h:runCN (Am.runN tab ext wr n stops 2000 pins nils ks rs path k E L)=(some (k',E',L'),C)):AtV P f R n K q pins k E L:=by
 cases hr:Am.runN tab ext wr n stops 2000 pins nils ks rs path k E L with
 | none=>rw [hr] at h;cases h
 | some y =>
  obtain ⟨k1,E1,L1,cs⟩:=y
  rw [hr] at h
  cases h
  exact AtV.runN hT hX hm hr hc hk
theorem AtV.ret {fn:Func} (hf:P.funcs[f]? = some fn) {tab:List TI} {ext:Ext} (hT:TabOk P tab) (hX:ExtOk P ext) (hm:P.follows .mixedOrders=true) (wr:Bool) (stops:List Nat) {q:Nat→Value} {pins:List Nat} {oks:List AT} {kds:List RK} (ts:List Ty) (path:List Bool) {k:List Item} {ds:List Dyn} {us:List (Option Lst)} {C:Prop}
  (hc:C) (h:runCF (runF tab ext wr n stops 2000 pins oks kds ts fn.results path k E L)=(some (ds,us),C)):AtV P f (PostR kds oks ds us pins q K) n K q pins k E L:=by
 cases hr:runF tab ext wr n stops 2000 pins oks kds ts fn.results path k E L with
 | none=>rw [hr] at h;cases h
 | some y =>
  obtain ⟨d1,u1,cs⟩:=y
  rw [hr] at h
  cases h
  exact AtV.fin hf hT hX hm hr hc
end
end Go.Am
set_option linter.unusedVariables false
set_option linter.unusedSimpArgs false
set_option maxRecDepth 100000
namespace Go.Proofs.YtpojfdgfpamapaaGreatDoor
open Go Go.Am Go.Proofs
def tab:List TI:=[TI.other,
 TI.scal (Ty.fn),
 TI.scal (Ty.int IntKind.i64),
 TI.scal (Ty.int IntKind.i64),
 TI.scal (Ty.bool),
 TI.scal (Ty.int IntKind.u8),
 TI.scal (Ty.int IntKind.u8),
 TI.struct (Ty.cons (Ty.int IntKind.i64) (Ty.cons (Ty.int IntKind.i64) (Ty.cons Ty.bool (Ty.cons (Ty.int IntKind.u8) Ty.unit)))),
 TI.struct (Ty.cons (Ty.int IntKind.i64) (Ty.cons (Ty.int IntKind.i64) (Ty.cons Ty.bool (Ty.cons (Ty.int IntKind.u8) Ty.unit)))),
 TI.scal (Ty.str),
 TI.scal (Ty.str),
 TI.scal (Ty.str),
 TI.scal (Ty.int IntKind.u64),
 TI.other,
 TI.other,
 TI.other,
 TI.other,
 TI.other,
 TI.other,
 TI.other,
 TI.other,
 TI.scal (Ty.int IntKind.i32),
 TI.slice 5 (Ty.int IntKind.u8) 1,
 TI.slice 107 (Ty.cons (Ty.int IntKind.i64) (Ty.cons (Ty.int IntKind.i64) Ty.unit)) 16,
 TI.struct (Ty.cons (Ty.sl (Ty.cons (Ty.int IntKind.i64) (Ty.cons (Ty.int IntKind.i64) Ty.unit))) (Ty.cons (Ty.int IntKind.i64) (Ty.cons (Ty.int IntKind.i64) Ty.unit))),
 TI.struct (Ty.cons (Ty.sl (Ty.cons (Ty.int IntKind.i64) (Ty.cons (Ty.int IntKind.i64) Ty.unit))) (Ty.cons (Ty.int IntKind.i64) (Ty.cons (Ty.int IntKind.i64) Ty.unit))),
 TI.struct (Ty.cons (Ty.int IntKind.i64) (Ty.cons (Ty.int IntKind.i64) Ty.unit)),
 TI.struct (Ty.cons (Ty.int IntKind.i64) (Ty.cons (Ty.int IntKind.i64) Ty.unit)),
 TI.struct (Ty.cons (Ty.int IntKind.i64) (Ty.cons (Ty.int IntKind.i64) (Ty.cons (Ty.int IntKind.i64) (Ty.cons (Ty.int IntKind.i64) Ty.unit)))),
 TI.struct (Ty.cons (Ty.int IntKind.i64) (Ty.cons (Ty.int IntKind.i64) (Ty.cons (Ty.int IntKind.i64) (Ty.cons (Ty.int IntKind.i64) Ty.unit)))),
 TI.slice 97 (Ty.cons Ty.str (Ty.cons (Ty.int IntKind.i64) (Ty.cons (Ty.int IntKind.i64) (Ty.cons (Ty.int IntKind.i64) Ty.unit)))) 40,
 TI.struct (Ty.cons (Ty.int IntKind.i64) (Ty.cons (Ty.int IntKind.i64) (Ty.cons (Ty.int IntKind.i64) Ty.unit))),
 TI.struct (Ty.cons (Ty.int IntKind.i64) (Ty.cons (Ty.int IntKind.i64) (Ty.cons (Ty.int IntKind.i64) Ty.unit))),
 TI.slice 75 (Ty.cons Ty.str (Ty.cons (Ty.int IntKind.i64) (Ty.cons (Ty.int IntKind.i64) (Ty.cons (Ty.int IntKind.i64) (Ty.cons (Ty.int IntKind.i64) Ty.unit))))) 48,
 TI.slice 52 (Ty.cons (Ty.int IntKind.i64) (Ty.cons (Ty.int IntKind.i64) Ty.unit)) 16,
 TI.slice 50 (Ty.cons (Ty.int IntKind.i64) (Ty.cons (Ty.int IntKind.i64) (Ty.cons Ty.str (Ty.cons (Ty.int IntKind.i64) Ty.unit)))) 40,
 TI.struct (Ty.cons (Ty.cons (Ty.sl (Ty.cons (Ty.int IntKind.i64) (Ty.cons (Ty.int IntKind.i64) Ty.unit))) (Ty.cons (Ty.int IntKind.i64) (Ty.cons (Ty.int IntKind.i64) Ty.unit))) (Ty.cons (Ty.int IntKind.i64) (Ty.cons (Ty.cons (Ty.int IntKind.i64) (Ty.cons (Ty.int IntKind.i64) Ty.unit)) (Ty.cons (Ty.cons (Ty.int IntKind.i64) (Ty.cons (Ty.int IntKind.i64) (Ty.cons (Ty.int IntKind.i64) (Ty.cons (Ty.int IntKind.i64) Ty.unit)))) (Ty.cons (Ty.sl (Ty.cons Ty.str (Ty.cons (Ty.int IntKind.i64) (Ty.cons (Ty.int IntKind.i64) (Ty.cons (Ty.int IntKind.i64) Ty.unit))))) (Ty.cons (Ty.cons (Ty.int IntKind.i64) (Ty.cons (Ty.int IntKind.i64) (Ty.cons (Ty.int IntKind.i64) Ty.unit))) (Ty.cons (Ty.sl (Ty.cons Ty.str (Ty.cons (Ty.int IntKind.i64) (Ty.cons (Ty.int IntKind.i64) (Ty.cons (Ty.int IntKind.i64) (Ty.cons (Ty.int IntKind.i64) Ty.unit)))))) (Ty.cons (Ty.int IntKind.i64) (Ty.cons (Ty.int IntKind.i64) (Ty.cons (Ty.sl (Ty.cons (Ty.int IntKind.i64) (Ty.cons (Ty.int IntKind.i64) Ty.unit))) (Ty.cons (Ty.int IntKind.i64) (Ty.cons (Ty.sl (Ty.cons (Ty.int IntKind.i64) (Ty.cons (Ty.int IntKind.i64) (Ty.cons Ty.str (Ty.cons (Ty.int IntKind.i64) Ty.unit))))) Ty.unit)))))))))))),
 TI.struct (Ty.cons (Ty.cons (Ty.sl (Ty.cons (Ty.int IntKind.i64) (Ty.cons (Ty.int IntKind.i64) Ty.unit))) (Ty.cons (Ty.int IntKind.i64) (Ty.cons (Ty.int IntKind.i64) Ty.unit))) (Ty.cons (Ty.int IntKind.i64) (Ty.cons (Ty.cons (Ty.int IntKind.i64) (Ty.cons (Ty.int IntKind.i64) Ty.unit)) (Ty.cons (Ty.cons (Ty.int IntKind.i64) (Ty.cons (Ty.int IntKind.i64) (Ty.cons (Ty.int IntKind.i64) (Ty.cons (Ty.int IntKind.i64) Ty.unit)))) (Ty.cons (Ty.sl (Ty.cons Ty.str (Ty.cons (Ty.int IntKind.i64) (Ty.cons (Ty.int IntKind.i64) (Ty.cons (Ty.int IntKind.i64) Ty.unit))))) (Ty.cons (Ty.cons (Ty.int IntKind.i64) (Ty.cons (Ty.int IntKind.i64) (Ty.cons (Ty.int IntKind.i64) Ty.unit))) (Ty.cons (Ty.sl (Ty.cons Ty.str (Ty.cons (Ty.int IntKind.i64) (Ty.cons (Ty.int IntKind.i64) (Ty.cons (Ty.int IntKind.i64) (Ty.cons (Ty.int IntKind.i64) Ty.unit)))))) (Ty.cons (Ty.int IntKind.i64) (Ty.cons (Ty.int IntKind.i64) (Ty.cons (Ty.sl (Ty.cons (Ty.int IntKind.i64) (Ty.cons (Ty.int IntKind.i64) Ty.unit))) (Ty.cons (Ty.int IntKind.i64) (Ty.cons (Ty.sl (Ty.cons (Ty.int IntKind.i64) (Ty.cons (Ty.int IntKind.i64) (Ty.cons Ty.str (Ty.cons (Ty.int IntKind.i64) Ty.unit))))) Ty.unit)))))))))))),
 TI.scal (Ty.fn),
 TI.scal (Ty.fn),
 TI.slice 47 (Ty.cons (Ty.int IntKind.i64) (Ty.cons Ty.str (Ty.cons Ty.str Ty.unit))) 40,
 TI.other,
 TI.scal (Ty.fn),
 TI.slice 2 (Ty.int IntKind.i64) 8,
 TI.scal (Ty.fn),
 TI.scal (Ty.fn),
 TI.struct (Ty.cons (Ty.int IntKind.i64) (Ty.cons Ty.str (Ty.cons Ty.str Ty.unit))),
 TI.struct (Ty.cons (Ty.int IntKind.i64) (Ty.cons Ty.str (Ty.cons Ty.str Ty.unit))),
 TI.scal (Ty.fn),
 TI.struct (Ty.cons (Ty.int IntKind.i64) (Ty.cons (Ty.int IntKind.i64) (Ty.cons Ty.str (Ty.cons (Ty.int IntKind.i64) Ty.unit)))),
 TI.struct (Ty.cons (Ty.int IntKind.i64) (Ty.cons (Ty.int IntKind.i64) (Ty.cons Ty.str (Ty.cons (Ty.int IntKind.i64) Ty.unit)))),
 TI.struct (Ty.cons (Ty.int IntKind.i64) (Ty.cons (Ty.int IntKind.i64) Ty.unit)),
 TI.struct (Ty.cons (Ty.int IntKind.i64) (Ty.cons (Ty.int IntKind.i64) Ty.unit)),
 TI.scal (Ty.fn),
 TI.other,
 TI.scal (Ty.fn),
 TI.scal (Ty.fn),
 TI.scal (Ty.fn),
 TI.other,
 TI.scal (Ty.fn),
 TI.scal (Ty.fn),
 TI.scal (Ty.fn),
 TI.scal (Ty.fn),
 TI.scal (Ty.fn),
 TI.scal (Ty.fn),
 TI.scal (Ty.fn),
 TI.slice 9 (Ty.str) 16,
 TI.scal (Ty.int IntKind.u64),
 TI.struct (Ty.cons (Ty.sl (Ty.int IntKind.u8)) (Ty.cons (Ty.int IntKind.i64) (Ty.cons (Ty.int IntKind.u64) Ty.unit))),
 TI.struct (Ty.cons (Ty.sl (Ty.int IntKind.u8)) (Ty.cons (Ty.int IntKind.i64) (Ty.cons (Ty.int IntKind.u64) Ty.unit))),
 TI.scal (Ty.fn),
 TI.scal (Ty.fn),
 TI.scal (Ty.fn),
 TI.scal (Ty.fn),
 TI.struct (Ty.cons Ty.str (Ty.cons (Ty.int IntKind.i64) (Ty.cons (Ty.int IntKind.i64) (Ty.cons (Ty.int IntKind.i64) (Ty.cons (Ty.int IntKind.i64) Ty.unit))))),
 TI.struct (Ty.cons Ty.str (Ty.cons (Ty.int IntKind.i64) (Ty.cons (Ty.int IntKind.i64) (Ty.cons (Ty.int IntKind.i64) (Ty.cons (Ty.int IntKind.i64) Ty.unit))))),
 TI.scal (Ty.fn),
 TI.scal (Ty.fn),
 TI.scal (Ty.fn),
 TI.other,
 TI.scal (Ty.fn),
 TI.other,
 TI.scal (Ty.fn),
 TI.other,
 TI.scal (Ty.fn),
 TI.scal (Ty.fn),
 TI.other,
 TI.scal (Ty.fn),
 TI.scal (Ty.fn),
 TI.scal (Ty.fn),
 TI.slice 60 (Ty.fn) 8,
 TI.scal (Ty.fn),
 TI.other,
 TI.scal (Ty.fn),
 TI.other,
 TI.scal (Ty.fn),
 TI.struct (Ty.cons Ty.str (Ty.cons (Ty.int IntKind.i64) (Ty.cons (Ty.int IntKind.i64) (Ty.cons (Ty.int IntKind.i64) Ty.unit)))),
 TI.struct (Ty.cons Ty.str (Ty.cons (Ty.int IntKind.i64) (Ty.cons (Ty.int IntKind.i64) (Ty.cons (Ty.int IntKind.i64) Ty.unit)))),
 TI.scal (Ty.fn),
 TI.scal (Ty.fn),
 TI.scal (Ty.fn),
 TI.other,
 TI.scal (Ty.fn),
 TI.scal (Ty.fn),
 TI.scal (Ty.fn),
 TI.scal (Ty.fn),
 TI.struct (Ty.cons (Ty.int IntKind.i64) (Ty.cons (Ty.int IntKind.i64) Ty.unit)),
 TI.struct (Ty.cons (Ty.int IntKind.i64) (Ty.cons (Ty.int IntKind.i64) Ty.unit)),
 TI.scal (Ty.fn),
 TI.scal (Ty.fn),
 TI.scal (Ty.fn),
 TI.scal (Ty.fn),
 TI.scal (Ty.fn),
 TI.scal (Ty.fn),
 TI.scal (Ty.fn),
 TI.other,
 TI.scal (Ty.fn),
 TI.scal (Ty.fn),
 TI.other,
 TI.scal (Ty.fn),
 TI.other,
 TI.scal (Ty.fn),
 TI.scal (Ty.fn),
 TI.scal (Ty.fn),
 TI.scal (Ty.fn),
 TI.scal (Ty.fn),
 TI.scal (Ty.fn),
 TI.other,
 TI.scal (Ty.fn),
 TI.scal (Ty.fn),
 TI.scal (Ty.fn),
 TI.scal (Ty.fn),
 TI.scal (Ty.fn),
 TI.scal (Ty.fn),
 TI.scal (Ty.fn),
 TI.scal (Ty.fn),
 TI.scal (Ty.fn),
 TI.scal (Ty.int IntKind.u64),
 TI.scal (Ty.fn),
 TI.scal (Ty.fn),
 TI.scal (Ty.fn),
 TI.scal (Ty.fn),
 TI.scal (Ty.fn),
 TI.scal (Ty.fn),
 TI.other,
 TI.scal (Ty.fn),
 TI.scal (Ty.fn),
 TI.scal (Ty.fn),
 TI.scal (Ty.fn),
 TI.scal (Ty.fn),
 TI.scal (Ty.fn),
 TI.scal (Ty.fn),
 TI.scal (Ty.fn),
 TI.scal (Ty.fn),
 TI.scal (Ty.fn),
 TI.scal (Ty.fn),
 TI.scal (Ty.fn),
 TI.scal (Ty.fn),
 TI.scal (Ty.fn),
 TI.scal (Ty.fn),
 TI.scal (Ty.fn),
 TI.other,
 TI.scal (Ty.fn),
 TI.scal (Ty.fn),
 TI.other,
 TI.scal (Ty.fn),
 TI.scal (Ty.fn),
 TI.scal (Ty.fn),
 TI.scal (Ty.fn),
 TI.scal (Ty.fn),
 TI.scal (Ty.fn),
 TI.scal (Ty.fn),
 TI.scal (Ty.fn),
 TI.other,
 TI.scal (Ty.int IntKind.u32),
 TI.other,
 TI.scal (Ty.fn),
 TI.scal (Ty.fn),
 TI.scal (Ty.fn),
 TI.scal (Ty.fn),
 TI.scal (Ty.fn),
 TI.scal (Ty.fn),
 TI.scal (Ty.fn),
 TI.scal (Ty.fn),
 TI.scal (Ty.fn),
 TI.scal (Ty.fn),
 TI.scal (Ty.fn),
 TI.other,
 TI.other,
 TI.scal (Ty.fn),
 TI.other,
 TI.scal (Ty.fn),
 TI.scal (Ty.fn),
 TI.other,
 TI.struct (Ty.cons (Ty.int IntKind.u8) (Ty.cons (Ty.int IntKind.u8) Ty.unit)),
 TI.struct (Ty.cons (Ty.int IntKind.u8) (Ty.cons (Ty.int IntKind.u8) Ty.unit)),
 TI.other,
 TI.other,
 TI.scal (Ty.fn),
 TI.scal (Ty.fn),
 TI.other,
 TI.other,
 TI.other,
 TI.other,
 TI.other,
 TI.scal (Ty.fn),
 TI.scal (Ty.int IntKind.u8),
 TI.scal (Ty.int IntKind.u8),
 TI.scal (Ty.fn),
 TI.other,
 TI.scal (Ty.int IntKind.i32),
 TI.scal (Ty.int IntKind.i32)]
theorem tabOk:TabOk Tryz.prog tab:=tabOk_of_check (by kernel_rfl)
theorem mixed:Tryz.prog.follows .mixedOrders=true:=by kernel_rfl
theorem gv0 {W:World} (h:GInv W):GHas W 0 (.tab .u64 Lib.pow10Tab):=h.1
theorem gv3 {W:World} (h:GInv W):GHas W 3 (.int .i64):=h.2.1
theorem gcell3 (W:World) (h:W.ShapedOpen Tryz.prog):∃ m,W.cell? ⟨3,0,none⟩=some (.int .i64 m) :=
 Go.Proofs.cell_of_shapedOpen_int (zero := #[.int .i64 0]) (t:=3) h (of_decide_eq_true (by kernel_rfl)) (by kernel_rfl) rfl (by kernel_rfl) (by kernel_rfl) Tryz.underlying3
theorem maxLenG {W:World} (h:GInv W):∃ m,W.cell? ⟨3,0,none⟩=some (.int .i64 m):=gv3 h
theorem pow10G {W : World} (h : GInv W) : Lib.TabIs Tryz.prog W "internal/strconv.uint64pow10" .u64 Lib.pow10Tab := GHas.tab (by kernel_rfl) (gv0 h)
theorem ginv (W:World) (h:W.ShapedOpen Tryz.prog) (h0:GHas W 0 (.tab .u64 Lib.pow10Tab)):GInv W:=⟨h0,gcell3 W h,trivial⟩
@[reducible] def TyA0:Type:=(List (Int×Int×Unit)×Int×Int×Unit)×Int×(Int×Int×Unit)×(Int×Int×Int×Int×Unit)×List (ByteArray×Int×Int×Int×Unit)×(Int×Int×Int×Unit)×List (ByteArray×Int×Int×Int×Int×Unit)×Int×Int×List (Int×Int×Unit)×Int×List (Int×Int×ByteArray×Int×Unit)×Unit
@[reducible] def TyB0:Type:=ByteArray×Int×Int×Int×Int×Unit
@[reducible] def TyB1:Type:=ByteArray×Int×Int×Int×Unit
@[reducible] def TyB2:Type:=Int×Int×ByteArray×Int×Unit
@[reducible] def TyB3:Type:=Int×ByteArray×ByteArray×Unit
@[reducible] def TyB4:Type:=Int×Int×Unit
theorem ca4:Callable Tryz.prog 4:=⟨Tryz.f4,Tryz.func4,by kernel_rfl,by kernel_rfl⟩
theorem ca5:Callable Tryz.prog 5:=⟨Tryz.f5,Tryz.func5,by kernel_rfl,by kernel_rfl⟩
theorem ca6:Callable Tryz.prog 6:=⟨Tryz.f6,Tryz.func6,by kernel_rfl,by kernel_rfl⟩
theorem ca7:Callable Tryz.prog 7:=⟨Tryz.f7,Tryz.func7,by kernel_rfl,by kernel_rfl⟩
theorem ca8:Callable Tryz.prog 8:=⟨Tryz.f8,Tryz.func8,by kernel_rfl,by kernel_rfl⟩
theorem ca9:Callable Tryz.prog 9:=⟨Tryz.f9,Tryz.func9,by kernel_rfl,by kernel_rfl⟩
theorem ca10:Callable Tryz.prog 10:=⟨Tryz.f10,Tryz.func10,by kernel_rfl,by kernel_rfl⟩
theorem ca11:Callable Tryz.prog 11:=⟨Tryz.f11,Tryz.func11,by kernel_rfl,by kernel_rfl⟩
theorem ca12:Callable Tryz.prog 12:=⟨Tryz.f12,Tryz.func12,by kernel_rfl,by kernel_rfl⟩
theorem ca13:Callable Tryz.prog 13:=⟨Tryz.f13,Tryz.func13,by kernel_rfl,by kernel_rfl⟩
theorem ca14:Callable Tryz.prog 14:=⟨Tryz.f14,Tryz.func14,by kernel_rfl,by kernel_rfl⟩
theorem ca15:Callable Tryz.prog 15:=⟨Tryz.f15,Tryz.func15,by kernel_rfl,by kernel_rfl⟩
theorem ca16:Callable Tryz.prog 16:=⟨Tryz.f16,Tryz.func16,by kernel_rfl,by kernel_rfl⟩
theorem ca17:Callable Tryz.prog 17:=⟨Tryz.f17,Tryz.func17,by kernel_rfl,by kernel_rfl⟩
theorem ca18:Callable Tryz.prog 18:=⟨Tryz.f18,Tryz.func18,by kernel_rfl,by kernel_rfl⟩
theorem ca19:Callable Tryz.prog 19:=⟨Tryz.f19,Tryz.func19,by kernel_rfl,by kernel_rfl⟩
theorem ca20:Callable Tryz.prog 20:=⟨Tryz.f20,Tryz.func20,by kernel_rfl,by kernel_rfl⟩
theorem ca21:Callable Tryz.prog 21:=⟨Tryz.f21,Tryz.func21,by kernel_rfl,by kernel_rfl⟩
theorem ca22:Callable Tryz.prog 22:=⟨Tryz.f22,Tryz.func22,by kernel_rfl,by kernel_rfl⟩
theorem ca23:Callable Tryz.prog 23:=⟨Tryz.f23,Tryz.func23,by kernel_rfl,by kernel_rfl⟩
theorem ca24:Callable Tryz.prog 24:=⟨Tryz.f24,Tryz.func24,by kernel_rfl,by kernel_rfl⟩
theorem ca25:Callable Tryz.prog 25:=⟨Tryz.f25,Tryz.func25,by kernel_rfl,by kernel_rfl⟩
theorem ca26:Callable Tryz.prog 26:=⟨Tryz.f26,Tryz.func26,by kernel_rfl,by kernel_rfl⟩
theorem ca27:Callable Tryz.prog 27:=⟨Tryz.f27,Tryz.func27,by kernel_rfl,by kernel_rfl⟩
theorem ca28:Callable Tryz.prog 28:=⟨Tryz.f28,Tryz.func28,by kernel_rfl,by kernel_rfl⟩
theorem ca29:Callable Tryz.prog 29:=⟨Tryz.f29,Tryz.func29,by kernel_rfl,by kernel_rfl⟩
theorem ca30:Callable Tryz.prog 30:=⟨Tryz.f30,Tryz.func30,by kernel_rfl,by kernel_rfl⟩
theorem ca31:Callable Tryz.prog 31:=⟨Tryz.f31,Tryz.func31,by kernel_rfl,by kernel_rfl⟩
theorem ca32:Callable Tryz.prog 32:=⟨Tryz.f32,Tryz.func32,by kernel_rfl,by kernel_rfl⟩
theorem ca33:Callable Tryz.prog 33:=⟨Tryz.f33,Tryz.func33,by kernel_rfl,by kernel_rfl⟩
theorem ca34:Callable Tryz.prog 34:=⟨Tryz.f34,Tryz.func34,by kernel_rfl,by kernel_rfl⟩
theorem ca35:Callable Tryz.prog 35:=⟨Tryz.f35,Tryz.func35,by kernel_rfl,by kernel_rfl⟩
theorem ca36:Callable Tryz.prog 36:=⟨Tryz.f36,Tryz.func36,by kernel_rfl,by kernel_rfl⟩
theorem ca37:Callable Tryz.prog 37:=⟨Tryz.f37,Tryz.func37,by kernel_rfl,by kernel_rfl⟩
theorem ca38:Callable Tryz.prog 38:=⟨Tryz.f38,Tryz.func38,by kernel_rfl,by kernel_rfl⟩
theorem ca39:Callable Tryz.prog 39:=⟨Tryz.f39,Tryz.func39,by kernel_rfl,by kernel_rfl⟩
theorem ca40:Callable Tryz.prog 40:=⟨Tryz.f40,Tryz.func40,by kernel_rfl,by kernel_rfl⟩
theorem ca41:Callable Tryz.prog 41:=⟨Tryz.f41,Tryz.func41,by kernel_rfl,by kernel_rfl⟩
theorem ca42:Callable Tryz.prog 42:=⟨Tryz.f42,Tryz.func42,by kernel_rfl,by kernel_rfl⟩
theorem ca43:Callable Tryz.prog 43:=⟨Tryz.f43,Tryz.func43,by kernel_rfl,by kernel_rfl⟩
theorem ca44:Callable Tryz.prog 44:=⟨Tryz.f44,Tryz.func44,by kernel_rfl,by kernel_rfl⟩
theorem ca45:Callable Tryz.prog 45:=⟨Tryz.f45,Tryz.func45,by kernel_rfl,by kernel_rfl⟩
theorem ca46:Callable Tryz.prog 46:=⟨Tryz.f46,Tryz.func46,by kernel_rfl,by kernel_rfl⟩
theorem ca47:Callable Tryz.prog 47:=⟨Tryz.f47,Tryz.func47,by kernel_rfl,by kernel_rfl⟩
theorem ca48:Callable Tryz.prog 48:=⟨Tryz.f48,Tryz.func48,by kernel_rfl,by kernel_rfl⟩
theorem ca49:Callable Tryz.prog 49:=⟨Tryz.f49,Tryz.func49,by kernel_rfl,by kernel_rfl⟩
theorem ca50:Callable Tryz.prog 50:=⟨Tryz.f50,Tryz.func50,by kernel_rfl,by kernel_rfl⟩
theorem ca51:Callable Tryz.prog 51:=⟨Tryz.f51,Tryz.func51,by kernel_rfl,by kernel_rfl⟩
theorem ca52:Callable Tryz.prog 52:=⟨Tryz.f52,Tryz.func52,by kernel_rfl,by kernel_rfl⟩
theorem ca53:Callable Tryz.prog 53:=⟨Tryz.f53,Tryz.func53,by kernel_rfl,by kernel_rfl⟩
theorem ca54:Callable Tryz.prog 54:=⟨Tryz.f54,Tryz.func54,by kernel_rfl,by kernel_rfl⟩
theorem ca55:Callable Tryz.prog 55:=⟨Tryz.f55,Tryz.func55,by kernel_rfl,by kernel_rfl⟩
theorem ca56:Callable Tryz.prog 56:=⟨Tryz.f56,Tryz.func56,by kernel_rfl,by kernel_rfl⟩
theorem ca57:Callable Tryz.prog 57:=⟨Tryz.f57,Tryz.func57,by kernel_rfl,by kernel_rfl⟩
theorem ca58:Callable Tryz.prog 58:=⟨Tryz.f58,Tryz.func58,by kernel_rfl,by kernel_rfl⟩
theorem ca59:Callable Tryz.prog 59:=⟨Tryz.f59,Tryz.func59,by kernel_rfl,by kernel_rfl⟩
theorem ca60:Callable Tryz.prog 60:=⟨Tryz.f60,Tryz.func60,by kernel_rfl,by kernel_rfl⟩
theorem ca61:Callable Tryz.prog 61:=⟨Tryz.f61,Tryz.func61,by kernel_rfl,by kernel_rfl⟩
theorem ca62:Callable Tryz.prog 62:=⟨Tryz.f62,Tryz.func62,by kernel_rfl,by kernel_rfl⟩
theorem ca63:Callable Tryz.prog 63:=⟨Tryz.f63,Tryz.func63,by kernel_rfl,by kernel_rfl⟩
theorem ca64:Callable Tryz.prog 64:=⟨Tryz.f64,Tryz.func64,by kernel_rfl,by kernel_rfl⟩
theorem ca65:Callable Tryz.prog 65:=⟨Tryz.f65,Tryz.func65,by kernel_rfl,by kernel_rfl⟩
theorem ca66:Callable Tryz.prog 66:=⟨Tryz.f66,Tryz.func66,by kernel_rfl,by kernel_rfl⟩
theorem ca67:Callable Tryz.prog 67:=⟨Tryz.f67,Tryz.func67,by kernel_rfl,by kernel_rfl⟩
theorem ca68:Callable Tryz.prog 68:=⟨Tryz.f68,Tryz.func68,by kernel_rfl,by kernel_rfl⟩
theorem ca69:Callable Tryz.prog 69:=⟨Tryz.f69,Tryz.func69,by kernel_rfl,by kernel_rfl⟩
theorem ca70:Callable Tryz.prog 70:=⟨Tryz.f70,Tryz.func70,by kernel_rfl,by kernel_rfl⟩
theorem ca71:Callable Tryz.prog 71:=⟨Tryz.f71,Tryz.func71,by kernel_rfl,by kernel_rfl⟩
theorem ca72:Callable Tryz.prog 72:=⟨Tryz.f72,Tryz.func72,by kernel_rfl,by kernel_rfl⟩
theorem ca73:Callable Tryz.prog 73:=⟨Tryz.f73,Tryz.func73,by kernel_rfl,by kernel_rfl⟩
theorem ca74:Callable Tryz.prog 74:=⟨Tryz.f74,Tryz.func74,by kernel_rfl,by kernel_rfl⟩
theorem ca75:Callable Tryz.prog 75:=⟨Tryz.f75,Tryz.func75,by kernel_rfl,by kernel_rfl⟩
theorem ca76:Callable Tryz.prog 76:=⟨Tryz.f76,Tryz.func76,by kernel_rfl,by kernel_rfl⟩
theorem ca77:Callable Tryz.prog 77:=⟨Tryz.f77,Tryz.func77,by kernel_rfl,by kernel_rfl⟩
theorem ca78:Callable Tryz.prog 78:=⟨Tryz.f78,Tryz.func78,by kernel_rfl,by kernel_rfl⟩
theorem ca79:Callable Tryz.prog 79:=⟨Tryz.f79,Tryz.func79,by kernel_rfl,by kernel_rfl⟩
theorem ca80:Callable Tryz.prog 80:=⟨Tryz.f80,Tryz.func80,by kernel_rfl,by kernel_rfl⟩
theorem ca81:Callable Tryz.prog 81:=⟨Tryz.f81,Tryz.func81,by kernel_rfl,by kernel_rfl⟩
theorem ca82:Callable Tryz.prog 82:=⟨Tryz.f82,Tryz.func82,by kernel_rfl,by kernel_rfl⟩
theorem ca85:Callable Tryz.prog 85:=⟨Tryz.f85,Tryz.func85,by kernel_rfl,by kernel_rfl⟩
theorem ca86:Callable Tryz.prog 86:=⟨Tryz.f86,Tryz.func86,by kernel_rfl,by kernel_rfl⟩
theorem ca87:Callable Tryz.prog 87:=⟨Tryz.f87,Tryz.func87,by kernel_rfl,by kernel_rfl⟩
theorem ca88:Callable Tryz.prog 88:=⟨Tryz.f88,Tryz.func88,by kernel_rfl,by kernel_rfl⟩
theorem ca89:Callable Tryz.prog 89:=⟨Tryz.f89,Tryz.func89,by kernel_rfl,by kernel_rfl⟩
theorem ca90:Callable Tryz.prog 90:=⟨Tryz.f90,Tryz.func90,by kernel_rfl,by kernel_rfl⟩
theorem ca91:Callable Tryz.prog 91:=⟨Tryz.f91,Tryz.func91,by kernel_rfl,by kernel_rfl⟩
theorem ca92:Callable Tryz.prog 92:=⟨Tryz.f92,Tryz.func92,by kernel_rfl,by kernel_rfl⟩
theorem ca93:Callable Tryz.prog 93:=⟨Tryz.f93,Tryz.func93,by kernel_rfl,by kernel_rfl⟩
theorem ca94:Callable Tryz.prog 94:=⟨Tryz.f94,Tryz.func94,by kernel_rfl,by kernel_rfl⟩
theorem ca95:Callable Tryz.prog 95:=⟨Tryz.f95,Tryz.func95,by kernel_rfl,by kernel_rfl⟩
theorem ca96:Callable Tryz.prog 96:=⟨Tryz.f96,Tryz.func96,by kernel_rfl,by kernel_rfl⟩
theorem ca97:Callable Tryz.prog 97:=⟨Tryz.f97,Tryz.func97,by kernel_rfl,by kernel_rfl⟩
theorem ca98:Callable Tryz.prog 98:=⟨Tryz.f98,Tryz.func98,by kernel_rfl,by kernel_rfl⟩
theorem ca99:Callable Tryz.prog 99:=⟨Tryz.f99,Tryz.func99,by kernel_rfl,by kernel_rfl⟩
theorem ca100:Callable Tryz.prog 100:=⟨Tryz.f100,Tryz.func100,by kernel_rfl,by kernel_rfl⟩
theorem ca101:Callable Tryz.prog 101:=⟨Tryz.f101,Tryz.func101,by kernel_rfl,by kernel_rfl⟩
theorem ca102:Callable Tryz.prog 102:=⟨Tryz.f102,Tryz.func102,by kernel_rfl,by kernel_rfl⟩
theorem ca103:Callable Tryz.prog 103:=⟨Tryz.f103,Tryz.func103,by kernel_rfl,by kernel_rfl⟩
theorem ca104:Callable Tryz.prog 104:=⟨Tryz.f104,Tryz.func104,by kernel_rfl,by kernel_rfl⟩
theorem ca105:Callable Tryz.prog 105:=⟨Tryz.f105,Tryz.func105,by kernel_rfl,by kernel_rfl⟩
theorem ca106:Callable Tryz.prog 106:=⟨Tryz.f106,Tryz.func106,by kernel_rfl,by kernel_rfl⟩
theorem ca107:Callable Tryz.prog 107:=⟨Tryz.f107,Tryz.func107,by kernel_rfl,by kernel_rfl⟩
theorem ca110:Callable Tryz.prog 110:=⟨Tryz.f110,Tryz.func110,by kernel_rfl,by kernel_rfl⟩
theorem ca111:Callable Tryz.prog 111:=⟨Tryz.f111,Tryz.func111,by kernel_rfl,by kernel_rfl⟩
theorem ca112:Callable Tryz.prog 112:=⟨Tryz.f112,Tryz.func112,by kernel_rfl,by kernel_rfl⟩
theorem ca113:Callable Tryz.prog 113:=⟨Tryz.f113,Tryz.func113,by kernel_rfl,by kernel_rfl⟩
theorem ca114:Callable Tryz.prog 114:=⟨Tryz.f114,Tryz.func114,by kernel_rfl,by kernel_rfl⟩
theorem ca115:Callable Tryz.prog 115:=⟨Tryz.f115,Tryz.func115,by kernel_rfl,by kernel_rfl⟩
theorem ca116:Callable Tryz.prog 116:=⟨Tryz.f116,Tryz.func116,by kernel_rfl,by kernel_rfl⟩
theorem ca117:Callable Tryz.prog 117:=⟨Tryz.f117,Tryz.func117,by kernel_rfl,by kernel_rfl⟩
theorem ca118:Callable Tryz.prog 118:=⟨Tryz.f118,Tryz.func118,by kernel_rfl,by kernel_rfl⟩
theorem ca119:Callable Tryz.prog 119:=⟨Tryz.f119,Tryz.func119,by kernel_rfl,by kernel_rfl⟩
theorem ca120:Callable Tryz.prog 120:=⟨Tryz.f120,Tryz.func120,by kernel_rfl,by kernel_rfl⟩
theorem ca121:Callable Tryz.prog 121:=⟨Tryz.f121,Tryz.func121,by kernel_rfl,by kernel_rfl⟩
theorem ca122:Callable Tryz.prog 122:=⟨Tryz.f122,Tryz.func122,by kernel_rfl,by kernel_rfl⟩
theorem ca123:Callable Tryz.prog 123:=⟨Tryz.f123,Tryz.func123,by kernel_rfl,by kernel_rfl⟩
theorem ca124:Callable Tryz.prog 124:=⟨Tryz.f124,Tryz.func124,by kernel_rfl,by kernel_rfl⟩
theorem ca125:Callable Tryz.prog 125:=⟨Tryz.f125,Tryz.func125,by kernel_rfl,by kernel_rfl⟩
theorem ca130:Callable Tryz.prog 130:=⟨Tryz.f130,Tryz.func130,by kernel_rfl,by kernel_rfl⟩
theorem ca131:Callable Tryz.prog 131:=⟨Tryz.f131,Tryz.func131,by kernel_rfl,by kernel_rfl⟩
theorem ca132:Callable Tryz.prog 132:=⟨Tryz.f132,Tryz.func132,by kernel_rfl,by kernel_rfl⟩
theorem ca133:Callable Tryz.prog 133:=⟨Tryz.f133,Tryz.func133,by kernel_rfl,by kernel_rfl⟩
theorem ca134:Callable Tryz.prog 134:=⟨Tryz.f134,Tryz.func134,by kernel_rfl,by kernel_rfl⟩
theorem ca135:Callable Tryz.prog 135:=⟨Tryz.f135,Tryz.func135,by kernel_rfl,by kernel_rfl⟩
theorem ca136:Callable Tryz.prog 136:=⟨Tryz.f136,Tryz.func136,by kernel_rfl,by kernel_rfl⟩
theorem ca137:Callable Tryz.prog 137:=⟨Tryz.f137,Tryz.func137,by kernel_rfl,by kernel_rfl⟩
theorem ca138:Callable Tryz.prog 138:=⟨Tryz.f138,Tryz.func138,by kernel_rfl,by kernel_rfl⟩
theorem ca139:Callable Tryz.prog 139:=⟨Tryz.f139,Tryz.func139,by kernel_rfl,by kernel_rfl⟩
theorem ca145:Callable Tryz.prog 145:=⟨Tryz.f145,Tryz.func145,by kernel_rfl,by kernel_rfl⟩
theorem ca146:Callable Tryz.prog 146:=⟨Tryz.f146,Tryz.func146,by kernel_rfl,by kernel_rfl⟩
theorem ca147:Callable Tryz.prog 147:=⟨Tryz.f147,Tryz.func147,by kernel_rfl,by kernel_rfl⟩
theorem ca149:Callable Tryz.prog 149:=⟨Tryz.f149,Tryz.func149,by kernel_rfl,by kernel_rfl⟩
theorem ca150:Callable Tryz.prog 150:=⟨Tryz.f150,Tryz.func150,by kernel_rfl,by kernel_rfl⟩
theorem ca153:Callable Tryz.prog 153:=⟨Tryz.f153,Tryz.func153,by kernel_rfl,by kernel_rfl⟩
theorem ca157:Callable Tryz.prog 157:=⟨Tryz.f157,Tryz.func157,by kernel_rfl,by kernel_rfl⟩
@[reducible] def YA0:Ty:=Ty.cons (Ty.cons (Ty.sl (Ty.cons (Ty.int .i64) (Ty.cons (Ty.int .i64) Ty.unit))) (Ty.cons (Ty.int .i64) (Ty.cons (Ty.int .i64) Ty.unit))) (Ty.cons (Ty.int .i64) (Ty.cons (Ty.cons (Ty.int .i64) (Ty.cons (Ty.int .i64) Ty.unit)) (Ty.cons (Ty.cons (Ty.int .i64) (Ty.cons (Ty.int .i64) (Ty.cons (Ty.int .i64) (Ty.cons (Ty.int .i64) Ty.unit)))) (Ty.cons (Ty.sl (Ty.cons Ty.str (Ty.cons (Ty.int .i64) (Ty.cons (Ty.int .i64) (Ty.cons (Ty.int .i64) Ty.unit))))) (Ty.cons (Ty.cons (Ty.int .i64) (Ty.cons (Ty.int .i64) (Ty.cons (Ty.int .i64) Ty.unit))) (Ty.cons (Ty.sl (Ty.cons Ty.str (Ty.cons (Ty.int .i64) (Ty.cons (Ty.int .i64) (Ty.cons (Ty.int .i64) (Ty.cons (Ty.int .i64) Ty.unit)))))) (Ty.cons (Ty.int .i64) (Ty.cons (Ty.int .i64) (Ty.cons (Ty.sl (Ty.cons (Ty.int .i64) (Ty.cons (Ty.int .i64) Ty.unit))) (Ty.cons (Ty.int .i64) (Ty.cons (Ty.sl (Ty.cons (Ty.int .i64) (Ty.cons (Ty.int .i64) (Ty.cons Ty.str (Ty.cons (Ty.int .i64) Ty.unit))))) Ty.unit)))))))))))
@[reducible] def YA1:Ty:=Ty.cons (Ty.int .i64) (Ty.cons (Ty.cons (Ty.int .i64) (Ty.cons (Ty.int .i64) Ty.unit)) (Ty.cons (Ty.cons (Ty.int .i64) (Ty.cons (Ty.int .i64) (Ty.cons (Ty.int .i64) (Ty.cons (Ty.int .i64) Ty.unit)))) (Ty.cons (Ty.sl (Ty.cons Ty.str (Ty.cons (Ty.int .i64) (Ty.cons (Ty.int .i64) (Ty.cons (Ty.int .i64) Ty.unit))))) (Ty.cons (Ty.cons (Ty.int .i64) (Ty.cons (Ty.int .i64) (Ty.cons (Ty.int .i64) Ty.unit))) (Ty.cons (Ty.sl (Ty.cons Ty.str (Ty.cons (Ty.int .i64) (Ty.cons (Ty.int .i64) (Ty.cons (Ty.int .i64) (Ty.cons (Ty.int .i64) Ty.unit)))))) (Ty.cons (Ty.int .i64) (Ty.cons (Ty.int .i64) (Ty.cons (Ty.sl (Ty.cons (Ty.int .i64) (Ty.cons (Ty.int .i64) Ty.unit))) (Ty.cons (Ty.int .i64) (Ty.cons (Ty.sl (Ty.cons (Ty.int .i64) (Ty.cons (Ty.int .i64) (Ty.cons Ty.str (Ty.cons (Ty.int .i64) Ty.unit))))) Ty.unit))))))))))
@[reducible] def YA2:Ty:=Ty.cons (Ty.sl (Ty.cons (Ty.int .i64) (Ty.cons (Ty.int .i64) Ty.unit))) (Ty.cons (Ty.int .i64) (Ty.cons (Ty.int .i64) Ty.unit))
@[reducible] def YA3:Ty:=Ty.cons Ty.str (Ty.cons (Ty.int .i64) (Ty.cons (Ty.int .i64) (Ty.cons (Ty.int .i64) (Ty.cons (Ty.int .i64) Ty.unit))))
@[reducible] def YA4:Ty:=Ty.cons (Ty.int .i64) (Ty.cons (Ty.int .i64) (Ty.cons (Ty.int .i64) (Ty.cons (Ty.int .i64) Ty.unit)))
@[reducible] def YA5:Ty:=Ty.cons Ty.str (Ty.cons (Ty.int .i64) (Ty.cons (Ty.int .i64) (Ty.cons (Ty.int .i64) Ty.unit)))
@[reducible] def YA6:Ty:=Ty.cons (Ty.int .i64) (Ty.cons (Ty.int .i64) (Ty.cons Ty.str (Ty.cons (Ty.int .i64) Ty.unit)))
@[reducible] def YA7:Ty:=Ty.cons (Ty.sl (Ty.int .u8)) (Ty.cons (Ty.int .i64) (Ty.cons (Ty.int .u64) Ty.unit))
@[reducible] def YA8:Ty:=Ty.cons (Ty.int .i64) (Ty.cons (Ty.int .i64) (Ty.cons (Ty.int .i64) Ty.unit))
@[reducible] def YA9:Ty:=Ty.cons (Ty.int .i64) (Ty.cons Ty.str (Ty.cons Ty.str Ty.unit))
@[reducible] def YA10:Ty:=Ty.cons (Ty.int .i64) (Ty.cons (Ty.int .u64) Ty.unit)
@[reducible] def YA11:Ty:=Ty.cons (Ty.int .i64) (Ty.cons (Ty.int .i64) Ty.unit)
@[reducible] def YA12:Ty:=Ty.cons Ty.str (Ty.cons Ty.str Ty.unit)
theorem bl_ {a b:Nat} (h:Nat.ble a b=true):a≤b:=Nat.le_of_ble_eq_true h
theorem bf_ {b:Bool} (h:¬ b=true):b=false:=Bool.eq_false_iff.2 h
noncomputable section
def ext14:Ext:=[]
theorem ext14Ok:ExtOk Tryz.prog ext14:=trivial
noncomputable def b14:Code:=bodyOf Tryz.f14
theorem hb14:Tryz.f14.body=some b14:=by kernel_rfl
def sig14:List AT:=[AT.v (.sl (.int .u8))]
def tys14:List Ty:=[.cons (.sl (.int .u8)) YA10]
def kds14:List RK:=[.bx]
def oks14:List AT:=owns sig14
def P14 (x0:List Int):Prop:=True
def g14_0 (x0:List Int):List Int×Int×Int×Unit:=(x0,0,0,())
theorem at14 (x0:List Int) (h:P14 x0) (K:Ctx) (q:Nat→Value):AtV Tryz.prog 14 (PostR kds14 oks14 [⟨.cons (.sl (.int .u8)) YA10,g14_0 x0⟩] [] [] q K) 6 K q [] [.code b14] (entE 0 0 sig14 (x0,())) (entL sig14 (x0,())):=by
 unfold P14 at h
 unfold g14_0
 exact AtV.ret Tryz.func14 tabOk ext14Ok mixed false [] tys14 [] trivial (by kernel_rfl)
def S14:Am.Spec:={ sig:=sig14,pre:=fun ⟨x0,_⟩=>P14 x0,res:=fun ⟨x0,_⟩=>[⟨.cons (.sl (.int .u8)) YA10,g14_0 x0⟩],kds:=kds14 }
theorem con14:Contract Tryz.prog 14 S14:=contract_of Tryz.func14 hb14 (bl_ (by kernel_rfl)) (fun ⟨x0,_⟩ h _ K q=>at14 x0 h K q)
end
noncomputable section
def ext54:Ext:=[]
theorem ext54Ok:ExtOk Tryz.prog ext54:=trivial
noncomputable def b54:Code:=bodyOf Tryz.f54
theorem hb54:Tryz.f54.body=some b54:=by kernel_rfl
def sig54:List AT:=[AT.pb YA7]
def tys54:List Ty:=[.int .i64]
def kds54:List RK:=[]
def oks54:List AT:=owns sig54
def P54 (x0:List Int×Int×Int×Unit):Prop:=(if (decide (x0.2.1<(x0.1.length:Int)))=true then ((0≤x0.2.1)∧(x0.2.1<(x0.1.length:Int))∧(if (decide (IntKind.wrap IntKind.i64 (x0.2.1+1)≤(x0.1.length:Int)))=true then True else ((InR .u64 (Int.fdiv (IntKind.wrap IntKind.u64 (IntKind.wrap IntKind.u64 (IntKind.wrap IntKind.u64 (x0.2.2.1*6364136223846793005)+IntKind.wrap IntKind.u64 (IntKind.wrap IntKind.i64 (List.getD x0.1 (Int.toNat x0.2.1) 0)))+1442695040888963407)) 1099511627776))∧True))) else (if (decide (IntKind.wrap IntKind.i64 (x0.2.1+1)≤(x0.1.length:Int)))=true then True else ((InR .u64 (Int.fdiv (IntKind.wrap IntKind.u64 (IntKind.wrap IntKind.u64 (IntKind.wrap IntKind.u64 (x0.2.2.1*6364136223846793005)+0)+1442695040888963407)) 1099511627776))∧True)))
def g54_0 (x0:List Int×Int×Int×Unit):Int:=(if (decide (x0.2.1<(x0.1.length:Int)))=true then (if (decide (IntKind.wrap IntKind.i64 (x0.2.1+1)≤(x0.1.length:Int)))=true then IntKind.wrap IntKind.i64 (List.getD x0.1 (Int.toNat x0.2.1) 0) else IntKind.wrap IntKind.i64 (IntKind.wrap IntKind.u64 (↑(BitVec.toNat (BitVec.ofInt 64 (Int.fdiv (IntKind.wrap IntKind.u64 (IntKind.wrap IntKind.u64 (IntKind.wrap IntKind.u64 (x0.2.2.1*6364136223846793005)+IntKind.wrap IntKind.u64 (IntKind.wrap IntKind.i64 (List.getD x0.1 (Int.toNat x0.2.1) 0)))+1442695040888963407)) 1099511627776) &&& BitVec.ofInt 64 255)):Int))) else (if (decide (IntKind.wrap IntKind.i64 (x0.2.1+1)≤(x0.1.length:Int)))=true then 0 else IntKind.wrap IntKind.i64 (IntKind.wrap IntKind.u64 (↑(BitVec.toNat (BitVec.ofInt 64 (Int.fdiv (IntKind.wrap IntKind.u64 (IntKind.wrap IntKind.u64 (IntKind.wrap IntKind.u64 (x0.2.2.1*6364136223846793005)+0)+1442695040888963407)) 1099511627776) &&& BitVec.ofInt 64 255)):Int))))
def u54_0 (x0:List Int×Int×Int×Unit):List Int×Int×Int×Unit:=(if (decide (x0.2.1<(x0.1.length:Int)))=true then (if (decide (IntKind.wrap IntKind.i64 (x0.2.1+1)≤(x0.1.length:Int)))=true then (x0.1,IntKind.wrap IntKind.i64 (x0.2.1+1),IntKind.wrap IntKind.u64 (IntKind.wrap IntKind.u64 (IntKind.wrap IntKind.u64 (x0.2.2.1*6364136223846793005)+IntKind.wrap IntKind.u64 (IntKind.wrap IntKind.i64 (List.getD x0.1 (Int.toNat x0.2.1) 0)))+1442695040888963407),()) else (x0.1,IntKind.wrap IntKind.i64 (x0.2.1+1),IntKind.wrap IntKind.u64 (IntKind.wrap IntKind.u64 (IntKind.wrap IntKind.u64 (x0.2.2.1*6364136223846793005)+IntKind.wrap IntKind.u64 (IntKind.wrap IntKind.i64 (List.getD x0.1 (Int.toNat x0.2.1) 0)))+1442695040888963407),())) else (if (decide (IntKind.wrap IntKind.i64 (x0.2.1+1)≤(x0.1.length:Int)))=true then (x0.1,IntKind.wrap IntKind.i64 (x0.2.1+1),IntKind.wrap IntKind.u64 (IntKind.wrap IntKind.u64 (IntKind.wrap IntKind.u64 (x0.2.2.1*6364136223846793005)+0)+1442695040888963407),()) else (x0.1,IntKind.wrap IntKind.i64 (x0.2.1+1),IntKind.wrap IntKind.u64 (IntKind.wrap IntKind.u64 (IntKind.wrap IntKind.u64 (x0.2.2.1*6364136223846793005)+0)+1442695040888963407),())))
theorem at54 (x0:List Int×Int×Int×Unit) (h:P54 x0) (K:Ctx) (q:Nat→Value):AtV Tryz.prog 54 (PostR kds54 oks54 [⟨.int .i64,g54_0 x0⟩] [some ⟨.cons (.sl (.int .u8)) YA10,[u54_0 x0]⟩] [0] q K) 62 K q [0] [.code b54] (entE 0 0 sig54 (x0,())) (entL sig54 (x0,())):=by
 unfold P54 at h
 unfold g54_0 u54_0
 by_cases b0:(decide (x0.2.1<(x0.1.length:Int)))=true
 ·try simp only [if_pos b0] at h ⊢
  obtain ⟨s0,s1,h⟩:=h
  by_cases b1:(decide (IntKind.wrap IntKind.i64 (x0.2.1+1)≤(x0.1.length:Int)))=true
  ·try simp only [if_pos b1] at h ⊢
   exact AtV.weak (AtV.ret (us:=[Option.some (Lst.mk YA7 [(x0.1,IntKind.wrap IntKind.i64 (x0.2.1+1),IntKind.wrap IntKind.u64 (IntKind.wrap IntKind.u64 (IntKind.wrap IntKind.u64 (x0.2.2.1*6364136223846793005)+IntKind.wrap IntKind.u64 (IntKind.wrap IntKind.i64 (List.getD x0.1 (Int.toNat x0.2.1) 0)))+1442695040888963407),())])]) Tryz.func54 tabOk ext54Ok mixed true [] tys54 [true,true] (a1 b0 (a1 s0 (a1 s1 (a1 b1 trivial)))) (by kernel_rfl)) ⟨.inl rfl,trivial⟩
  ·try simp only [if_neg b1] at h ⊢
   replace b1:=bf_ b1
   obtain ⟨s2,h⟩:=h
   exact AtV.weak (AtV.ret (us:=[Option.some (Lst.mk YA7 [(x0.1,IntKind.wrap IntKind.i64 (x0.2.1+1),IntKind.wrap IntKind.u64 (IntKind.wrap IntKind.u64 (IntKind.wrap IntKind.u64 (x0.2.2.1*6364136223846793005)+IntKind.wrap IntKind.u64 (IntKind.wrap IntKind.i64 (List.getD x0.1 (Int.toNat x0.2.1) 0)))+1442695040888963407),())])]) Tryz.func54 tabOk ext54Ok mixed true [] tys54 [true,false] (a1 b0 (a1 s0 (a1 s1 (a1 b1 (a1 ((by decide):(0:Int)≤(40:Int)) (a1 s2 trivial)))))) (by kernel_rfl)) ⟨.inl rfl,trivial⟩
 ·try simp only [if_neg b0] at h ⊢
  replace b0:=bf_ b0
  by_cases b1:(decide (IntKind.wrap IntKind.i64 (x0.2.1+1)≤(x0.1.length:Int)))=true
  ·try simp only [if_pos b1] at h ⊢
   exact AtV.weak (AtV.ret (us:=[Option.some (Lst.mk YA7 [(x0.1,IntKind.wrap IntKind.i64 (x0.2.1+1),IntKind.wrap IntKind.u64 (IntKind.wrap IntKind.u64 (IntKind.wrap IntKind.u64 (x0.2.2.1*6364136223846793005)+0)+1442695040888963407),())])]) Tryz.func54 tabOk ext54Ok mixed true [] tys54 [false,true] (a1 b0 (a1 b1 trivial)) (by kernel_rfl)) ⟨.inl rfl,trivial⟩
  ·try simp only [if_neg b1] at h ⊢
   replace b1:=bf_ b1
   obtain ⟨s0,h⟩:=h
   exact AtV.weak (AtV.ret (us:=[Option.some (Lst.mk YA7 [(x0.1,IntKind.wrap IntKind.i64 (x0.2.1+1),IntKind.wrap IntKind.u64 (IntKind.wrap IntKind.u64 (IntKind.wrap IntKind.u64 (x0.2.2.1*6364136223846793005)+0)+1442695040888963407),())])]) Tryz.func54 tabOk ext54Ok mixed true [] tys54 [false,false] (a1 b0 (a1 b1 (a1 ((by decide):(0:Int)≤(40:Int)) (a1 s0 trivial)))) (by kernel_rfl)) ⟨.inl rfl,trivial⟩
def S54:Am.Spec:={ sig:=sig54,pre:=fun ⟨x0,_⟩=>P54 x0,upd:=fun ⟨x0,_⟩=>[some ⟨.cons (.sl (.int .u8)) YA10,[u54_0 x0]⟩],res:=fun ⟨x0,_⟩=>[⟨.int .i64,g54_0 x0⟩],kds:=kds54 }
theorem con54:Contract Tryz.prog 54 S54:=contract_of Tryz.func54 hb54 (bl_ (by kernel_rfl)) (fun ⟨x0,_⟩ h _ K q=>at54 x0 h K q)
end
noncomputable section
def ext27:Ext:=[(54,S54)]
theorem ext27Ok:ExtOk Tryz.prog ext27:=⟨⟨ca54,con54⟩,trivial⟩
noncomputable def b27:Code:=bodyOf Tryz.f27
theorem hb27:Tryz.f27.body=some b27:=by kernel_rfl
def sig27:List AT:=[AT.pb YA7,AT.v (.int .i64)]
def tys27:List Ty:=[.int .i64]
def kds27:List RK:=[]
def oks27:List AT:=owns sig27
def P27 (x0:List Int×Int×Int×Unit) (x1:Int):Prop:=(if (decide (x1≤1))=true then True else ((P54 x0)∧(if (decide (x1>200))=true then ((InR .i64 (g54_0 x0*256))∧((P54 (u54_0 x0))∧((InR .i64 (g54_0 x0*256+g54_0 (u54_0 x0)))∧((x1≠0)∧(InR .i64 (Int.tmod (g54_0 x0*256+g54_0 (u54_0 x0)) x1))∧True)))) else ((x1≠0)∧(InR .i64 (Int.tmod (g54_0 x0) x1))∧True))))
def g27_0 (x0:List Int×Int×Int×Unit) (x1:Int):Int:=(if (decide (x1≤1))=true then 0 else (if (decide (x1>200))=true then Int.tmod (g54_0 x0*256+g54_0 (u54_0 x0)) x1 else Int.tmod (g54_0 x0) x1))
def u27_0 (x0:List Int×Int×Int×Unit) (x1:Int):List Int×Int×Int×Unit:=(if (decide (x1≤1))=true then x0 else (if (decide (x1>200))=true then u54_0 (u54_0 x0) else u54_0 x0))
theorem at27 (x0:List Int×Int×Int×Unit) (x1:Int) (h:P27 x0 x1) (K:Ctx) (q:Nat→Value):AtV Tryz.prog 27 (PostR kds27 oks27 [⟨.int .i64,g27_0 x0 x1⟩] [some ⟨.cons (.sl (.int .u8)) YA10,[u27_0 x0 x1]⟩] [0] q K) 20 K q [0] [.code b27] (entE 0 0 sig27 (x0,x1,())) (entL sig27 (x0,x1,())):=by
 unfold P27 at h
 unfold g27_0 u27_0
 by_cases b0:(decide (x1≤1))=true
 ·try simp only [if_pos b0] at h ⊢
  exact AtV.weak (AtV.ret (us:=[Option.some (Lst.mk YA7 [x0])]) Tryz.func27 tabOk ext27Ok mixed false [] tys27 [true] (a1 b0 trivial) (by kernel_rfl)) ⟨.inl rfl,trivial⟩
 ·try simp only [if_neg b0] at h ⊢
  replace b0:=bf_ b0
  obtain ⟨s0,h⟩:=h
  by_cases b1:(decide (x1>200))=true
  ·try simp only [if_pos b1] at h ⊢
   obtain ⟨s1,h⟩:=h
   obtain ⟨s2,h⟩:=h
   obtain ⟨s3,h⟩:=h
   obtain ⟨s4,s5,h⟩:=h
   exact AtV.weak (AtV.ret (us:=[Option.some (Lst.mk YA7 [u54_0 (u54_0 x0)])]) Tryz.func27 tabOk ext27Ok mixed false [] tys27 [false,true] (a1 b0 (a1 s0 (a1 b1 (a1 s1 (a1 s2 (a1 s3 (a1 s4 (a1 s5 trivial)))))))) (by kernel_rfl)) ⟨.inl rfl,trivial⟩
  ·try simp only [if_neg b1] at h ⊢
   replace b1:=bf_ b1
   obtain ⟨s1,s2,h⟩:=h
   exact AtV.weak (AtV.ret (us:=[Option.some (Lst.mk YA7 [u54_0 x0])]) Tryz.func27 tabOk ext27Ok mixed false [] tys27 [false,false] (a1 b0 (a1 s0 (a1 b1 (a1 s1 (a1 s2 trivial))))) (by kernel_rfl)) ⟨.inl rfl,trivial⟩
def S27:Am.Spec:={ sig:=sig27,pre:=fun ⟨x0,x1,_⟩=>P27 x0 x1,upd:=fun ⟨x0,x1,_⟩=>[some ⟨.cons (.sl (.int .u8)) YA10,[u27_0 x0 x1]⟩],res:=fun ⟨x0,x1,_⟩=>[⟨.int .i64,g27_0 x0 x1⟩],kds:=kds27 }
theorem con27:Contract Tryz.prog 27 S27:=contract_of Tryz.func27 hb27 (bl_ (by kernel_rfl)) (fun ⟨x0,x1,_⟩ h _ K q=>at27 x0 x1 h K q)
end
noncomputable section
def ext53:Ext:=[]
theorem ext53Ok:ExtOk Tryz.prog ext53:=trivial
noncomputable def b53:Code:=bodyOf Tryz.f53
theorem hb53:Tryz.f53.body=some b53:=by kernel_rfl
def sig53:List AT:=[AT.p YA2]
def tys53:List Ty:=[.int .i64]
def kds53:List RK:=[]
def oks53:List AT:=owns sig53
def E53_3 (v3:Int) (v4:Int) (x0:List TyB4×Int×Int×Unit):Env:=[(0,.a (.ptr YA2 x0)),(3,.a (.val (.int .i64 v3))),(4,.a (.val (.int .i64 v4)))]
def L53_3 (v3:Int) (v4:Int) (x0:List TyB4×Int×Int×Unit):Heap:=[]
mutual
def R53:Nat→List TyB4×Int×Int×Unit→List Dyn→Prop
 | 0,_,_=>False
 | n+1,x0,ds=>(R53_3 n (0) (0) (x0) ds)
def R53_3:Nat→Int→Int→List TyB4×Int×Int×Unit→List Dyn→Prop
 | 0,_,_,_,_=>False
 | n+1,v3,v4,x0,ds=>(if (decide (v4<(x0.1.length:Int)))=true then ((0≤v4)∧(v4<(x0.1.length:Int))∧((InR .i64 (v3+(List.getD x0.1 (Int.toNat v4) (0,0,())).1))∧((InR .i64 (v4+1))∧(R53_3 n (v3+(List.getD x0.1 (Int.toNat v4) (0,0,())).1) (v4+1) (x0) ds)))) else (ds=[Dyn.mk (.int .i64) v3]))
end
theorem snd53:∀ n,(∀ (x0:List TyB4×Int×Int×Unit) ds,R53 n x0 ds→∀ K q,AtV Tryz.prog 53 (PostR kds53 oks53 ds [] [] q K) 25 K q [] [.code b53] (entE 0 0 sig53 (x0,())) (entL sig53 (x0,())))∧(∀ (v3:Int) (v4:Int) (x0:List TyB4×Int×Int×Unit) ds,R53_3 n v3 v4 x0 ds→∀ K q,AtV Tryz.prog 53 (PostR kds53 oks53 ds [] [] q K) 25 K q [] (cutAt b53 3) (E53_3 v3 v4 x0) (L53_3 v3 v4 x0)):=by
 intro n
 induction n with
 | zero=>exact ⟨fun _ _ h=>by simp only [R53] at h,fun _ _ _ _ h=>by simp only [R53_3] at h⟩
 | succ n ih =>
 obtain ⟨ih,ih3⟩:=ih
 refine ⟨?_,?_⟩
 ·intro x0 ds h K q
  rw [R53] at h
  exact AtV.go tabOk ext53Ok mixed false [] [] [0,3,4] [] [] trivial (ih3 _ _ _ _ h K q) (by kernel_rfl)
 ·intro v3 v4 x0 ds h K q
  rw [R53_3] at h
  by_cases b0:(decide (v4<(x0.1.length:Int)))=true
  ·rw [if_pos b0] at h
   obtain ⟨s0,s1,h⟩:=h
   obtain ⟨s2,h⟩:=h
   obtain ⟨s3,h⟩:=h
   exact AtV.go tabOk ext53Ok mixed false [] [] [0,3,4] [] [true] (a1 b0 (a1 s0 (a1 s1 (a1 s2 (a1 s3 trivial))))) (ih3 _ _ _ _ h K q) (by kernel_rfl)
  ·rw [if_neg b0] at h
   replace b0:=bf_ b0
   subst h
   exact AtV.ret Tryz.func53 tabOk ext53Ok mixed false [] tys53 [false] (a1 b0 trivial) (by kernel_rfl)
def sum53 (xs:List TyB4):Int:=xs.foldr (fun x n=>x.1+n) 0
def g53_0 (x0:List TyB4×Int×Int×Unit):Int:=sum53 x0.1
def P53 (x0:List TyB4×Int×Int×Unit):Prop:=x0.1.length≤1000000∧∀ x∈x0.1,0≤x.1∧x.1≤1000000000
theorem run53 (x0:List TyB4×Int×Int×Unit) (hl:x0.1.length≤1000000) (hx:∀ x∈x0.1,0≤x.1∧x.1≤1000000000):∀ (k i:Nat) (v:Int),i+k=x0.1.length→0≤v→v≤1000000000*(i:Int) →
  R53_3 (k+1) v (i:Int) x0 [⟨.int .i64,v+sum53 (x0.1.drop i)⟩]:=by
 intro k
 induction k with
 | zero =>
  intro i v hi h0 h1
  rw [R53_3,if_neg (by simp only [decide_eq_true_eq];omega),drop_end _ _ (by omega)]
  simp [sum53]
 | succ k ih =>
  intro i v hi h0 h1
  have hlt:i<x0.1.length:=by omega
  have hm:=hx _ (mem_getD x0.1 i ((0:Int),(0:Int),()) hlt)
  have h:=ih (i+1) (v+(x0.1.getD i ((0:Int),(0:Int),())).1) (by omega) (by omega) (by omega)
  rw [R53_3,if_pos (by simp only [decide_eq_true_eq];omega)]
  simp only [Int.toNat_natCast]
  refine ⟨by omega,by omega,by rw [i64_iff];omega,by rw [i64_iff];omega,?_⟩
  rw [drop_get x0.1 i ((0:Int),(0:Int),()) hlt]
  have e:∀ (y:Int×Int×Unit) l,v+sum53 (y :: l)=v+y.1+sum53 l:=fun y l=>by
   show v+(y.1+sum53 l)=_;omega
  rw [e]
  exact h
theorem top53 (x0:List TyB4×Int×Int×Unit) (h:P53 x0):R53 (x0.1.length+1+1) x0 [⟨.int .i64,g53_0 x0⟩]:=by
 rw [R53]
 have:=run53 x0 h.1 h.2 x0.1.length 0 0 (by omega) (by omega) (by omega)
 simpa [g53_0] using this
def S53:Am.Spec:={ sig:=sig53,pre:=fun ⟨x0,_⟩=>P53 x0,res:=fun ⟨x0,_⟩=>[⟨.int .i64,g53_0 x0⟩] }
theorem con53:Contract Tryz.prog 53 S53:=contract_of Tryz.func53 hb53 (bl_ (by kernel_rfl)) (fun ⟨x0,_⟩ h hwf K q =>
 (snd53 _).1 x0 _ (top53 x0 h) K q)
theorem sum53_le (xs:List TyB4) (h:∀ x∈xs,0≤x.1∧x.1≤3000000):0≤sum53 xs∧sum53 xs≤3000000*(xs.length:Int):=by
 induction xs with
 | nil=>exact ⟨Int.le_refl _,Int.le_refl _⟩
 | cons x r ih =>
  obtain ⟨i1,i2⟩:=ih fun y hy=>h y (List.mem_cons_of_mem _ hy)
  obtain ⟨x1,x2⟩:=h x (List.mem_cons_self ..)
  show 0≤x.1+sum53 r∧x.1+sum53 r≤_
  simp only [List.length_cons]
  omega
end
noncomputable section
def ext90:Ext:=[(27,S27)]
theorem ext90Ok:ExtOk Tryz.prog ext90:=⟨⟨ca27,con27⟩,trivial⟩
noncomputable def b90:Code:=bodyOf Tryz.f90
theorem hb90:Tryz.f90.body=some b90:=by kernel_rfl
def sig90:List AT:=[AT.pb YA7,AT.v (.sl .str)]
def tys90:List Ty:=[.str]
def kds90:List RK:=[]
def oks90:List AT:=owns sig90
def P90 (x0:List Int×Int×Int×Unit) (x1:List ByteArray):Prop:=((P27 x0 (x1.length:Int))∧((0≤g27_0 x0 (x1.length:Int))∧(g27_0 x0 (x1.length:Int)<(x1.length:Int))∧True))
def g90_0 (x0:List Int×Int×Int×Unit) (x1:List ByteArray):ByteArray:=List.getD x1 (Int.toNat (g27_0 x0 (x1.length:Int))) ByteArray.empty
def u90_0 (x0:List Int×Int×Int×Unit) (x1:List ByteArray):List Int×Int×Int×Unit:=u27_0 x0 (x1.length:Int)
theorem at90 (x0:List Int×Int×Int×Unit) (x1:List ByteArray) (h:P90 x0 x1) (K:Ctx) (q:Nat→Value):AtV Tryz.prog 90 (PostR kds90 oks90 [⟨.str,g90_0 x0 x1⟩] [some ⟨.cons (.sl (.int .u8)) YA10,[u90_0 x0 x1]⟩] [0] q K) 12 K q [0] [.code b90] (entE 0 0 sig90 (x0,x1,())) (entL sig90 (x0,x1,())):=by
 unfold P90 at h
 unfold g90_0 u90_0
 obtain ⟨s0,h⟩:=h
 obtain ⟨s1,s2,h⟩:=h
 exact AtV.weak (AtV.ret (us:=[Option.some (Lst.mk YA7 [u27_0 x0 (x1.length:Int)])]) Tryz.func90 tabOk ext90Ok mixed false [] tys90 [] (a1 s0 (a1 s1 (a1 s2 trivial))) (by kernel_rfl)) ⟨.inl rfl,trivial⟩
def S90:Am.Spec:={ sig:=sig90,pre:=fun ⟨x0,x1,_⟩=>P90 x0 x1,upd:=fun ⟨x0,x1,_⟩=>[some ⟨.cons (.sl (.int .u8)) YA10,[u90_0 x0 x1]⟩],res:=fun ⟨x0,x1,_⟩=>[⟨.str,g90_0 x0 x1⟩],kds:=kds90 }
theorem con90:Contract Tryz.prog 90 S90:=contract_of Tryz.func90 hb90 (bl_ (by kernel_rfl)) (fun ⟨x0,x1,_⟩ h _ K q=>at90 x0 x1 h K q)
end
def SrcOk (n:Int) (s:List Int×Int×Int×Unit):Prop:=(∀ b∈s.1,0≤b∧b≤255)∧0≤s.2.1∧s.2.1≤n
theorem SrcOk.up {n m:Int} {s:List Int×Int×Int×Unit} (h:SrcOk n s) (hm:n≤m):SrcOk m s:=⟨h.1,h.2.1,Int.le_trans h.2.2 hm⟩
theorem src_start {x:List Int} (hw:Wf (.sl (.int .u8)) x):SrcOk 0 (x,0,0,()):=by
 refine ⟨fun b hb => ?_,Int.le_refl _,Int.le_refl _⟩
 have:=hw.2 b hb
 exact (u8_iff b).1 this
theorem wrap_small {n:Int} (h1 : -9223372036854775808≤n) (h2:n≤9223372036854775807):IntKind.wrap .i64 n=n:=wrap_of_inR ((i64_iff n).2 ⟨h1,h2⟩)
theorem src_u64 (n:Int):InR .u64 n↔0≤n∧n≤18446744073709551615:=by
 have e1:(IntKind.u64).min=0:=by decide
 have e2:(IntKind.u64).max=18446744073709551615:=by decide
 simp only [InR,e1,e2]
theorem seed_in (z:Int):InR .u64 (Int.fdiv (IntKind.wrap .u64 z) 1099511627776):=by
 have h:=(src_u64 _).1 (wrap_inR .u64 z)
 rw [src_u64,Int.fdiv_eq_ediv_of_nonneg _ (by decide)]
 omega
theorem low_byte (z:Int):0≤IntKind.wrap .i64 (IntKind.wrap .u64 ((BitVec.toNat (BitVec.ofInt 64 z &&& BitVec.ofInt 64 255):Nat):Int))∧IntKind.wrap .i64 (IntKind.wrap .u64 ((BitVec.toNat (BitVec.ofInt 64 z &&& BitVec.ofInt 64 255):Nat):Int))≤255:=by
 have h:BitVec.toNat (BitVec.ofInt 64 z &&& BitVec.ofInt 64 255)≤255:=by
  rw [BitVec.toNat_and]
  exact Nat.le_trans Nat.and_le_right (by decide)
 have e:IntKind.wrap .u64 ((BitVec.toNat (BitVec.ofInt 64 z &&& BitVec.ofInt 64 255):Nat):Int)=((BitVec.toNat (BitVec.ofInt 64 z &&& BitVec.ofInt 64 255):Nat):Int):=wrap_of_inR ((src_u64 _).2 (by omega))
 rw [e,wrap_small (by omega) (by omega)]
 omega
theorem next_ok {n:Int} {s:List Int×Int×Int×Unit} (h:SrcOk n s) (hn:n≤4611686018427387904) :
  P54 s∧SrcOk (n+1) (u54_0 s)∧0≤g54_0 s∧g54_0 s≤255:=by
 obtain ⟨h1,h2,h3⟩:=h
 have e:IntKind.wrap .i64 (s.2.1+1)=s.2.1+1:=wrap_small (by omega) (by omega)
 unfold P54 u54_0 g54_0 SrcOk
 by_cases hc:s.2.1<(s.1.length:Int)
 ·have hb:=h1 _ (mem_getD s.1 s.2.1.toNat 0 (by omega))
  have eb:IntKind.wrap .i64 (s.1.getD s.2.1.toNat 0)=s.1.getD s.2.1.toNat 0:=wrap_small (by omega) (by omega)
  by_cases hd:s.2.1+1≤(s.1.length:Int)
  ·simp only [hc,e,hd,decide_true,if_true,eb]
   exact ⟨⟨h2,trivial,trivial⟩,⟨h1,by omega,by omega⟩,hb⟩
  ·omega
 ·by_cases hd:s.2.1+1≤(s.1.length:Int)
  ·omega
  ·simp only [hc,e,hd,decide_false,Bool.false_eq_true,if_false]
   exact ⟨⟨seed_in _,trivial⟩,⟨h1,by omega,by omega⟩,low_byte _⟩
theorem tmod_in {x m:Int} (hx:0≤x) (hx2:x≤65535) (hm:1≤m):InR .i64 (Int.tmod x m)∧0≤Int.tmod x m∧Int.tmod x m<m:=by
 rw [Int.tmod_eq_emod_of_nonneg hx,i64_iff]
 have h1:=Int.emod_nonneg x (show m≠0 by omega)
 have h2:=Int.emod_lt_of_pos x (show 0<m by omega)
 have h3:x % m≤x:=by
  rcases Int.lt_or_le x m with h | h
  ·rw [Int.emod_eq_of_lt hx h];exact Int.le_refl _
  ·omega
 exact ⟨⟨by omega,by omega⟩,h1,h2⟩
theorem pick_ok {n:Int} {s:List Int×Int×Int×Unit} (h:SrcOk n s) (m:Int) (hn:n≤4611686018427387902) :
  P27 s m∧SrcOk (n+2) (u27_0 s m)∧0≤g27_0 s m∧(1≤m→g27_0 s m<m)∧(m≤1→g27_0 s m=0):=by
 obtain ⟨p1,s1,a1,b1⟩:=next_ok h (by omega)
 obtain ⟨p2,s2,a2,b2⟩:=next_ok s1 (by omega)
 unfold P27 u27_0 g27_0
 by_cases hm:m≤1
 ·simp only [hm,decide_true,if_true]
  exact ⟨trivial,h.up (by omega),by omega,fun _=>by omega,by first | trivial | exact fun _=>rfl⟩
 ·by_cases hb:m>200
  ·simp only [hm,hb,decide_true,decide_false,Bool.false_eq_true,if_true,if_false]
   obtain ⟨t1,t2,t3⟩:=tmod_in (x:=g54_0 s*256+g54_0 (u54_0 s)) (m:=m) (by omega) (by omega) (by omega)
   exact ⟨⟨p1,by rw [i64_iff];omega,p2,by rw [i64_iff];omega,by omega,t1,trivial⟩,s2.up (by omega),t2,fun _=>t3,by first | trivial | exact fun h=>absurd h (by simp)⟩
  ·simp only [hm,hb,decide_true,decide_false,Bool.false_eq_true,if_true,if_false]
   obtain ⟨t1,t2,t3⟩:=tmod_in (x:=g54_0 s) (m:=m) a1 (by omega) (by omega)
   exact ⟨⟨p1,by omega,t1,trivial⟩,s1.up (by omega),t2,fun _=>t3,by first | trivial | exact fun h=>absurd h (by simp)⟩
theorem SrcOk.self {n:Int} {s:(List Int×Int×Int×Unit)} (h:SrcOk n s):SrcOk s.2.1 s:=⟨h.1,h.2.1,Int.le_refl _⟩
theorem SrcOk.at_le {n:Int} {s:(List Int×Int×Int×Unit)} (h:SrcOk n s):s.2.1≤n:=h.2.2
theorem text_ok {n:Int} {s:(List Int×Int×Int×Unit)} (h:SrcOk n s) (l:List ByteArray) (hl:1≤l.length) (hn:n≤4611686018427387902) :
  P90 s l∧SrcOk (n+2) (u90_0 s l)∧g90_0 s l∈l:=by
 obtain ⟨p,s1,a,b,_⟩:=pick_ok h (l.length:Int) hn
 have b:=b (by omega)
 exact ⟨⟨p,a,b,trivial⟩,s1,mem_getD l _ ByteArray.empty (by omega)⟩
noncomputable section
def ext26:Ext:=[(27,S27),(53,S53)]
theorem ext26Ok:ExtOk Tryz.prog ext26:=⟨⟨ca27,con27⟩,⟨ca53,con53⟩,trivial⟩
noncomputable def b26:Code:=bodyOf Tryz.f26
theorem hb26:Tryz.f26.body=some b26:=by kernel_rfl
def sig26:List AT:=[AT.pb YA7]
def tys26:List Ty:=[.cons (.sl YA11) YA11]
def kds26:List RK:=[.frz]
def oks26:List AT:=owns sig26
def E26_3 (v4:Int) (h3:List TyB4) (x0:List Int×Int×Int×Unit):Env:=[(0,.a (.optr 0 0 [])),(2,.a (.bptr 1 0 YA2)),(3,.a (.bptr 2 0 YA2)),(4,.a (.val (.int .i64 v4)))]
def L26_3 (v4:Int) (h3:List TyB4) (x0:List Int×Int×Int×Unit):Heap:=[Option.some (Arr.mk YA7 [u27_0 x0 5] true Option.none (Option.some true)),Option.some (Arr.mk YA2 [] false (Option.some [Leaf.val (Value.slice Option.none 0 0),Leaf.val (Value.int .i64 0),Leaf.val (Value.int .i64 0)]) Option.none),Option.some (Arr.mk YA2 [] false (Option.some [Leaf.osl 3 Option.none,Leaf.val (Value.int .i64 0),Leaf.val (Value.int .i64 0)]) Option.none),Option.some (Arr.mk YA11 h3 false Option.none Option.none)]
mutual
def R26:Nat→List Int×Int×Int×Unit→List Dyn→List (Option Lst)→Prop
 | 0,_,_,_=>False
 | n+1,x0,ds,us=>((P27 x0 5)∧((InR .i64 (1+g27_0 x0 5))∧(R26_3 n (1+g27_0 x0 5) ([]) (x0) ds us)))
def R26_3:Nat→Int→List TyB4→List Int×Int×Int×Unit→List Dyn→List (Option Lst)→Prop
 | 0,_,_,_,_,_=>False
 | n+1,v4,h3,x0,ds,us=>(if (decide (v4>0))=true then ((P27 (u27_0 x0 5) 200)∧((InR .i64 (1000*g27_0 (u27_0 x0 5) 200))∧((InR .i64 (20000+1000*g27_0 (u27_0 x0 5) 200))∧((P27 (u27_0 (u27_0 x0 5) 200) 60)∧((InR .i64 (10*g27_0 (u27_0 (u27_0 x0 5) 200) 60))∧((InR .i64 (50+10*g27_0 (u27_0 (u27_0 x0 5) 200) 60))∧(((List.length h3+1)*16≤140737488355328)∧((InR .i64 (v4 - 1))∧(R26_3 n (v4 - 1) (h3++[(20000+1000*g27_0 (u27_0 x0 5) 200,50+10*g27_0 (u27_0 (u27_0 x0 5) 200) 60,())]) (u27_0 (u27_0 x0 5) 200) ds us))))))))) else ((P53 (h3,0,0,()))∧((P27 (u27_0 x0 5) 5)∧((InR .i64 (1000*g27_0 (u27_0 x0 5) 5))∧((InR .i64 (5000+1000*g27_0 (u27_0 x0 5) 5))∧((InR .i64 (Int.tdiv (g53_0 (h3,0,0,())) 2))∧((InR .i64 (Int.tdiv (g53_0 (h3,0,0,())) 2 - (5000+1000*g27_0 (u27_0 x0 5) 5)))∧((InR .i64 (g53_0 (h3,0,0,()) - (Int.tdiv (g53_0 (h3,0,0,())) 2 - (5000+1000*g27_0 (u27_0 x0 5) 5))))∧(ds=[Dyn.mk YA2 (h3,Int.tdiv (g53_0 (h3,0,0,())) 2 - (5000+1000*g27_0 (u27_0 x0 5) 5),g53_0 (h3,0,0,()) - (Int.tdiv (g53_0 (h3,0,0,())) 2 - (5000+1000*g27_0 (u27_0 x0 5) 5)),())]∧us=[Option.some (Lst.mk YA7 [u27_0 (u27_0 x0 5) 5])])))))))))
end
theorem snd26:∀ n,(∀ (x0:List Int×Int×Int×Unit) ds us,R26 n x0 ds us→∀ K q,AtV Tryz.prog 26 (PostR kds26 oks26 ds us [0] q K) 48 K q [0] [.code b26] (entE 0 0 sig26 (x0,())) (entL sig26 (x0,())))∧(∀ (v4:Int) (h3:List TyB4) (x0:List Int×Int×Int×Unit) ds us,R26_3 n v4 h3 x0 ds us→∀ K q,AtV Tryz.prog 26 (PostR kds26 oks26 ds us [0] q K) 48 K q [0] (cutAt b26 3) (E26_3 v4 h3 x0) (L26_3 v4 h3 x0)):=by
 intro n
 induction n with
 | zero=>exact ⟨fun _ _ _ h=>by simp only [R26] at h,fun _ _ _ _ _ h=>by simp only [R26_3] at h⟩
 | succ n ih =>
 obtain ⟨ih,ih3⟩:=ih
 refine ⟨?_,?_⟩
 ·intro x0 ds us h K q
  rw [R26] at h
  obtain ⟨s0,h⟩:=h
  obtain ⟨s1,h⟩:=h
  exact AtV.go tabOk ext26Ok mixed false [] [(1000003,.cons (.int .i64) (.cons (.int .i64) .unit))] [0,2,3,4] [0,1,2,3] [] (a1 s0 (a1 s1 trivial)) (ih3 _ _ _ _ _ h K q) (by kernel_rfl)
 ·intro v4 h3 x0 ds us h K q
  rw [R26_3] at h
  by_cases b0:(decide (v4>0))=true
  ·rw [if_pos b0] at h
   obtain ⟨s0,h⟩:=h
   obtain ⟨s1,h⟩:=h
   obtain ⟨s2,h⟩:=h
   obtain ⟨s3,h⟩:=h
   obtain ⟨s4,h⟩:=h
   obtain ⟨s5,h⟩:=h
   obtain ⟨s6,h⟩:=h
   obtain ⟨s7,h⟩:=h
   exact AtV.go tabOk ext26Ok mixed false [] [(1000003,.cons (.int .i64) (.cons (.int .i64) .unit))] [0,2,3,4] [0,1,2,3] [true] (a1 b0 (a1 s0 (a1 s1 (a1 s2 (a1 s3 (a1 s4 (a1 s5 (a1 s6 (a1 s7 trivial))))))))) (ih3 _ _ _ _ _ h K q) (by kernel_rfl)
  ·rw [if_neg b0] at h
   replace b0:=bf_ b0
   obtain ⟨s0,h⟩:=h
   obtain ⟨s1,h⟩:=h
   obtain ⟨s2,h⟩:=h
   obtain ⟨s3,h⟩:=h
   obtain ⟨s4,h⟩:=h
   obtain ⟨s5,h⟩:=h
   obtain ⟨s6,h⟩:=h
   obtain ⟨h,h'⟩:=h;subst h;subst h'
   exact AtV.ret Tryz.func26 tabOk ext26Ok mixed false [] tys26 [false] (a1 b0 (a1 s0 (a1 s1 (a1 s2 (a1 s3 (a1 ((by decide):(2:Int)≠(0:Int)) (a1 s4 (a1 s5 (a1 s6 trivial))))))))) (by kernel_rfl)
abbrev TT26:=List TyB4×Int×Int×Unit
abbrev TY26:Ty := .cons (.sl (.cons (.int .i64) (.cons (.int .i64) .unit))) (.cons (.int .i64) (.cons (.int .i64) .unit))
def P26 (x0:(List Int×Int×Int×Unit)):Prop:=SrcOk 800000000 x0
def bnd26 (y:TT26):Prop:=(-1000000000≤y.2.1∧y.2.1≤1000000000)∧(-1000000000≤y.2.2.1∧y.2.2.1≤1000000000)
def Q26 (x0:(List Int×Int×Int×Unit)) (y:TT26) (s:(List Int×Int×Int×Unit)):Prop:=SrcOk (x0.2.1+1000) s∧bnd26 y∧∃ n,R26 n x0 [⟨TY26,y⟩] [some ⟨(.cons (.sl (.int .u8)) (.cons (.int .i64) (.cons (.int .u64) .unit))),[s]⟩]
theorem run26:∀ (k:Nat) (v:Int) (h:List TyB4) (x:(List Int×Int×Int×Unit)) (m:Int),v=(k:Int)→SrcOk m (u27_0 x 5)→m+4*(k:Int)≤900000000→h.length+k≤5→(∀ y∈h,0≤y.1∧y.1≤3000000) →
  ∃ (n:Nat) (y:TT26) (z:(List Int×Int×Int×Unit)),SrcOk (m+4*(k:Int)+2) z∧bnd26 y∧R26_3 n v h x [⟨TY26,y⟩] [some ⟨(.cons (.sl (.int .u8)) (.cons (.int .i64) (.cons (.int .u64) .unit))),[z]⟩]:=by
 intro k
 induction k with
 | zero =>
  intro v h x m hv hs hm hl hb
  obtain ⟨p1,s1,a1,b1,_⟩:=pick_ok hs 5 (by omega)
  have b1:=b1 (by decide)
  have hL:0≤g53_0 (h,0,0,())∧g53_0 (h,0,0,())≤3000000*(h.length:Int):=sum53_le h hb
  have e:Int.tdiv (g53_0 (h,0,0,())) 2=g53_0 (h,0,0,()) / 2:=Int.tdiv_eq_ediv_of_nonneg hL.1
  refine ⟨1,(h,Int.tdiv (g53_0 (h,0,0,())) 2 - (5000+1000*g27_0 (u27_0 x 5) 5),g53_0 (h,0,0,()) - (Int.tdiv (g53_0 (h,0,0,())) 2 - (5000+1000*g27_0 (u27_0 x 5) 5)),()),_,s1.up (by omega),?_,?_⟩
  ·unfold bnd26
   show (-1000000000≤Int.tdiv _ 2 - _∧Int.tdiv _ 2 - _≤(1000000000:Int))∧(-1000000000≤_ - (Int.tdiv _ 2 - _)∧_ - (Int.tdiv _ 2 - _)≤(1000000000:Int))
   omega
  ·rw [R26_3,if_neg (by simp only [decide_eq_true_eq];omega)]
   exact ⟨⟨by show h.length≤1000000;omega,fun y hy=>by have:=hb y hy;omega⟩,p1,by rw [i64_iff];omega,by rw [i64_iff];omega,by rw [i64_iff];omega,by rw [i64_iff];omega,by rw [i64_iff];omega,rfl,rfl⟩
 | succ k ih =>
  intro v h x m hv hs hm hl hb
  obtain ⟨p1,s1,a1,b1,_⟩:=pick_ok hs 200 (by omega)
  have b1:=b1 (by decide)
  obtain ⟨p2,s2,a2,b2,_⟩:=pick_ok s1 60 (by omega)
  have b2:=b2 (by decide)
  obtain ⟨_,s3,_⟩:=pick_ok s1 5 (by omega)
  obtain ⟨n,y,z,e1,e2,e3⟩:=ih (v - 1) (h++[(20000+1000*g27_0 (u27_0 x 5) 200,50+10*g27_0 (u27_0 (u27_0 x 5) 200) 60,())]) _ _ (by omega) s3 (by omega) (by rw [List.length_append,List.length_singleton];omega) (fun y hy=>by
   rcases List.mem_append.1 hy with hy | hy
   ·exact hb y hy
   ·rw [List.mem_singleton.1 hy]
    show 0≤20000+1000*_∧20000+1000*_≤(3000000:Int)
    omega)
  refine ⟨n+1,y,z,e1.up (by omega),e2,?_⟩
  rw [R26_3,if_pos (by simp only [decide_eq_true_eq];omega)]
  exact ⟨p1,by rw [i64_iff];omega,by rw [i64_iff];omega,p2,by rw [i64_iff];omega,by rw [i64_iff];omega,by omega,by rw [i64_iff];omega,e3⟩
theorem ex26 (x0:(List Int×Int×Int×Unit)) (h:P26 x0):∃ y s,Q26 x0 y s:=by
 have h0:x0.2.1≤800000000:=h.2.2
 obtain ⟨p1,s1,a,b,_⟩:=pick_ok (SrcOk.self h) 5 (by omega)
 have b:=b (by decide)
 obtain ⟨n,y,t,a1,a2,a3⟩:=run26 (1+g27_0 x0 5).toNat (1+g27_0 x0 5) [] x0 _ (by omega) s1 (by omega) (by simp;omega) (fun x hx=>by cases hx)
 exact ⟨y,t,a1.up (by omega),a2,n+1,by rw [R26];exact ⟨p1,by rw [i64_iff];omega,a3⟩⟩
def g26_0 (x0:(List Int×Int×Int×Unit)):TT26:=(sel2 ([],0,0,()) x0 (Q26 x0)).1
def u26_0 (x0:(List Int×Int×Int×Unit)):(List Int×Int×Int×Unit):=(sel2 (([],0,0,()):TT26) x0 (Q26 x0)).2
theorem q26 (x0:(List Int×Int×Int×Unit)) (h:P26 x0):Q26 x0 (g26_0 x0) (u26_0 x0):=by
 obtain ⟨y,s,hq⟩:=ex26 x0 h
 exact sel2_spec hq
def S26:Am.Spec:={ sig:=sig26,pre:=fun ⟨x0,_⟩=>P26 x0,upd:=fun ⟨x0,_⟩=>[some ⟨(.cons (.sl (.int .u8)) (.cons (.int .i64) (.cons (.int .u64) .unit))),[u26_0 x0]⟩],res:=fun ⟨x0,_⟩=>[⟨TY26,g26_0 x0⟩],kds:=kds26 }
theorem con26:Contract Tryz.prog 26 S26:=contract_of Tryz.func26 hb26 (bl_ (by kernel_rfl)) (fun ⟨x0,_⟩ h hwf K q =>
 let ⟨n,hn⟩:=(q26 x0 h).2.2
 (snd26 n).1 x0 _ _ hn K q)
end
noncomputable section
def ext28:Ext:=[(27,S27)]
theorem ext28Ok:ExtOk Tryz.prog ext28:=⟨⟨ca27,con27⟩,trivial⟩
noncomputable def b28:Code:=bodyOf Tryz.f28
theorem hb28:Tryz.f28.body=some b28:=by kernel_rfl
def sig28:List AT:=[AT.pb YA7]
def tys28:List Ty:=[.cons (.int .i64) YA8]
def kds28:List RK:=[]
def oks28:List AT:=owns sig28
def P28 (x0:List Int×Int×Int×Unit):Prop:=((P27 x0 40)∧((InR .i64 (10*g27_0 x0 40))∧((InR .i64 (100+10*g27_0 x0 40))∧((P27 (u27_0 x0 40) 6)∧((InR .i64 (100*g27_0 (u27_0 x0 40) 6))∧((InR .i64 (300+100*g27_0 (u27_0 x0 40) 6))∧((P27 (u27_0 (u27_0 x0 40) 6) 80)∧((InR .i64 (100*g27_0 (u27_0 (u27_0 x0 40) 6) 80))∧((InR .i64 (2000+100*g27_0 (u27_0 (u27_0 x0 40) 6) 80))∧((P27 (u27_0 (u27_0 (u27_0 x0 40) 6) 80) 8)∧((InR .i64 (500*g27_0 (u27_0 (u27_0 (u27_0 x0 40) 6) 80) 8))∧True)))))))))))
def g28_0 (x0:List Int×Int×Int×Unit):Int×Int×Int×Int×Unit:=(100+10*g27_0 x0 40,2000+100*g27_0 (u27_0 (u27_0 x0 40) 6) 80,300+100*g27_0 (u27_0 x0 40) 6,500*g27_0 (u27_0 (u27_0 (u27_0 x0 40) 6) 80) 8,())
def u28_0 (x0:List Int×Int×Int×Unit):List Int×Int×Int×Unit:=u27_0 (u27_0 (u27_0 (u27_0 x0 40) 6) 80) 8
theorem at28 (x0:List Int×Int×Int×Unit) (h:P28 x0) (K:Ctx) (q:Nat→Value):AtV Tryz.prog 28 (PostR kds28 oks28 [⟨.cons (.int .i64) YA8,g28_0 x0⟩] [some ⟨.cons (.sl (.int .u8)) YA10,[u28_0 x0]⟩] [0] q K) 23 K q [0] [.code b28] (entE 0 0 sig28 (x0,())) (entL sig28 (x0,())):=by
 unfold P28 at h
 unfold g28_0 u28_0
 obtain ⟨s0,h⟩:=h
 obtain ⟨s1,h⟩:=h
 obtain ⟨s2,h⟩:=h
 obtain ⟨s3,h⟩:=h
 obtain ⟨s4,h⟩:=h
 obtain ⟨s5,h⟩:=h
 obtain ⟨s6,h⟩:=h
 obtain ⟨s7,h⟩:=h
 obtain ⟨s8,h⟩:=h
 obtain ⟨s9,h⟩:=h
 obtain ⟨s10,h⟩:=h
 exact AtV.weak (AtV.ret (us:=[Option.some (Lst.mk YA7 [u27_0 (u27_0 (u27_0 (u27_0 x0 40) 6) 80) 8])]) Tryz.func28 tabOk ext28Ok mixed false [] tys28 [] (a1 s0 (a1 s1 (a1 s2 (a1 s3 (a1 s4 (a1 s5 (a1 s6 (a1 s7 (a1 s8 (a1 s9 (a1 s10 trivial))))))))))) (by kernel_rfl)) ⟨.inl rfl,trivial⟩
def S28:Am.Spec:={ sig:=sig28,pre:=fun ⟨x0,_⟩=>P28 x0,upd:=fun ⟨x0,_⟩=>[some ⟨.cons (.sl (.int .u8)) YA10,[u28_0 x0]⟩],res:=fun ⟨x0,_⟩=>[⟨.cons (.int .i64) YA8,g28_0 x0⟩],kds:=kds28 }
theorem con28:Contract Tryz.prog 28 S28:=contract_of Tryz.func28 hb28 (bl_ (by kernel_rfl)) (fun ⟨x0,_⟩ h _ K q=>at28 x0 h K q)
end
noncomputable section
def ext55:Ext:=[(27,S27)]
theorem ext55Ok:ExtOk Tryz.prog ext55:=⟨⟨ca27,con27⟩,trivial⟩
noncomputable def b55:Code:=bodyOf Tryz.f55
theorem hb55:Tryz.f55.body=some b55:=by kernel_rfl
def sig55:List AT:=[AT.pb YA7,AT.v (.str)]
def tys55:List Ty:=[.cons .str YA8]
def kds55:List RK:=[]
def oks55:List AT:=owns sig55
def P55 (x0:List Int×Int×Int×Unit) (x1:ByteArray):Prop:=((P27 x0 20)∧((InR .i64 (1+g27_0 x0 20))∧((P27 (u27_0 x0 20) 6)∧((P27 (u27_0 (u27_0 x0 20) 6) 30)∧((InR .i64 (10*g27_0 (u27_0 (u27_0 x0 20) 6) 30))∧True)))))
def g55_0 (x0:List Int×Int×Int×Unit) (x1:ByteArray):ByteArray×Int×Int×Int×Unit:=(x1,1+g27_0 x0 20,g27_0 (u27_0 x0 20) 6,10*g27_0 (u27_0 (u27_0 x0 20) 6) 30,())
def u55_0 (x0:List Int×Int×Int×Unit) (x1:ByteArray):List Int×Int×Int×Unit:=u27_0 (u27_0 (u27_0 x0 20) 6) 30
theorem at55 (x0:List Int×Int×Int×Unit) (x1:ByteArray) (h:P55 x0 x1) (K:Ctx) (q:Nat→Value):AtV Tryz.prog 55 (PostR kds55 oks55 [⟨.cons .str YA8,g55_0 x0 x1⟩] [some ⟨.cons (.sl (.int .u8)) YA10,[u55_0 x0 x1]⟩] [0] q K) 18 K q [0] [.code b55] (entE 0 0 sig55 (x0,x1,())) (entL sig55 (x0,x1,())):=by
 unfold P55 at h
 unfold g55_0 u55_0
 obtain ⟨s0,h⟩:=h
 obtain ⟨s1,h⟩:=h
 obtain ⟨s2,h⟩:=h
 obtain ⟨s3,h⟩:=h
 obtain ⟨s4,h⟩:=h
 exact AtV.weak (AtV.ret (us:=[Option.some (Lst.mk YA7 [u27_0 (u27_0 (u27_0 x0 20) 6) 30])]) Tryz.func55 tabOk ext55Ok mixed false [] tys55 [] (a1 s0 (a1 s1 (a1 s2 (a1 s3 (a1 s4 trivial))))) (by kernel_rfl)) ⟨.inl rfl,trivial⟩
def S55:Am.Spec:={ sig:=sig55,pre:=fun ⟨x0,x1,_⟩=>P55 x0 x1,upd:=fun ⟨x0,x1,_⟩=>[some ⟨.cons (.sl (.int .u8)) YA10,[u55_0 x0 x1]⟩],res:=fun ⟨x0,x1,_⟩=>[⟨.cons .str YA8,g55_0 x0 x1⟩],kds:=kds55 }
theorem con55:Contract Tryz.prog 55 S55:=contract_of Tryz.func55 hb55 (bl_ (by kernel_rfl)) (fun ⟨x0,x1,_⟩ h _ K q=>at55 x0 x1 h K q)
end
noncomputable section
def ext29:Ext:=[(27,S27),(55,S55)]
theorem ext29Ok:ExtOk Tryz.prog ext29:=⟨⟨ca27,con27⟩,⟨ca55,con55⟩,trivial⟩
noncomputable def b29:Code:=bodyOf Tryz.f29
theorem hb29:Tryz.f29.body=some b29:=by kernel_rfl
def sig29:List AT:=[AT.pb YA7]
def tys29:List Ty:=[.sl YA5]
def kds29:List RK:=[]
def oks29:List AT:=owns sig29
def E29_4 (v5:Int) (h2:List TyB1) (x0:List Int×Int×Int×Unit):Env:=[(0,.a (.optr 0 0 [])),(3,.a (.osl 1 Option.none)),(4,.a (.osl 2 Option.none)),(5,.a (.val (.int .i64 v5)))]
def L29_4 (v5:Int) (h2:List TyB1) (x0:List Int×Int×Int×Unit):Heap:=[Option.some (Arr.mk YA7 [x0] true Option.none (Option.some true)),Option.some (Arr.mk .str [ByteArray.mk #[103,97],ByteArray.mk #[103,98],ByteArray.mk #[103,99],ByteArray.mk #[103,100],ByteArray.mk #[103,101],ByteArray.mk #[103,102]] false Option.none Option.none),Option.some (Arr.mk YA5 h2 false Option.none Option.none)]
mutual
def R29:Nat→List Int×Int×Int×Unit→List Dyn→List (Option Lst)→Prop
 | 0,_,_,_=>False
 | n+1,x0,ds,us=>(R29_4 n (0) ([]) (x0) ds us)
def R29_4:Nat→Int→List TyB1→List Int×Int×Int×Unit→List Dyn→List (Option Lst)→Prop
 | 0,_,_,_,_,_=>False
 | n+1,v5,h2,x0,ds,us=>(if (decide (v5<6))=true then ((P27 x0 3)∧(if (decide (g27_0 x0 3>0))=true then ((0≤v5)∧(v5<6)∧((P55 (u27_0 x0 3) (List.getD [ByteArray.mk #[103,97],ByteArray.mk #[103,98],ByteArray.mk #[103,99],ByteArray.mk #[103,100],ByteArray.mk #[103,101],ByteArray.mk #[103,102]] (Int.toNat v5) ByteArray.empty))∧(((List.length h2+1)*40≤140737488355328)∧((InR .i64 (v5+1))∧(R29_4 n (v5+1) (h2++[(List.getD [ByteArray.mk #[103,97],ByteArray.mk #[103,98],ByteArray.mk #[103,99],ByteArray.mk #[103,100],ByteArray.mk #[103,101],ByteArray.mk #[103,102]] (Int.toNat v5) ByteArray.empty,1+g27_0 (u27_0 x0 3) 20,g27_0 (u27_0 (u27_0 x0 3) 20) 6,10*g27_0 (u27_0 (u27_0 (u27_0 x0 3) 20) 6) 30,())]) (u55_0 (u27_0 x0 3) (List.getD [ByteArray.mk #[103,97],ByteArray.mk #[103,98],ByteArray.mk #[103,99],ByteArray.mk #[103,100],ByteArray.mk #[103,101],ByteArray.mk #[103,102]] (Int.toNat v5) ByteArray.empty)) ds us))))) else ((InR .i64 (v5+1))∧(R29_4 n (v5+1) (h2) (u27_0 x0 3) ds us)))) else (ds=[Dyn.mk (.sl YA5) h2]∧us=[Option.some (Lst.mk YA7 [x0])]))
end
theorem snd29:∀ n,(∀ (x0:List Int×Int×Int×Unit) ds us,R29 n x0 ds us→∀ K q,AtV Tryz.prog 29 (PostR kds29 oks29 ds us [0] q K) 27 K q [0] [.code b29] (entE 0 0 sig29 (x0,())) (entL sig29 (x0,())))∧(∀ (v5:Int) (h2:List TyB1) (x0:List Int×Int×Int×Unit) ds us,R29_4 n v5 h2 x0 ds us→∀ K q,AtV Tryz.prog 29 (PostR kds29 oks29 ds us [0] q K) 27 K q [0] (cutAt b29 4) (E29_4 v5 h2 x0) (L29_4 v5 h2 x0)):=by
 intro n
 induction n with
 | zero=>exact ⟨fun _ _ _ h=>by simp only [R29] at h,fun _ _ _ _ _ h=>by simp only [R29_4] at h⟩
 | succ n ih =>
 obtain ⟨ih,ih4⟩:=ih
 refine ⟨?_,?_⟩
 ·intro x0 ds us h K q
  rw [R29] at h
  exact AtV.go tabOk ext29Ok mixed false [] [] [0,3,4,5] [0,1,2] [] trivial (ih4 _ _ _ _ _ h K q) (by kernel_rfl)
 ·intro v5 h2 x0 ds us h K q
  rw [R29_4] at h
  by_cases b0:(decide (v5<6))=true
  ·rw [if_pos b0] at h
   obtain ⟨s0,h⟩:=h
   by_cases b1:(decide (g27_0 x0 3>0))=true
   ·rw [if_pos b1] at h
    obtain ⟨s1,s2,h⟩:=h
    obtain ⟨s3,h⟩:=h
    obtain ⟨s4,h⟩:=h
    obtain ⟨s5,h⟩:=h
    exact AtV.go tabOk ext29Ok mixed false [] [] [0,3,4,5] [0,1,2] [true,true] (a1 b0 (a1 s0 (a1 b1 (a1 s1 (a1 s2 (a1 s3 (a1 s4 (a1 s5 trivial)))))))) (ih4 _ _ _ _ _ h K q) (by kernel_rfl)
   ·rw [if_neg b1] at h
    replace b1:=bf_ b1
    obtain ⟨s1,h⟩:=h
    exact AtV.go tabOk ext29Ok mixed false [] [] [0,3,4,5] [0,1,2] [true,false] (a1 b0 (a1 s0 (a1 b1 (a1 s1 trivial)))) (ih4 _ _ _ _ _ h K q) (by kernel_rfl)
  ·rw [if_neg b0] at h
   replace b0:=bf_ b0
   obtain ⟨h,h'⟩:=h;subst h;subst h'
   exact AtV.ret Tryz.func29 tabOk ext29Ok mixed false [] tys29 [false] (a1 b0 trivial) (by kernel_rfl)
abbrev TT29:=ByteArray×Int×Int×Int×Unit
abbrev TY29:Ty := .cons .str (.cons (.int .i64) (.cons (.int .i64) (.cons (.int .i64) .unit)))
def NM29:List ByteArray:=[ByteArray.mk #[103,97],ByteArray.mk #[103,98],ByteArray.mk #[103,99],ByteArray.mk #[103,100],ByteArray.mk #[103,101],ByteArray.mk #[103,102]]
def P29 (x0:(List Int×Int×Int×Unit)):Prop:=SrcOk 800000000 x0
def Q29 (x0:(List Int×Int×Int×Unit)) (y:List TT29) (s:(List Int×Int×Int×Unit)):Prop:=SrcOk (x0.2.1+1000) s∧(y.length≤6)∧∃ n,R29 n x0 [⟨.sl TY29,y⟩] [some ⟨(.cons (.sl (.int .u8)) (.cons (.int .i64) (.cons (.int .u64) .unit))),[s]⟩]
theorem one29 {n:Int} {s:(List Int×Int×Int×Unit)} (h:SrcOk n s) (hn:n≤1000000000) (x:ByteArray):P55 s x∧SrcOk (n+6) (u55_0 s x):=by
 obtain ⟨p1,s1,a1,b1,_⟩:=pick_ok h 20 (by omega)
 obtain ⟨p2,s2,a2,b2,_⟩:=pick_ok s1 6 (by omega)
 obtain ⟨p3,s3,a3,b3,_⟩:=pick_ok s2 30 (by omega)
 have b1:=b1 (by decide)
 have b3:=b3 (by decide)
 exact ⟨⟨p1,by rw [i64_iff];omega,p2,p3,by rw [i64_iff];omega,trivial⟩,s3.up (by omega)⟩
theorem run29:∀ (k i:Nat) (s:(List Int×Int×Int×Unit)) (h:List TT29) (m:Int),i+k=6→SrcOk m s→m+20*(k:Int)≤900000000→h.length≤i →
  ∃ (n:Nat) (y:List TT29) (z:(List Int×Int×Int×Unit)),SrcOk (m+20*(k:Int)) z∧(y.length≤6)∧R29_4 n (i:Int) h s [⟨.sl TY29,y⟩] [some ⟨(.cons (.sl (.int .u8)) (.cons (.int .i64) (.cons (.int .u64) .unit))),[z]⟩]:=by
 intro k
 induction k with
 | zero =>
  intro i s h m hi hs hm hl
  have:i=6:=by omega
  subst this
  refine ⟨1,h,s,hs.up (by omega),hl,?_⟩
  rw [R29_4,if_neg (by decide)]
  exact ⟨rfl,rfl⟩
 | succ k ih =>
  intro i s h m hi hs hm hl
  have e3:(i:Int)+1=((i+1:Nat):Int):=by omega
  obtain ⟨p1,s1,_,_,_⟩:=pick_ok hs 3 (by omega)
  by_cases hc:g27_0 s 3>0
  ·obtain ⟨p2,s2⟩:=one29 s1 (by omega) (NM29.getD i ByteArray.empty)
   obtain ⟨n,y,z,a1,a2,a3⟩:=ih (i+1) _ (h++[g55_0 (u27_0 s 3) (NM29.getD i ByteArray.empty)]) (m+2+6) (by omega) s2 (by omega) (by rw [List.length_append,List.length_singleton];omega)
   refine ⟨n+1,y,z,a1.up (by omega),a2,?_⟩
   rw [R29_4,if_pos (by simp only [decide_eq_true_eq];omega),if_pos (decide_eq_true hc),e3]
   simp only [Int.toNat_natCast]
   exact ⟨p1,by omega,by omega,p2,by omega,by rw [i64_iff];omega,a3⟩
  ·obtain ⟨n,y,z,a1,a2,a3⟩:=ih (i+1) _ h (m+2) (by omega) s1 (by omega) (by omega)
   refine ⟨n+1,y,z,a1.up (by omega),a2,?_⟩
   rw [R29_4,if_pos (by simp only [decide_eq_true_eq];omega),if_neg (by simp only [decide_eq_true_eq];exact hc),e3]
   exact ⟨p1,by rw [i64_iff];omega,a3⟩
theorem ex29 (x0:(List Int×Int×Int×Unit)) (h:P29 x0):∃ y s,Q29 x0 y s:=by
 have h0:x0.2.1≤800000000:=h.2.2
 obtain ⟨n,y,t,a1,a2,a3⟩:=run29 6 0 x0 [] _ (by omega) (SrcOk.self h) (by omega) (by simp)
 exact ⟨y,t,a1.up (by omega),a2,n+1,by rw [R29];exact a3⟩
def g29_0 (x0:(List Int×Int×Int×Unit)):List TT29:=(sel2 [] x0 (Q29 x0)).1
def u29_0 (x0:(List Int×Int×Int×Unit)):(List Int×Int×Int×Unit):=(sel2 ([]:List TT29) x0 (Q29 x0)).2
theorem q29 (x0:(List Int×Int×Int×Unit)) (h:P29 x0):Q29 x0 (g29_0 x0) (u29_0 x0):=by
 obtain ⟨y,s,hq⟩:=ex29 x0 h
 exact sel2_spec hq
def S29:Am.Spec:={ sig:=sig29,pre:=fun ⟨x0,_⟩=>P29 x0,upd:=fun ⟨x0,_⟩=>[some ⟨(.cons (.sl (.int .u8)) (.cons (.int .i64) (.cons (.int .u64) .unit))),[u29_0 x0]⟩],res:=fun ⟨x0,_⟩=>[⟨.sl TY29,g29_0 x0⟩],kds:=kds29 }
theorem con29:Contract Tryz.prog 29 S29:=contract_of Tryz.func29 hb29 (bl_ (by kernel_rfl)) (fun ⟨x0,_⟩ h hwf K q =>
 let ⟨n,hn⟩:=(q29 x0 h).2.2
 (snd29 n).1 x0 _ _ hn K q)
end
noncomputable section
def ext56:Ext:=[(90,S90)]
theorem ext56Ok:ExtOk Tryz.prog ext56:=⟨⟨ca90,con90⟩,trivial⟩
noncomputable def b56:Code:=bodyOf Tryz.f56
theorem hb56:Tryz.f56.body=some b56:=by kernel_rfl
def sig56:List AT:=[AT.pb YA7]
def tys56:List Ty:=[.str]
def kds56:List RK:=[]
def oks56:List AT:=owns sig56
def P56 (x0:List Int×Int×Int×Unit):Prop:=((P90 x0 [ByteArray.mk #[114,105,100,101,32,49,50],ByteArray.mk #[115,116,111,112,32,119,105,110,100],ByteArray.mk #[111,112,101,110],ByteArray.mk #[114,111,112,101,32,116,101,115,116,32,112,97,115,115,101,100],ByteArray.mk #[102,97,117,108,116,32,100,111,111,114,32,98],ByteArray.mk #[114,105,100,101]])∧True)
def g56_0 (x0:List Int×Int×Int×Unit):ByteArray:=g90_0 x0 [ByteArray.mk #[114,105,100,101,32,49,50],ByteArray.mk #[115,116,111,112,32,119,105,110,100],ByteArray.mk #[111,112,101,110],ByteArray.mk #[114,111,112,101,32,116,101,115,116,32,112,97,115,115,101,100],ByteArray.mk #[102,97,117,108,116,32,100,111,111,114,32,98],ByteArray.mk #[114,105,100,101]]
def u56_0 (x0:List Int×Int×Int×Unit):List Int×Int×Int×Unit:=u90_0 x0 [ByteArray.mk #[114,105,100,101,32,49,50],ByteArray.mk #[115,116,111,112,32,119,105,110,100],ByteArray.mk #[111,112,101,110],ByteArray.mk #[114,111,112,101,32,116,101,115,116,32,112,97,115,115,101,100],ByteArray.mk #[102,97,117,108,116,32,100,111,111,114,32,98],ByteArray.mk #[114,105,100,101]]
theorem at56 (x0:List Int×Int×Int×Unit) (h:P56 x0) (K:Ctx) (q:Nat→Value):AtV Tryz.prog 56 (PostR kds56 oks56 [⟨.str,g56_0 x0⟩] [some ⟨.cons (.sl (.int .u8)) YA10,[u56_0 x0]⟩] [0] q K) 6 K q [0] [.code b56] (entE 0 0 sig56 (x0,())) (entL sig56 (x0,())):=by
 unfold P56 at h
 unfold g56_0 u56_0
 obtain ⟨s0,h⟩:=h
 exact AtV.weak (AtV.ret (us:=[Option.some (Lst.mk YA7 [u90_0 x0 [ByteArray.mk #[114,105,100,101,32,49,50],ByteArray.mk #[115,116,111,112,32,119,105,110,100],ByteArray.mk #[111,112,101,110],ByteArray.mk #[114,111,112,101,32,116,101,115,116,32,112,97,115,115,101,100],ByteArray.mk #[102,97,117,108,116,32,100,111,111,114,32,98],ByteArray.mk #[114,105,100,101]]])]) Tryz.func56 tabOk ext56Ok mixed false [] tys56 [] (a1 s0 trivial) (by kernel_rfl)) ⟨.inl rfl,trivial⟩
def S56:Am.Spec:={ sig:=sig56,pre:=fun ⟨x0,_⟩=>P56 x0,upd:=fun ⟨x0,_⟩=>[some ⟨.cons (.sl (.int .u8)) YA10,[u56_0 x0]⟩],res:=fun ⟨x0,_⟩=>[⟨.str,g56_0 x0⟩],kds:=kds56 }
theorem con56:Contract Tryz.prog 56 S56:=contract_of Tryz.func56 hb56 (bl_ (by kernel_rfl)) (fun ⟨x0,_⟩ h _ K q=>at56 x0 h K q)
end
noncomputable section
def ext57:Ext:=[(27,S27)]
theorem ext57Ok:ExtOk Tryz.prog ext57:=⟨⟨ca27,con27⟩,trivial⟩
noncomputable def b57:Code:=bodyOf Tryz.f57
theorem hb57:Tryz.f57.body=some b57:=by kernel_rfl
def sig57:List AT:=[AT.pb YA7,AT.v (.int .i64)]
def tys57:List Ty:=[.bool]
def kds57:List RK:=[]
def oks57:List AT:=owns sig57
def P57 (x0:List Int×Int×Int×Unit) (x1:Int):Prop:=((P27 x0 x1)∧True)
def g57_0 (x0:List Int×Int×Int×Unit) (x1:Int):Bool:=g27_0 x0 x1==0
def u57_0 (x0:List Int×Int×Int×Unit) (x1:Int):List Int×Int×Int×Unit:=u27_0 x0 x1
theorem at57 (x0:List Int×Int×Int×Unit) (x1:Int) (h:P57 x0 x1) (K:Ctx) (q:Nat→Value):AtV Tryz.prog 57 (PostR kds57 oks57 [⟨.bool,g57_0 x0 x1⟩] [some ⟨.cons (.sl (.int .u8)) YA10,[u57_0 x0 x1]⟩] [0] q K) 9 K q [0] [.code b57] (entE 0 0 sig57 (x0,x1,())) (entL sig57 (x0,x1,())):=by
 unfold P57 at h
 unfold g57_0 u57_0
 obtain ⟨s0,h⟩:=h
 exact AtV.weak (AtV.ret (us:=[Option.some (Lst.mk YA7 [u27_0 x0 x1])]) Tryz.func57 tabOk ext57Ok mixed false [] tys57 [] (a1 s0 trivial) (by kernel_rfl)) ⟨.inl rfl,trivial⟩
def S57:Am.Spec:={ sig:=sig57,pre:=fun ⟨x0,x1,_⟩=>P57 x0 x1,upd:=fun ⟨x0,x1,_⟩=>[some ⟨.cons (.sl (.int .u8)) YA10,[u57_0 x0 x1]⟩],res:=fun ⟨x0,x1,_⟩=>[⟨.bool,g57_0 x0 x1⟩],kds:=kds57 }
theorem con57:Contract Tryz.prog 57 S57:=contract_of Tryz.func57 hb57 (bl_ (by kernel_rfl)) (fun ⟨x0,x1,_⟩ h _ K q=>at57 x0 x1 h K q)
end
noncomputable section
def ext135:Ext:=[]
theorem ext135Ok:ExtOk Tryz.prog ext135:=trivial
noncomputable def b135:Code:=bodyOf Tryz.f135
theorem hb135:Tryz.f135.body=some b135:=by kernel_rfl
def sig135:List AT:=[AT.v (.int .i64)]
def tys135:List Ty:=[.str]
def kds135:List RK:=[]
def oks135:List AT:=owns sig135
def E135_5 (v4:Int) (h0:List Int) (x0:Int):Env:=[(0,.a (.val (.int .i64 x0))),(3,.a (.osl 0 Option.none)),(4,.a (.val (.int .i64 v4)))]
def L135_5 (v4:Int) (h0:List Int) (x0:Int):Heap:=[Option.some (Arr.mk (.int .u8) h0 false Option.none Option.none)]
def E135_15 (v7:Int) (h0:List Int) (h1:List Int):Env:=[(3,.a (.osl 0 Option.none)),(6,.a (.osl 1 Option.none)),(7,.a (.val (.int .i64 v7)))]
def L135_15 (v7:Int) (h0:List Int) (h1:List Int):Heap:=[Option.some (Arr.mk (.int .u8) h0 false Option.none Option.none),Option.some (Arr.mk (.int .u8) h1 false Option.none Option.none)]
mutual
def R135:Nat→Int→List Dyn→Prop
 | 0,_,_=>False
 | n+1,x0,ds=>(if (x0==0)=true then (ds=[Dyn.mk .str (ByteArray.mk #[48])]) else (R135_5 n (x0) ([]) (x0) ds))
def R135_5:Nat→Int→List Int→Int→List Dyn→Prop
 | 0,_,_,_,_=>False
 | n+1,v4,h0,x0,ds=>(if (v4 != 0)=true then ((InR .i64 (Int.tmod v4 10))∧(if (decide (Int.tmod v4 10<0))=true then ((InR .i64 (0 - Int.tmod v4 10))∧((InR .i64 (48+(0 - Int.tmod v4 10)))∧((InR .u8 (48+(0 - Int.tmod v4 10)))∧(((List.length h0+1)*1≤140737488355328)∧((InR .i64 (Int.tdiv v4 10))∧(R135_5 n (Int.tdiv v4 10) (h0++[48+(0 - Int.tmod v4 10)]) (x0) ds)))))) else ((InR .i64 (48+Int.tmod v4 10))∧((InR .u8 (48+Int.tmod v4 10))∧(((List.length h0+1)*1≤140737488355328)∧((InR .i64 (Int.tdiv v4 10))∧(R135_5 n (Int.tdiv v4 10) (h0++[48+Int.tmod v4 10]) (x0) ds))))))) else (if (decide (x0<0))=true then (((List.length h0+1)*1≤140737488355328)∧((InR .i64 ((↑(List.length (h0++[45])):Int) - 1))∧(R135_15 n ((↑(List.length (h0++[45])):Int) - 1) (h0++[45]) ([]) ds))) else ((InR .i64 ((h0.length:Int) - 1))∧(R135_15 n ((h0.length:Int) - 1) (h0) ([]) ds))))
def R135_15:Nat→Int→List Int→List Int→List Dyn→Prop
 | 0,_,_,_,_=>False
 | n+1,v7,h0,h1,ds=>(if (decide (v7≥0))=true then ((0≤v7)∧(v7<(h0.length:Int))∧(((List.length h1+1)*1≤140737488355328)∧((InR .i64 (v7 - 1))∧(R135_15 n (v7 - 1) (h0) (h1++[List.getD h0 (Int.toNat v7) 0]) ds)))) else (ds=[Dyn.mk .str (bytesStr h1)]))
end
theorem snd135:∀ n,(∀ (x0:Int) ds,R135 n x0 ds→∀ K q,AtV Tryz.prog 135 (PostR kds135 oks135 ds [] [] q K) 50 K q [] [.code b135] (entE 0 0 sig135 (x0,())) (entL sig135 (x0,())))∧(∀ (v4:Int) (h0:List Int) (x0:Int) ds,R135_5 n v4 h0 x0 ds→∀ K q,AtV Tryz.prog 135 (PostR kds135 oks135 ds [] [] q K) 50 K q [] (cutAt b135 5) (E135_5 v4 h0 x0) (L135_5 v4 h0 x0))∧(∀ (v7:Int) (h0:List Int) (h1:List Int) ds,R135_15 n v7 h0 h1 ds→∀ K q,AtV Tryz.prog 135 (PostR kds135 oks135 ds [] [] q K) 50 K q [] (cutAt b135 15) (E135_15 v7 h0 h1) (L135_15 v7 h0 h1)):=by
 intro n
 induction n with
 | zero=>exact ⟨fun _ _ h=>by simp only [R135] at h,fun _ _ _ _ h=>by simp only [R135_5] at h,fun _ _ _ _ h=>by simp only [R135_15] at h⟩
 | succ n ih =>
 obtain ⟨ih,ih5,ih15⟩:=ih
 refine ⟨?_,?_,?_⟩
 ·intro x0 ds h K q
  rw [R135] at h
  by_cases b0:(x0==0)=true
  ·rw [if_pos b0] at h
   subst h
   exact AtV.ret Tryz.func135 tabOk ext135Ok mixed false [] tys135 [true] (a1 b0 trivial) (by kernel_rfl)
  ·rw [if_neg b0] at h
   replace b0:=bf_ b0
   exact AtV.go tabOk ext135Ok mixed false [] [] [0,3,4] [0] [false] (a1 b0 trivial) (ih5 _ _ _ _ h K q) (by kernel_rfl)
 ·intro v4 h0 x0 ds h K q
  rw [R135_5] at h
  by_cases b0:(v4 != 0)=true
  ·rw [if_pos b0] at h
   obtain ⟨s0,h⟩:=h
   by_cases b1:(decide (Int.tmod v4 10<0))=true
   ·rw [if_pos b1] at h
    obtain ⟨s1,h⟩:=h
    obtain ⟨s2,h⟩:=h
    obtain ⟨s3,h⟩:=h
    obtain ⟨s4,h⟩:=h
    obtain ⟨s5,h⟩:=h
    exact AtV.go tabOk ext135Ok mixed false [] [] [0,3,4] [0] [true,true] (a1 b0 (a1 ((by decide):(10:Int)≠(0:Int)) (a1 s0 (a1 b1 (a1 s1 (a1 s2 (a1 s3 (a1 s4 (a1 ((by decide):(10:Int)≠(0:Int)) (a1 s5 trivial)))))))))) (ih5 _ _ _ _ h K q) (by kernel_rfl)
   ·rw [if_neg b1] at h
    replace b1:=bf_ b1
    obtain ⟨s1,h⟩:=h
    obtain ⟨s2,h⟩:=h
    obtain ⟨s3,h⟩:=h
    obtain ⟨s4,h⟩:=h
    exact AtV.go tabOk ext135Ok mixed false [] [] [0,3,4] [0] [true,false] (a1 b0 (a1 ((by decide):(10:Int)≠(0:Int)) (a1 s0 (a1 b1 (a1 s1 (a1 s2 (a1 s3 (a1 ((by decide):(10:Int)≠(0:Int)) (a1 s4 trivial))))))))) (ih5 _ _ _ _ h K q) (by kernel_rfl)
  ·rw [if_neg b0] at h
   replace b0:=bf_ b0
   by_cases b1:(decide (x0<0))=true
   ·rw [if_pos b1] at h
    obtain ⟨s0,h⟩:=h
    obtain ⟨s1,h⟩:=h
    exact AtV.go tabOk ext135Ok mixed false [] [] [3,6,7] [0,2] [false,true] (a1 b0 (a1 b1 (a1 s0 (a1 s1 trivial)))) (ih15 _ _ _ _ h K q) (by kernel_rfl)
   ·rw [if_neg b1] at h
    replace b1:=bf_ b1
    obtain ⟨s0,h⟩:=h
    exact AtV.go tabOk ext135Ok mixed false [] [] [3,6,7] [0,1] [false,false] (a1 b0 (a1 b1 (a1 s0 trivial))) (ih15 _ _ _ _ h K q) (by kernel_rfl)
 ·intro v7 h0 h1 ds h K q
  rw [R135_15] at h
  by_cases b0:(decide (v7≥0))=true
  ·rw [if_pos b0] at h
   obtain ⟨s0,s1,h⟩:=h
   obtain ⟨s2,h⟩:=h
   obtain ⟨s3,h⟩:=h
   exact AtV.go tabOk ext135Ok mixed false [] [] [3,6,7] [0,1] [true] (a1 b0 (a1 s0 (a1 s1 (a1 s2 (a1 s3 trivial))))) (ih15 _ _ _ _ h K q) (by kernel_rfl)
  ·rw [if_neg b0] at h
   replace b0:=bf_ b0
   subst h
   exact AtV.ret Tryz.func135 tabOk ext135Ok mixed false [] tys135 [false] (a1 b0 trivial) (by kernel_rfl)
def g135_0 (x0:Int):ByteArray:=numB x0
def P135 (x0:Int):Prop:=True
theorem bstr135 (xs:List Int):bytesStr xs=⟨⟨xs.map fun n=>UInt8.ofNat n.toNat⟩⟩:=by
 have key:∀ (xs:List Int) (s:ByteArray),(xs.foldl (fun r n=>r.push (UInt8.ofNat n.toNat)) s).data.toList=s.data.toList++xs.map fun n=>UInt8.ofNat n.toNat:=by
  intro xs
  induction xs with
  | nil=>intro s;simp
  | cons a r ih =>
   intro s
   rw [List.foldl_cons,ih]
   show (s.data.push _).toList++_=_
   rw [Array.toList_push]
   simp
 apply ByteArray.ext
 apply Array.ext'
 have:=key xs ByteArray.empty
 unfold bytesStr
 rw [this]
 rfl
theorem bstrB135 (l:List UInt8):bytesStr (l.map fun b=>(b.toNat:Int))=⟨⟨l⟩⟩:=by
 rw [bstr135,List.map_map]
 congr 2
 conv=>rhs;rw [← List.map_id l]
 refine List.map_congr_left fun b _ => ?_
 show UInt8.ofNat ((b.toNat:Int)).toNat=b
 rw [Int.toNat_natCast,UInt8.ofNat_toNat]
def rd135 (m:Nat):List Int:=if h:m=0 then [] else ((48+m % 10:Nat):Int) :: rd135 (m / 10)
termination_by m
decreasing_by omega
theorem rd0135:rd135 0=[]:=by rw [rd135,dif_pos rfl]
theorem rds135 {m:Nat} (h:m≠0):rd135 m=((48+m % 10:Nat):Int) :: rd135 (m / 10):=by rw [rd135,dif_neg h]
theorem rdl135 : ∀ (k m : Nat), m < 10 ^ k → (rd135 m).length ≤ k
  | 0, m, h => by obtain rfl : m = 0 := by simpa using h
                  rw [rd0135]; exact Nat.le_refl _
  | k + 1, m, h => by
    by_cases h0 : m = 0
    · rw [h0, rd0135]; exact Nat.zero_le _
    · rw [rds135 h0, List.length_cons]
      have := rdl135 k (m / 10) (by rw [Nat.pow_succ] at h; omega)
      omega
theorem rdd135 (m:Nat) (h:m≠0):bytesStr (rd135 m).reverse=⟨⟨Lib.decDigits m⟩⟩:=by
 have key:∀ m:Nat,m≠0→(rd135 m).reverse=(Lib.decDigits m).map fun b=>(b.toNat:Int):=by
  intro m
  induction m using Nat.strongRecOn with
  | _ m ih =>
   intro h
   rw [rds135 h,List.reverse_cons,Lib.decDigits]
   have e:(UInt8.ofNat (48+m % 10)).toNat=48+m % 10:=by rw [UInt8.toNat_ofNat'];omega
   split
   ·rename_i hs
    rw [show m / 10=0 by omega,rd0135]
    have e':(UInt8.ofNat (48+m)).toNat=48+m % 10:=by rw [UInt8.toNat_ofNat'];omega
    rw [List.map_singleton,e']
    rfl
   ·rw [ih (m / 10) (by omega) (by omega),List.map_append,List.map_singleton,e]
 rw [key m h]
 exact bstrB135 _
theorem back135 (h0:List Int):∀ (j:Nat) (h1:List Int),j≤h0.length→h1.length+j≤64→R135_15 (j+1) ((j:Int) - 1) h0 h1 [⟨.str,bytesStr (h1++(h0.take j).reverse)⟩]
 | 0,h1,_,_=>by
  rw [R135_15,if_neg (by decide)]
  simp
 | j+1,h1,hj,hl=>by
  have ih:=back135 h0 j (h1++[h0.getD j 0]) (by omega) (by rw [List.length_append,List.length_singleton];omega)
  have e:((j+1:Nat):Int) - 1=(j:Int):=by omega
  rw [R135_15,e,if_pos (by simp only [decide_eq_true_eq];omega),Int.toNat_natCast]
  refine ⟨by omega,by omega,by omega,by rw [i64_iff];omega,?_⟩
  have et:(h0.take (j+1)).reverse=h0.getD j 0 :: (h0.take j).reverse:=by
   have hlt:j<h0.length:=by omega
   rw [List.take_add_one,List.getElem?_eq_getElem hlt,List.reverse_append,List.getD_eq_getElem?_getD,List.getElem?_eq_getElem hlt]
   rfl
  rw [et]
  rw [List.append_assoc] at ih
  exact ih
theorem last135 (x0:Int) (h0:List Int) (hl:h0.length≤20):R135_5 ((if x0<0 then h0.length+1 else h0.length)+1+1) 0 h0 x0 [⟨.str,bytesStr ((if x0<0 then h0++[45] else h0)).reverse⟩]:=by
 rw [R135_5,if_neg (by decide)]
 by_cases hx:x0<0
 ·have b:=back135 (h0++[45]) (h0.length+1) [] (by rw [List.length_append,List.length_singleton];omega) (by simp;omega)
  have e:(h0++[(45:Int)]).length=h0.length+1:=by rw [List.length_append,List.length_singleton]
  rw [List.take_of_length_le (by omega)] at b
  simp only [hx,decide_true,if_true]
  rw [e]
  exact ⟨by omega,by rw [i64_iff];omega,b⟩
 ·have b:=back135 h0 h0.length [] (Nat.le_refl _) (by simp;omega)
  rw [List.take_of_length_le (Nat.le_refl _)] at b
  simp only [hx,decide_false,Bool.false_eq_true,if_false]
  exact ⟨by rw [i64_iff];omega,b⟩
theorem run135 (x0:Int) (ds:List Dyn) (F:List Int) (K:Nat) (hF:R135_5 K 0 F x0 ds):∀ (m:Nat) (v:Int) (h0:List Int),(v=(m:Int)∨v = -(m:Int))→m≤9223372036854775808→InR .i64 v→h0.length+(rd135 m).length≤20→h0++rd135 m=F→R135_5 ((rd135 m).length+K) v h0 x0 ds:=by
 intro m
 induction m using Nat.strongRecOn with
 | _ m ih =>
  intro v h0 hv hm hi hl he
  by_cases h:m=0
  ·subst h
   obtain rfl:v=0:=by omega
   rw [rd0135] at he ⊢
   rw [List.append_nil] at he
   rw [he,List.length_nil,Nat.zero_add]
   exact hF
  ·have hr:=rds135 h
   rw [hr] at he hl ⊢
   rw [List.length_cons] at hl ⊢
   have hne:(v != 0)=true:=by
    have:v≠0:=by omega
    simpa using this
   rw [i64_iff] at hi
   have e1:(rd135 (m / 10)).length+1+K=((rd135 (m / 10)).length+K)+1:=by omega
   have next:∀ v',(v'=((m / 10:Nat):Int)∨v' = -((m / 10:Nat):Int))→R135_5 ((rd135 (m / 10)).length+K) v' (h0++[((48+m % 10:Nat):Int)]) x0 ds:=fun v' hv' =>
    ih (m / 10) (by omega) v' _ hv' (by omega) (by rw [i64_iff];omega) (by rw [List.length_append,List.length_singleton];omega) (by rw [List.append_assoc];exact he)
   rw [e1,R135_5,if_pos hne]
   rcases hv with rfl | rfl
   ·have t1:Int.tmod (m:Int) 10=((m % 10:Nat):Int):=rfl
    have t2:Int.tdiv (m:Int) 10=((m / 10:Nat):Int):=rfl
    rw [t1,t2]
    refine ⟨by rw [i64_iff];omega,?_⟩
    rw [if_neg (by simp only [decide_eq_true_eq];omega)]
    have e2:48+((m % 10:Nat):Int)=((48+m % 10:Nat):Int):=by omega
    rw [e2]
    exact ⟨by rw [i64_iff];omega,by rw [u8_iff];omega,by omega,by rw [i64_iff];omega,next _ (.inl rfl)⟩
   ·have t1:Int.tmod (-(m:Int)) 10 = -((m % 10:Nat):Int):=by rw [Int.neg_tmod];rfl
    have t2:Int.tdiv (-(m:Int)) 10 = -((m / 10:Nat):Int):=by rw [Int.neg_tdiv];rfl
    rw [t1,t2]
    refine ⟨by rw [i64_iff];omega,?_⟩
    by_cases hz:m % 10=0
    ·rw [if_neg (by simp only [decide_eq_true_eq];omega)]
     have e2:48 + -((m % 10:Nat):Int)=((48+m % 10:Nat):Int):=by omega
     rw [e2]
     exact ⟨by rw [i64_iff];omega,by rw [u8_iff];omega,by omega,by rw [i64_iff];omega,next _ (.inr rfl)⟩
    ·rw [if_pos (by simp only [decide_eq_true_eq];omega)]
     have e2:48+(0 - -((m % 10:Nat):Int))=((48+m % 10:Nat):Int):=by omega
     rw [e2]
     exact ⟨by rw [i64_iff];omega,by rw [i64_iff];omega,by rw [u8_iff];omega,by omega,by rw [i64_iff];omega,next _ (.inr rfl)⟩
theorem top135 (x0:Int) (hi:InR .i64 x0):∃ n,R135 n x0 [⟨.str,g135_0 x0⟩]:=by
 unfold g135_0 numB Lib.itoa
 by_cases h:x0=0
 ·subst h
  refine ⟨1,?_⟩
  rw [R135,if_pos (by rfl),if_neg (by decide)]
  have e:Lib.decDigits (Int.toNat 0)=[48]:=by rw [Lib.decDigits,dif_pos (by decide)];rfl
  rw [e]
 ·have hi':=hi
  rw [i64_iff] at hi'
  have hn:x0.natAbs≠0:=by omega
  have hl:=rdl135 19 x0.natAbs (by omega)
  refine ⟨(rd135 x0.natAbs).length+((if x0<0 then (rd135 x0.natAbs).length+1 else (rd135 x0.natAbs).length)+1+1)+1,?_⟩
  rw [R135,if_neg (by simpa using h)]
  have hlast:=last135 x0 (rd135 x0.natAbs) (by omega)
  have hrun:=run135 x0 _ (rd135 x0.natAbs) _ hlast x0.natAbs x0 [] (by omega) (by omega) hi (by simp;omega) rfl
  have e:bytesStr (if x0<0 then rd135 x0.natAbs++[45] else rd135 x0.natAbs).reverse=⟨(if x0<0 then 45 :: Lib.decDigits x0.natAbs else Lib.decDigits x0.toNat).toArray⟩:=by
   by_cases hx:x0<0
   ·rw [if_pos hx,if_pos hx,List.reverse_append]
    show bytesStr ((45:Int) :: (rd135 x0.natAbs).reverse)=_
    have:=rdd135 x0.natAbs hn
    have e0:bytesStr ((45:Int) :: (rd135 x0.natAbs).reverse)=⟨⟨45 :: (bytesStr (rd135 x0.natAbs).reverse).data.toList⟩⟩:=by rw [bstr135,bstr135];rfl
    rw [e0,this]
   ·rw [if_neg hx,if_neg hx,rdd135 x0.natAbs hn,show x0.natAbs=x0.toNat by omega]
  rw [e] at hrun
  exact hrun
def S135:Am.Spec:={ sig:=sig135,pre:=fun ⟨x0,_⟩=>P135 x0,res:=fun ⟨x0,_⟩=>[⟨.str,g135_0 x0⟩] }
theorem con135:Contract Tryz.prog 135 S135:=contract_of Tryz.func135 hb135 (bl_ (by kernel_rfl)) (fun ⟨x0,_⟩ h hwf K q=>by
 obtain ⟨n,hn⟩:=top135 x0 hwf.1
 exact (snd135 n).1 x0 _ hn K q)
end
noncomputable section
def ext115:Ext:=[(135,S135)]
theorem ext115Ok:ExtOk Tryz.prog ext115:=⟨⟨ca135,con135⟩,trivial⟩
noncomputable def b115:Code:=bodyOf Tryz.f115
theorem hb115:Tryz.f115.body=some b115:=by kernel_rfl
def sig115:List AT:=[AT.v (.int .i64),AT.v (.int .i64),AT.v (.str)]
def tys115:List Ty:=[.str]
def kds115:List RK:=[]
def oks115:List AT:=owns sig115
def P115 (x0:Int) (x1:Int) (x2:ByteArray):Prop:=((ByteArray.size (g135_0 x0)+1≤9223372036854775807)∧((ByteArray.size (g135_0 x0++ByteArray.mk #[32])+ByteArray.size (g135_0 x1)≤9223372036854775807)∧((ByteArray.size (g135_0 x0++ByteArray.mk #[32]++g135_0 x1)+1≤9223372036854775807)∧((ByteArray.size (g135_0 x0++ByteArray.mk #[32]++g135_0 x1++ByteArray.mk #[32])+ByteArray.size x2≤9223372036854775807)∧True))))
def g115_0 (x0:Int) (x1:Int) (x2:ByteArray):ByteArray:=g135_0 x0++ByteArray.mk #[32]++g135_0 x1++ByteArray.mk #[32]++x2
theorem at115 (x0:Int) (x1:Int) (x2:ByteArray) (h:P115 x0 x1 x2) (K:Ctx) (q:Nat→Value):AtV Tryz.prog 115 (PostR kds115 oks115 [⟨.str,g115_0 x0 x1 x2⟩] [] [] q K) 16 K q [] [.code b115] (entE 0 0 sig115 (x0,x1,x2,())) (entL sig115 (x0,x1,x2,())):=by
 unfold P115 at h
 unfold g115_0
 obtain ⟨s0,h⟩:=h
 obtain ⟨s1,h⟩:=h
 obtain ⟨s2,h⟩:=h
 obtain ⟨s3,h⟩:=h
 exact AtV.ret Tryz.func115 tabOk ext115Ok mixed false [] tys115 [] (a1 trivial (a1 s0 (a1 trivial (a1 s1 (a1 s2 (a1 s3 trivial)))))) (by kernel_rfl)
def S115:Am.Spec:={ sig:=sig115,pre:=fun ⟨x0,x1,x2,_⟩=>P115 x0 x1 x2,res:=fun ⟨x0,x1,x2,_⟩=>[⟨.str,g115_0 x0 x1 x2⟩],kds:=kds115 }
theorem con115:Contract Tryz.prog 115 S115:=contract_of Tryz.func115 hb115 (bl_ (by kernel_rfl)) (fun ⟨x0,x1,x2,_⟩ h _ K q=>at115 x0 x1 x2 h K q)
end
noncomputable section
def ext114:Ext:=[]
theorem ext114Ok:ExtOk Tryz.prog ext114:=trivial
noncomputable def b114:Code:=bodyOf Tryz.f114
theorem hb114:Tryz.f114.body=some b114:=by kernel_rfl
def sig114:List AT:=[AT.v (.str),AT.v (.int .i64)]
def tys114:List Ty:=[.int .i64]
def kds114:List RK:=[]
def oks114:List AT:=owns sig114
def E114_2 (v5:Int) (x0:ByteArray) (x1:Int):Env:=[(0,.a (.val (.string x0))),(1,.a (.val (.int .i64 x1))),(5,.a (.val (.int .i64 v5)))]
def L114_2 (v5:Int) (x0:ByteArray) (x1:Int):Heap:=[]
def E114_6 (v1:Int) (v6:Int) (x0:ByteArray) (v5:Int):Env:=[(0,.a (.val (.string x0))),(1,.a (.val (.int .i64 v1))),(5,.a (.val (.int .i64 v5))),(6,.a (.val (.int .i64 v6)))]
def L114_6 (v1:Int) (v6:Int) (x0:ByteArray) (v5:Int):Heap:=[]
mutual
def R114:Nat→ByteArray→Int→List Dyn→Prop
 | 0,_,_,_=>False
 | n+1,x0,x1,ds=>(R114_2 n (0) (x0) (x1) ds)
def R114_2:Nat→Int→ByteArray→Int→List Dyn→Prop
 | 0,_,_,_,_=>False
 | n+1,v5,x0,x1,ds=>(if (decide (v5<(↑(ByteArray.size x0):Int)))=true then ((0≤v5)∧(v5<(↑(ByteArray.size x0):Int))∧((InR .i64 (↑(UInt8.toNat (List.getD (Array.toList (ByteArray.data x0)) (Int.toNat v5) 0)):Int))∧(R114_6 n (IntKind.wrap IntKind.i64 (↑(BitVec.toNat (BitVec.ofInt 64 x1 ^^^ BitVec.ofInt 64 (IntKind.wrap IntKind.i64 ((↑(UInt8.toNat (List.getD (Array.toList (ByteArray.data x0)) (Int.toNat v5) 0)):Int)*256)))):Int)) (0) (x0) (v5) ds))) else (ds=[Dyn.mk (.int .i64) x1]))
def R114_6:Nat→Int→Int→ByteArray→Int→List Dyn→Prop
 | 0,_,_,_,_,_=>False
 | n+1,v1,v6,x0,v5,ds=>(if (decide (v6<8))=true then (if (decide (IntKind.wrap IntKind.i64 (v1*2)>65535))=true then ((InR .i64 (v6+1))∧(R114_6 n (IntKind.wrap IntKind.i64 (↑(BitVec.toNat (BitVec.ofInt 64 (IntKind.wrap IntKind.i64 (↑(BitVec.toNat (BitVec.ofInt 64 (IntKind.wrap IntKind.i64 (v1*2)) &&& BitVec.ofInt 64 65535)):Int)) ^^^ BitVec.ofInt 64 4129)):Int)) (v6+1) (x0) (v5) ds)) else ((InR .i64 (v6+1))∧(R114_6 n (IntKind.wrap IntKind.i64 (v1*2)) (v6+1) (x0) (v5) ds))) else ((InR .i64 (v5+1))∧(R114_2 n (v5+1) (x0) (v1) ds)))
end
theorem snd114:∀ n,(∀ (x0:ByteArray) (x1:Int) ds,R114 n x0 x1 ds→∀ K q,AtV Tryz.prog 114 (PostR kds114 oks114 ds [] [] q K) 32 K q [] [.code b114] (entE 0 0 sig114 (x0,x1,())) (entL sig114 (x0,x1,())))∧(∀ (v5:Int) (x0:ByteArray) (x1:Int) ds,R114_2 n v5 x0 x1 ds→∀ K q,AtV Tryz.prog 114 (PostR kds114 oks114 ds [] [] q K) 32 K q [] (cutAt b114 2) (E114_2 v5 x0 x1) (L114_2 v5 x0 x1))∧(∀ (v1:Int) (v6:Int) (x0:ByteArray) (v5:Int) ds,R114_6 n v1 v6 x0 v5 ds→∀ K q,AtV Tryz.prog 114 (PostR kds114 oks114 ds [] [] q K) 32 K q [] (cutAt b114 6) (E114_6 v1 v6 x0 v5) (L114_6 v1 v6 x0 v5)):=by
 intro n
 induction n with
 | zero=>exact ⟨fun _ _ _ h=>by simp only [R114] at h,fun _ _ _ _ h=>by simp only [R114_2] at h,fun _ _ _ _ _ h=>by simp only [R114_6] at h⟩
 | succ n ih =>
 obtain ⟨ih,ih2,ih6⟩:=ih
 refine ⟨?_,?_,?_⟩
 ·intro x0 x1 ds h K q
  rw [R114] at h
  exact AtV.go tabOk ext114Ok mixed false [] [] [0,1,5] [] [] trivial (ih2 _ _ _ _ h K q) (by kernel_rfl)
 ·intro v5 x0 x1 ds h K q
  rw [R114_2] at h
  by_cases b0:(decide (v5<(↑(ByteArray.size x0):Int)))=true
  ·rw [if_pos b0] at h
   obtain ⟨s0,s1,h⟩:=h
   obtain ⟨s2,h⟩:=h
   exact AtV.go tabOk ext114Ok mixed false [] [] [0,1,5,6] [] [true] (a1 b0 (a1 s0 (a1 s1 (a1 s2 (a1 ((by decide):(0:Int)≤(8:Int)) trivial))))) (ih6 _ _ _ _ _ h K q) (by kernel_rfl)
  ·rw [if_neg b0] at h
   replace b0:=bf_ b0
   subst h
   exact AtV.ret Tryz.func114 tabOk ext114Ok mixed false [] tys114 [false] (a1 b0 trivial) (by kernel_rfl)
 ·intro v1 v6 x0 v5 ds h K q
  rw [R114_6] at h
  by_cases b0:(decide (v6<8))=true
  ·rw [if_pos b0] at h
   by_cases b1:(decide (IntKind.wrap IntKind.i64 (v1*2)>65535))=true
   ·rw [if_pos b1] at h
    obtain ⟨s0,h⟩:=h
    exact AtV.go tabOk ext114Ok mixed false [] [] [0,1,5,6] [] [true,true] (a1 b0 (a1 ((by decide):(0:Int)≤(1:Int)) (a1 b1 (a1 s0 trivial)))) (ih6 _ _ _ _ _ h K q) (by kernel_rfl)
   ·rw [if_neg b1] at h
    replace b1:=bf_ b1
    obtain ⟨s0,h⟩:=h
    exact AtV.go tabOk ext114Ok mixed false [] [] [0,1,5,6] [] [true,false] (a1 b0 (a1 ((by decide):(0:Int)≤(1:Int)) (a1 b1 (a1 s0 trivial)))) (ih6 _ _ _ _ _ h K q) (by kernel_rfl)
  ·rw [if_neg b0] at h
   replace b0:=bf_ b0
   obtain ⟨s0,h⟩:=h
   exact AtV.go tabOk ext114Ok mixed false [] [] [0,1,5] [] [false] (a1 b0 (a1 s0 trivial)) (ih2 _ _ _ _ h K q) (by kernel_rfl)
def bit114 (s:Int):Int:=if (decide (IntKind.wrap IntKind.i64 (s*2)>65535))=true then (IntKind.wrap IntKind.i64 (↑(BitVec.toNat (BitVec.ofInt 64 (IntKind.wrap IntKind.i64 (↑(BitVec.toNat (BitVec.ofInt 64 (IntKind.wrap IntKind.i64 (s*2)) &&& BitVec.ofInt 64 65535)):Int)) ^^^ BitVec.ofInt 64 4129)):Int)) else (IntKind.wrap IntKind.i64 (s*2))
def bits114:Nat→Int→Int
 | 0,s=>s
 | k+1,s=>bits114 k (bit114 s)
def byte114 (s c:Int):Int:=bits114 8 (IntKind.wrap IntKind.i64 (↑(BitVec.toNat (BitVec.ofInt 64 s ^^^ BitVec.ofInt 64 (IntKind.wrap IntKind.i64 (c*256)))):Int))
def g114_0 (x0:ByteArray) (x1:Int):Int:=(bytesOf x0).foldl byte114 x1
def P114 (x0:ByteArray) (x1:Int):Prop:=True
theorem inner114 (x0:ByteArray) (hm:(bytesOf x0).length≤maxLen) (i n:Nat) (hi:i<(bytesOf x0).length) (ds:List Dyn):∀ (k j:Nat) (s:Int),j+k=8→R114_2 n ((i:Int)+1) x0 (bits114 k s) ds→R114_6 (n+1+k) s (j:Int) x0 (i:Int) ds:=by
 intro k
 induction k with
 | zero =>
  intro j s hj hr
  rw [R114_6,if_neg (by simp;omega)]
  exact ⟨inR_up hm hi,hr⟩
 | succ k ih =>
  intro j s hj hr
  have e2:(j:Int)+1=((j+1:Nat):Int):=by omega
  rw [show n+1+(k+1)=(n+1+k)+1 by omega,R114_6,if_pos (by simp;omega)]
  unfold bits114 bit114 at hr
  by_cases hc:(decide (IntKind.wrap IntKind.i64 (s*2)>65535))=true
  ·rw [if_pos hc] at hr ⊢
   rw [e2]
   exact ⟨by rw [i64_iff];omega,ih (j+1) _ (by omega) hr⟩
  ·rw [if_neg hc] at hr ⊢
   rw [e2]
   exact ⟨by rw [i64_iff];omega,ih (j+1) _ (by omega) hr⟩
theorem run114 (x0:ByteArray) (hm:x0.size≤maxLen):∀ (k i:Nat) (s:Int),i+k=x0.size→∃ n,R114_2 n (i:Int) x0 s [⟨.int .i64,((bytesOf x0).drop i).foldl byte114 s⟩]:=by
 intro k
 have hl:=bytesOf_length x0
 induction k with
 | zero =>
  intro i s hi
  refine ⟨1,?_⟩
  rw [R114_2,if_neg (by simp;omega),List.drop_of_length_le (by omega)]
  rfl
 | succ k ih =>
  intro i s hi
  have hlt:i<(bytesOf x0).length:=by omega
  have hcons:=drop_get (bytesOf x0) i 0 hlt
  obtain ⟨n,hn⟩:=ih (i+1) (byte114 s ((bytesOf x0).getD i 0)) (by omega)
  refine ⟨n+1+8+1,?_⟩
  have hb:=bytesOf_range x0 _ (mem_getD (bytesOf x0) i 0 hlt)
  rw [R114_2,if_pos (by simp;omega)]
  simp only [Int.toNat_natCast,byte_get]
  rw [hcons,List.foldl_cons]
  exact ⟨by omega,by omega,by rw [i64_iff];omega,inner114 x0 (by rw [hl];exact hm) i n hlt _ 8 0 _ (by omega) hn⟩
theorem top114 (x0:ByteArray) (x1:Int) (hm:x0.size≤maxLen):∃ n,R114 n x0 x1 [⟨.int .i64,g114_0 x0 x1⟩]:=by
 obtain ⟨n,hn⟩:=run114 x0 hm x0.size 0 x1 (by omega)
 refine ⟨n+1,?_⟩
 rw [R114]
 exact hn
def S114:Am.Spec:={ sig:=sig114,pre:=fun ⟨x0,x1,_⟩=>P114 x0 x1,res:=fun ⟨x0,x1,_⟩=>[⟨.int .i64,g114_0 x0 x1⟩] }
theorem con114:Contract Tryz.prog 114 S114:=contract_of Tryz.func114 hb114 (bl_ (by kernel_rfl)) (fun ⟨x0,x1,_⟩ h hwf K q =>
 let ⟨n,hn⟩:=top114 x0 x1 hwf.1
 (snd114 n).1 x0 x1 _ hn K q)
end
noncomputable section
def ext91:Ext:=[(115,S115),(114,S114)]
theorem ext91Ok:ExtOk Tryz.prog ext91:=⟨⟨ca115,con115⟩,⟨ca114,con114⟩,trivial⟩
noncomputable def b91:Code:=bodyOf Tryz.f91
theorem hb91:Tryz.f91.body=some b91:=by kernel_rfl
def sig91:List AT:=[AT.v (.int .i64),AT.v (.int .i64),AT.v (.int .i64),AT.v (.str)]
def tys91:List Ty:=[.int .i64]
def kds91:List RK:=[]
def oks91:List AT:=owns sig91
def P91 (x0:Int) (x1:Int) (x2:Int) (x3:ByteArray):Prop:=((P115 x1 x2 x3)∧True)
def g91_0 (x0:Int) (x1:Int) (x2:Int) (x3:ByteArray):Int:=g114_0 (g115_0 x1 x2 x3) x0
theorem at91 (x0:Int) (x1:Int) (x2:Int) (x3:ByteArray) (h:P91 x0 x1 x2 x3) (K:Ctx) (q:Nat→Value):AtV Tryz.prog 91 (PostR kds91 oks91 [⟨.int .i64,g91_0 x0 x1 x2 x3⟩] [] [] q K) 15 K q [] [.code b91] (entE 0 0 sig91 (x0,x1,x2,x3,())) (entL sig91 (x0,x1,x2,x3,())):=by
 unfold P91 at h
 unfold g91_0
 obtain ⟨s0,h⟩:=h
 exact AtV.ret Tryz.func91 tabOk ext91Ok mixed false [] tys91 [] (a1 s0 (a1 trivial trivial)) (by kernel_rfl)
def S91:Am.Spec:={ sig:=sig91,pre:=fun ⟨x0,x1,x2,x3,_⟩=>P91 x0 x1 x2 x3,res:=fun ⟨x0,x1,x2,x3,_⟩=>[⟨.int .i64,g91_0 x0 x1 x2 x3⟩],kds:=kds91 }
theorem con91:Contract Tryz.prog 91 S91:=contract_of Tryz.func91 hb91 (bl_ (by kernel_rfl)) (fun ⟨x0,x1,x2,x3,_⟩ h _ K q=>at91 x0 x1 x2 x3 h K q)
end
noncomputable section
def ext58:Ext:=[(91,S91)]
theorem ext58Ok:ExtOk Tryz.prog ext58:=⟨⟨ca91,con91⟩,trivial⟩
noncomputable def b58:Code:=bodyOf Tryz.f58
theorem hb58:Tryz.f58.body=some b58:=by kernel_rfl
def sig58:List AT:=[AT.v (.sl YA6)]
def tys58:List Ty:=[.sl YA6]
def kds58:List RK:=[]
def oks58:List AT:=owns sig58
def E58_4 (v4:Int) (v5:Int) (h0:List TyB2):Env:=[(3,.a (.osl 0 Option.none)),(4,.a (.val (.int .i64 v4))),(5,.a (.val (.int .i64 v5)))]
def L58_4 (v4:Int) (v5:Int) (h0:List TyB2):Heap:=[Option.some (Arr.mk YA6 h0 false Option.none Option.none)]
mutual
def R58:Nat→List TyB2→List Dyn→Prop
 | 0,_,_=>False
 | n+1,x0,ds=>(((0+List.length x0)*40≤140737488355328)∧(R58_4 n (65535) (0) ([]++x0) ds))
def R58_4:Nat→Int→Int→List TyB2→List Dyn→Prop
 | 0,_,_,_,_=>False
 | n+1,v4,v5,h0,ds=>(if (decide (v5<(h0.length:Int)))=true then ((0≤v5)∧(v5<(h0.length:Int))∧((0≤v5)∧(v5<(h0.length:Int))∧((0≤v5)∧(v5<(h0.length:Int))∧((P91 v4 (List.getD h0 (Int.toNat v5) (0,0,ByteArray.empty,0,())).1 (List.getD h0 (Int.toNat v5) (0,0,ByteArray.empty,0,())).2.1 (List.getD h0 (Int.toNat v5) (0,0,ByteArray.empty,0,())).2.2.1)∧((0≤v5)∧(v5<(h0.length:Int))∧((InR .i64 (v5+1))∧(R58_4 n (g91_0 v4 (List.getD h0 (Int.toNat v5) (0,0,ByteArray.empty,0,())).1 (List.getD h0 (Int.toNat v5) (0,0,ByteArray.empty,0,())).2.1 (List.getD h0 (Int.toNat v5) (0,0,ByteArray.empty,0,())).2.2.1) (v5+1) (List.set h0 (Int.toNat v5) ((List.getD h0 (Int.toNat v5) (0,0,ByteArray.empty,0,())).1,(List.getD h0 (Int.toNat v5) (0,0,ByteArray.empty,0,())).2.1,(List.getD h0 (Int.toNat v5) (0,0,ByteArray.empty,0,())).2.2.1,g91_0 v4 (List.getD h0 (Int.toNat v5) (0,0,ByteArray.empty,0,())).1 (List.getD h0 (Int.toNat v5) (0,0,ByteArray.empty,0,())).2.1 (List.getD h0 (Int.toNat v5) (0,0,ByteArray.empty,0,())).2.2.1,(List.getD h0 (Int.toNat v5) (0,0,ByteArray.empty,0,())).2.2.2.2)) ds))))))) else (ds=[Dyn.mk (.sl YA6) h0]))
end
theorem snd58:∀ n,(∀ (x0:List TyB2) ds,R58 n x0 ds→∀ K q,AtV Tryz.prog 58 (PostR kds58 oks58 ds [] [] q K) 38 K q [] [.code b58] (entE 0 0 sig58 (x0,())) (entL sig58 (x0,())))∧(∀ (v4:Int) (v5:Int) (h0:List TyB2) ds,R58_4 n v4 v5 h0 ds→∀ K q,AtV Tryz.prog 58 (PostR kds58 oks58 ds [] [] q K) 38 K q [] (cutAt b58 4) (E58_4 v4 v5 h0) (L58_4 v4 v5 h0)):=by
 intro n
 induction n with
 | zero=>exact ⟨fun _ _ h=>by simp only [R58] at h,fun _ _ _ _ h=>by simp only [R58_4] at h⟩
 | succ n ih =>
 obtain ⟨ih,ih4⟩:=ih
 refine ⟨?_,?_⟩
 ·intro x0 ds h K q
  rw [R58] at h
  obtain ⟨s0,h⟩:=h
  exact AtV.go tabOk ext58Ok mixed false [] [] [3,4,5] [0] [] (a1 s0 trivial) (ih4 _ _ _ _ h K q) (by kernel_rfl)
 ·intro v4 v5 h0 ds h K q
  rw [R58_4] at h
  by_cases b0:(decide (v5<(h0.length:Int)))=true
  ·rw [if_pos b0] at h
   obtain ⟨s0,s1,h⟩:=h
   obtain ⟨s2,s3,h⟩:=h
   obtain ⟨s4,s5,h⟩:=h
   obtain ⟨s6,h⟩:=h
   obtain ⟨s7,s8,h⟩:=h
   obtain ⟨s9,h⟩:=h
   exact AtV.go tabOk ext58Ok mixed false [] [] [3,4,5] [0] [true] (a1 b0 (a1 s0 (a1 s1 (a1 s2 (a1 s3 (a1 s4 (a1 s5 (a1 s6 (a1 s7 (a1 s8 (a1 s9 trivial))))))))))) (ih4 _ _ _ _ h K q) (by kernel_rfl)
  ·rw [if_neg b0] at h
   replace b0:=bf_ b0
   subst h
   exact AtV.ret Tryz.func58 tabOk ext58Ok mixed false [] tys58 [false] (a1 b0 trivial) (by kernel_rfl)
abbrev TT58:=Int×Int×ByteArray×Int×Unit
def mk58 (c:Int):List TT58→List TT58
 | []=>[]
 | x :: r=>(x.1,x.2.1,x.2.2.1,g91_0 c x.1 x.2.1 x.2.2.1,()) :: mk58 (g91_0 c x.1 x.2.1 x.2.2.1) r
def g58_0 (x0:List TT58):List TT58:=mk58 65535 x0
def P58 (x0:List TT58):Prop:=x0.length≤1000∧∀ x∈x0,∀ c,P91 c x.1 x.2.1 x.2.2.1
theorem mk_len58:∀ (l:List TT58) (c:Int),(mk58 c l).length=l.length
 | [],_=>rfl
 | x :: r,c=>congrArg (· + 1) (mk_len58 r _)
theorem run58:∀ (r:List TT58) (d:List TT58) (c:Int),d.length+r.length≤1000→(∀ x∈r,∀ c,P91 c x.1 x.2.1 x.2.2.1)→R58_4 (r.length+1) c (d.length:Int) (d++r) [⟨.sl (.cons (.int .i64) (.cons (.int .i64) (.cons .str (.cons (.int .i64) .unit)))),d++mk58 c r⟩]:=by
 intro r
 induction r with
 | nil =>
  intro d c hl hp
  rw [R58_4,if_neg (by simp)]
  rfl
 | cons x r ih =>
  intro d c hl hp
  have hl2:d.length+(r.length+1)≤1000:=hl
  have hlen:(d++x :: r).length=d.length+(r.length+1):=by simp
  have eg:(d++x :: r).getD d.length ((0:Int),(0:Int),ByteArray.empty,(0:Int),())=x:=by simp [List.getD]
  have es:∀ y:TT58,(d++x :: r).set d.length y=d++[y]++r:=fun y=>by simp
  have e3:(d.length:Int)+1=((d.length+1:Nat):Int):=by omega
  rw [R58_4,if_pos (by simp only [decide_eq_true_eq];omega)]
  simp only [Int.toNat_natCast]
  rw [eg,es,e3,hlen]
  have hp1:=hp x (List.mem_cons_self ..) c
  refine ⟨by omega,by omega,by omega,by omega,by omega,by omega,hp1,by omega,by omega,by rw [i64_iff];omega,?_⟩
  have h:=ih (d++[(x.1,x.2.1,x.2.2.1,g91_0 c x.1 x.2.1 x.2.2.1,())]) (g91_0 c x.1 x.2.1 x.2.2.1) (by rw [List.length_append,List.length_singleton];omega) (fun y hy=>hp y (List.mem_cons_of_mem _ hy))
  rw [List.length_append,List.length_singleton,List.append_assoc d _ (mk58 _ r)] at h
  exact h
theorem top58 (x0:List TT58) (h:P58 x0):R58 (x0.length+1+1) x0 [⟨.sl (.cons (.int .i64) (.cons (.int .i64) (.cons .str (.cons (.int .i64) .unit)))),g58_0 x0⟩]:=by
 rw [R58]
 have h1:x0.length≤1000:=h.1
 exact ⟨by omega,run58 x0 [] 65535 (by simpa using h1) h.2⟩
def S58:Am.Spec:={ sig:=sig58,pre:=fun ⟨x0,_⟩=>P58 x0,res:=fun ⟨x0,_⟩=>[⟨.sl (.cons (.int .i64) (.cons (.int .i64) (.cons .str (.cons (.int .i64) .unit)))),g58_0 x0⟩] }
theorem con58:Contract Tryz.prog 58 S58:=contract_of Tryz.func58 hb58 (bl_ (by kernel_rfl)) (fun ⟨x0,_⟩ h hwf K q =>
 (snd58 _).1 x0 _ (top58 x0 h) K q)
end
theorem one_ok {n:Int} {s:List Int×Int×Int×Unit} (h:SrcOk n s) (m:Int) (hn:n≤4611686018427387902) :
  P57 s m∧SrcOk (n+2) (u57_0 s m):=by
 obtain ⟨p,s1,_⟩:=pick_ok h m hn
 exact ⟨⟨p,trivial⟩,s1⟩
noncomputable section
def ext30:Ext:=[(27,S27),(56,S56),(57,S57),(58,S58)]
theorem ext30Ok:ExtOk Tryz.prog ext30:=⟨⟨ca27,con27⟩,⟨ca56,con56⟩,⟨ca57,con57⟩,⟨ca58,con58⟩,trivial⟩
noncomputable def b30:Code:=bodyOf Tryz.f30
theorem hb30:Tryz.f30.body=some b30:=by kernel_rfl
def sig30:List AT:=[AT.pb YA7]
def tys30:List Ty:=[.sl YA6]
def kds30:List RK:=[]
def oks30:List AT:=owns sig30
def E30_5 (v4:Int) (v5:Int) (v6:Int) (h0:List Int×Int×Int×Unit) (h1:List TyB2):Env:=[(0,.a (.optr 0 0 [])),(3,.a (.osl 1 Option.none)),(4,.a (.val (.int .i64 v4))),(5,.a (.val (.int .i64 v5))),(6,.a (.val (.int .i64 v6)))]
def L30_5 (v4:Int) (v5:Int) (v6:Int) (h0:List Int×Int×Int×Unit) (h1:List TyB2):Heap:=[Option.some (Arr.mk YA7 [h0] true Option.none (Option.some true)),Option.some (Arr.mk YA6 h1 false Option.none Option.none)]
mutual
def R30:Nat→List Int×Int×Int×Unit→List Dyn→List (Option Lst)→Prop
 | 0,_,_,_=>False
 | n+1,x0,ds,us=>((P27 x0 9)∧((P27 (u27_0 x0 9) 600)∧((P27 (u27_0 (u27_0 x0 9) 600) 8)∧(R30_5 n (g27_0 x0 9) (g27_0 (u27_0 x0 9) 600) (g27_0 (u27_0 (u27_0 x0 9) 600) 8) (u27_0 (u27_0 (u27_0 x0 9) 600) 8) ([]) ds us))))
def R30_5:Nat→Int→Int→Int→List Int×Int×Int×Unit→List TyB2→List Dyn→List (Option Lst)→Prop
 | 0,_,_,_,_,_,_,_=>False
 | n+1,v4,v5,v6,h0,h1,ds,us=>(if (decide (v6>0))=true then ((P56 h0)∧(((List.length h1+1)*40≤140737488355328)∧((P57 (u56_0 h0) 3)∧(if (g57_0 (u56_0 h0) 3)=true then ((InR .i64 (v4+1))∧((P27 (u57_0 (u56_0 h0) 3) 600)∧((InR .i64 (v6 - 1))∧(R30_5 n (v4+1) (g27_0 (u57_0 (u56_0 h0) 3) 600) (v6 - 1) (u27_0 (u57_0 (u56_0 h0) 3) 600) (h1++[(v4,v5,g56_0 h0,0,())]) ds us)))) else ((P27 (u57_0 (u56_0 h0) 3) 60)∧((InR .i64 (v5+g27_0 (u57_0 (u56_0 h0) 3) 60))∧((InR .i64 (v6 - 1))∧(R30_5 n (v4) (v5+g27_0 (u57_0 (u56_0 h0) 3) 60) (v6 - 1) (u27_0 (u57_0 (u56_0 h0) 3) 60) (h1++[(v4,v5,g56_0 h0,0,())]) ds us)))))))) else ((P58 h1)∧(ds=[Dyn.mk (.sl YA6) (g58_0 h1)]∧us=[Option.some (Lst.mk YA7 [h0])])))
end
theorem snd30:∀ n,(∀ (x0:List Int×Int×Int×Unit) ds us,R30 n x0 ds us→∀ K q,AtV Tryz.prog 30 (PostR kds30 oks30 ds us [0] q K) 38 K q [0] [.code b30] (entE 0 0 sig30 (x0,())) (entL sig30 (x0,())))∧(∀ (v4:Int) (v5:Int) (v6:Int) (h0:List Int×Int×Int×Unit) (h1:List TyB2) ds us,R30_5 n v4 v5 v6 h0 h1 ds us→∀ K q,AtV Tryz.prog 30 (PostR kds30 oks30 ds us [0] q K) 38 K q [0] (cutAt b30 5) (E30_5 v4 v5 v6 h0 h1) (L30_5 v4 v5 v6 h0 h1)):=by
 intro n
 induction n with
 | zero=>exact ⟨fun _ _ _ h=>by simp only [R30] at h,fun _ _ _ _ _ _ _ h=>by simp only [R30_5] at h⟩
 | succ n ih =>
 obtain ⟨ih,ih5⟩:=ih
 refine ⟨?_,?_⟩
 ·intro x0 ds us h K q
  rw [R30] at h
  obtain ⟨s0,h⟩:=h
  obtain ⟨s1,h⟩:=h
  obtain ⟨s2,h⟩:=h
  exact AtV.go tabOk ext30Ok mixed false [] [] [0,3,4,5,6] [0,1] [] (a1 s0 (a1 s1 (a1 s2 trivial))) (ih5 _ _ _ _ _ _ _ h K q) (by kernel_rfl)
 ·intro v4 v5 v6 h0 h1 ds us h K q
  rw [R30_5] at h
  by_cases b0:(decide (v6>0))=true
  ·rw [if_pos b0] at h
   obtain ⟨s0,h⟩:=h
   obtain ⟨s1,h⟩:=h
   obtain ⟨s2,h⟩:=h
   by_cases b1:(g57_0 (u56_0 h0) 3)=true
   ·rw [if_pos b1] at h
    obtain ⟨s3,h⟩:=h
    obtain ⟨s4,h⟩:=h
    obtain ⟨s5,h⟩:=h
    exact AtV.go tabOk ext30Ok mixed false [] [] [0,3,4,5,6] [0,1] [true,true] (a1 b0 (a1 s0 (a1 s1 (a1 s2 (a1 b1 (a1 s3 (a1 s4 (a1 s5 trivial)))))))) (ih5 _ _ _ _ _ _ _ h K q) (by kernel_rfl)
   ·rw [if_neg b1] at h
    replace b1:=bf_ b1
    obtain ⟨s3,h⟩:=h
    obtain ⟨s4,h⟩:=h
    obtain ⟨s5,h⟩:=h
    exact AtV.go tabOk ext30Ok mixed false [] [] [0,3,4,5,6] [0,1] [true,false] (a1 b0 (a1 s0 (a1 s1 (a1 s2 (a1 b1 (a1 s3 (a1 s4 (a1 s5 trivial)))))))) (ih5 _ _ _ _ _ _ _ h K q) (by kernel_rfl)
  ·rw [if_neg b0] at h
   replace b0:=bf_ b0
   obtain ⟨s0,h⟩:=h
   obtain ⟨h,h'⟩:=h;subst h;subst h'
   exact AtV.ret Tryz.func30 tabOk ext30Ok mixed false [] tys30 [false] (a1 b0 (a1 s0 trivial)) (by kernel_rfl)
abbrev TT30:=Int×Int×ByteArray×Int×Unit
abbrev TY30:Ty := .cons (.int .i64) (.cons (.int .i64) (.cons .str (.cons (.int .i64) .unit)))
def P30 (x0:(List Int×Int×Int×Unit)):Prop:=SrcOk 800000000 x0
def bnd30 (x:TT30):Prop:=∀ c,P91 c x.1 x.2.1 x.2.2.1
def Q30 (x0:(List Int×Int×Int×Unit)) (y:List TT30) (s:(List Int×Int×Int×Unit)):Prop:=SrcOk (x0.2.1+1000) s∧(y.length≤10)∧∃ n,R30 n x0 [⟨.sl TY30,y⟩] [some ⟨(.cons (.sl (.int .u8)) (.cons (.int .i64) (.cons (.int .u64) .unit))),[s]⟩]
theorem bnd_of30 (d m:Int) (t:ByteArray) (hd:0≤d∧d≤10000) (hm:0≤m∧m≤10000) (ht:t.size≤1000) (s:Int):bnd30 (d,m,t,s,()):=by
 intro c
 have e1:g135_0=numB:=rfl
 have a1:=numB_size d (by omega) (by omega)
 have a2:=numB_size m (by omega) (by omega)
 have e3:(ByteArray.mk #[32]).size=1:=rfl
 show P91 c d m t
 unfold P91 P115
 rw [e1]
 simp only [ByteArray.size_append,e3,and_true]
 omega
theorem word30 {n:Int} {s:(List Int×Int×Int×Unit)} (h:SrcOk n s) (hn:n≤1000000000):P56 s∧SrcOk (n+2) (u56_0 s)∧(g56_0 s).size≤1000:=by
 obtain ⟨p,s1,hm⟩:=text_ok h [ByteArray.mk #[114,105,100,101,32,49,50],ByteArray.mk #[115,116,111,112,32,119,105,110,100],ByteArray.mk #[111,112,101,110],ByteArray.mk #[114,111,112,101,32,116,101,115,116,32,112,97,115,115,101,100],ByteArray.mk #[102,97,117,108,116,32,100,111,111,114,32,98],ByteArray.mk #[114,105,100,101]] (by decide) (by omega)
 refine ⟨⟨p,trivial⟩,s1,?_⟩
 show (g90_0 s _).size≤1000
 revert hm
 generalize g90_0 s _=w
 intro hm
 simp only [List.mem_cons,List.mem_nil_iff,or_false] at hm
 rcases hm with e | e | e | e | e | e <;> (rw [e];decide)
theorem add30 {h:List TT30} {t:TT30} (hb:∀ x∈h,bnd30 x) (ht:bnd30 t):∀ x∈h++[t],bnd30 x:=fun x hx=>by
 rcases List.mem_append.1 hx with hx | hx
 ·exact hb x hx
 ·rw [List.mem_singleton.1 hx];exact ht
theorem run30:∀ (k:Nat) (d m v:Int) (s:(List Int×Int×Int×Unit)) (h:List TT30) (b:Int),v=(k:Int)→SrcOk b s→b+8*(k:Int)≤900000000→(0≤d∧d+(k:Int)≤1000)→(0≤m∧m+600*(k:Int)≤9000)→h.length+k≤10→(∀ x∈h,bnd30 x) →
  ∃ (n:Nat) (y:List TT30) (z:(List Int×Int×Int×Unit)),SrcOk (b+8*(k:Int)) z∧(y.length≤10)∧R30_5 n d m v s h [⟨.sl TY30,y⟩] [some ⟨(.cons (.sl (.int .u8)) (.cons (.int .i64) (.cons (.int .u64) .unit))),[z]⟩]:=by
 intro k
 induction k with
 | zero =>
  intro d m v s h b hv hs hb hd hm hl hx
  refine ⟨1,g58_0 h,s,hs.up (by omega),by rw [show (g58_0 h).length=h.length from mk_len58 h _];omega,?_⟩
  rw [R30_5,if_neg (by simp only [decide_eq_true_eq];omega)]
  exact ⟨⟨by omega,hx⟩,rfl,rfl⟩
 | succ k ih =>
  intro d m v s h b hv hs hb hd hm hl hx
  obtain ⟨p1,s1,w1⟩:=word30 hs (by omega)
  obtain ⟨p2,s2⟩:=one_ok s1 3 (by omega)
  have hx':=add30 hx (bnd_of30 d m (g56_0 s) ⟨hd.1,by omega⟩ ⟨hm.1,by omega⟩ w1 0)
  by_cases c:g57_0 (u56_0 s) 3=true
  ·obtain ⟨p3,s3,a3,b3,_⟩:=pick_ok s2 600 (by omega)
   have b3:=b3 (by decide)
   obtain ⟨n,y,z,e1,e2,e3⟩:=ih (d+1) (g27_0 (u57_0 (u56_0 s) 3) 600) (v - 1) _ (h++[(d,m,g56_0 s,0,())]) (b+8) (by omega) (s3.up (by omega)) (by omega) (by omega) (by omega) (by rw [List.length_append,List.length_singleton];omega) hx'
   refine ⟨n+1,y,z,e1.up (by omega),e2,?_⟩
   rw [R30_5,if_pos (by simp only [decide_eq_true_eq];omega)]
   refine ⟨p1,by omega,p2,?_⟩
   rw [if_pos c]
   exact ⟨by rw [i64_iff];omega,p3,by rw [i64_iff];omega,e3⟩
  ·obtain ⟨p3,s3,a3,b3,_⟩:=pick_ok s2 60 (by omega)
   have b3:=b3 (by decide)
   obtain ⟨n,y,z,e1,e2,e3⟩:=ih d (m+g27_0 (u57_0 (u56_0 s) 3) 60) (v - 1) _ (h++[(d,m,g56_0 s,0,())]) (b+8) (by omega) (s3.up (by omega)) (by omega) (by omega) (by omega) (by rw [List.length_append,List.length_singleton];omega) hx'
   refine ⟨n+1,y,z,e1.up (by omega),e2,?_⟩
   rw [R30_5,if_pos (by simp only [decide_eq_true_eq];omega)]
   refine ⟨p1,by omega,p2,?_⟩
   rw [if_neg c]
   exact ⟨p3,by rw [i64_iff];omega,by rw [i64_iff];omega,e3⟩
theorem ex30 (x0:(List Int×Int×Int×Unit)) (h:P30 x0):∃ y s,Q30 x0 y s:=by
 have h0:x0.2.1≤800000000:=h.2.2
 obtain ⟨p1,s1,a1,b1,_⟩:=pick_ok (SrcOk.self h) 9 (by omega)
 obtain ⟨p2,s2,a2,b2,_⟩:=pick_ok s1 600 (by omega)
 obtain ⟨p3,s3,a3,b3,_⟩:=pick_ok s2 8 (by omega)
 have b1:=b1 (by decide)
 have b2:=b2 (by decide)
 have b3:=b3 (by decide)
 obtain ⟨n,y,t,q1,q2,q3⟩:=run30 (g27_0 (u27_0 (u27_0 x0 9) 600) 8).toNat (g27_0 x0 9) (g27_0 (u27_0 x0 9) 600) (g27_0 (u27_0 (u27_0 x0 9) 600) 8) _ [] _ (by omega) s3 (by omega) (by omega) (by omega) (by simp;omega) (fun x hx=>by cases hx)
 exact ⟨y,t,q1.up (by omega),q2,n+1,by rw [R30];exact ⟨p1,p2,p3,q3⟩⟩
def g30_0 (x0:(List Int×Int×Int×Unit)):List TT30:=(sel2 [] x0 (Q30 x0)).1
def u30_0 (x0:(List Int×Int×Int×Unit)):(List Int×Int×Int×Unit):=(sel2 ([]:List TT30) x0 (Q30 x0)).2
theorem q30 (x0:(List Int×Int×Int×Unit)) (h:P30 x0):Q30 x0 (g30_0 x0) (u30_0 x0):=by
 obtain ⟨y,s,hq⟩:=ex30 x0 h
 exact sel2_spec hq
def S30:Am.Spec:={ sig:=sig30,pre:=fun ⟨x0,_⟩=>P30 x0,upd:=fun ⟨x0,_⟩=>[some ⟨(.cons (.sl (.int .u8)) (.cons (.int .i64) (.cons (.int .u64) .unit))),[u30_0 x0]⟩],res:=fun ⟨x0,_⟩=>[⟨.sl TY30,g30_0 x0⟩],kds:=kds30 }
theorem con30:Contract Tryz.prog 30 S30:=contract_of Tryz.func30 hb30 (bl_ (by kernel_rfl)) (fun ⟨x0,_⟩ h hwf K q =>
 let ⟨n,hn⟩:=(q30 x0 h).2.2
 (snd30 n).1 x0 _ _ hn K q)
end
noncomputable section
def ext92:Ext:=[(27,S27)]
theorem ext92Ok:ExtOk Tryz.prog ext92:=⟨⟨ca27,con27⟩,trivial⟩
noncomputable def b92:Code:=bodyOf Tryz.f92
theorem hb92:Tryz.f92.body=some b92:=by kernel_rfl
def sig92:List AT:=[AT.pb YA7,AT.v (.sl (.int .i64))]
def tys92:List Ty:=[.int .i64]
def kds92:List RK:=[]
def oks92:List AT:=owns sig92
def P92 (x0:List Int×Int×Int×Unit) (x1:List Int):Prop:=((P27 x0 (x1.length:Int))∧((0≤g27_0 x0 (x1.length:Int))∧(g27_0 x0 (x1.length:Int)<(x1.length:Int))∧True))
def g92_0 (x0:List Int×Int×Int×Unit) (x1:List Int):Int:=List.getD x1 (Int.toNat (g27_0 x0 (x1.length:Int))) 0
def u92_0 (x0:List Int×Int×Int×Unit) (x1:List Int):List Int×Int×Int×Unit:=u27_0 x0 (x1.length:Int)
theorem at92 (x0:List Int×Int×Int×Unit) (x1:List Int) (h:P92 x0 x1) (K:Ctx) (q:Nat→Value):AtV Tryz.prog 92 (PostR kds92 oks92 [⟨.int .i64,g92_0 x0 x1⟩] [some ⟨.cons (.sl (.int .u8)) YA10,[u92_0 x0 x1]⟩] [0] q K) 12 K q [0] [.code b92] (entE 0 0 sig92 (x0,x1,())) (entL sig92 (x0,x1,())):=by
 unfold P92 at h
 unfold g92_0 u92_0
 obtain ⟨s0,h⟩:=h
 obtain ⟨s1,s2,h⟩:=h
 exact AtV.weak (AtV.ret (us:=[Option.some (Lst.mk YA7 [u27_0 x0 (x1.length:Int)])]) Tryz.func92 tabOk ext92Ok mixed false [] tys92 [] (a1 s0 (a1 s1 (a1 s2 trivial))) (by kernel_rfl)) ⟨.inl rfl,trivial⟩
def S92:Am.Spec:={ sig:=sig92,pre:=fun ⟨x0,x1,_⟩=>P92 x0 x1,upd:=fun ⟨x0,x1,_⟩=>[some ⟨.cons (.sl (.int .u8)) YA10,[u92_0 x0 x1]⟩],res:=fun ⟨x0,x1,_⟩=>[⟨.int .i64,g92_0 x0 x1⟩],kds:=kds92 }
theorem con92:Contract Tryz.prog 92 S92:=contract_of Tryz.func92 hb92 (bl_ (by kernel_rfl)) (fun ⟨x0,x1,_⟩ h _ K q=>at92 x0 x1 h K q)
end
noncomputable section
def ext59:Ext:=[(92,S92),(27,S27)]
theorem ext59Ok:ExtOk Tryz.prog ext59:=⟨⟨ca92,con92⟩,⟨ca27,con27⟩,trivial⟩
noncomputable def b59:Code:=bodyOf Tryz.f59
theorem hb59:Tryz.f59.body=some b59:=by kernel_rfl
def sig59:List AT:=[AT.pb YA7,AT.v (.str)]
def tys59:List Ty:=[.cons .str YA4]
def kds59:List RK:=[]
def oks59:List AT:=owns sig59
def P59 (x0:List Int×Int×Int×Unit) (x1:ByteArray):Prop:=((P92 x0 [1,7,30,365])∧((P27 (u92_0 x0 [1,7,30,365]) 60)∧((P27 (u27_0 (u92_0 x0 [1,7,30,365]) 60) 60)∧((InR .i64 (1+g27_0 (u27_0 (u92_0 x0 [1,7,30,365]) 60) 60))∧((InR .i64 (50*(1+g27_0 (u27_0 (u92_0 x0 [1,7,30,365]) 60) 60)))∧((P27 (u27_0 (u27_0 (u92_0 x0 [1,7,30,365]) 60) 60) 3000)∧True))))))
def g59_0 (x0:List Int×Int×Int×Unit) (x1:ByteArray):ByteArray×Int×Int×Int×Int×Unit:=(x1,g92_0 x0 [1,7,30,365],50*(1+g27_0 (u27_0 (u92_0 x0 [1,7,30,365]) 60) 60),g27_0 (u92_0 x0 [1,7,30,365]) 60,g27_0 (u27_0 (u27_0 (u92_0 x0 [1,7,30,365]) 60) 60) 3000,())
def u59_0 (x0:List Int×Int×Int×Unit) (x1:ByteArray):List Int×Int×Int×Unit:=u27_0 (u27_0 (u27_0 (u92_0 x0 [1,7,30,365]) 60) 60) 3000
theorem at59 (x0:List Int×Int×Int×Unit) (x1:ByteArray) (h:P59 x0 x1) (K:Ctx) (q:Nat→Value):AtV Tryz.prog 59 (PostR kds59 oks59 [⟨.cons .str YA4,g59_0 x0 x1⟩] [some ⟨.cons (.sl (.int .u8)) YA10,[u59_0 x0 x1]⟩] [0] q K) 22 K q [0] [.code b59] (entE 0 0 sig59 (x0,x1,())) (entL sig59 (x0,x1,())):=by
 unfold P59 at h
 unfold g59_0 u59_0
 obtain ⟨s0,h⟩:=h
 obtain ⟨s1,h⟩:=h
 obtain ⟨s2,h⟩:=h
 obtain ⟨s3,h⟩:=h
 obtain ⟨s4,h⟩:=h
 obtain ⟨s5,h⟩:=h
 exact AtV.weak (AtV.ret (us:=[Option.some (Lst.mk YA7 [u27_0 (u27_0 (u27_0 (u92_0 x0 [1,7,30,365]) 60) 60) 3000])]) Tryz.func59 tabOk ext59Ok mixed false [] tys59 [] (a1 s0 (a1 s1 (a1 s2 (a1 s3 (a1 s4 (a1 s5 trivial)))))) (by kernel_rfl)) ⟨.inl rfl,trivial⟩
def S59:Am.Spec:={ sig:=sig59,pre:=fun ⟨x0,x1,_⟩=>P59 x0 x1,upd:=fun ⟨x0,x1,_⟩=>[some ⟨.cons (.sl (.int .u8)) YA10,[u59_0 x0 x1]⟩],res:=fun ⟨x0,x1,_⟩=>[⟨.cons .str YA4,g59_0 x0 x1⟩],kds:=kds59 }
theorem con59:Contract Tryz.prog 59 S59:=contract_of Tryz.func59 hb59 (bl_ (by kernel_rfl)) (fun ⟨x0,x1,_⟩ h _ K q=>at59 x0 x1 h K q)
end
theorem among_ok {n:Int} {s:List Int×Int×Int×Unit} (h:SrcOk n s) (l:List Int) (hl:1≤l.length) (hn:n≤4611686018427387902) :
  P92 s l∧SrcOk (n+2) (u92_0 s l)∧g92_0 s l∈l:=by
 obtain ⟨p,s1,a,b,_⟩:=pick_ok h (l.length:Int) hn
 have b:=b (by omega)
 exact ⟨⟨p,a,b,trivial⟩,s1,mem_getD l _ 0 (by omega)⟩
theorem draw_check {n:Int} {s:(List Int×Int×Int×Unit)} (h:SrcOk n s) (hn:n≤4000000000000000000) (id:ByteArray) :
  P59 s id∧SrcOk (n+8) (u59_0 s id)∧(g59_0 s id).1=id ∧
  (g59_0 s id).2.1∈[1,7,30,365]∧(50≤(g59_0 s id).2.2.1∧(g59_0 s id).2.2.1≤3000)∧(0≤(g59_0 s id).2.2.2.1∧(g59_0 s id).2.2.2.1<60)∧(0≤(g59_0 s id).2.2.2.2.1∧(g59_0 s id).2.2.2.2.1<3000):=by
 obtain ⟨p1,s1,m1⟩:=among_ok h [1,7,30,365] (by decide) (by omega)
 obtain ⟨p2,s2,a2,b2,_⟩:=pick_ok s1 60 (by omega)
 obtain ⟨p3,s3,a3,b3,_⟩:=pick_ok s2 60 (by omega)
 obtain ⟨p4,s4,a4,b4,_⟩:=pick_ok s3 3000 (by omega)
 have b2:=b2 (by decide)
 have b3:=b3 (by decide)
 have b4:=b4 (by decide)
 unfold P59 u59_0 g59_0
 exact ⟨⟨p1,p2,p3,by rw [i64_iff];omega,by rw [i64_iff];omega,p4,trivial⟩,s4.up (by omega),rfl,m1,⟨by show 50≤50*_;omega,by show 50*_≤3000;omega⟩,⟨a2,b2⟩,a4,b4⟩
noncomputable section
def ext31:Ext:=[(27,S27),(59,S59)]
theorem ext31Ok:ExtOk Tryz.prog ext31:=⟨⟨ca27,con27⟩,⟨ca59,con59⟩,trivial⟩
noncomputable def b31:Code:=bodyOf Tryz.f31
theorem hb31:Tryz.f31.body=some b31:=by kernel_rfl
def sig31:List AT:=[AT.pb YA7]
def tys31:List Ty:=[.sl YA3]
def kds31:List RK:=[]
def oks31:List AT:=owns sig31
def E31_4 (v5:Int) (h2:List TyB0) (x0:List Int×Int×Int×Unit):Env:=[(0,.a (.optr 0 0 [])),(3,.a (.osl 1 Option.none)),(4,.a (.osl 2 Option.none)),(5,.a (.val (.int .i64 v5)))]
def L31_4 (v5:Int) (h2:List TyB0) (x0:List Int×Int×Int×Unit):Heap:=[Option.some (Arr.mk YA7 [x0] true Option.none (Option.some true)),Option.some (Arr.mk .str [ByteArray.mk #[98,114,97,107,101],ByteArray.mk #[100,111,111,114],ByteArray.mk #[114,111,112,101],ByteArray.mk #[115,104,111,101],ByteArray.mk #[119,104,101,101,108]] false Option.none Option.none),Option.some (Arr.mk YA3 h2 false Option.none Option.none)]
mutual
def R31:Nat→List Int×Int×Int×Unit→List Dyn→List (Option Lst)→Prop
 | 0,_,_,_=>False
 | n+1,x0,ds,us=>(R31_4 n (0) ([]) (x0) ds us)
def R31_4:Nat→Int→List TyB0→List Int×Int×Int×Unit→List Dyn→List (Option Lst)→Prop
 | 0,_,_,_,_,_=>False
 | n+1,v5,h2,x0,ds,us=>(if (decide (v5<5))=true then ((P27 x0 3)∧(if (decide (g27_0 x0 3>0))=true then ((0≤v5)∧(v5<5)∧((P59 (u27_0 x0 3) (List.getD [ByteArray.mk #[98,114,97,107,101],ByteArray.mk #[100,111,111,114],ByteArray.mk #[114,111,112,101],ByteArray.mk #[115,104,111,101],ByteArray.mk #[119,104,101,101,108]] (Int.toNat v5) ByteArray.empty))∧(((List.length h2+1)*48≤140737488355328)∧((InR .i64 (v5+1))∧(R31_4 n (v5+1) (h2++[(List.getD [ByteArray.mk #[98,114,97,107,101],ByteArray.mk #[100,111,111,114],ByteArray.mk #[114,111,112,101],ByteArray.mk #[115,104,111,101],ByteArray.mk #[119,104,101,101,108]] (Int.toNat v5) ByteArray.empty,g92_0 (u27_0 x0 3) [1,7,30,365],50*(1+g27_0 (u27_0 (u92_0 (u27_0 x0 3) [1,7,30,365]) 60) 60),g27_0 (u92_0 (u27_0 x0 3) [1,7,30,365]) 60,g27_0 (u27_0 (u27_0 (u92_0 (u27_0 x0 3) [1,7,30,365]) 60) 60) 3000,())]) (u59_0 (u27_0 x0 3) (List.getD [ByteArray.mk #[98,114,97,107,101],ByteArray.mk #[100,111,111,114],ByteArray.mk #[114,111,112,101],ByteArray.mk #[115,104,111,101],ByteArray.mk #[119,104,101,101,108]] (Int.toNat v5) ByteArray.empty)) ds us))))) else ((InR .i64 (v5+1))∧(R31_4 n (v5+1) (h2) (u27_0 x0 3) ds us)))) else (ds=[Dyn.mk (.sl YA3) h2]∧us=[Option.some (Lst.mk YA7 [x0])]))
end
theorem snd31:∀ n,(∀ (x0:List Int×Int×Int×Unit) ds us,R31 n x0 ds us→∀ K q,AtV Tryz.prog 31 (PostR kds31 oks31 ds us [0] q K) 27 K q [0] [.code b31] (entE 0 0 sig31 (x0,())) (entL sig31 (x0,())))∧(∀ (v5:Int) (h2:List TyB0) (x0:List Int×Int×Int×Unit) ds us,R31_4 n v5 h2 x0 ds us→∀ K q,AtV Tryz.prog 31 (PostR kds31 oks31 ds us [0] q K) 27 K q [0] (cutAt b31 4) (E31_4 v5 h2 x0) (L31_4 v5 h2 x0)):=by
 intro n
 induction n with
 | zero=>exact ⟨fun _ _ _ h=>by simp only [R31] at h,fun _ _ _ _ _ h=>by simp only [R31_4] at h⟩
 | succ n ih =>
 obtain ⟨ih,ih4⟩:=ih
 refine ⟨?_,?_⟩
 ·intro x0 ds us h K q
  rw [R31] at h
  exact AtV.go tabOk ext31Ok mixed false [] [] [0,3,4,5] [0,1,2] [] trivial (ih4 _ _ _ _ _ h K q) (by kernel_rfl)
 ·intro v5 h2 x0 ds us h K q
  rw [R31_4] at h
  by_cases b0:(decide (v5<5))=true
  ·rw [if_pos b0] at h
   obtain ⟨s0,h⟩:=h
   by_cases b1:(decide (g27_0 x0 3>0))=true
   ·rw [if_pos b1] at h
    obtain ⟨s1,s2,h⟩:=h
    obtain ⟨s3,h⟩:=h
    obtain ⟨s4,h⟩:=h
    obtain ⟨s5,h⟩:=h
    exact AtV.go tabOk ext31Ok mixed false [] [] [0,3,4,5] [0,1,2] [true,true] (a1 b0 (a1 s0 (a1 b1 (a1 s1 (a1 s2 (a1 s3 (a1 s4 (a1 s5 trivial)))))))) (ih4 _ _ _ _ _ h K q) (by kernel_rfl)
   ·rw [if_neg b1] at h
    replace b1:=bf_ b1
    obtain ⟨s1,h⟩:=h
    exact AtV.go tabOk ext31Ok mixed false [] [] [0,3,4,5] [0,1,2] [true,false] (a1 b0 (a1 s0 (a1 b1 (a1 s1 trivial)))) (ih4 _ _ _ _ _ h K q) (by kernel_rfl)
  ·rw [if_neg b0] at h
   replace b0:=bf_ b0
   obtain ⟨h,h'⟩:=h;subst h;subst h'
   exact AtV.ret Tryz.func31 tabOk ext31Ok mixed false [] tys31 [false] (a1 b0 trivial) (by kernel_rfl)
def NM31:List ByteArray:=[ByteArray.mk #[98,114,97,107,101],ByteArray.mk #[100,111,111,114],ByteArray.mk #[114,111,112,101],ByteArray.mk #[115,104,111,101],ByteArray.mk #[119,104,101,101,108]]
def bnd31 (x:TyB0):Prop:=x.2.1∈[1,7,30,365]∧(50≤x.2.2.1∧x.2.2.1≤3000)∧(0≤x.2.2.2.1∧x.2.2.2.1<60)∧(0≤x.2.2.2.2.1∧x.2.2.2.2.1<3000)
def P31 (x0:(List Int×Int×Int×Unit)):Prop:=SrcOk 800000000 x0
def Q31 (x0:(List Int×Int×Int×Unit)) (y:List TyB0) (s:(List Int×Int×Int×Unit)):Prop:=SrcOk (x0.2.1+1000) s∧((y.map fun x=>x.1).Sublist NM31∧∀ x∈y,bnd31 x)∧∃ n,R31 n x0 [⟨.sl (.cons .str (.cons (.int .i64) (.cons (.int .i64) (.cons (.int .i64) (.cons (.int .i64) .unit))))),y⟩] [some ⟨(.cons (.sl (.int .u8)) (.cons (.int .i64) (.cons (.int .u64) .unit))),[s]⟩]
theorem run31:∀ (k i:Nat) (s:(List Int×Int×Int×Unit)) (h:List TyB0) (m:Int),i+k=5→SrcOk m s→m+20*(k:Int)≤900000000→h.length≤i→(h.map fun x=>x.1).Sublist (NM31.take i)→(∀ x∈h,bnd31 x) →
  ∃ (n:Nat) (y:List TyB0) (z:(List Int×Int×Int×Unit)),SrcOk (m+20*(k:Int)) z∧((y.map fun x=>x.1).Sublist NM31∧∀ x∈y,bnd31 x)∧R31_4 n (i:Int) h s [⟨.sl (.cons .str (.cons (.int .i64) (.cons (.int .i64) (.cons (.int .i64) (.cons (.int .i64) .unit))))),y⟩] [some ⟨(.cons (.sl (.int .u8)) (.cons (.int .i64) (.cons (.int .u64) .unit))),[z]⟩]:=by
 intro k
 induction k with
 | zero =>
  intro i s h m hi hs hm hl hsub hb
  have:i=5:=by omega
  subst this
  refine ⟨1,h,s,hs.up (by omega),⟨hsub,hb⟩,?_⟩
  rw [R31_4,if_neg (by decide)]
  exact ⟨rfl,rfl⟩
 | succ k ih =>
  intro i s h m hi hs hm hl hsub hb
  have hlt:i<NM31.length:=by show i<5;omega
  have e3:(i:Int)+1=((i+1:Nat):Int):=by omega
  have et:NM31.take (i+1)=NM31.take i++[NM31.getD i ByteArray.empty]:=by
   rw [List.take_add_one,List.getD_eq_getElem?_getD,List.getElem?_eq_getElem hlt]
   rfl
  obtain ⟨p1,s1,_,_,_⟩:=pick_ok hs 3 (by omega)
  by_cases hc:g27_0 s 3>0
  ·obtain ⟨p2,s2,c1,c2,c3,c4,c5⟩:=draw_check s1 (by omega) (NM31.getD i ByteArray.empty)
   obtain ⟨n,y,z,a1,a2,a3⟩:=ih (i+1) _ (h++[g59_0 (u27_0 s 3) (NM31.getD i ByteArray.empty)]) (m+2+8) (by omega) s2 (by omega) (by rw [List.length_append,List.length_singleton];omega) (by
    rw [et,List.map_append,List.map_cons,List.map_nil,c1]
    exact List.Sublist.append hsub (List.Sublist.refl _)) (fun x hx=>by
    rcases List.mem_append.1 hx with hx | hx
    ·exact hb x hx
    ·rw [List.mem_singleton.1 hx];exact ⟨c2,c3,c4,c5⟩)
   refine ⟨n+1,y,z,a1.up (by omega),a2,?_⟩
   rw [R31_4,if_pos (by simp only [decide_eq_true_eq];omega),if_pos (decide_eq_true hc),e3]
   simp only [Int.toNat_natCast]
   exact ⟨p1,by omega,by omega,p2,by omega,by rw [i64_iff];omega,a3⟩
  ·obtain ⟨n,y,z,a1,a2,a3⟩:=ih (i+1) _ h (m+2) (by omega) s1 (by omega) (by omega) (by
    rw [et]
    exact hsub.trans (List.sublist_append_left _ _)) hb
   refine ⟨n+1,y,z,a1.up (by omega),a2,?_⟩
   rw [R31_4,if_pos (by simp only [decide_eq_true_eq];omega),if_neg (by simp only [decide_eq_true_eq];exact hc),e3]
   exact ⟨p1,by rw [i64_iff];omega,a3⟩
theorem ex31 (x0:(List Int×Int×Int×Unit)) (h:P31 x0):∃ y s,Q31 x0 y s:=by
 have h0:x0.2.1≤800000000:=h.2.2
 obtain ⟨n,y,t,a1,a2,a3⟩:=run31 5 0 x0 [] _ (by omega) (SrcOk.self h) (by omega) (by simp) (List.Sublist.refl _) (fun x hx=>by cases hx)
 exact ⟨y,t,a1.up (by omega),a2,n+1,by rw [R31];exact a3⟩
def g31_0 (x0:(List Int×Int×Int×Unit)):List TyB0:=(sel2 [] x0 (Q31 x0)).1
def u31_0 (x0:(List Int×Int×Int×Unit)):(List Int×Int×Int×Unit):=(sel2 [] x0 (Q31 x0)).2
theorem q31 (x0:(List Int×Int×Int×Unit)) (h:P31 x0):Q31 x0 (g31_0 x0) (u31_0 x0):=by
 obtain ⟨y,s,hq⟩:=ex31 x0 h
 exact sel2_spec hq
def S31:Am.Spec:={ sig:=sig31,pre:=fun ⟨x0,_⟩=>P31 x0,upd:=fun ⟨x0,_⟩=>[some ⟨(.cons (.sl (.int .u8)) (.cons (.int .i64) (.cons (.int .u64) .unit))),[u31_0 x0]⟩],res:=fun ⟨x0,_⟩=>[⟨.sl (.cons .str (.cons (.int .i64) (.cons (.int .i64) (.cons (.int .i64) (.cons (.int .i64) .unit))))),g31_0 x0⟩],kds:=kds31 }
theorem con31:Contract Tryz.prog 31 S31:=contract_of Tryz.func31 hb31 (bl_ (by kernel_rfl)) (fun ⟨x0,_⟩ h hwf K q =>
 let ⟨n,hn⟩:=(q31 x0 h).2.2
 (snd31 n).1 x0 _ _ hn K q)
end
end Go.Proofs.YtpojfdgfpamapaaGreatDoor
