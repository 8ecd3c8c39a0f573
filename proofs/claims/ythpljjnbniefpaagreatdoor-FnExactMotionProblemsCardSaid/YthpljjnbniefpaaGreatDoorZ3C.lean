/- Several texts in one: the functions that this law reaches, and their laws. -/
import Derived.Test.YthpljjnbniefpaaGreatDoorZ3A
import Derived.Test.YthpljjnbniefpaaGreatDoorZ3B
import Derived.ProofKit
import Derived.Carry
import Derived.HandedShaped
import Derived.Stop.Joined
import Derived.Lib.Repeat
import Derived.Laws.AppendOwn
import Derived.Sort.Row
import Derived.Sort.Grow
import Derived.Lib.Strings
import Derived.Lib.ItoaLen
import Derived.Lib.SplitLaws
import Derived.Lib.Join
import Derived.Lib.LaidTab
import Derived.Stop.LaidErr
import Derived.Laws.IdiomCopy
import Derived.Test.YthpljjnbniefpaaGreatDoorRows
import Derived.KernelRfl
import Derived.Shelf.Vars
import Derived.Shelf.Utf8.RuneCount
import Derived.Shelf.Strconv.Itoa0
import Derived.Shelf.Strconv.Itoa1
import Derived.Shelf.LaysM
import Derived.Shelf.Strconv.Itoa2
import Derived.Shelf.Strconv.Itoa3
import Derived.Shelf.Strconv.Itoa4
import Derived.Shelf.Strings.Search1
import Derived.Shelf.Strings.Search2
import Derived.Shelf.Strings.Search3
import Derived.Shelf.Strings.Count
import Derived.Shelf.Strings.Shaped
import Derived.Shelf.Strings.Split
import Derived.Shelf.Strings.SplitShaped
import Derived.Shelf.Unicode.Decode
import Derived.Shelf.Strings.RuneCount
import Derived.Shelf.Strings.Explode
import Derived.Shelf.Unicode.DecodeSlow
import Derived.Shelf.Unicode.DecodeAny
import Derived.Ground.SlgfProg
import Derived.Shelf.SlicesE.IndexFunc
namespace Go.Am
set_option linter.unusedVariables false
set_option linter.unusedSimpArgs false
def capsA:(caps:List (Bool×Ty))→capsDen caps→List Atom
 | [],_=>[]
 | (true,t) :: r,x => .ptr t x.1 :: capsA r x.2
 | (false,t) :: r,x=>toAtom t x.1 :: capsA r x.2
def argA (k:Nat):(a:AT)→a.den→PV×Heap
 | .v t,x=>(.a (toAtom t x),[])
 | .p t,x=>(.a (.ptr t x),[])
 | .own t,xs=>(.a (.osl k none),[some ⟨t,xs,false,none,none⟩])
 | .pb t,x=>(.a (.optr k 0 []),[some ⟨t,[x],true,none,some true⟩])
 | .po t,x=>match expl k t x with
  | (ls,es)=>(.a (.bptr (k+es.length) 0 t),es++[some ⟨t,[],false,some ls,none⟩])
 | .sv t,x=>match expl k t x with
  | (ls,es)=>(.a (.rcd t ls),es)
 | .fn f caps,x=>(.fn f (capsA caps x),[])
 | .fns fs,_=>(.a (.sl .fn (fs.map some)),[])
def entE:Nat→Nat→(sig:List AT)→sigDen sig→Env
 | _,_,[],_=>[]
 | i,k,a :: r,x=>match argA k a x.1 with
  | (p,es)=>(i,p) :: entE (i+1) (k+es.length) r x.2
def entH:Nat→(sig:List AT)→sigDen sig→Heap
 | _,[],_=>[]
 | k,a :: r,x=>match argA k a x.1 with
  | (_,es)=>es++entH (k+es.length) r x.2
def entL (sig:List AT) (x:sigDen sig):Heap:=entH 0 sig x
def pinsOf:Nat→List AT→List Nat
 | _,[]=>[]
 | i,a :: r=>match isOwn a with
  | true=>i :: pinsOf (i+1) r
  | false=>pinsOf (i+1) r
def wfCaps:(caps:List (Bool×Ty))→capsDen caps→Prop
 | [],_=>True
 | (_,t) :: r,x=>Wf t x.1∧wfCaps r x.2
def wfA:(a:AT)→a.den→Prop
 | .v t,x=>Wf t x
 | .p t,x=>Wf t x
 | .own t,xs=>Wf (.sl t) xs
 | .pb t,x=>Wf t x
 | .po t,x=>Wf t x
 | .sv t,x=>Wf t x
 | .fn _ caps,x=>wfCaps caps x
 | .fns _,_=>True
def wfSig:(sig:List AT)→sigDen sig→Prop
 | [],_=>True
 | a :: r,x=>wfA a x.1∧wfSig r x.2
def noOwn:List AT→Bool
 | []=>true
 | a :: r => !isOwn a&&noOwn r
section
variable {P:Program} {n:Nat} {K:Ctx} {G:Nat→Prop} {w0 w:World} {a:Act} {V:Nat→Value} {own:Nat→List Nat} {f:FuncId} {R:Ending→World→Prop} {E:Env} {L:Heap}
theorem repB_wf {G:Nat→Prop} {t:Ty} {x:t.den} {v:Value} (h:RepB w G (toAtom t x) v):Wf t x:=by
 cases t with
 | int k=>exact h.2
 | bool=>trivial
 | fn=>trivial
 | str=>exact h.2
 | sl e=>exact wf_slAt (fun _ _=>RepC.wf) h
 | unit=>trivial
 | cons a b=>obtain ⟨cs,_,h⟩:=h;exact h.wf
theorem ptr_wf {G:Nat→Prop} {t:Ty} {x:t.den} {v:Value} (h:PtrAt w G t x v):Wf t x:=by
 obtain ⟨_,_,_,_,_,_,h⟩:=h
 exact h.wf
theorem caps_wf {G:Nat→Prop}:∀ {caps:List (Bool×Ty)} {x:capsDen caps} {vs:List Value},CapsRep w G caps x vs→wfCaps caps x
 | [],_,_,_=>trivial
 | (true,t) :: r,x,vs,⟨_,_,_,h,h2⟩=>⟨ptr_wf h,caps_wf h2⟩
 | (false,t) :: r,x,vs,⟨_,_,_,h,h2⟩=>⟨repB_wf h,caps_wf h2⟩
theorem argsK_wf {G G0:Nat→Prop}:∀ {sig:List AT} {x:sigDen sig} {vs:List Value} {bss:List (List Nat)},ArgsK w G G0 sig x vs bss→wfSig sig x
 | [],_,_,_,_=>trivial
 | a :: r,x,vs,bss,⟨_,_,_,_,_,_,h,h2⟩=>by
  refine ⟨?_,argsK_wf h2⟩
  cases a with
  | v t=>exact repB_wf h.2
  | p t=>exact ptr_wf h.2
  | own t=>exact OwnC.wf h
  | pb t=>obtain ⟨b,off,_,h⟩:=h;exact (EntC.wf h).2 _ (List.mem_singleton.2 rfl)
  | po t=>obtain ⟨b,off,_,h⟩:=h;exact (wf_ownSl (fun _ _ _=>OwnC.wf) h).2 _ (List.mem_singleton.2 rfl)
  | sv t=>obtain ⟨cs,_,h⟩:=h;exact h.wf
  | fn g caps=>obtain ⟨_,_,_,h⟩:=h;exact caps_wf h
  | fns _=>trivial
theorem args_wf {G:Nat→Prop} {sig:List AT} {x:sigDen sig} {vs:List Value} {bss:List (List Nat)} (h:ArgsRep w G sig x vs bss):wfSig sig x:=argsK_wf h
theorem repA_ofB {t:Ty} {x:t.den} {v:Value} (h:RepB w0 G (toAtom t x) v):RepA w0 G L V (toAtom t x) v:=by
 cases t <;> exact h
theorem caps_rep:∀ {caps:List (Bool×Ty)} {x:capsDen caps} {vs:List Value},CapsRep w0 G caps x vs→RepAs w0 G L V (capsA caps x) vs
 | [],_,_,h=>h
 | (true,t) :: r,x,vs,⟨v,s,h1,h,h2⟩=>⟨v,s,h1,h,caps_rep h2⟩
 | (false,t) :: r,x,vs,⟨v,s,h1,h,h2⟩=>⟨v,s,h1,repA_ofB h,caps_rep h2⟩
theorem arg_spec (hR:RelV n K w G w a E L V own) {o:AT} {x:o.den} {v:Value} {bs:List Nat} (h:ArgRep w G K.G0 o x v bs) (hn:bs.Nodup) (hg:∀ b∈bs,Out K G b) (hd:∀ r A,hget L r=some A→∀ b∈own r,b ∉ bs) :
  ∃ V' own',RelV n K w G w a E (L++(argA L.length o x).2) V' own'∧Grown L (argA L.length o x).2 V V' own own' bs∧RepP w G (L++(argA L.length o x).2) V' (argA L.length o x).1 v:=by
 cases o with
 | v t =>
  exact ⟨V,own,by simpa [argA] using hR,Grown.refl _ _ _,repA_ofB h.2⟩
 | p t =>
  exact ⟨V,own,by simpa [argA] using hR,Grown.refl _ _ _,h.2⟩
 | fns fs =>
  exact ⟨V,own,by simpa [argA] using hR,Grown.refl _ _ _,repA_ofB (L:=L++[]) (V:=V) (t := .sl .fn) (x:=fs.map some) h.2⟩
 | fn f caps =>
  obtain ⟨_,vs,hv,hh⟩:=h
  exact ⟨V,own,by simpa [argA] using hR,Grown.refl _ _ _,vs,hv,caps_rep hh⟩
 | own t =>
  have hE:EntC w G w ⟨t,x,false,none,none⟩ v bs:=EntC.own.2 h
  obtain ⟨h1,h2⟩:=grow_one hR hE hn hg hd
  exact ⟨_,_,h1,h2,repA_new (w0:=w) (G:=G) (u:=w) (G':=G) hE⟩
 | pb t =>
  obtain ⟨b,off,rfl,hE0⟩:=h
  have hE:EntC w G w ⟨t,[x],true,none,some true⟩ (.slice (some ⟨b,off,none⟩) 1 1) bs:=EntC.keepG (A:=⟨t,[x],true,none,none⟩) hR.gsub (fun _ _=>rfl) (fun _ _=>rfl) hE0
  obtain ⟨h1,h2⟩:=grow_one hR hE hn hg hd (hsm:=fun q hq=>⟨⟨b,off,rfl⟩,fun _=>⟨rfl,hE0⟩⟩)
  refine ⟨_,_,h1,h2,⟨t,[x],true,none,some true⟩,hget_new _ _,by simp,b,off,1,1,0,t,upd1_same _ _ _,rfl,by simp⟩
 | po t =>
  obtain ⟨b,off,rfl,hO⟩:=h
  rcases hO.2 with ⟨_,h1,_,_⟩ | ⟨b2,off2,cap,cur,ty,fz,bss,h1,h2,h3,h4,h5,h6,h7,h8,h9⟩
  ·cases h1
  ·simp only [Value.slice.injEq,Option.some.injEq,Addr.mk.injEq] at h1
   obtain ⟨⟨q1,q2,_⟩,_,q3⟩:=h1
   subst q1 q2 q3
   obtain ⟨bi,rfl⟩:∃ bi,bss=[bi]:=by
    match bss,h7 with
    | [bi],_=>exact ⟨bi,rfl⟩
   obtain ⟨cs,g1,g2,g3⟩:=h9 0 x bi rfl rfl
   have hcells:CellsAt w b off cs:=fun j c hj=>by
    simp only [World.cell?, h5]
    have:=g2 j c hj
    simpa using this
   have h8:bs=b :: bi:=by rw [h8];simp
   subst h8
   obtain ⟨hb,hni⟩:=List.nodup_cons.1 hn
   obtain ⟨V1,own1,r1,k1,l1,n1⟩:=expl_spec hR g3 hni (fun c hc=>hg c (List.mem_cons_of_mem _ hc)) (fun r A hA c hc hm=>hd r A hA c hc (List.mem_cons_of_mem _ hm))
   have hE:EntC w G w ⟨t,[],false,some (expl L.length t x).1,none⟩ (.slice (some ⟨b,off,none⟩) 0 1) [b] :=
    ⟨by simp [maxLen],.inr ⟨b,off,1,cur,ty,fz,[],rfl,Nat.zero_le _,h3,h4,h5,h6,rfl,rfl,fun i y bi hy=>by simp at hy⟩⟩
   have hap:=k1.apart (rest:=[b]) (fun r A hA c hc hm=>hd r A hA c hc (by rw [List.mem_singleton.1 hm];exact List.mem_cons_self ..)) (fun c hc hm=>hb (by rw [← List.mem_singleton.1 hm];exact hc))
   obtain ⟨h10,h11⟩:=grow_one r1 hE (by simp) (fun c hc=>by rw [List.mem_singleton.1 hc];exact hg b (List.mem_cons_self ..)) hap (hbox:=fun l hl=>by cases hl;exact ⟨b,off,cs,rfl,g1,n1,hcells,l1⟩)
   have e2:(argA L.length (.po t) x).2=(expl L.length t x).2++[some ⟨t,[],false,some (expl L.length t x).1,none⟩]:=rfl
   have e1:(argA L.length (.po t) x).1 = .a (.bptr (L.length+(expl L.length t x).2.length) 0 t):=rfl
   rw [e1,e2, ← List.append_assoc]
   have hlen:(L++(expl L.length t x).2).length=L.length+(expl L.length t x).2.length:=by simp
   refine ⟨_,_,h10,k1.trans h11 (fun c hc=>List.mem_cons_of_mem _ hc) (fun c hc=>by rw [List.mem_singleton.1 hc];exact List.mem_cons_self ..),?_⟩
   rw [← hlen]
   exact ⟨_,_,b,off,hget_new _ _,rfl,upd1_same _ _ _,rfl,by simp⟩
 | sv t =>
  obtain ⟨cs,rfl,ho⟩:=h
  obtain ⟨V1,own1,r1,k1,l1,n1⟩:=expl_spec hR ho hn hg hd
  exact ⟨V1,own1,r1,k1,cs,rfl,n1,l1⟩
theorem ent_spec:∀ {sig:List AT} {x:sigDen sig} {vs:List Value} {bss:List (List Nat)} {L:Heap} {V:Nat→Value} {own:Nat→List Nat} {i:Nat},RelV n K w G w a E L V own→ArgsK w G K.G0 sig x vs bss→bss.flatten.Nodup→(∀ b∈bss.flatten,Out K G b)→(∀ r A,hget L r=some A→∀ b∈own r,b ∉ bss.flatten) →
  (∀ j v,vs[j]? = some v→a.tmps.getD (i+j) undef=v) →
  ∃ V' own',RelV n K w G w a E (L++entH L.length sig x) V' own'∧(∀ r,(∃ B,hget L r=some B)→Agree L V (L++entH L.length sig x) V' r)∧∀ j,RepP w G (L++entH L.length sig x) V' ((entE i L.length sig x).get j) (a.tmps.getD j undef)
 | [],x,vs,bss,L,V,own,i,hR,_,_,_,_,_=>⟨V,own,by simpa [entH] using hR,fun r _=>Agree.of_same rfl (by simp [entH]),fun j=>trivial⟩
 | o :: sig,x,vs,bss,L,V,own,i,hR,⟨v,s,b,bs,h1,h2,h,h3⟩,hn,hg,hd,ht=>by
  subst h1 h2
  obtain ⟨hn1,hn2,hn3⟩:=nodup_flatten_cons hn
  obtain ⟨V1,own1,r1,g1,p1⟩:=arg_spec hR h hn1 (fun c hc=>hg c (by simp [hc])) (fun r A hA c hc hm=>hd r A hA c hc (by simp [hm]))
  have hlen:(L++(argA L.length o x.1).2).length=L.length+(argA L.length o x.1).2.length:=by simp
  obtain ⟨V2,own2,r2,a2,p2⟩:=ent_spec (i:=i+1) r1 h3 hn2 (fun c hc=>hg c (by rw [List.flatten_cons];exact List.mem_append_right _ hc)) (g1.apart (fun r A hA c hc hm=>hd r A hA c hc (by rw [List.flatten_cons];exact List.mem_append_right _ hm)) hn3) (fun j u hj=>by
   have:=ht (j+1) u (by simpa using hj)
   rwa [show i+(j+1)=i+1+j from by omega] at this)
  rw [hlen] at r2 a2 p2
  have e1:entH L.length (o :: sig) x=(argA L.length o x.1).2++entH (L.length+(argA L.length o x.1).2.length) sig x.2:=rfl
  have e2:entE i L.length (o :: sig) x=(i,(argA L.length o x.1).1) :: entE (i+1) (L.length+(argA L.length o x.1).2.length) sig x.2:=rfl
  rw [e1,e2, ← List.append_assoc]
  refine ⟨V2,own2,r2,fun r hr => ?_,fun j => ?_⟩
  ·have a1:=g1.agree r hr
   obtain ⟨B,hB⟩:=hr
   obtain ⟨B',hB',_⟩:=a1.2 B hB
   exact a1.trans (a2 r ⟨B',hB'⟩)
  ·simp only [Env.get]
   cases hij:Nat.beq i j with
   | true =>
    obtain rfl:=Nat.eq_of_beq_eq_true hij
    simp only [cond_true]
    have:=ht 0 v rfl
    rw [Nat.add_zero] at this
    rw [this]
    exact repP_agree p1 fun r hr=>a2 r (repP_live p1 r hr)
   | false =>
    simp only [cond_false]
    exact p2 j
theorem own_vals {G G0:Nat→Prop}:∀ {sig:List AT} {x:sigDen sig} {vs:List Value} {bss:List (List Nat)} {i:Nat} {q:Nat→Value},ArgsK w G G0 sig x vs bss→(∀ j v,vs[j]? = some v→q (i+j)=v)→ownVals sig vs=(pinsOf i sig).map q
 | [],x,vs,bss,i,q,h,_=>by obtain ⟨rfl,rfl⟩:=h;rfl
 | a :: r,x,vs,bss,i,q,⟨v,s,b,bs,h1,h2,h,h3⟩,hq=>by
  subst h1 h2
  have h0:q i=v:=by have:=hq 0 v rfl;simpa using this
  have ih:=own_vals (i:=i+1) (q:=q) h3 (fun j u hj=>by have:=hq (j+1) u (by simpa using hj);rw [show i+1+j=i+(j+1) by omega];exact this)
  cases a with
  | v t=>exact ih
  | p t=>exact ih
  | fn g caps=>exact ih
  | fns _=>exact ih
  | own t=>simp only [ownVals,pinsOf,isOwn,List.map_cons,h0,ih]
  | pb t=>simp only [ownVals,pinsOf,isOwn,List.map_cons,h0,ih]
  | po t=>simp only [ownVals,pinsOf,isOwn,List.map_cons,h0,ih]
  | sv t=>simp only [ownVals,pinsOf,isOwn,List.map_cons,h0,ih]
def PostR (kds:List RK) (oks:List AT) (ds:List Dyn) (us:List (Option Lst)) (pins:List Nat) (q:Nat→Value) (K:Ctx) (e:Ending) (w':World):Prop :=
 PostC K.w0 K.O K.Ga K.G0 kds ds oks us (pins.map q) e w'
theorem contract_of {fn:Func} {c:Code} {S:Spec} (hf:P.funcs[f]? = some fn) (hb:fn.body=some c) (hl:S.sig.length≤fn.ntmps)
  (h:∀ x,S.pre x→wfSig S.sig x→∀ K q,AtV P f (PostR S.kds (owns S.sig) (S.res x) (S.upd x) (pinsOf 0 S.sig) q K) fn.ntmps K q (pinsOf 0 S.sig) [.code c] (entE 0 0 S.sig x) (entL S.sig x)):Contract P f S:=by
 intro w G G0 x vs bss hgo hG hG0 hpre hargs hnd
 have hlen:=args_len hargs
 have hget0:∀ j v,vs[j]? = some v→(vs.toArray++Array.replicate (fn.ntmps - vs.toArray.size) undef).getD j undef=v:=fun j v hj=>by
  have hlt:=(List.getElem?_eq_some_iff.1 hj).1
  rw [Array.getD_eq_getD_getElem?, Array.getElem?_append_left (by simpa using hlt)]
  simp [hj]
 let q:Nat→Value:=fun i=>(vs.toArray++Array.replicate (fn.ntmps - vs.toArray.size) undef).getD i undef
 let K:Ctx:=⟨w,bss.flatten,G0,G⟩
 let a0:Act:={ tmps:=vs.toArray++Array.replicate (fn.ntmps - vs.toArray.size) undef,defers:=[] }
 have hov:ownVals S.sig vs=(pinsOf 0 S.sig).map q:=own_vals hargs (fun j v hj=>by rw [Nat.zero_add];exact hget0 j v hj)
 have h0:RelV fn.ntmps K w G w a0 [] [] (fun _=>undef) (fun _=>[]):=by
  refine ⟨hgo,Kept.refl _ _,?_,rfl,fun b hb=>(hG b hb).1,fun _ _=>rfl,hG0,fun b hb=>hG b (hG0 b hb),fun b hb => .inl hb,(fun r A hr=>by cases hr),(fun r A hr=>by cases hr),(fun r A hr=>by cases hr),(fun r s A B hr=>by cases hr),(fun r A ls hr=>by cases hr),(fun r A q hr=>by cases hr),fun i=>trivial⟩
  show (vs.toArray++Array.replicate (fn.ntmps - vs.toArray.size) undef).size=fn.ntmps
  simp [hlen];omega
 obtain ⟨V,own,h1,_,h2⟩:=ent_spec (i:=0) h0 hargs hnd (fun b hb=>⟨fun h=>h.2 hb,fun h=>(hG b h).2 hb⟩) (fun r A hr=>by cases hr) (fun j v hj=>by rw [Nat.zero_add];exact hget0 j v hj)
 have h3:RelV fn.ntmps K w G w a0 (entE 0 0 S.sig x) (entL S.sig x) V own:={ h1 with env:=fun i=>h2 i }
 refine (calls_of_run hf hb (h x hpre (argsK_wf hargs) K q a0 w w G V own h3 (fun t ht=>rfl))).mono ?_
 intro e w' hp
 rw [hov]
 exact hp
def updOne (L:Heap):AT→PV→Option (Lst×List Nat)
 | .own t,.a (.osl k none)=>match hget L k with
  | some A=>match A.bor with
   | false=>some (⟨A.t,A.xs⟩,[k])
   | true=>none
  | none=>none
 | .pb t,.a (.optr k 0 [])=>match hget L k with
  | some A=>match A.sm with
   | some true=>if h:A.t=t then (match one1 (castL h A.xs) with | some x=>some (⟨t,[x]⟩,[k]) | none=>none) else none
   | _=>none
  | none=>none
 | .po t,.a A=>match decPo L t A with
  | some (x,us)=>some (⟨t,[x]⟩,us)
  | none=>none
 | .sv t,.a A=>match decSv L t A with
  | some (x,us)=>some (⟨t,[x]⟩,us)
  | none=>none
 | _,_=>none
def updO (E:Env) (L:Heap) (gone:List Nat):List Nat→List AT→List (Option Lst)×List Nat
 | i :: r,o :: os=>match updO E L gone r os with
  | (us,rs)=>match updOne L o (E.get i) with
   | some (A,ks)=>match disjB ks gone with
    | true=>(some A :: us,ks++rs)
    | false=>(none :: us,rs)
   | none=>(none :: us,rs)
 | _ :: r,[]=>(none :: (updO E L gone r []).1,[])
 | [],_=>([],[])
theorem updOne_spec (hR:RelV n K w0 G w a E L V own) {o:AT} {p:PV} {A:Lst} {ks:List Nat} {v:Value} (hp:RepP w0 G L V p v) (h:updOne L o p=some (A,ks)):UpdOne w K.G0 o A v (ks.map own).flatten∧∀ r∈ks,∃ B,hget L r=some B:=by
 unfold updOne at h
 split at h
 ·rename_i t k
  split at h
  ·rename_i B hB
   split at h
   ·rename_i hbor
    cases h
    obtain ⟨B',hB',h1,_⟩:=hp
    rw [hB] at hB';cases hB'
    have hE:=hR.heap k B hB
    obtain ⟨tB,xB,bB,lB,sB⟩:=B
    simp only at hbor
    subst hbor
    refine ⟨?_,fun r hr=>by rw [List.mem_singleton.1 hr];exact ⟨_,hB⟩⟩
    rw [h1 rfl]
    simp only [List.map_cons,List.map_nil,List.flatten_cons,List.flatten_nil,List.append_nil]
    exact EntC.own.1 hE
   ·cases h
  ·cases h
 ·rename_i t k
  split at h
  ·rename_i B hB
   split at h
   ·rename_i hsm
    split at h
    ·rename_i ht
     split at h
     ·rename_i x hx
      cases h
      obtain ⟨B',hB',hi,b,off,m,cap,po,t',hv,hpp,rfl⟩:=hp
      rw [hB] at hB';cases hB'
      simp only [pathOff,Option.some.injEq,Prod.mk.injEq] at hpp
      obtain ⟨rfl,rfl⟩:=hpp
      obtain ⟨⟨b1,off1,hv1⟩,hsm2⟩:=hR.small k B true hB hsm
      obtain ⟨hbor,hE⟩:=hsm2 rfl
      obtain ⟨tB,xB,bB,lB,sB⟩:=B
      simp only at hbor ht
      subst ht
      have hy:xB=[x]:=one1_eq hx
      subst hbor hy
      rw [hv1] at hv hE
      cases hv
      refine ⟨⟨x,rfl,b,off,by simp,?_⟩,fun r hr=>by rw [List.mem_singleton.1 hr];exact ⟨_,hB⟩⟩
      simp only [List.map_cons,List.map_nil,List.flatten_cons,List.flatten_nil,List.append_nil]
      exact EntC.keepG (A:=⟨tB,[x],true,none,none⟩) (fun _ h=>h) (fun c hc=>hR.gref c (hR.gsub c hc)) (fun _ _=>rfl) hE
     ·cases h
    ·cases h
   ·cases h
  ·cases h
 ·rename_i t A1
  split at h
  ·rename_i x us hpo
   cases h
   obtain ⟨h1,h2,_⟩:=decPo_rep hR (Kept.refl _ _) hp hpo
   exact ⟨⟨x,rfl,h1⟩,h2⟩
  ·cases h
 ·rename_i t A1
  split at h
  ·rename_i x us hsv
   cases h
   obtain ⟨h1,h2⟩:=decSv_rep hR (Kept.refl _ _) hp hsv
   exact ⟨⟨x,rfl,h1⟩,h2⟩
  ·cases h
 ·cases h
theorem updO_spec {q:Nat→Value} {gone:List Nat} (hR:RelV n K w0 G w a E L V own):∀ {ps:List Nat} {os:List AT},ps.length≤os.length→(∀ t∈ps,a.tmps.getD t undef=q t) →
  ∃ ubs,UpdK w K.G0 os (updO E L gone ps os).1 (ps.map q) ubs∧ubs.flatten=((updO E L gone ps os).2.map own).flatten∧∀ r∈(updO E L gone ps os).2,∃ B,hget L r=some B
 | [],os,_,_=>⟨[],by cases os <;> exact ⟨rfl,rfl⟩,by cases os <;> rfl,fun r hr=>by cases os <;> cases hr⟩
 | i :: ps,[],hl,_=>by simp at hl
 | i :: ps,o :: os,hl,hq=>by
  obtain ⟨ubs,h1,h2,h3⟩:=updO_spec hR (ps:=ps) (os:=os) (by simpa using hl) (fun t ht=>hq t (List.mem_cons_of_mem _ ht))
  simp only [updO]
  have skip:∃ ubs,UpdK w K.G0 (o :: os) (none :: (updO E L gone ps os).1) ((i :: ps).map q) ubs∧ubs.flatten=((updO E L gone ps os).2.map own).flatten∧∀ r∈(updO E L gone ps os).2,∃ B,hget L r=some B :=
   ⟨[] :: ubs,⟨_,_,_,rfl,rfl,h1⟩,by simpa using h2,h3⟩
  split
  ·rename_i A ks hk
   split
   ·have hv:=hR.env i
    rw [hq i (List.mem_cons_self ..)] at hv
    obtain ⟨g1,g2⟩:=updOne_spec hR hv hk
    refine ⟨(ks.map own).flatten :: ubs,⟨_,_,_,_,rfl,rfl,g1,h1⟩,by simp [h2],fun r hr => ?_⟩
    rcases List.mem_append.1 hr with hr | hr
    ·exact g2 r hr
    ·exact h3 r hr
   ·exact skip
  ·exact skip
def decO (L:Heap):(t:Ty)→Atom→Option (t.den×List Nat)
 | .sl e,.osl r none=>match hget L r with
  | some A=>match A.bor with
   | true=>none
   | false=>if h:A.t=e then some (castL h A.xs,[r]) else none
  | none=>none
 | .sl e,.osl r (some (lo,hi))=>match hget L r with
  | some A=>match e.flat && !A.bor with
   | true=>if h:A.t=e then some (rgL (some (lo,hi)) (castL h A.xs),[r]) else none
   | false=>none
  | none=>none
 | .sl e,.val (.slice none _ _)=>some ([],[])
 | t,.rcd t' ls=>match decide (t'=t),t.agg with
  | true,true=>ownLs L t ls
  | _,_=>none
 | t,A=>match t.flat with
  | true=>match decB t A with
   | some x=>some (x,[])
   | none=>none
  | false=>none
def decK (L:Heap):RK→(t:Ty)→Atom→Option (t.den×List Nat)
 | .own,t,A=>decO L t A
 | .frz,t,A=>match decB t (stAtom A) with
  | some x=>some (x,[])
  | none=>none
 | .bx,t,A=>match decPb L t A with
  | some (x,us)=>some (x,us)
  | none=>none
def cellA (tab:List TI) (L:Heap) (T:TypeId) (A:Atom):Option Atom :=
 match (tabGet tab T).ty with
 | some t=>loadA L t A
 | none=>none
def finA (tab:List TI) (E:Env) (L:Heap):List RK→List Ty→List ResultVar→Option (List Dyn×List Nat)
 | _,[],[]=>some ([],[])
 | ks,t :: ts,.tmp i :: r=>match E.get i with
  | .a A=>match decK L (RK.hd ks) t A,finA tab E L ks.tail ts r with
   | some (x,us),some (ds,vs)=>some (⟨t,x⟩ :: ds,us++vs)
   | _,_=>none
  | _=>none
 | ks,t :: ts,.cell i T :: r=>match E.get i with
  | .a A=>match cellA tab L T A with
   | some B=>match decK L (RK.hd ks) t B,finA tab E L ks.tail ts r with
    | some (x,us),some (ds,vs)=>some (⟨t,x⟩ :: ds,us++vs)
    | _,_=>none
   | none=>none
  | _=>none
 | _,_,_=>none
def frzF (tab:List TI) (E:Env) (L:Heap):List RK→List ResultVar→List Nat
 | .frz :: ks,.tmp i :: r=>(match E.get i with
  | .a A=>refA A
  | _=>[])++frzF tab E L ks r
 | .frz :: ks,.cell i T :: r=>(match E.get i with
  | .a A=>match cellA tab L T A with
   | some B=>refA B
   | none=>[]
  | _=>[])++frzF tab E L ks r
 | _ :: ks,_ :: r=>frzF tab E L ks r
 | _,_=>[]
theorem isVal_of {t:Ty} {cs:List Value} (hl:cs.length=t.size):IsVal t cs (valOf t cs):=by
 cases t <;> simp only [IsVal,valOf,Ty.agg,if_true,if_false,Bool.false_eq_true]
 all_goals (match cs,hl with | [c],_=>rfl)
theorem cell_run {T:TypeId} {u v:Value} (h:(Instr.loadAt T u).run P w = .ok v w):(do loadVar T (← asAddr u):Sem Value).run P w = .ok v w:=by
 cases u with
 | pointer a =>
  cases a with
  | none=>simp [Instr.loadAt,Instr.sureAddr] at h
  | some a=>simpa [Instr.loadAt,Instr.sureAddr,asAddr] using h
 | _=>simp [Instr.loadAt,Instr.sureAddr] at h
theorem decO_flat (hR:RelV n K w0 G w a E L V own) {t:Ty} {A:Atom} {x:t.den} {us:List Nat} {v:Value} (hv:RepA w0 G L V A v) (h:(match t.flat with | true=>(match decB t A with | some x=>some (x,([]:List Nat)) | none=>none) | false=>none)=some (x,us)) :
  us=[]∧∃ cs,OwnC w t x cs []∧IsVal t cs v:=by
 split at h
 ·rename_i hf
  split at h
  ·rename_i y hd
   cases h
   obtain ⟨cs,hv,_,_,hent⟩:=entR_of_decB (repB_of_decB hv hd) hd false (fun _=>hf)
   exact ⟨rfl,cs,hent w,by rw [hv];exact isVal_of (OwnC.length (hent w))⟩
  ·cases h
 ·cases h
theorem decO_spec (hR:RelV n K w0 G w a E L V own) {t:Ty} {A:Atom} {x:t.den} {us:List Nat} {v:Value} (hv:RepA w0 G L V A v) (h:decO L t A=some (x,us)) :
  (∃ cs,OwnC w t x cs (us.map own).flatten∧IsVal t cs v)∧∀ r∈us,∃ B,hget L r=some B:=by
 unfold decO at h
 split at h
 ·rename_i e r
  have h':slW L e (.osl r none)=some (x,us):=h
  obtain ⟨h1,h2⟩:=slW_rep hR (l := .osl r none) (v:=v) hv h'
  exact ⟨⟨[v],h1,rfl⟩,h2⟩
 ·rename_i e r lo hi
  have h':slW L e (.osl r (some (lo,hi)))=some (x,us):=h
  obtain ⟨h1,h2⟩:=slW_rep hR (l := .osl r (some (lo,hi))) (v:=v) hv h'
  exact ⟨⟨[v],h1,rfl⟩,h2⟩
 ·rename_i e n c
  cases h
  obtain ⟨rfl,hn,hc⟩:=hv
  subst hn hc
  exact ⟨⟨_,⟨_,rfl,by simp [maxLen],.inl ⟨_,rfl,rfl,rfl⟩⟩,rfl⟩,fun r hr=>by cases hr⟩
 ·rename_i t' ls
  split at h
  ·rename_i ht ha
   obtain rfl:=of_decide_eq_true ht
   obtain ⟨cs,rfl,hl,hr⟩:=hv
   obtain ⟨h1,h2⟩:=ownLs_rep hR hr h
   refine ⟨⟨cs,h1,?_⟩,h2⟩
   have:=isVal_of h1.length
   rwa [valOf,if_pos ha] at this
  ·cases h
 ·obtain ⟨rfl,cs,h1,h2⟩:=decO_flat hR hv h
  exact ⟨⟨cs,by simpa using h1,h2⟩,fun r hr=>by cases hr⟩
def NewG (K:Ctx) (G:Nat→Prop) (b:Nat):Prop:=G b∧¬ Good K.w0 K.O b
theorem decK_spec (hR:RelV n K w0 G w a E L V own) {k:RK} {t:Ty} {A:Atom} {x:t.den} {us:List Nat} {v:Value} (hv:RepA w0 G L V A v) (h:decK L k t A=some (x,us)) :
  ResOne w K.Ga (NewG K G) k ⟨t,x⟩ v (us.map own).flatten∧∀ r∈us,∃ B,hget L r=some B:=by
 have hup:∀ b,G b→K.Ga b∨NewG K G b:=fun b hb=>(hR.gup b hb).imp_right fun h=>⟨hb,h⟩
 cases k with
 | own=>exact decO_spec hR hv h
 | frz =>
  simp only [decK] at h
  split at h
  ·rename_i y hd
   cases h
   obtain ⟨cs,hr,hvv⟩:=decB_spec (repB_of_decB (stAtom_rep hv) hd) hd
   refine ⟨⟨rfl,cs,hr.keep hup hR.gref,?_⟩,fun r hr=>by cases hr⟩
   rw [hvv]
   exact isVal_of hr.length
  ·cases h
 | bx =>
  simp only [decK] at h
  split at h
  ·rename_i y us' hd
   cases h
   obtain ⟨⟨b,off,h1,h2⟩,r,B,b',off',e1,_,e3,_⟩:=decPb_rep (q:=false) hR (Kept.refl _ _) hv hd (fun h=>by cases h)
   refine ⟨⟨b,off,h1,EntC.keepG (A:=⟨t,[x],true,none,none⟩) (fun c hc=>hup c hc) (fun _ _=>rfl) (fun _ _=>rfl) h2⟩,fun s hs => ?_⟩
   rw [e1] at hs
   rw [List.mem_singleton.1 hs]
   exact ⟨B,e3⟩
  ·cases h
theorem finA_spec {tab:List TI} (hT:TabOk P tab) (hR:RelV n K w0 G w a E L V own):∀ {ks:List RK} {ts:List Ty} {rv:List ResultVar} {ds:List Dyn} {us:List Nat},finA tab E L ks ts rv=some (ds,us) →
  ∃ rs bss,(rv.mapM fun x=>(match x with | .tmp t=>pure (a.tmps.getD t undef) | .cell b t=>do loadVar t (← asAddr (a.tmps.getD b undef)):Sem Value)).run P w = .ok rs w∧rs.length=rv.length∧ResK w K.Ga (NewG K G) ks ds rs bss∧bss.flatten=(us.map own).flatten∧∀ r∈us,∃ B,hget L r=some B
 | ks,[],[],ds,us,h=>by
  have h':ds=[]∧us=[]:=by cases ks <;> (cases h;exact ⟨rfl,rfl⟩)
  obtain ⟨rfl,rfl⟩:=h'
  exact ⟨[],[],by simp,rfl,by cases ks <;> exact ⟨rfl,rfl⟩,rfl,fun r hr=>by cases hr⟩
 | ks,t :: ts,.tmp i :: rv,ds,us,h=>by
  simp only [finA] at h
  split at h
  ·rename_i A hA
   split at h
   ·rename_i x u ds' vs hd hf
    cases h
    have hv:RepA w0 G L V A (a.tmps.getD i undef):=by
     have:=hR.env i
     rw [hA] at this
     exact this
    obtain ⟨h1,h3⟩:=decK_spec hR hv hd
    obtain ⟨rs,bss,g1,g2,g3,g4,g5⟩:=finA_spec hT hR hf
    refine ⟨a.tmps.getD i undef :: rs,(u.map own).flatten :: bss,?_,by simp [g2],by cases ks <;> exact ⟨_,_,_,_,rfl,rfl,h1,g3⟩,?_,?_⟩
    ·rw [List.mapM_cons]
     simp only [Sem.run_bind,Sem.run_pure,Result.andThen_ok]
     rw [g1]
     rfl
    ·simp [g4]
    ·intro r hr
     rcases List.mem_append.1 hr with hr | hr
     ·exact h3 r hr
     ·exact g5 r hr
   ·cases h
  ·cases h
 | ks,t :: ts,.cell i T :: rv,ds,us,h=>by
  simp only [finA] at h
  split at h
  ·rename_i A hA
   split at h
   ·rename_i B hB
    split at h
    ·rename_i x u ds' vs hd hf
     cases h
     have hv:RepA w0 G L V A (a.tmps.getD i undef):=by
      have:=hR.env i
      rw [hA] at this
      exact this
     unfold cellA at hB
     split at hB
     ·rename_i t0 ht0
      obtain ⟨v,hv',hrun⟩:=loadA_spec (P:=P) hR (TI.ty_ok (hT T) ht0) hv hB
      obtain ⟨h1,h3⟩:=decK_spec hR hv' hd
      obtain ⟨rs,bss,g1,g2,g3,g4,g5⟩:=finA_spec hT hR hf
      refine ⟨v :: rs,(u.map own).flatten :: bss,?_,by simp [g2],by cases ks <;> exact ⟨_,_,_,_,rfl,rfl,h1,g3⟩,?_,?_⟩
      ·have hc:=cell_run (hrun w (Kept.refl _ _))
       rw [List.mapM_cons,Sem.run_bind]
       refine (congrArg (fun r=>Result.andThen r _) hc).trans ?_
       simp only [Result.andThen_ok,Sem.run_bind]
       rw [g1]
       rfl
      ·simp [g4]
      ·intro r hr
       rcases List.mem_append.1 hr with hr | hr
       ·exact h3 r hr
       ·exact g5 r hr
     ·cases hB
    ·cases h
   ·cases h
  ·cases h
 | ks,[],_ :: _,_,_,h=>by cases ks <;> cases h
 | ks,_ :: _,[],_,_,h=>by cases ks <;> cases h
def runF (tab:List TI) (ext:Ext) (wr:Bool) (n:Nat) (stops:List Nat) (m:Nat) (pins:List Nat) (oks:List AT) (kds:List RK) (ts:List Ty) (rv:Array ResultVar) (path:List Bool) (k:List Item) (E:Env) (L:Heap):Option (List Dyn×List (Option Lst)×List Prop) :=
 match runA tab ext wr n stops m true k ⟨path,[],E,L,[],pins⟩ with
 | some (.fin S)=>match frzAll (frzF tab S.E S.L kds rv.toList) (S.E,S.L) with
  | (E1,L1)=>match finA tab E1 L1 kds ts rv.toList with
   | some (ds,us)=>match nodupB ((updO E1 L1 us pins oks).2++us)&&decide (S.pins=pins)&&Nat.ble pins.length oks.length with
    | true=>some (ds,(updO E1 L1 us pins oks).1,S.cs)
    | false=>none
   | none=>none
 | _=>none
def WeakU:List (Option Lst)→List (Option Lst)→Prop
 | [],[]=>True
 | u :: r,u' :: r'=>(u'=u∨u'=none)∧WeakU r r'
 | _,_=>False
theorem PostR.weak {kds:List RK} {oks:List AT} {ds:List Dyn} {us us':List (Option Lst)} {pins:List Nat} {q:Nat→Value} {K:Ctx} {e:Ending} {w':World} (h:PostR kds oks ds us pins q K e w') (hw:WeakU us us'):PostR kds oks ds us' pins q K e w':=by
 obtain ⟨rs,ubs,rbs,F,h1,h2,h3,h4,h5,h6,h7⟩:=h
 have key:∀ (us us':List (Option Lst)) (os:List AT) (vs:List Value) (ubs:List (List Nat)),WeakU us us'→UpdK w' K.G0 os us vs ubs→∃ nbs:List (List Nat),UpdK w' K.G0 os us' vs nbs∧nbs.flatten.Sublist ubs.flatten:=by
  intro us
  induction us with
  | nil =>
   intro us' os vs ubs hw h
   cases us' with
   | nil=>exact ⟨ubs,h,List.Sublist.refl _⟩
   | cons _ _=>cases hw
  | cons u r ih =>
   intro us' os vs ubs hw h
   cases us' with
   | nil=>cases hw
   | cons u' r' =>
    obtain ⟨hu,hw⟩:=hw
    cases os with
    | nil=>cases u <;> exact h.elim
    | cons o os =>
     cases u with
     | none =>
      obtain ⟨v,s,bs,rfl,rfl,h⟩:=h
      obtain ⟨nbs,g1,g2⟩:=ih _ _ _ _ hw h
      have:u'=none:=by rcases hu with h | h <;> exact h
      subst this
      exact ⟨[] :: nbs,⟨_,_,_,rfl,rfl,g1⟩,by simpa using g2⟩
     | some A =>
      obtain ⟨v,s,b,bs,rfl,rfl,h0,h⟩:=h
      obtain ⟨nbs,g1,g2⟩:=ih _ _ _ _ hw h
      rcases hu with rfl | rfl
      ·exact ⟨b :: nbs,⟨_,_,_,_,rfl,rfl,h0,g1⟩,by simpa using g2⟩
      ·exact ⟨[] :: nbs,⟨_,_,_,rfl,rfl,g1⟩,by simpa using g2.trans (List.sublist_append_right _ _)⟩
 obtain ⟨nbs,g1,g2⟩:=key _ _ _ _ _ hw h4
 have g3:(nbs.flatten++rbs.flatten).Sublist (ubs.flatten++rbs.flatten):=g2.append_right _
 refine ⟨rs,nbs,rbs,F,h1,h2,h3,g1,h5.sublist g3,fun b hb=>h6 b (g3.subset hb),fun b hb => ?_⟩
 obtain ⟨k1,k2,k3⟩:=h7 b hb
 exact ⟨k1,k2,fun hm=>k3 (g3.subset hm)⟩
theorem AtV.mono {R':Ending→World→Prop} {q:Nat→Value} {ps:List Nat} {k:List Item} (h:AtV P f R n K q ps k E L) (hm:∀ e w,R e w→R' e w):AtV P f R' n K q ps k E L:=by
 intro a w w0 G V own hR hq b cs hb hk
 obtain ⟨e,w',fr,h1,h2⟩:=h a w w0 G V own hR hq b cs hb hk
 exact ⟨e,w',fr,hm _ _ h1,h2⟩
theorem AtV.weak {kds:List RK} {oks:List AT} {ds:List Dyn} {us us':List (Option Lst)} {q:Nat→Value} {pins ps:List Nat} {k:List Item} (h:AtV P f (PostR kds oks ds us pins q K) n K q ps k E L) (hw:WeakU us us'):AtV P f (PostR kds oks ds us' pins q K) n K q ps k E L :=
 h.mono fun _ _ h=>h.weak hw
theorem AtV.fin {fn:Func} (hf:P.funcs[f]? = some fn) {tab:List TI} {ext:Ext} (hT:TabOk P tab) (hX:ExtOk P ext) (hm:P.follows .mixedOrders=true) {q:Nat→Value} {pins:List Nat} {oks:List AT} {kds:List RK} {wr:Bool} {stops:List Nat} {m:Nat} {ts:List Ty} {path:List Bool} {k:List Item} {ds:List Dyn} {us:List (Option Lst)} {cs:List Prop}
  (h:runF tab ext wr n stops m pins oks kds ts fn.results path k E L=some (ds,us,cs)) (hc:All cs):AtV P f (PostR kds oks ds us pins q K) n K q pins k E L:=by
 intro a w w0 G V own hR hq
 unfold runF at h
 split at h
 ·rename_i S hr
  split at h
  rename_i E1 L1 hfrz
  split at h
  ·rename_i ds' us' hfin
   split at h
   ·rename_i hnd
    simp only [Bool.and_eq_true,decide_eq_true_eq,Nat.ble_eq] at hnd
    obtain ⟨⟨hnd,hp⟩,hpl⟩:=hnd
    cases h
    refine runA_run hT hX hm hr hc hR ⟨fun t d ht=>by simp [lookB] at ht,hq⟩ ?_
    intro a' w' w1 G1 V' own' hR1 hq'
    rw [hp] at hq'
    obtain ⟨w2,G2,hR'⟩:=frzAll_spec (rs:=frzF tab S.E S.L kds fn.results.toList) hR1
    rw [hfrz] at hR'
    obtain ⟨rs,bss,g1,g2,g3,g4,g5⟩:=finA_spec (P:=P) hT hR' hfin
    obtain ⟨ubs,k1,k2,k3⟩:=updO_spec (gone:=us') hR' hpl hq'
    have hall:ubs.flatten++bss.flatten=(((updO E1 L1 us' pins oks).2++us').map own').flatten:=by rw [k2,g4,List.map_append,List.flatten_append]
    have hlive:∀ r∈(updO E1 L1 us' pins oks).2++us',∃ B,hget L1 r=some B:=fun r hr=>by
     rcases List.mem_append.1 hr with hr | hr
     ·exact k3 r hr
     ·exact g5 r hr
    have hout:∀ b∈ubs.flatten++bss.flatten,Am.Out K G2 b:=by
     intro b hb
     rw [hall] at hb
     obtain ⟨l,hl,hb⟩:=List.mem_flatten.1 hb
     obtain ⟨r,hr,rfl⟩:=List.mem_map.1 hl
     obtain ⟨B,hB⟩:=hlive r hr
     exact hR'.good r B hB b hb
    refine ⟨hR'.defers,fn,packV rs,hf,?_,rs,ubs,bss,NewG K G2,rfl,hR'.kept,g3,k1,?_,fun b hb=>(hout b hb).1,fun b hb=>⟨hR'.glt b hb.1,hb.2,fun hm=>(hout b hm).2 hb.1⟩⟩
    ·unfold results
     have hm':(fn.results.mapM fun x=>(match x with | .tmp t=>pure (a'.tmps.getD t undef) | .cell b t=>do loadVar t (← asAddr (a'.tmps.getD b undef)):Sem Value)).run P w' = .ok rs.toArray w':=by
      rw [show fn.results=fn.results.toList.toArray from rfl,List.mapM_toArray]
      simp only [map_eq_pure_bind,Sem.run_bind,g1,Result.andThen_ok,Sem.run_pure]
     simp only [Sem.run_bind]
     refine (congrArg (fun r=>Result.andThen r _) hm').trans ?_
     simp only [Result.andThen_ok,Sem.run_pure]
     congr 1
     match rs with
     | []=>rfl
     | [v]=>rfl
     | _ :: _ :: _=>simp [packV]
    ·rw [hall];exact own_nodup hR' (nodupB_spec hnd) hlive
   ·cases h
  ·cases h
 ·cases h
end
end Go.Am
namespace Go.Am
open Go.ChangeShapes Go.WideShapes Go.ChangeAt Go.RowKit
set_option linter.unusedVariables false
set_option linter.unusedSimpArgs false
def wrapB (P:Program) (agg:Bool) (T:TypeId) (k:TypeId ⊕ (List Field×Nat)→Bool):Bool :=
 match agg with
 | true=>match P.underlying T with
  | some (.struct fs)=>k (.inr (fs.toList,0))
  | _=>false
 | false=>k (.inl T)
def readsB (P:Program):Ty→TypeId ⊕ (List Field×Nat)→Bool
 | .int k,.inl T=>isIntB k (P.underlying T)
 | .bool,.inl T=>isBoolB (P.underlying T)
 | .str,.inl T=>isStrB (P.underlying T)
 | .unit,.inr ([],_)=>true
 | .cons a b,.inr (f :: fs,o)=>Nat.beq f.offset o&&(Nat.beq (P.cellsOf f.type) a.size&&(wrapB P a.agg f.type (readsB P a)&&readsB P b (.inr (fs,o+a.size))))
 | _,_=>false
def readsT (P:Program) (t:Ty) (T:TypeId):Bool:=Nat.beq (P.cellsOf T) t.size&&wrapB P t.agg T (readsB P t)
section
variable {H:Type} {enc:TypeId×Value→H} {P:Program} {w:World} {base:Nat} {spare:Nat→Bool} {held:Bool} {G:Nat→Prop}
def TrodOne (enc:TypeId×Value→H) (P:Program) (w:World) (base:Nat) (spare:Nat→Bool) (held:Bool) (cs:List Value) (f:Field):Prop :=
 ∃ n x,DataW.trod enc P w base spare held n f.type ((cs.drop f.offset).take (P.cellsOf f.type))=some x
theorem trod_fields {T:TypeId} {fs:Array Field} {fuel:Nat} {cs:List Value} {x:DataW H×List MemPlace} (ht:P.underlying T=some (.struct fs)) (h:DataW.trod enc P w base spare held fuel T cs=some x) :
  cs.length=P.cellsOf T∧∀ f∈fs.toList,TrodOne enc P w base spare held cs f:=by
 obtain ⟨xs,n,_,_,hl,hx,hf⟩:=DataW.trod_struct ht h
 refine ⟨hl,fun f hf' => ?_⟩
 obtain ⟨i,hi⟩:=List.getElem?_of_mem hf'
 rw [Array.getElem?_toList] at hi
 have hlt:i<fs.size:=(Array.getElem?_eq_some_iff.1 hi).1
 have:=hf i f hi
 exact ⟨n,xs[i]'(by omega),by rw [this];exact List.getElem?_eq_getElem _⟩
theorem trod_rep:∀ (t:Ty),
  (∀ T fuel cs x,wrapB P t.agg T (readsB P t)=true→P.cellsOf T=t.size→DataW.trod enc P w base spare held fuel T cs=some x→∃ y,RepC w G t y cs) ∧
  (∀ fs o cs,readsB P t (.inr (fs,o))=true→(∀ f∈fs,TrodOne enc P w base spare held cs f)→cs.length=o+t.size→∃ y,RepC w G t y (cs.drop o))
 | .int k=>by
  refine ⟨fun T fuel cs x h _ ht => ?_,fun fs o cs h=>by simp [readsB] at h⟩
  have hu:=isIntB_eq (by simpa [wrapB,Ty.agg,readsB] using h)
  obtain ⟨n,rfl,_,hw⟩:=DataW.trod_int hu ht
  exact ⟨n,rfl,by simpa [Lit.wf,InR] using hw⟩
 | .bool=>by
  refine ⟨fun T fuel cs x h _ ht => ?_,fun fs o cs h=>by simp [readsB] at h⟩
  have hu:=isBoolB_eq (by simpa [wrapB,Ty.agg,readsB] using h)
  obtain ⟨b,rfl,_⟩:=DataW.trod_bool hu ht
  exact ⟨b,rfl⟩
 | .fn=>⟨fun T fuel cs x h=>by simp [wrapB,Ty.agg,readsB] at h,fun fs o cs h=>by simp [readsB] at h⟩
 | .str=>by
  refine ⟨fun T fuel cs x h _ ht => ?_,fun fs o cs h=>by simp [readsB] at h⟩
  have hu:=isStrB_eq (by simpa [wrapB,Ty.agg,readsB] using h)
  obtain ⟨s,rfl,_,hs⟩:=DataW.trod_string hu ht
  exact ⟨s,rfl,hs⟩
 | .sl e=>by
  exact ⟨fun T fuel cs x h=>by simp [wrapB,Ty.agg,readsB] at h,fun fs o cs h=>by simp [readsB] at h⟩
 | .unit=>by
  have hB:∀ fs o cs,readsB P .unit (.inr (fs,o))=true→(∀ f∈fs,TrodOne enc P w base spare held cs f)→cs.length=o+Ty.unit.size→∃ y,RepC w G .unit y (cs.drop o):=by
   intro fs o cs h _ hl
   refine ⟨(),?_⟩
   show cs.drop o=[]
   rw [List.drop_eq_nil_iff]
   simp [Ty.size] at hl
   omega
  refine ⟨fun T fuel cs x h hc ht => ?_,hB⟩
  simp only [wrapB,Ty.agg] at h
  split at h
  ·rename_i fs hu
   obtain ⟨h1,h2⟩:=trod_fields hu ht
   simpa using hB _ _ cs h h2 (by rw [h1,hc];simp)
  ·cases h
 | .cons a b=>by
  obtain ⟨ha,_⟩:=trod_rep a
  obtain ⟨_,hb⟩:=trod_rep b
  have hB:∀ fs o cs,readsB P (.cons a b) (.inr (fs,o))=true→(∀ f∈fs,TrodOne enc P w base spare held cs f)→cs.length=o+(Ty.cons a b).size→∃ y,RepC w G (.cons a b) y (cs.drop o):=by
   intro fs o cs h hf hl
   match fs,h with
   | [],h=>simp [readsB] at h
   | f :: fs,h =>
    simp only [readsB,Bool.and_eq_true] at h
    obtain ⟨h1,h2,h3,h4⟩:=h
    have h1:=Nat.eq_of_beq_eq_true h1
    have h2:=Nat.eq_of_beq_eq_true h2
    simp only [Ty.size] at hl
    obtain ⟨n,x,hx⟩:=hf f (List.mem_cons_self ..)
    rw [h1,h2] at hx
    obtain ⟨y1,hy1⟩:=ha _ _ _ _ h3 h2 hx
    obtain ⟨y2,hy2⟩:=hb fs (o+a.size) cs h4 (fun g hg=>hf g (List.mem_cons_of_mem _ hg)) (by omega)
    refine ⟨(y1,y2),_,_,?_,hy1,hy2⟩
    rw [← List.drop_drop]
    exact (List.take_append_drop _ _).symm
  refine ⟨fun T fuel cs x h hc ht => ?_,hB⟩
  simp only [wrapB,Ty.agg] at h
  split at h
  ·rename_i fs hu
   obtain ⟨h1,h2⟩:=trod_fields hu ht
   simpa using hB _ _ cs h h2 (by rw [h1,hc];simp)
  ·cases h
theorem cells_list {a:Addr} {n:Nat} {cs:List Value} (h:w.cells? base a n=some cs):cs.length=n∧∀ j c,cs[j]? = some c→w.cell? (a.add j)=some c:=by
 unfold World.cells? at h
 split at h
 ·have key:∀ (l:List Nat) (cs:List Value),(l.mapM fun i=>w.cell? (a.add i))=some cs→cs.length=l.length∧∀ (j:Nat) (c:Value) (i:Nat),cs[j]? = some c→l[j]? = some i→w.cell? (a.add i)=some c:=by
   intro l
   induction l with
   | nil=>intro cs h;simp at h;subst h;simp
   | cons i l ih =>
    intro cs h
    rw [List.mapM_cons] at h
    cases hc:w.cell? (a.add i) with
    | none=>simp [hc] at h
    | some c =>
     cases hr:l.mapM fun i=>w.cell? (a.add i) with
     | none=>simp [hc,hr] at h
     | some r =>
      simp [hc,hr] at h
      subst h
      obtain ⟨h1,h2⟩:=ih r hr
      refine ⟨by simp [h1],fun j c' i' hj hi => ?_⟩
      cases j with
      | zero=>simp at hj hi;subst hj hi;exact hc
      | succ j=>exact h2 j c' i' (by simpa using hj) (by simpa using hi)
  obtain ⟨h1,h2⟩:=key _ _ h
  refine ⟨by simpa using h1,fun j c hj=>h2 j c j hj ?_⟩
  have hlt:=(List.getElem?_eq_some_iff.1 hj).1
  have h1':cs.length=n:=by simpa using h1
  rw [List.getElem?_range (by omega)]
 ·cases h
def FitV (w:World) (v:Value):Prop:=∀ a len cap,v = .slice (some a) len cap→a.spot=none∧a.block<w.heap.size
theorem has_fit {r:Reach} {b0:Nat} {a:Addr} {e:TypeId} {n:Nat} (h:w.has P r b0 a e n):a.spot=none∧a.block<w.heap.size:=by
 obtain ⟨_,hs,row,cells,hsh,_⟩:=h
 refine ⟨hs,?_⟩
 rcases Nat.lt_or_ge a.block w.heap.size with hlt | hge
 ·exact hlt
 ·simp [World.shape?, Array.getElem?_eq_none hge] at hsh
theorem cell_fit {r:Reach} {b0:Nat} {u:TypeId} {v:Value} (h:Cell.okWide P w r b0 u v):FitV w v:=by
 rintro a len cap rfl
 unfold Cell.okWide at h
 split at h
 all_goals first
  | (rename_i hv;cases hv;done)
  | skip
 unfold Cell.ok at h
 split at h
 all_goals first
  | (rename_i hv;cases hv;done)
  | (cases h;done)
  | skip
 rename_i hv
 cases hv
 exact has_fit h.2.2
theorem row_fit {r:Reach} {b0:Nat} {T:TypeId} {cs:Array Value} (h:Row.okWide P w r b0 T cs):∀ v∈cs.toList,FitV w v:=by
 obtain ⟨ts,_,_,h⟩:=h
 intro v hv
 obtain ⟨i,hi⟩:=List.getElem?_of_mem hv
 rw [Array.getElem?_toList] at hi
 obtain ⟨u,_,hu⟩:=h i v hi
 exact cell_fit hu
theorem trod_slice_rep {e:Ty} {E T:TypeId} {fuel:Nat} {cs:List Value} {x:DataW H×List MemPlace} (hu:P.underlying T=some (.slice E)) (hr:readsT P e E=true) (hz:e.size≠0) (hf:∀ v∈cs,FitV w v)
  (h:DataW.trod enc P w base spare held fuel T cs=some x):∃ (v:Value) (ys:List e.den),cs=[v]∧SlAt w (Good w []) (RepC w (Good w []) e) e.size ys v:=by
 simp only [readsT,Bool.and_eq_true] at hr
 obtain ⟨hc,hr⟩:=hr
 have hc:=Nat.eq_of_beq_eq_true hc
 rcases DataW.trod_slice hu h with ⟨h1,_⟩ | ⟨a,len,cap,elems,rest,n,_,h1,_,_,hl,hm,hlen,hel,_⟩
 ·exact ⟨_,[],h1,by simp [maxLen],.inl ⟨_,rfl,rfl⟩⟩
 ·subst h1
  obtain ⟨hs,hb⟩:=hf _ (List.mem_singleton.2 rfl) _ _ _ rfl
  obtain ⟨b,off,spot⟩:=a
  simp only at hs hb
  subst hs
  have each:∀ i,i<len→∃ y cs,cs.length=e.size∧(∀ j c,cs[j]? = some c→w.cell? ⟨b,off+i*e.size+j,none⟩=some c)∧RepC w (Good w []) e y cs:=by
   intro i hi
   have hx:=hel i hi
   rw [List.getElem?_eq_getElem (by omega)] at hx
   simp only [Option.bind_eq_some_iff] at hx
   obtain ⟨cs,g1,g2⟩:=hx
   obtain ⟨k1,k2⟩:=cells_list g1
   obtain ⟨y,hy⟩:=(trod_rep (G:=Good w []) e).1 E _ _ _ hr hc g2
   refine ⟨y,cs,by rw [k1,hc],fun j c hj => ?_,hy⟩
   have:=k2 j c hj
   rw [hc] at this
   rw [Addr.add_lit,Addr.add_lit] at this
   exact this
  have build:∀ k,k≤len→∃ ys:List e.den,ys.length=k∧∀ i y,ys[i]? = some y→∃ cs,cs.length=e.size∧(∀ j c,cs[j]? = some c→w.cell? ⟨b,off+i*e.size+j,none⟩=some c)∧RepC w (Good w []) e y cs:=by
   intro k
   induction k with
   | zero=>intro _;exact ⟨[],rfl,fun i y h=>by simp at h⟩
   | succ k ih =>
    intro hk
    obtain ⟨ys,h1,h2⟩:=ih (by omega)
    obtain ⟨y,cs,g1,g2,g3⟩:=each k (by omega)
    refine ⟨ys++[y],by simp [h1],fun i z hz => ?_⟩
    by_cases hi:i<ys.length
    ·rw [List.getElem?_append_left hi] at hz
     exact h2 i z hz
    ·have hlt:=(List.getElem?_eq_some_iff.1 hz).1
     simp at hlt
     have:i=k:=by omega
     subst this
     rw [List.getElem?_append_right (by omega)] at hz
     simp [h1] at hz
     subst hz
     exact ⟨cs,g1,g2,g3⟩
  obtain ⟨ys,h1,h2⟩:=build len (Nat.le_refl _)
  exact ⟨_,ys,rfl,by omega,.inr ⟨b,off,cap,by rw [h1],by omega,by omega,⟨hb,by simp⟩,h2⟩⟩
def readsW (P:Program):Ty→TypeId ⊕ (List Field×Nat)→Bool
 | .sl e,.inl T=>match P.underlying T with
  | some (.slice E)=>readsT P e E && !Nat.beq e.size 0
  | _=>false
 | .unit,.inr ([],_)=>true
 | .cons a b,.inr (f :: fs,o)=>Nat.beq f.offset o&&(Nat.beq (P.cellsOf f.type) a.size&&(wrapB P a.agg f.type (readsW P a)&&readsW P b (.inr (fs,o+a.size))))
 | .int k,x=>readsB P (.int k) x
 | .bool,x=>readsB P .bool x
 | .str,x=>readsB P .str x
 | _,_=>false
theorem trod_repW:∀ (t:Ty),
  (∀ T fuel cs x,wrapB P t.agg T (readsW P t)=true→P.cellsOf T=t.size→(∀ v∈cs,FitV w v)→DataW.trod enc P w base spare held fuel T cs=some x→∃ y,RepC w (Good w []) t y cs) ∧
  (∀ fs o cs,readsW P t (.inr (fs,o))=true→(∀ f∈fs,TrodOne enc P w base spare held cs f)→(∀ v∈cs,FitV w v)→cs.length=o+t.size→∃ y,RepC w (Good w []) t y (cs.drop o))
 | .int k=>by
  refine ⟨fun T fuel cs x h hc _ ht=>(trod_rep (.int k)).1 T fuel cs x ?_ hc ht,fun fs o cs h=>by simp [readsW,readsB] at h⟩
  simpa [wrapB,Ty.agg,readsW] using h
 | .bool=>by
  refine ⟨fun T fuel cs x h hc _ ht=>(trod_rep .bool).1 T fuel cs x ?_ hc ht,fun fs o cs h=>by simp [readsW,readsB] at h⟩
  simpa [wrapB,Ty.agg,readsW] using h
 | .fn=>⟨fun T fuel cs x h=>by simp [wrapB,Ty.agg,readsW] at h,fun fs o cs h=>by simp [readsW] at h⟩
 | .str=>by
  refine ⟨fun T fuel cs x h hc _ ht=>(trod_rep .str).1 T fuel cs x ?_ hc ht,fun fs o cs h=>by simp [readsW,readsB] at h⟩
  simpa [wrapB,Ty.agg,readsW] using h
 | .sl e=>by
  refine ⟨fun T fuel cs x h hc hf ht => ?_,fun fs o cs h=>by simp [readsW] at h⟩
  simp only [wrapB,Ty.agg,readsW] at h
  split at h
  ·rename_i E hu
   simp only [Bool.and_eq_true,Bool.not_eq_true'] at h
   obtain ⟨v,ys,h1,h2⟩:=trod_slice_rep hu h.1 (fun hz=>by have:=h.2;rw [hz] at this;simp at this) hf ht
   exact ⟨ys,v,h1,h2⟩
  ·cases h
 | .unit=>by
  have hB:∀ fs o cs,readsW P .unit (.inr (fs,o))=true→(∀ f∈fs,TrodOne enc P w base spare held cs f)→cs.length=o+Ty.unit.size→∃ y,RepC w (Good w []) .unit y (cs.drop o):=by
   intro fs o cs h _ hl
   refine ⟨(),?_⟩
   show cs.drop o=[]
   rw [List.drop_eq_nil_iff]
   simp [Ty.size] at hl
   omega
  refine ⟨fun T fuel cs x h hc _ ht => ?_,fun fs o cs h1 h2 _ h3=>hB fs o cs h1 h2 h3⟩
  simp only [wrapB,Ty.agg] at h
  split at h
  ·rename_i fs hu
   obtain ⟨h1,h2⟩:=trod_fields hu ht
   simpa using hB _ _ cs h h2 (by rw [h1,hc];simp)
  ·cases h
 | .cons a b=>by
  obtain ⟨ha,_⟩:=trod_repW a
  obtain ⟨_,hb⟩:=trod_repW b
  have hB:∀ fs o cs,readsW P (.cons a b) (.inr (fs,o))=true→(∀ f∈fs,TrodOne enc P w base spare held cs f)→(∀ v∈cs,FitV w v)→cs.length=o+(Ty.cons a b).size→∃ y,RepC w (Good w []) (.cons a b) y (cs.drop o):=by
   intro fs o cs h hf hfit hl
   match fs,h with
   | [],h=>simp [readsW] at h
   | f :: fs,h =>
    simp only [readsW,Bool.and_eq_true] at h
    obtain ⟨h1,h2,h3,h4⟩:=h
    have h1:=Nat.eq_of_beq_eq_true h1
    have h2:=Nat.eq_of_beq_eq_true h2
    simp only [Ty.size] at hl
    obtain ⟨n,x,hx⟩:=hf f (List.mem_cons_self ..)
    rw [h1,h2] at hx
    obtain ⟨y1,hy1⟩:=ha _ _ _ _ h3 h2 (fun v hv=>hfit v (List.mem_of_mem_drop (List.mem_of_mem_take hv))) hx
    obtain ⟨y2,hy2⟩:=hb fs (o+a.size) cs h4 (fun g hg=>hf g (List.mem_cons_of_mem _ hg)) hfit (by omega)
    refine ⟨(y1,y2),_,_,?_,hy1,hy2⟩
    rw [← List.drop_drop]
    exact (List.take_append_drop _ _).symm
  refine ⟨fun T fuel cs x h hc hfit ht => ?_,hB⟩
  simp only [wrapB,Ty.agg] at h
  split at h
  ·rename_i fs hu
   obtain ⟨h1,h2⟩:=trod_fields hu ht
   simpa using hB _ _ cs h h2 hfit (by rw [h1,hc];simp)
  ·cases h
def argB (P:Program):Ty→TypeId→Bool
 | .sl e,T=>match P.underlying T with
  | some (.slice E)=>readsT P e E && !Nat.beq e.size 0
  | _=>false
 | t,T=>readsT P t T||(t.agg&&(Nat.beq (P.cellsOf T) t.size&&wrapB P true T (readsW P t)))
theorem okWide_agg {r:Reach} {b0:Nat} {T:TypeId} {v:Value} {fs:Array Field} (hu:P.underlying T=some (.struct fs)) (h:Value.okWide P w r b0 T v):∃ cs,v = .agg cs:=by
 simp only [Value.okWide,hu] at h
 obtain ⟨cs,hv,_⟩:=h
 exact ⟨cs,hv⟩
theorem trod_flat_arg {r:Reach} {b0:Nat} {t:Ty} {T:TypeId} {v:Value} {d:DataW H} {ps:List MemPlace} (hB:readsT P t T=true) (hv:Value.okWide P w r b0 T v) (h:DataW.Trod enc P w base spare held T v d ps) :
  ∃ x:t.den,RepB w G (toAtom t x) v:=by
 simp only [readsT,Bool.and_eq_true] at hB
 obtain ⟨hc,hB⟩:=hB
 have hc:=Nat.eq_of_beq_eq_true hc
 obtain ⟨fuel,hf⟩:=h
 obtain ⟨y,hy⟩:=(trod_rep (G:=G) t).1 T fuel _ _ hB hc hf
 refine ⟨y,?_⟩
 cases t with
 | int k =>
  have hu:=isIntB_eq (by simpa [wrapB,Ty.agg,readsB] using hB)
  obtain ⟨n,rfl⟩:=okWide_int hu hv
  obtain ⟨h1,h2⟩:=hy
  simp [Value.cells] at h1
  subst h1
  exact ⟨rfl,h2⟩
 | bool =>
  have hu:=isBoolB_eq (by simpa [wrapB,Ty.agg,readsB] using hB)
  obtain ⟨b,rfl⟩:=okWide_bool hu hv
  have h1:([.bool b]:List Value)=[.bool y]:=hy
  cases h1
  exact ⟨rfl,trivial⟩
 | fn=>simp [wrapB,Ty.agg,readsB] at hB
 | str =>
  have hu:=isStrB_eq (by simpa [wrapB,Ty.agg,readsB] using hB)
  obtain ⟨s,rfl⟩:=okWide_string hu hv
  obtain ⟨h1,h2⟩:=hy
  simp [Value.cells] at h1
  subst h1
  exact ⟨rfl,h2⟩
 | sl e=>simp [wrapB,Ty.agg,readsB] at hB
 | unit =>
  simp only [wrapB,Ty.agg] at hB
  split at hB
  ·rename_i fs hu
   obtain ⟨cs,rfl⟩:=okWide_agg hu hv
   exact ⟨cs.toList,by simp,hy⟩
  ·cases hB
 | cons a b =>
  simp only [wrapB,Ty.agg] at hB
  split at hB
  ·rename_i fs hu
   obtain ⟨cs,rfl⟩:=okWide_agg hu hv
   exact ⟨cs.toList,by simp,hy⟩
  ·cases hB
theorem has_spot {r:Reach} {b0:Nat} {T E:TypeId} {a:Addr} {len cap:Nat} (hu:P.underlying T=some (.slice E)) (hv:Value.okWide P w r b0 T (.slice (some a) len cap)):a.spot=none∧a.block<w.heap.size:=by
 simp only [Value.okWide,hu,Cell.okWide,Cell.ok] at hv
 obtain ⟨_,_,hh⟩:=hv
 obtain ⟨_,hs,row,cells,hsh,_⟩:=hh
 refine ⟨hs,?_⟩
 rcases Nat.lt_or_ge a.block w.heap.size with hlt | hge
 ·exact hlt
 ·simp [World.shape?, Array.getElem?_eq_none hge] at hsh
theorem trod_arg {r:Reach} {b0:Nat} {t:Ty} {T:TypeId} {v:Value} {d:DataW H} {ps:List MemPlace} (hB:argB P t T=true) (hv:Value.okWide P w r b0 T v) (h:DataW.Trod enc P w base spare held T v d ps) :
  ∃ x:t.den,RepB w (Good w []) (toAtom t x) v:=by
 unfold argB at hB
 split at hB
 ·rename_i e
  split at hB
  ·rename_i E hu
   simp only [Bool.and_eq_true,Bool.not_eq_true'] at hB
   obtain ⟨a0,len,cap,rfl⟩:=okWide_slice hu hv
   obtain ⟨fuel,hf⟩:=h
   have hfit:∀ u∈(Value.slice a0 len cap).cells.toList,FitV w u:=fun u hu'=>by
    simp [Value.cells] at hu'
    subst hu'
    rintro a l c he
    cases he
    exact has_spot hu hv
   obtain ⟨u,ys,h1,h2⟩:=trod_slice_rep hu hB.1 (fun hz=>by have:=hB.2;rw [hz] at this;simp at this) hfit hf
   simp [Value.cells] at h1
   subst h1
   exact ⟨ys,h2⟩
  ·cases hB
 ·rename_i hns
  rw [Bool.or_eq_true] at hB
  rcases hB with hB | hB
  ·exact trod_flat_arg hB hv h
  ·simp only [Bool.and_eq_true] at hB
   obtain ⟨ha,hc,hB⟩:=hB
   have hc:=Nat.eq_of_beq_eq_true hc
   obtain ⟨fuel,hf⟩:=h
   have hB':=hB
   unfold wrapB at hB
   simp only at hB
   split at hB
   ·rename_i fs hu
    simp only [Value.okWide,hu] at hv
    obtain ⟨cs,rfl,_,hrow⟩:=hv
    obtain ⟨y,hy⟩:=(trod_repW t).1 T fuel _ _ (by rw [ha];exact hB') hc (row_fit hrow) (by simpa [Value.cells] using hf)
    refine ⟨y,?_⟩
    cases t with
    | cons a b=>exact ⟨cs.toList,by simp,hy⟩
    | unit=>exact ⟨cs.toList,by simp,hy⟩
    | _=>cases ha
   ·cases hB
theorem trod_args {r:Reach} {b0:Nat}:∀ {ts:List Ty} {Ts:List TypeId} {vs:List Value} {ds:List (DataW H)} {ps:List MemPlace},ts.length=Ts.length→(∀ (i:Nat) (t:Ty) (T:TypeId),ts[i]? = some t→Ts[i]? = some T→argB P t T=true) →
  (∀ (j:Nat) T v,Ts[j]? = some T→vs[j]? = some v→Value.okWide P w r b0 T v)→DataW.TrodAll enc P w base spare held Ts vs ds ps →
  ∃ (x:sigDen (ts.map AT.v)) (bss:List (List Nat)),bss.flatten=[]∧ArgsRep w (Good w []) (ts.map AT.v) x vs bss
 | [],[],[],[],_,_,_,_,_=>⟨(),[],rfl,rfl,rfl⟩
 | t :: ts,T :: Ts,v :: vs,d :: ds,ps,hl,hB,hv,h=>by
  obtain ⟨p,q,h1,h2,_⟩:=h
  obtain ⟨x,hx⟩:=trod_arg (hB 0 t T rfl rfl) (hv 0 T v rfl rfl) h1
  obtain ⟨y,bss,hb,hy⟩:=trod_args (by simpa using hl) (fun i t T h1 h2=>hB (i+1) t T (by simpa using h1) (by simpa using h2)) (fun j T v h1 h2=>hv (j+1) T v (by simpa using h1) (by simpa using h2)) h2
  exact ⟨(x,y),[] :: bss,by simpa using hb,v,vs,[],bss,rfl,rfl,⟨rfl,hx⟩,hy⟩
 | [],_ :: _,_,_,_,hl,_,_,_=>by simp at hl
 | _ :: _,[],_,_,_,hl,_,_,_=>by simp at hl
end
end Go.Am
namespace Go.Am
open Go.ChangeShapes Go.WideShapes Go.ChangeAt Go.RowKit
set_option linter.unusedVariables false
set_option linter.unusedSimpArgs false
section
variable {H:Type} {enc:TypeId×Value→H} {P:Program} {W W':World}
theorem trodAll_below (hl:laidOutB P=true) (hb:Below W.heap.size W W'):∀ {ts:List TypeId} {vs:List Value} {ds:List (DataW H)} {ps:List MemPlace},(∀ t∈ts,P.readableRec t=true∧t<P.types.size) →
  DataW.TrodAll enc P W 0 (fun _=>true) true ts vs ds ps→(∀ x∈ps,x.block<W.heap.size)→DataW.TrodAll enc P W' 0 (fun b=>decide (b<W.heap.size)) true ts vs ds ps
 | [],[],[],_,_,h,_=>h
 | t :: ts,v :: vs,d :: ds,ps,hr,⟨p,q,h1,h2,e⟩,hlt=>by
  obtain ⟨r1,r2⟩:=hr t (List.mem_cons_self ..)
  refine ⟨p,q,Below.trod hl r1 r2 h1 hb (fun x hx=>hlt x (by rw [e];exact List.mem_append_left _ hx)),trodAll_below hl hb (fun t ht=>hr t (List.mem_cons_of_mem _ ht)) h2 (fun x hx=>hlt x (by rw [e];exact List.mem_append_right _ hx)),e⟩
 | [],[],_ :: _,_,_,h,_=>h.elim
 | [],_ :: _,_,_,_,h,_=>h.elim
 | _ :: _,[],_,_,_,h,_=>h.elim
 | _ :: _,_ :: _,[],_,_,h,_=>h.elim
theorem trodAll_len {base:Nat} {sp:Nat→Bool} {held:Bool}:∀ {ts:List TypeId} {vs:List Value} {ds:List (DataW H)} {ps:List MemPlace},DataW.TrodAll enc P W base sp held ts vs ds ps→ds.length=ts.length∧vs.length=ts.length
 | [],[],[],_,h=>⟨rfl,rfl⟩
 | t :: ts,v :: vs,d :: ds,ps,⟨p,q,h1,h2,e⟩=>by obtain ⟨a,b⟩:=trodAll_len h2;exact ⟨by simp [a],by simp [b]⟩
 | [],[],_ :: _,_,h=>h.elim
 | [],_ :: _,_,_,h=>h.elim
 | _ :: _,[],_,_,h=>h.elim
 | _ :: _,_ :: _,[],_,h=>h.elim
end
def argsB (P:Program):List Ty→List TypeId→Bool
 | [],[]=>true
 | t :: ts,T :: Ts=>argB P t T&&argsB P ts Ts
 | _,_=>false
theorem argsB_spec {P:Program}:∀ {ts:List Ty} {Ts:List TypeId},argsB P ts Ts=true→ts.length=Ts.length∧∀ (i:Nat) (t:Ty) (T:TypeId),ts[i]? = some t→Ts[i]? = some T→argB P t T=true
 | [],[],_=>⟨rfl,fun i t T h=>by simp at h⟩
 | t :: ts,T :: Ts,h=>by
  simp only [argsB,Bool.and_eq_true] at h
  obtain ⟨h1,h2⟩:=argsB_spec h.2
  refine ⟨by simp [h1],fun i u U hu hU => ?_⟩
  cases i with
  | zero=>simp at hu hU;subst hu hU;exact h.1
  | succ i=>exact h2 i u U (by simpa using hu) (by simpa using hU)
 | [],_ :: _,h=>by cases h
 | _ :: _,[],h=>by cases h
def lawSpec (ts:List Ty):Spec:={ sig:=ts.map AT.v,pre:=fun _=>True,res:=fun _=>[⟨.bool,true⟩] }
theorem law_calls {H:Type} {enc:TypeId×Value→H} {C:Checked} {f:FuncId} {fn:Func} {s:ChangeSpec} {apart fresh handsOn:Bool}
  (hl:laidOutB C.prog=true) (hr:(fn.params.toList.all fun t=>C.prog.readableRec t&&Nat.blt t C.prog.types.size)=true)
  (ts:List Ty) (hts:argsB C.prog ts fn.params.toList=true) {tb:TypeId} (hres:fn.resultTypes = #[tb]) (htb:C.prog.underlying tb=some .bool) (hvars:s.vars=[])
  (hs:∀ ds:List (DataW H),ds.length=fn.params.toList.length→(s.fn H (ds++[])).results=[.lit (.bool true)]∧(s.fn H (ds++[])).args=ds∧(s.fn H (ds++[])).vars=[])
  (hcon:Contract C.prog f (lawSpec ts)) {W:World} (hg:GInv W) {base:Nat} {args:Array Value} {ds gs:List (DataW H)} {before:List MemPlace}
  (hval:∀ (j:Nat) t v,fn.params[j]? = some t→args[j]? = some v→Value.okWide C.prog W .any base t v)
  (hW:DataW.Whole enc C.prog fn.params.toList s.vars apart W args.toList ds gs before) :
  Calls C.prog f args W fun e W'=>∃ v,e = .returned v∧s.post enc C.prog fn apart fresh handsOn false W args v W':=by
 have hW':=hW
 obtain ⟨p,q,hA,hV,hbef,hfz,hnd⟩:=hW
 rw [hvars] at hV
 obtain ⟨rfl,rfl⟩:=trodVars_none hV
 obtain ⟨hlen,hall⟩:=argsB_spec hts
 obtain ⟨x,bss,hb0,hx⟩:=trod_args (r := .any) (b0:=base) hlen hall (fun j T v h1 h2=>hval j T v (by simpa using h1) (by simpa using h2)) hA
 have hcall:=hcon W (Good W []) (Good W []) x args.toList bss (by rw [hb0];exact ⟨hg,hg.size,fun b hb=>by cases hb⟩) (by rw [hb0];exact fun b hb=>hb) (fun b hb=>hb) trivial hx (by rw [hb0];exact List.nodup_nil)
 rw [hb0] at hcall
 refine hcall.mono ?_
 rintro e W' ⟨rs,ubs,rbs,F,rfl,hk,hrr,_⟩
 have hrs:rs=[.bool true]:=by
  obtain ⟨v,s',b,bs,h1,h2,⟨cs,h3,h4⟩,h5⟩:=hrr
  obtain ⟨h3,_⟩:=h3
  simp only [IsVal] at h4
  rw [h3] at h4
  cases h4
  rw [h1,h5.1]
 subst hrs
 have hbel:=hk.below
 obtain ⟨g1,g2,g3⟩:=hs ds (trodAll_len hA).1
 have hlt:∀ y∈p,y.block<W.heap.size:=fun y hy=>hW'.lt y (by rw [hbef];exact List.mem_append_left _ hy)
 have hr':∀ t∈fn.params.toList,C.prog.readableRec t=true∧t<C.prog.types.size:=fun t ht=>by
  have:=List.all_eq_true.1 hr t ht
  simp only [Bool.and_eq_true] at this
  exact ⟨this.1,Nat.le_of_ble_eq_true this.2⟩
 refine ⟨.bool true,rfl,ds,[],before,[],p,[],hW',?_,?_,?_,hbel.frame _,fun h=>by cases h⟩
 ·rw [hres,g1]
  exact trodAll_mk1 (shut_bool htb true)
 ·rw [g2]
  exact trodAll_below hl hbel hr' hA hlt
 ·rw [hvars,g3]
  rfl
theorem law_lifted_laid {H:Type} {enc:TypeId×Value→H} {a:Assume} {C:Checked} {os:Os} {f:FuncId} {fn:Func} {s:ChangeSpec} {conds:List PathCond} {apart fresh handsOn:Bool} {laid:List (String×DataW Unit)}
  (own:ownKnob C.prog.godebug=none) (started:os.Started) (noInit:C.prog.inits.idxOf? f=none) (hfn:C.prog.funcs[f]? = some fn)
  (witness:∃ (w:World) (tape:Tape) (i:Input),w.os=os∧(w.forCall tape i).Shaped C.prog∧i.vars=[]∧Input.okWide C.prog (w.forCall tape i) .any w.heap.size f i ∧
   ((s.pre enc C.prog fn conds apart (w.forCall tape i).memory i.args∧laidMetH C.prog laid (w.forCall tape i).memory)∧sizedMet enc C.prog fn (OpenSpec.ofChange s) apart (w.forCall tape i).memory i.args)∧a.holds C.prog (lone (Frame.enter C.prog f i.args .normal) [] (w.forCall tape i)))
  (hl:laidOutB C.prog=true) (hr:(fn.params.toList.all fun t=>C.prog.readableRec t&&Nat.blt t C.prog.types.size)=true)
  (ts:List Ty) (hts:argsB C.prog ts fn.params.toList=true) {tb:TypeId} (hres:fn.resultTypes = #[tb]) (htb:C.prog.underlying tb=some .bool) (hvars:s.vars=[])
  (hs:∀ ds:List (DataW H),ds.length=fn.params.toList.length→(s.fn H (ds++[])).results=[.lit (.bool true)]∧(s.fn H (ds++[])).args=ds∧(s.fn H (ds++[])).vars=[])
  (hg:∀ W:World,W.ShapedOpen C.prog→laidMetH C.prog laid W→GInv W) (hcon:Contract C.prog f (lawSpec ts)) :
  ReturnsInHanded a C os f .any (fun w args=>(s.pre enc C.prog fn conds apart w args∧laidMetH C.prog laid w)∧sizedMet enc C.prog fn (OpenSpec.ofChange s) apart w args) (s.post enc C.prog fn apart fresh handsOn false):=by
 refine returnsInHanded_of_calls own started noInit witness ?_
 intro w tape i _ hsh _ hok hpre hholds
 obtain ⟨_,_,_,fn',hfn',_,_,_,_,hval⟩:=hok
 have e:fn'=fn:=Option.some.inj (hfn'.symm.trans hfn)
 subst e
 obtain ⟨⟨⟨ds,gs,before,hw,hc⟩,hx⟩,hz⟩:=hpre
 have hw':=DataW.Whole.of_heap (w':=w.forCall tape i) (by rfl) hw
 have hx':laidMetH C.prog laid (w.forCall tape i):=hx.of_heap (by rfl)
 refine (law_calls (fresh:=fresh) (handsOn:=handsOn) hl hr ts hts hres htb hvars hs hcon (hg _ hsh hx') hval hw').mono fun e W' ⟨v,he,hp⟩ => ?_
 subst he
 exact ChangeSpec.post_blind hp
end Go.Am
namespace Go.Am
set_option linter.unusedVariables false
set_option linter.unusedSimpArgs false
def bodyOf (f:Func):Code:=match f.body with | some c=>c | none => .skip
def firstRegion:Code→Nat
 | .region id _ _=>id
 | .seq x _=>firstRegion x
 | .block _ c=>firstRegion c
 | .loop c=>firstRegion c
 | .scope c=>firstRegion c
 | _=>999999
def orL:Option (List Item)→Option (List Item)→Option (List Item)
 | some k,_=>some k
 | none,x=>x
def findC (id:Nat):Code→List Item→Option (List Item)
 | .seq x y,k=>orL (findC id x (.code y :: k)) (findC id y k)
 | .block b c,k=>findC id c (.inBlock b :: k)
 | .loop c,k=>match Nat.beq (firstRegion c) id with
  | true=>some (.code c :: .inLoop c :: k)
  | false=>findC id c (.inLoop c :: k)
 | .cond _ x y,k=>orL (findC id x k) (findC id y k)
 | .region r ops d,k=>match Nat.beq r id with
  | true=>some (.code (.region r ops d) :: k)
  | false=>none
 | _,_=>none
def cutAt (c:Code) (id:Nat):List Item:=match findC id c [] with | some k=>k | none=>[]
def nilA (t:Nat) (ty:Ty) (EL:Env×Heap):Env×Heap :=
 match EL.1.get t with
 | .a (.val (.slice none _ _))=>(EL.1.set t (.a (.osl EL.2.length none)),EL.2++[some ⟨ty,[], !ty.flat,none,none⟩])
 | _=>EL
def nilsA:List (Nat×Ty)→Env×Heap→Env×Heap
 | [],EL=>EL
 | (t,ty) :: r,EL=>nilsA r (nilA t ty EL)
def borUp1 (A:Arr):Arr :=
 match A.t.flat,A.bor with
 | false,false=>match A.ls,A.sm with
  | none,none=>match A.xs.isEmpty with
   | true=>⟨A.t,A.xs,true,none,none⟩
   | false=>A
  | _,_=>A
 | _,_=>A
def borUp (L:Heap):Heap:=L.map fun o=>match o with | some A=>some (borUp1 A) | none=>none
theorem hget_borUp:∀ (L:Heap) (s:Nat),hget (borUp L) s=(hget L s).map borUp1
 | [],_=>rfl
 | some B :: L,0=>rfl
 | none :: L,0=>rfl
 | o :: L,s+1=>hget_borUp L s
theorem borUp1_cases (A:Arr):borUp1 A=A∨(A.xs=[]∧A.ls=none∧A.sm=none∧borUp1 A=⟨A.t,A.xs,true,none,none⟩):=by
 unfold borUp1
 split
 ·split
  ·split
   ·rename_i h1 h2 _ h3
    exact .inr ⟨List.isEmpty_iff.1 h3,h1,h2,rfl⟩
   ·exact .inl rfl
  ·exact .inl rfl
 ·exact .inl rfl
section
variable {P:Program} {n:Nat} {K:Ctx} {G:Nat→Prop} {w0 w:World} {a:Act} {V:Nat→Value} {own:Nat→List Nat} {f:FuncId} {R:Ending→World→Prop} {E:Env} {L:Heap}
theorem RelV.reset (hR:RelV n K w0 G w a E L V own) {t:Nat} {p:PV} (hp:RepP w0 G L V p (a.tmps.getD t undef)):RelV n K w0 G w a (E.set t p) L V own :=
 ⟨hR.glob,hR.kept,hR.size,hR.defers,hR.glt,hR.gref,hR.gsub,hR.gold,hR.gup,hR.heap,hR.good,hR.nodup,hR.apart,hR.boxs,hR.small,fun i=>by
  rw [Env.get_set]
  split
  ·rename_i h;subst h;exact hp
  ·exact hR.env i⟩
theorem nilA_spec (hR:RelV n K w0 G w a E L V own) (t:Nat) (ty:Ty):∃ V' own',RelV n K w0 G w a (nilA t ty (E,L)).1 (nilA t ty (E,L)).2 V' own':=by
 unfold nilA
 split
 ·rename_i m c hg
  have hv:=hR.env t
  simp only at hg
  rw [hg] at hv
  obtain ⟨hv,h0,h1⟩:=hv
  subst h0 h1
  have hE:EntC w0 G w ⟨ty,[], !ty.flat,none,none⟩ (.slice none 0 0) []:=⟨by simp [maxLen],.inl ⟨_,rfl,rfl,rfl⟩⟩
  have hR':=hR.grow hE List.nodup_nil (fun b hb=>by cases hb) (fun r A hA b hb hm=>by cases hm)
  refine ⟨_,_,hR'.reset ?_⟩
  rw [hv]
  exact repA_new (w0:=w0) (G:=G) (u:=w0) (G':=G) (w:=w) hE
 ·exact ⟨V,own,hR⟩
theorem nilsA_spec:∀ {l:List (Nat×Ty)} {E:Env} {L:Heap} {V:Nat→Value} {own:Nat→List Nat},RelV n K w0 G w a E L V own→∃ V' own',RelV n K w0 G w a (nilsA l (E,L)).1 (nilsA l (E,L)).2 V' own'
 | [],E,L,V,own,hR=>⟨V,own,hR⟩
 | (t,ty) :: r,E,L,V,own,hR=>by
  obtain ⟨V',own',h⟩:=nilA_spec hR t ty
  show ∃ V' own',RelV n K w0 G w a (nilsA r (nilA t ty (E,L))).1 (nilsA r (nilA t ty (E,L))).2 V' own'
  generalize nilA t ty (E,L)=EL at h
  obtain ⟨E1,L1⟩:=EL
  exact nilsA_spec h
theorem RelV.borUp (hR:RelV n K w0 G w a E L V own):RelV n K w0 G w a E (Am.borUp L) V own:=by
 have hback:∀ s B,hget (Am.borUp L) s=some B→∃ C,hget L s=some C∧B=borUp1 C:=fun s B h=>by
  rw [hget_borUp] at h
  cases hC:hget L s with
  | none=>rw [hC] at h;cases h
  | some C=>rw [hC] at h;cases h;exact ⟨C,rfl,rfl⟩
 have ht:∀ C,(borUp1 C).t=C.t:=fun C=>by rcases borUp1_cases C with h | ⟨_,_,_,h⟩ <;> rw [h]
 have hl:∀ C,(borUp1 C).xs.length=C.xs.length:=fun C=>by rcases borUp1_cases C with h | ⟨_,_,_,h⟩ <;> rw [h]
 have hls:∀ C,(borUp1 C).ls=C.ls:=fun C=>by rcases borUp1_cases C with h | ⟨_,h2,_,h⟩ <;> rw [h];exact h2.symm
 have hag:∀ s,Agree L V (Am.borUp L) V s:=fun s=>⟨rfl,fun A hA=>⟨borUp1 A,by rw [hget_borUp,hA];rfl,ht A,hl A,fun ls h=>⟨ls,by rw [hls];exact h⟩⟩⟩
 refine ⟨hR.glob,hR.kept,hR.size,hR.defers,hR.glt,hR.gref,hR.gsub,hR.gold,hR.gup,?_,?_,?_,?_,?_,?_,fun i => ?_⟩
 ·intro s B hs
  obtain ⟨C,h2,rfl⟩:=hback s B hs
  have h:=hR.heap s C h2
  rcases borUp1_cases C with e | ⟨e1,e2,e3,e⟩
  ·rw [e];exact h
  ·rw [e]
   obtain ⟨t,xs,bor,ls,sm⟩:=C
   simp only at e1
   subst e1
   refine ⟨h.1,?_⟩
   rcases h.2 with h | ⟨b,off,cap,cur,ty,fz,bss,h1,h2,h3,h4,h5,h6,h7,h8,h9⟩
   ·exact .inl h
   ·exact .inr ⟨b,off,cap,cur,ty,fz,bss,h1,h2,h3,h4,h5,h6,h7,h8,fun i x bi hx _=>by simp at hx⟩
 ·intro s B hs
  obtain ⟨C,h2,rfl⟩:=hback s B hs
  exact hR.good s C h2
 ·intro s B hs
  obtain ⟨C,h2,rfl⟩:=hback s B hs
  exact hR.nodup s C h2
 ·intro s u B D hs hu hsu
  obtain ⟨C,h2,rfl⟩:=hback s B hs
  obtain ⟨F,h4,rfl⟩:=hback u D hu
  exact hR.apart s u C F h2 h4 hsu
 ·intro s B ls hs hl'
  obtain ⟨C,h2,rfl⟩:=hback s B hs
  rw [hls] at hl'
  rw [ht]
  exact (hR.boxs s C ls h2 hl').agree fun u _=>hag u
 ·intro s B q hs hq
  obtain ⟨C,h2,rfl⟩:=hback s B hs
  rcases borUp1_cases C with e | ⟨_,_,_,e⟩
  ·rw [e] at hq ⊢;exact hR.small s C q h2 hq
  ·rw [e] at hq;cases hq
 ·exact repP_agree (hR.env i) fun u _=>hag u
def runN (tab:List TI) (ext:Ext) (wr:Bool) (n:Nat) (stops:List Nat) (m:Nat) (pins:List Nat) (nils:List (Nat×Ty)) (ks:List Nat) (rs:List Nat) (path:List Bool) (k:List Item) (E:Env) (L:Heap):Option (List Item×Env×Heap×List Prop) :=
 match runA tab ext wr n stops m true k ⟨path,[],E,L,[],pins⟩ with
 | some (.stop k' S)=>match nilsA nils (S.E,S.L) with
  | (E1,L1)=>match nodupB rs&&envIn rs (Am.keepE E1 ks)&&heapIn rs (borUp L1) rs&&decide (S.pins=pins) with
   | true=>some (k',renE rs (Am.keepE E1 ks),pickL rs (borUp L1),S.cs)
   | false=>none
 | _=>none
theorem AtV.runN {tab:List TI} {ext:Ext} (hT:TabOk P tab) (hX:ExtOk P ext) (hm:P.follows .mixedOrders=true) {wr:Bool} {stops:List Nat} {m:Nat} {q:Nat→Value} {pins:List Nat} {nils:List (Nat×Ty)} {ks:List Nat} {rs:List Nat} {path:List Bool} {k k':List Item} {E':Env} {L':Heap} {cs:List Prop}
  (h:Am.runN tab ext wr n stops m pins nils ks rs path k E L=some (k',E',L',cs)) (hc:All cs) (hk:AtV P f R n K q pins k' E' L'):AtV P f R n K q pins k E L:=by
 intro a w w0 G V own hR hq
 unfold Am.runN at h
 split at h
 ·rename_i k1 S hr
  split at h
  rename_i E1 L1 hnil
  split at h
  ·rename_i hb
   simp only [Bool.and_eq_true,decide_eq_true_eq] at hb
   obtain ⟨⟨⟨hn,hb⟩,hh⟩,hp⟩:=hb
   cases h
   refine runA_run hT hX hm hr hc hR ⟨fun t d ht=>by simp [lookB] at ht,hq⟩ ?_
   intro a' w' w1 G1 V' own' hR' hq'
   rw [hp] at hq'
   obtain ⟨V2,own2,hR2⟩:=nilsA_spec (l:=nils) hR'
   rw [hnil] at hR2
   exact hk _ _ _ _ _ _ ((hR2.borUp.keepE ks).renum hn hb hh) hq'
  ·cases h
 ·cases h
end
end Go.Am
namespace Go.Am
set_option linter.unusedVariables false
instance (k:IntKind) (n:Int):Decidable (InR k n):=inferInstanceAs (Decidable (k.min≤n∧n≤k.max))
theorem ArgsRep.wf {w:World} {G:Nat→Prop} {sig:List AT} {x:sigDen sig} {vs:List Value} {bss:List (List Nat)} (h:ArgsRep w G sig x vs bss):wfSig sig x:=args_wf h
theorem Contract.says {P:Program} {f:FuncId} {sig:List AT} {pre pre':sigDen sig→Prop} {upd:sigDen sig→List (Option Lst)} {res res':sigDen sig→List Dyn} {kds:List RK}
  (hc:Contract P f { sig:=sig,pre:=pre,upd:=upd,res:=res,kds:=kds }) (h:∀ x,pre' x→wfSig sig x→pre x∧res x=res' x):Contract P f { sig:=sig,pre:=pre',upd:=upd,res:=res',kds:=kds }:=by
 intro w G G0 x vs bss hgo hG hG0 hp ha hn
 obtain ⟨h1,h2⟩:=h x hp (argsK_wf ha)
 have:=hc w G G0 x vs bss hgo hG hG0 h1 ha hn
 simp only at this ⊢
 rw [h2] at this
 exact this
end Go.Am
namespace Go.Am
set_option linter.unusedVariables false
set_option linter.unusedSimpArgs false
theorem bytes_eq (a b:ByteArray):(ByteArray.toList a==ByteArray.toList b)=true↔a=b:=by
 rw [← beq_toListBytes]
 obtain ⟨⟨x⟩⟩:=a
 obtain ⟨⟨y⟩⟩:=b
 show ((⟨x⟩:Array UInt8)==⟨y⟩)=true↔_
 simp
theorem bytes_ne (a b:ByteArray):(ByteArray.toList a==ByteArray.toList b)=false↔a≠b:=by
 rw [ne_eq, ← bytes_eq,Bool.not_eq_true]
theorem getD_lt {α:Type} (xs:List α) (i:Nat) (d:α) (h:i<xs.length):xs.getD i d=xs[i]:=by
 rw [List.getD_eq_getElem?_getD,List.getElem?_eq_getElem h];rfl
theorem drop_get {α:Type} (xs:List α) (i:Nat) (d:α) (h:i<xs.length):xs.drop i=xs.getD i d :: xs.drop (i+1):=by
 rw [getD_lt xs i d h, ← List.drop_eq_getElem_cons h]
theorem drop_end {α:Type} (xs:List α) (i:Nat) (h:xs.length≤i):xs.drop i=[]:=List.drop_eq_nil_iff.2 h
theorem inR_up {α:Type} {xs:List α} (h:xs.length≤maxLen) {i:Nat} (hi:i<xs.length):InR .i64 ((i:Int)+1):=by
 have e1:(IntKind.i64).min = -9223372036854775808:=by decide
 have e2:(IntKind.i64).max=9223372036854775807:=by decide
 have hm:maxLen≤9223372036854775807:=by decide
 simp only [InR,e1,e2]
 omega
theorem i64_iff (n:Int):InR .i64 n ↔ -9223372036854775808≤n∧n≤9223372036854775807:=by
 have e1:(IntKind.i64).min = -9223372036854775808:=by decide
 have e2:(IntKind.i64).max=9223372036854775807:=by decide
 simp only [InR,e1,e2]
theorem u8_iff (n:Int):InR .u8 n↔0≤n∧n≤255:=by
 have e1:(IntKind.u8).min=0:=by decide
 have e2:(IntKind.u8).max=255:=by decide
 simp only [InR,e1,e2]
theorem set_step {α:Type} (x0:List α) (d:α) (i:Nat) (h:i<x0.length) (l:Nat) (hl:l=x0.length - i):(x0.take i++List.replicate l d).set i (x0.getD i d)=x0.take (i+1)++List.replicate (l - 1) d:=by
 have e:(x0.take i).length=i:=by simp;omega
 obtain ⟨l,rfl⟩:∃ m,l=m+1:=⟨l - 1,by omega⟩
 rw [List.set_append_right _ _ (by omega),e,Nat.sub_self,List.replicate_succ,List.set_cons_zero,getD_lt _ _ _ h,List.take_succ_eq_append_getElem h,List.append_assoc]
 rfl
end Go.Am
namespace Go.Am
set_option linter.unusedVariables false
set_option linter.unusedSimpArgs false
theorem bytesOf_length (s:ByteArray):(bytesOf s).length=s.size:=by simp [bytesOf]
theorem byte_get (s:ByteArray) (i:Nat):((List.getD (Array.toList (ByteArray.data s)) i 0).toNat:Int)=(bytesOf s).getD i 0:=by
 unfold bytesOf
 rw [List.getD_eq_getElem?_getD,List.getD_eq_getElem?_getD,List.getElem?_map]
 cases h:s.data.toList[i]? with
 | none=>rfl
 | some b=>rfl
theorem bytesOf_inj {s t:ByteArray} (h:bytesOf s=bytesOf t):s=t:=by
 obtain ⟨⟨x⟩⟩:=s
 obtain ⟨⟨y⟩⟩:=t
 congr 2
 unfold bytesOf at h
 simp only at h
 induction x generalizing y with
 | nil=>cases y with
  | nil=>rfl
  | cons b s=>cases h
 | cons a r ih=>cases y with
  | nil=>cases h
  | cons b s =>
   simp only [List.map_cons,List.cons.injEq] at h
   have h1:a=b:=by
    have:=h.1
    exact UInt8.toNat_inj.1 (by omega)
   rw [h1,ih s h.2]
def goL {α β δ:Type} (f:β→α→Except δ β) (fin:β→δ):β→List α→δ
 | b,[]=>fin b
 | b,x :: r=>match f b x with
  | .ok b'=>goL f fin b' r
  | .error d=>d
theorem loop_list {α β δ:Type} (xs:List α) (d:α) (f:β→α→Except δ β) (fin:β→δ) (Inv:Nat→β→Prop) (R:Nat→Int→β→δ→Prop)
  (hend:∀ n b,Inv xs.length b→R (n+1) xs.length b (fin b))
  (hstep:∀ n (i:Nat) b,i<xs.length→Inv i b→match f b (xs.getD i d) with
   | .ok b'=>Inv (i+1) b'∧∀ ds,R n (((i:Nat):Int)+1) b' ds→R (n+1) (i:Int) b ds
   | .error ds=>R (n+1) (i:Int) b ds) :
  ∀ (k i:Nat) b,i+k=xs.length→Inv i b→R (k+1) (i:Int) b (goL f fin b (xs.drop i)):=by
 intro k
 induction k with
 | zero =>
  intro i b hi hinv
  have:i=xs.length:=by omega
  subst this
  rw [drop_end xs _ (Nat.le_refl _)]
  exact hend 0 b hinv
 | succ k ih =>
  intro i b hi hinv
  have h:=hstep (k+1) i b (by omega) hinv
  rw [drop_get xs i d (by omega)]
  simp only [goL]
  split at h
  ·rename_i b' hf
   have:=ih (i+1) b' (by omega) h.1
   exact h.2 _ (by simpa using this)
  ·exact h
theorem loop_all {α β δ:Type} (xs:List α) (d:α) (f:β→α→Except δ β) (fin:β→δ) (Inv:Nat→β→Prop) (R:Nat→Int→β→δ→Prop) {b:β} (h0:Inv 0 b)
  (hend:∀ n b,Inv xs.length b→R (n+1) xs.length b (fin b))
  (hstep:∀ n (i:Nat) b,i<xs.length→Inv i b→match f b (xs.getD i d) with
   | .ok b'=>Inv (i+1) b'∧∀ ds,R n (((i:Nat):Int)+1) b' ds→R (n+1) (i:Int) b ds
   | .error ds=>R (n+1) (i:Int) b ds):R (xs.length+1) 0 b (goL f fin b xs):=by
 have:=loop_list xs d f fin Inv R hend hstep xs.length 0 b (by omega) h0
 simpa using this
theorem goL_all {α δ:Type} (q:α→Bool) (no yes:δ):∀ (l:List α) (f:Unit→α→Except δ Unit) (fin:Unit→δ),(∀ x,f () x=if q x=true then .ok () else .error no)→fin ()=yes→goL f fin () l=if l.all q=true then yes else no
 | [],f,fin,hf,hfin=>by simp [goL,hfin]
 | x :: r,f,fin,hf,hfin=>by
  simp only [goL,hf]
  cases h:q x with
  | true=>simp only [if_true];rw [goL_all q no yes r f fin hf hfin];simp [h]
  | false=>simp [h]
theorem loop_test {α δ:Type} (xs:List α) (d:α) (q:α→Bool) (no yes:δ) (R:Nat→Int→δ→Prop) (hend:∀ n,R (n+1) xs.length yes)
  (hok:∀ n (i:Nat),i<xs.length→q (xs.getD i d)=true→∀ ds,R n (((i:Nat):Int)+1) ds→R (n+1) (i:Int) ds)
  (hno:∀ n (i:Nat),i<xs.length→q (xs.getD i d)=false→R (n+1) (i:Int) no):R (xs.length+1) 0 (if xs.all q=true then yes else no):=by
 have key:=loop_all (b:=()) xs d (fun (_:Unit) x=>if q x=true then .ok () else .error no) (fun _=>yes) (fun _ _=>True) (fun n i _ ds=>R n i ds) trivial (fun n _ _=>hend n) (fun n i _ hi _=>by
  cases h:q (xs.getD i d) with
  | true=>exact ⟨trivial,hok n i hi h⟩
  | false=>exact hno n i hi h)
 rw [goL_all q no yes _ _ _ (fun _=>rfl) rfl] at key
 exact key
def allI {α:Type} (q:Nat→α→Bool):Nat→List α→Bool
 | _,[]=>true
 | i,x :: r=>q i x&&allI q (i+1) r
theorem loop_testI {α δ:Type} (xs:List α) (d:α) (q:Nat→α→Bool) (no yes:δ) (R:Nat→Int→δ→Prop) (hend:∀ n,R (n+1) xs.length yes)
  (hok:∀ n (i:Nat),i<xs.length→q i (xs.getD i d)=true→∀ ds,R n (((i:Nat):Int)+1) ds→R (n+1) (i:Int) ds)
  (hno:∀ n (i:Nat),i<xs.length→q i (xs.getD i d)=false→R (n+1) (i:Int) no):R (xs.length+1) 0 (if allI q 0 xs=true then yes else no):=by
 have key:∀ (k i:Nat),i+k=xs.length→R (k+1) (i:Int) (if allI q i (xs.drop i)=true then yes else no):=by
  intro k
  induction k with
  | zero =>
   intro i hi
   have:i=xs.length:=by omega
   subst this
   rw [drop_end xs _ (Nat.le_refl _)]
   simpa [allI] using hend 0
  | succ k ih =>
   intro i hi
   rw [drop_get xs i d (by omega)]
   by_cases h:q i (xs.getD i d)=true
   ·have h2:=hok (k+1) i (by omega) h _ (by have:=ih (i+1) (by omega);rwa [show ((i+1:Nat):Int)=(i:Int)+1 from by omega] at this)
    simp only [allI,h,Bool.true_and]
    exact h2
   ·have h:=Bool.eq_false_iff.2 h
    simp only [allI,h,Bool.false_and,Bool.false_eq_true,if_false]
    exact hno (k+1) i (by omega) h
 have:=key xs.length 0 (by omega)
 simpa using this
theorem allI_plain {α:Type} (q:α→Bool):∀ (l:List α) (i:Nat),allI (fun _ x=>q x) i l=l.all q
 | [],_=>rfl
 | x :: r,i=>by simp [allI,allI_plain q r]
theorem allI_congr {α:Type} {p q:Nat→α→Bool}:∀ (l:List α) (i:Nat),(∀ j x,i≤j→p j x=q j x)→allI p i l=allI q i l
 | [],_,_=>rfl
 | x :: r,i,h=>by
  simp only [allI]
  rw [h i x (Nat.le_refl _),allI_congr r (i+1) (fun j x hj=>h j x (by omega))]
theorem loop_find {α δ:Type} (xs:List α) (d:α) (q:α→Bool) (none':δ) (some':Int→δ) (R:Nat→Int→δ→Prop) (hend:∀ n,R (n+1) xs.length none')
  (hgo:∀ n (i:Nat),i<xs.length→q (xs.getD i d)=false→∀ ds,R n (((i:Nat):Int)+1) ds→R (n+1) (i:Int) ds)
  (hhit:∀ n (i:Nat),i<xs.length→q (xs.getD i d)=true→R (n+1) (i:Int) (some' i)):R (xs.length+1) 0 (match xs.findIdx? q with | some k=>some' (k:Nat) | none=>none'):=by
 have key:∀ (k i:Nat),i+k=xs.length→R (k+1) (i:Int) (match (xs.drop i).findIdx? q with | some j=>some' ((i+j:Nat):Int) | none=>none'):=by
  intro k
  induction k with
  | zero =>
   intro i hi
   have:i=xs.length:=by omega
   subst this
   rw [drop_end xs _ (Nat.le_refl _)]
   exact hend 0
  | succ k ih =>
   intro i hi
   rw [drop_get xs i d (by omega),List.findIdx?_cons]
   cases h:q (xs.getD i d) with
   | true=>simpa using hhit (k+1) i (by omega) h
   | false =>
    have h2:=hgo (k+1) i (by omega) h _ (by have:=ih (i+1) (by omega);simpa using this)
    simp only [Bool.false_eq_true,if_false]
    cases hf:List.findIdx? q (List.drop (i+1) xs) with
    | none=>rw [hf] at h2;simpa using h2
    | some j =>
     rw [hf] at h2
     simp only [Option.map_some] at h2 ⊢
     rw [show i+(j+1)=i+1+j from by omega]
     exact h2
 have:=key xs.length 0 (by omega)
 simpa using this
def idx:Option Nat→Int
 | some k=>(k:Nat)
 | none => -1
theorem findIdx_any {α:Type} (q:α→Bool):∀ (l:List α),idx (l.findIdx? q)≥0↔l.any q=true:=by
 intro l
 have h:=List.findIdx?_isSome (xs:=l) (p:=q)
 rw [← h]
 cases l.findIdx? q with
 | none=>simp [idx]
 | some k=>simp [idx]
theorem mem_getD {α:Type} (xs:List α) (i:Nat) (d:α) (h:i<xs.length):xs.getD i d∈xs:=by
 rw [getD_lt _ _ _ h];exact List.getElem_mem _
end Go.Am
namespace Go.Am
set_option linter.unusedVariables false
set_option linter.unusedSimpArgs false
open Go.RowKit (Below)
theorem args_noOwn {w:World} {G:Nat→Prop}:∀ {sig:List AT} {x:sigDen sig} {vs:List Value} {bss:List (List Nat)},noOwn sig=true→ArgsRep w G sig x vs bss→bss.flatten=[]∧ownVals sig vs=[]
 | [],_,vs,bss,_,⟨h1,h2⟩=>by subst h1 h2;exact ⟨rfl,rfl⟩
 | .v t :: r,x,vs,bss,h,⟨v,s,b,bs,h1,h2,h3,h4⟩=>by
  subst h1 h2
  obtain ⟨e1,e2⟩:=args_noOwn (sig:=r) h h4
  exact ⟨by rw [List.flatten_cons,h3.1,e1];rfl,e2⟩
 | .p t :: r,x,vs,bss,h,⟨v,s,b,bs,h1,h2,h3,h4⟩=>by
  subst h1 h2
  obtain ⟨e1,e2⟩:=args_noOwn (sig:=r) h h4
  exact ⟨by rw [List.flatten_cons,h3.1,e1];rfl,e2⟩
 | .fn f c :: r,x,vs,bss,h,⟨v,s,b,bs,h1,h2,h3,h4⟩=>by
  subst h1 h2
  obtain ⟨e1,e2⟩:=args_noOwn (sig:=r) h h4
  exact ⟨by rw [List.flatten_cons,h3.1,e1];rfl,e2⟩
 | .fns f :: r,x,vs,bss,h,⟨v,s,b,bs,h1,h2,h3,h4⟩=>by
  subst h1 h2
  obtain ⟨e1,e2⟩:=args_noOwn (sig:=r) h h4
  exact ⟨by rw [List.flatten_cons,h3.1,e1];rfl,e2⟩
 | .own t :: r,_,_,_,h,_=>by cases h
 | .pb t :: r,_,_,_,h,_=>by cases h
 | .po t :: r,_,_,_,h,_=>by cases h
 | .sv t :: r,_,_,_,h,_=>by cases h
theorem plain_noOwn:∀ {sig:List AT},noOwn sig=true→plainSig sig=true
 | [],_=>rfl
 | .v t :: r,h=>plain_noOwn (sig:=r) h
 | .p t :: r,h=>plain_noOwn (sig:=r) h
 | .fn f c :: r,h=>plain_noOwn (sig:=r) h
 | .fns f :: r,h=>plain_noOwn (sig:=r) h
 | .own t :: r,h=>by cases h
 | .pb t :: r,h=>by cases h
 | .po t :: r,h=>by cases h
 | .sv t :: r,h=>by cases h
theorem own_of_wf {w:World}:∀ {t:Ty} {x:t.den},t.flat=true→Wf t x→OwnC w t x (fcells t x) []
 | .int _,_,_,h=>⟨rfl,h,rfl⟩
 | .bool,_,_,_=>⟨rfl,rfl⟩
 | .fn,_,_,_=>⟨rfl,rfl⟩
 | .str,_,_,h=>⟨rfl,h,rfl⟩
 | .unit,_,_,_=>⟨rfl,rfl⟩
 | .cons a b,x,hf,h=>by
  simp only [Ty.flat,Bool.and_eq_true] at hf
  exact ⟨_,_,[],[],rfl,rfl,own_of_wf hf.1 h.1,own_of_wf hf.2 h.2⟩
 | .sl _,_,h,_=>by cases h
theorem isVal_valOf {w:World} {t:Ty} {x:t.den} {cs:List Value} {bs:List Nat} (h:OwnC w t x cs bs):IsVal t cs (valOf t cs):=by
 have hl:=h.length
 cases t <;> simp only [IsVal,valOf,Ty.agg,if_true,if_false,Bool.false_eq_true]
 all_goals (match cs,hl with | [c],_=>rfl)
theorem resRep_flat {w:World}:∀ {ds:List Dyn},(∀ d∈ds,d.t.flat=true∧Wf d.t d.x)→ResRep w ds (ds.map fun d=>valOf d.t (fcells d.t d.x)) (ds.map fun _=>[])
 | [],_=>⟨rfl,rfl⟩
 | d :: r,h=>by
  obtain ⟨h1,h2⟩:=h d (List.mem_cons_self ..)
  have ho:=own_of_wf (w:=w) h1 h2
  exact ⟨_,_,_,_,_,rfl,rfl,ho,isVal_valOf ho,resRep_flat fun d hd=>h d (List.mem_cons_of_mem _ hd)⟩
theorem flat_nils (ds:List Dyn):(ds.map fun _=>([]:List Nat)).flatten=[]:=by
 induction ds with
 | nil=>rfl
 | cons d r ih=>simp
theorem contract_flat {P:Program} {f:FuncId} {sig:List AT} {pre:sigDen sig→Prop} {res:sigDen sig→List Dyn} (hno:noOwn sig=true)
  (h:∀ (w:World) (x:sigDen sig) (vs:List Value) (bss:List (List Nat)),GInv w→pre x→wfSig sig x→ArgsRep w (Good w []) sig x vs bss →
   (∀ d∈res x,d.t.flat=true∧Wf d.t d.x)∧Calls P f vs.toArray w fun e w'=>e = .returned (packV ((res x).map fun d=>valOf d.t (fcells d.t d.x)))∧Kept [] w w') :
  Contract P f { sig:=sig,pre:=pre,res:=res }:=by
 refine Contract0.up (plain_noOwn hno) rfl ?_
 intro w x vs bss hgo hp ha hn
 obtain ⟨e1,e2⟩:=args_noOwn hno ha
 have ha':=ha
 rw [e1] at ha'
 obtain ⟨h1,h2⟩:=h w x vs bss hgo.inv hp (args_wf ha) ha'
 refine h2.mono ?_
 rintro e w' ⟨rfl,hk⟩
 refine ⟨_,[],_,rfl,by rw [e1];exact hk,resRep_flat h1,by rw [e2];exact ⟨rfl,rfl⟩,?_,?_⟩
 ·simp only [flat_nils,List.flatten_nil,List.append_nil];exact List.nodup_nil
 ·simp only [flat_nils,List.flatten_nil,List.append_nil];intro b hb;cases hb
theorem ResK.toRep {w:World} {G F:Nat→Prop}:∀ {ds:List Dyn} {rs:List Value} {rbs:List (List Nat)},ResK w G F [] ds rs rbs→ResRep w ds rs rbs
 | [],_,_,h=>h
 | d :: r,_,_,⟨v,s,b,bs,h1,h2,⟨cs,h3,h4⟩,h5⟩=>⟨v,s,b,bs,cs,h1,h2,h3,h4,h5.toRep⟩
theorem Contract.down {P:Program} {f:FuncId} {S:Spec} (hk:S.kds=[]) (h:Contract P f S) (w:World) (x:sigDen S.sig) (vs:List Value) (bss:List (List Nat)) (hg:GOk w bss.flatten) (hp:S.pre x)
  (ha:ArgsRep w (Good w bss.flatten) S.sig x vs bss) (hn:bss.flatten.Nodup) :
  Calls P f vs.toArray w fun e w'=>∃ (rs:List Value) (ubs rbs:List (List Nat)),e = .returned (packV rs)∧Kept bss.flatten w w'∧ResRep w' (S.res x) rs rbs∧True:=by
 refine (h w (Good w bss.flatten) (Good w bss.flatten) x vs bss hg (fun _ h=>h) (fun _ h=>h) hp ha hn).mono ?_
 rintro e w' ⟨rs,ubs,rbs,F,h1,h2,h3,_⟩
 rw [hk] at h3
 exact ⟨rs,ubs,rbs,h1,h2,h3.toRep,trivial⟩
end Go.Am
namespace Go.Am
set_option linter.unusedVariables false
set_option linter.unusedSimpArgs false
theorem set_mid {α:Type} (A:List α) (c y:α) (r:List α) (i:Nat) (h:A.length=i):(A++c :: r).set i y=A++y :: r:=by
 rw [List.set_append_right _ _ (by omega),h,Nat.sub_self,List.set_cons_zero]
theorem get_mid {α:Type} (A:List α) (c d:α) (r:List α) (i:Nat) (h:A.length=i):(A++c :: r).getD i d=c:=by
 rw [List.getD_eq_getElem?_getD,List.getElem?_append_right (by omega),h,Nat.sub_self]
 rfl
end Go.Am
namespace Go.Am
set_option linter.unusedVariables false
set_option linter.unusedSimpArgs false
theorem bl_irrefl:∀ x:List UInt8,Op.bytesLess x x=false
 | []=>rfl
 | a :: x=>by simp [Op.bytesLess,bl_irrefl x]
theorem bl_cons (a b:UInt8) (x y:List UInt8):Op.bytesLess (a :: x) (b :: y)=true↔a.toNat<b.toNat∨(a.toNat=b.toNat∧Op.bytesLess x y=true):=by
 simp only [Op.bytesLess,Bool.or_eq_true,decide_eq_true_eq,Bool.and_eq_true,beq_iff_eq,UInt8.lt_iff_toNat_lt,UInt8.toNat_inj]
theorem bl_trans:∀ x y z:List UInt8,Op.bytesLess x y=true→Op.bytesLess y z=true→Op.bytesLess x z=true
 | x,y,[],_,h=>by cases y <;> cases h
 | [],y,c :: z,_,_=>rfl
 | a :: x,[],c :: z,h,_=>by cases h
 | a :: x,b :: y,c :: z,h1,h2=>by
  rw [bl_cons] at *
  rcases h1 with h1 | ⟨e1,h1⟩
  ·rcases h2 with h2 | ⟨e2,h2⟩
   ·exact .inl (by omega)
   ·exact .inl (by omega)
  ·rcases h2 with h2 | ⟨e2,h2⟩
   ·exact .inl (by omega)
   ·exact .inr ⟨by omega,bl_trans x y z h1 h2⟩
theorem bl_tri:∀ x y:List UInt8,Op.bytesLess x y=false→Op.bytesLess y x=false→x=y
 | [],[],_,_=>rfl
 | [],b :: y,h,_=>by cases h
 | a :: x,[],_,h=>by cases h
 | a :: x,b :: y,h1,h2=>by
  have n1:=mt (bl_cons a b x y).2 (by rw [h1];simp)
  have n2:=mt (bl_cons b a y x).2 (by rw [h2];simp)
  have e:a.toNat=b.toNat:=by omega
  have e':=UInt8.toNat_inj.1 e
  have l1:Op.bytesLess x y=false:=Bool.eq_false_iff.2 fun h=>n1 (.inr ⟨e,h⟩)
  have l2:Op.bytesLess y x=false:=Bool.eq_false_iff.2 fun h=>n2 (.inr ⟨e.symm,h⟩)
  rw [e',bl_tri x y l1 l2]
theorem toList_inj {a b:ByteArray} (h:ByteArray.toList a=ByteArray.toList b):a=b:=(bytes_eq a b).1 (by rw [h];simp)
end Go.Am
namespace Go.Am
set_option linter.unusedVariables false
set_option linter.unusedSimpArgs false
end Go.Am
namespace Go.Am
set_option linter.unusedVariables false
set_option linter.unusedSimpArgs false
def repB (c:UInt8) (n:Nat):ByteArray:=⟨(Lib.repeatL [c] n).toArray⟩
end Go.Am
namespace Go.Am
set_option linter.unusedVariables false
set_option linter.unusedSimpArgs false
open Go.RowKit (Below)
theorem row_flat {w:World} {t:Ty} (hf:t.flat=true):∀ {xs:List t.den},(∀ x∈xs,Wf t x)→Row (OwnC w t) t.size xs (xs.map (fcells t)) (xs.map fun _=>[])
 | [],_=>⟨rfl,rfl⟩
 | x :: r,h=>by
  have ho:=own_of_wf (w:=w) hf (h x (List.mem_cons_self ..))
  exact ⟨_,_,_,_,rfl,rfl,ho.length,ho,row_flat hf fun y hy=>h y (List.mem_cons_of_mem _ hy)⟩
theorem nils_flatten {α:Type} (xs:List α):(xs.map fun _=>([]:List Nat)).flatten=[]:=by
 induction xs with
 | nil=>rfl
 | cons x r ih=>simp
def bls (xs:List ByteArray):List (List UInt8):=xs.map fun s=>s.data.toList
end Go.Am
namespace Go.Am
set_option linter.unusedVariables false
set_option linter.unusedSimpArgs false
end Go.Am
namespace Go.Am
set_option linter.unusedVariables false
set_option linter.unusedSimpArgs false
def bump (h:List Int):List Int:=List.set h (Int.toNat ((↑(List.length h):Int) - 1)) (List.getD h (Int.toNat ((↑(List.length h):Int) - 1)) 0+1)
def cntNew (xs:List ByteArray) (i:Nat) (x:ByteArray):Bool:=decide (i=0) || !(ByteArray.toList x==ByteArray.toList (xs.getD (i - 1) ByteArray.empty))
def cntStep (xs:List ByteArray) (b:(List ByteArray×List Int)×Nat) (x:ByteArray):(List ByteArray×List Int)×Nat :=
 if cntNew xs b.2 x=true then ((b.1.1++[x],bump (b.1.2++[0])),b.2+1) else ((b.1.1,bump b.1.2),b.2+1)
def counted (xs:List ByteArray):(List ByteArray×List Int)×Nat:=xs.foldl (cntStep xs) (([],[]),0)
end Go.Am
namespace Go.Am
set_option linter.unusedVariables false
set_option linter.unusedSimpArgs false
open Go.Sort (grow)
def numB (n:Int):ByteArray:=⟨(Lib.itoa n).toArray⟩
theorem numB_size (n:Int) (h0 : -9223372036854775808≤n) (h1:n≤9223372036854775807):(numB n).size≤21:=by
 show (Lib.itoa n).toArray.size≤21
 rw [List.size_toArray]
 exact Lib.itoa_length_le n h0 h1
theorem kept_grow (w:World) (n:Nat) (os:Array Obj):Kept [] w (grow (w.drewN n) os) where
 os:=rfl
 tape:=rfl
 output:=rfl
 size:=by show w.heap.size≤(w.heap++os).size;rw [Array.size_append];omega
 block:=fun k hk _=>by
  show (w.heap++os)[k]? = w.heap[k]?
  exact Array.getElem?_append_left hk
theorem splitB_part (sep:ByteArray) (save:Nat):∀ (k:Nat) (s y:ByteArray),y∈Lib.splitB sep save k s→y.size≤s.size
 | 0,s,y,h=>by rw [Lib.splitB_zero,List.mem_singleton] at h;rw [h];exact Nat.le_refl _
 | k+1,s,y,h=>by
  unfold Lib.splitB at h
  split at h
  ·rw [List.mem_singleton] at h;rw [h];exact Nat.le_refl _
  ·rcases List.mem_cons.1 h with rfl | h
   ·rw [ByteArray.size_extract];omega
   ·have:=splitB_part sep save k _ y h
    rw [ByteArray.size_extract] at this
    omega
def splitC (c:UInt8):List UInt8→List (List UInt8)
 | []=>[[]]
 | b :: r=>if b=c then [] :: splitC c r else match splitC c r with
  | []=>[[b]]
  | p :: ps=>(b :: p) :: ps
theorem splitC_ne (c:UInt8):∀ l,splitC c l≠[]
 | []=>by simp [splitC]
 | b :: r=>by
  unfold splitC
  split
  ·simp
  ·split <;> simp
theorem splitC_free (c:UInt8):∀ {p:List UInt8},c ∉ p→splitC c p=[p]
 | [],_=>rfl
 | b :: r,h=>by
  have h1:b≠c:=fun e=>h (by rw [e];exact List.mem_cons_self ..)
  have h2:c ∉ r:=fun e=>h (List.mem_cons_of_mem _ e)
  unfold splitC
  rw [if_neg h1,splitC_free c h2]
theorem splitC_hit (c:UInt8):∀ {p:List UInt8} (r:List UInt8),c ∉ p→splitC c (p++c :: r)=p :: splitC c r
 | [],r,_=>by simp [splitC]
 | b :: q,r,h=>by
  have h1:b≠c:=fun e=>h (by rw [e];exact List.mem_cons_self ..)
  have h2:c ∉ q:=fun e=>h (List.mem_cons_of_mem _ e)
  rw [List.cons_append,splitC,if_neg h1,splitC_hit c r h2]
theorem splitC_length (c:UInt8):∀ l,(splitC c l).length=l.count c+1
 | []=>rfl
 | b :: r=>by
  unfold splitC
  split
  ·rename_i h;subst h;rw [List.length_cons,splitC_length];simp
  ·rename_i h
   have:=splitC_length c r
   rw [List.count_cons_of_ne (by simpa using h)]
   split
   ·rename_i e;exact absurd e (splitC_ne c r)
   ·rename_i q qs e
    rw [e] at this
    simpa using this
theorem index_one_none (c:UInt8):∀ {l:List UInt8},c ∉ l→Lib.index l [c] = -1
 | [],_=>by simp [Lib.index]
 | b :: r,h=>by
  have h1:b≠c:=fun e=>h (by rw [e];exact List.mem_cons_self ..)
  have h2:c ∉ r:=fun e=>h (List.mem_cons_of_mem _ e)
  rw [Lib.index,index_one_none c h2]
  simp [List.isPrefixOf,Ne.symm h1]
theorem index_one_hit (c:UInt8):∀ {p:List UInt8} (r:List UInt8),c ∉ p→Lib.index (p++c :: r) [c]=(p.length:Int)
 | [],r,_=>by simp [Lib.index,List.isPrefixOf]
 | b :: q,r,h=>by
  have h1:b≠c:=fun e=>h (by rw [e];exact List.mem_cons_self ..)
  have h2:c ∉ q:=fun e=>h (List.mem_cons_of_mem _ e)
  rw [List.cons_append,Lib.index,index_one_hit c r h2]
  have:¬ ((q.length:Int) == -1)=true:=fun e=>by have:=beq_iff_eq.1 e;omega
  have h3:([c]:List UInt8).isPrefixOf (b :: (q++c :: r))=false:=by simp [List.isPrefixOf,Ne.symm h1]
  rw [h3,if_neg (by simp),if_neg this]
  simp
theorem split_at (c:UInt8):∀ (l:List UInt8),c ∉ l∨∃ p r,l=p++c :: r∧c ∉ p
 | [] => .inl (by simp)
 | b :: l=>by
  by_cases h:b=c
  ·exact .inr ⟨[],l,by rw [h];rfl,by simp⟩
  ·rcases split_at c l with h1 | ⟨p,r,rfl,h2⟩
   ·exact .inl (fun hm=>by rcases List.mem_cons.1 hm with rfl | hm;exact h rfl;exact h1 hm)
   ·exact .inr ⟨b :: p,r,rfl,fun hm=>by rcases List.mem_cons.1 hm with rfl | hm;exact h rfl;exact h2 hm⟩
theorem splitK_one (c:UInt8):∀ (k:Nat) (l:List UInt8),l.count c≤k→Lib.splitK [c] 0 k l=splitC c l
 | 0,l,h=>by
  have hn:c ∉ l:=fun hm=>by have:=List.count_pos_iff.2 hm;omega
  rw [splitC_free c hn];rfl
 | k+1,l,h=>by
  rcases split_at c l with hn | ⟨p,r,rfl,hn⟩
  ·rw [splitC_free c hn,Lib.splitK,index_one_none c hn,if_pos (by rfl)]
  ·have hc:r.count c≤k:=by
    rw [List.count_append,List.count_cons_self] at h
    omega
   rw [splitC_hit c r hn,Lib.splitK,index_one_hit c r hn,if_neg (fun e=>by have:=beq_iff_eq.1 e;omega)]
   congr 1
   ·simp
   ·have e:(p++c :: r).drop (((p.length:Int)).toNat+[c].length)=r:=by
     simp only [Int.toNat_natCast,List.length_singleton]
     rw [List.drop_append,List.drop_of_length_le (by omega),Nat.add_sub_cancel_left]
     rfl
    rw [e]
    exact splitK_one c k r hc
def bss (ls:List (List UInt8)):List ByteArray:=ls.map fun l=>⟨l.toArray⟩
theorem bss_data (xs:List ByteArray):bss (xs.map fun x=>x.data.toList)=xs:=by
 unfold bss
 rw [List.map_map]
 conv=>rhs;rw [← List.map_id xs]
 rfl
theorem splitB_one (c:UInt8) (s:ByteArray):Lib.splitB ⟨#[c]⟩ 0 (Lib.countB s ⟨#[c]⟩) s=bss (splitC c s.data.toList):=by
 have h:=Lib.splitB_data ⟨#[c]⟩ 0 (Lib.countB s ⟨#[c]⟩) s
 have e:Lib.countB s ⟨#[c]⟩=s.data.toList.count c:=by
  show Lib.count s.data.toList [c]=_
  exact Lib.count_one c _
 have h2:=splitK_one c (Lib.countB s ⟨#[c]⟩) s.data.toList (by rw [e];exact Nat.le_refl _)
 rw [← bss_data (Lib.splitB ⟨#[c]⟩ 0 (Lib.countB s ⟨#[c]⟩) s),h]
 show bss (Lib.splitK [c] 0 _ _)=_
 rw [h2]
end Go.Am
namespace Go.Am
set_option linter.unusedVariables false
set_option linter.unusedSimpArgs false
def layCells (w:World):List (Nat×List Value)→World
 | []=>w
 | (g,cs) :: r=>layCells { w with heap:=w.heap.modify g fun
   | .cells _ t fz => .cells cs.toArray t fz
   | o=>o } r
def numCells:DataW Unit→List Value
 | .agg ps=>ps.filterMap fun
  | .lit (.int k z)=>some (.int k z)
  | _=>none
 | _=>[]
theorem laid_drop {P:Program} {W:World}:∀ {l:List (String×DataW Unit)} {i:Nat} {x:String×DataW Unit},laidMet P l W→l[i]? = some x→∃ r,laidMet P (x :: r) W
 | [],i,x,_,h=>by simp at h
 | y :: l,0,x,h,hi=>by simp at hi;subst hi;exact ⟨l,h⟩
 | y :: l,i+1,x,h,hi=>laid_drop (l:=l) (i:=i) h.tail (by simpa using hi)
theorem tab_of_laid {P:Program} {W:World} {l:List (String×DataW Unit)} {i:Nat} {name:String} {k:IntKind} {zs:List Int} {g n:Nat} {t e:TypeId} (h:laidMet P l W) (hi:l[i]? = some (name,Lib.tabData k zs))
  (hg:P.globalNamed name=some g) (hty:(P.globals[g]?).map (·.type)=some t) (ht:P.underlying t=some (.array n e)) (he:P.underlying e=some (.int k)) (hce:P.cellsOf e=1) (hct:P.cellsOf t=n):Lib.TabIs P W name k zs:=by
 obtain ⟨r,h⟩:=laid_drop h hi
 exact Lib.tabIs_of_head hg hty ht he hce hct h
end Go.Am
namespace Go.Am
set_option linter.unusedVariables false
set_option linter.unusedSimpArgs false
open Go.RowKit (Below)
def fcs (t:Ty) (xs:List t.den):List Value:=(xs.map (fcells t)).flatten
theorem own_flat_mk {w:World} {t:Ty} (hf:t.flat=true) {xs:List t.den} (hw:∀ x∈xs,Wf t x) {n b off cap:Nat} {cur:Array Value} {ty:TypeId} {fz:Nat×Nat} (hn:n=xs.length) (h2:xs.length≤cap) (h3:cap≤maxLen) (h4:off+cap*t.size≤cur.size)
  (h5:w.heap[b]? = some (.cells cur ty fz)) (h6:FreeS t.size fz cur.size) (h8:∀ j u,(fcs t xs)[j]? = some u→cur[off+j]? = some u):OwnC w (.sl t) xs [.slice (some ⟨b,off,none⟩) n cap] [b]:=by
 subst hn
 have hrow:=row_flat (w:=w) hf hw
 have ho:=ownSl_of_row hrow (b:=b) (off:=off) (cap:=cap) (cur:=cur) (ty:=ty) (fz:=fz) (Nat.le_trans h2 h3) h2 h3 h4 h5 h6 h8
 rw [nils_flatten] at ho
 exact ⟨_,rfl,ho⟩
end Go.Am
namespace Go.Am
set_option linter.unusedVariables false
set_option linter.unusedSimpArgs false
open Go.RowKit (Below)
section
variable {P:Program}
end
structure OwnAt (w:World) (t:Ty) (xs:List t.den) (b off cap:Nat) (cur:Array Value) (ty:TypeId) (fz:Nat×Nat):Prop where
 wf:∀ x∈xs,Wf t x
 len:xs.length≤cap
 capm:cap≤maxLen
 fit:off+cap*t.size≤cur.size
 blk:w.heap[b]? = some (.cells cur ty fz)
 free:FreeS t.size fz cur.size
 has:∀ j u,(fcs t xs)[j]? = some u→cur[off+j]? = some u
theorem OwnAt.cell {w:World} {t:Ty} {xs:List t.den} {b off cap:Nat} {cur:Array Value} {ty:TypeId} {fz:Nat×Nat} (h:OwnAt w t xs b off cap cur ty fz):∀ j u,(fcs t xs)[j]? = some u→w.cell? ⟨b,off+j,none⟩=some u:=fun j u hj=>by
 simp only [World.cell?, h.blk]
 exact h.has j u hj
theorem OwnAt.lt {w:World} {t:Ty} {xs:List t.den} {b off cap:Nat} {cur:Array Value} {ty:TypeId} {fz:Nat×Nat} (h:OwnAt w t xs b off cap cur ty fz):b<w.heap.size:=by
 rcases Nat.lt_or_ge b w.heap.size with h' | h'
 ·exact h'
 ·have:=h.blk
  rw [Array.getElem?_eq_none h'] at this;cases this
end Go.Am
namespace Go.Am
set_option linter.unusedVariables false
set_option linter.unusedSimpArgs false
open Go.RowKit (Below)
end Go.Am
namespace Go.Am
set_option linter.unusedVariables false
end Go.Am
namespace Go.Am
set_option linter.unusedVariables false
set_option linter.unusedSimpArgs false
def runCN (o:Option (List Item×Env×Heap×List Prop)):Option (List Item×Env×Heap)×Prop :=
 match o with
 | some (k,E,L,cs)=>(some (k,E,L),All cs)
 | none=>(none,True)
def runCF (o:Option (List Dyn×List (Option Lst)×List Prop)):Option (List Dyn×List (Option Lst))×Prop :=
 match o with
 | some (ds,us,cs)=>(some (ds,us),All cs)
 | none=>(none,True)
theorem a1 {p q:Prop} (x:p) (y:q):p∧q:=⟨x,y⟩
section
variable {P:Program} {f:FuncId} {R:Ending→World→Prop} {n:Nat} {K:Ctx} {E:Env} {L:Heap}
theorem AtV.go {tab:List TI} {ext:Ext} (hT:TabOk P tab) (hX:ExtOk P ext) (hm:P.follows .mixedOrders=true) (wr:Bool) (stops:List Nat) {q:Nat→Value} {pins:List Nat} (nils:List (Nat×Ty)) (ks:List Nat) (rs:List Nat) (path:List Bool) {k k':List Item} {E':Env} {L':Heap} {C:Prop}
  (hc:C) (hk:AtV P f R n K q pins k' E' L') (h:runCN (Am.runN tab ext wr n stops 2000 pins nils ks rs path k E L)=(some (k',E',L'),C)):AtV P f R n K q pins k E L:=by
 cases hr:Am.runN tab ext wr n stops 2000 pins nils ks rs path k E L with
 | none=>rw [hr] at h;cases h
 | some y =>
  obtain ⟨k1,E1,L1,cs⟩:=y
  rw [hr] at h
  cases h
  exact AtV.runN hT hX hm hr hc hk
theorem AtV.ret {fn:Func} (hf:P.funcs[f]? = some fn) {tab:List TI} {ext:Ext} (hT:TabOk P tab) (hX:ExtOk P ext) (hm:P.follows .mixedOrders=true) (wr:Bool) (stops:List Nat) {q:Nat→Value} {pins:List Nat} {oks:List AT} {kds:List RK} (ts:List Ty) (path:List Bool) {k:List Item} {ds:List Dyn} {us:List (Option Lst)} {C:Prop}
  (hc:C) (h:runCF (runF tab ext wr n stops 2000 pins oks kds ts fn.results path k E L)=(some (ds,us),C)):AtV P f (PostR kds oks ds us pins q K) n K q pins k E L:=by
 cases hr:runF tab ext wr n stops 2000 pins oks kds ts fn.results path k E L with
 | none=>rw [hr] at h;cases h
 | some y =>
  obtain ⟨d1,u1,cs⟩:=y
  rw [hr] at h
  cases h
  exact AtV.fin hf hT hX hm hr hc
end
end Go.Am
set_option linter.unusedVariables false
set_option linter.unusedSimpArgs false
set_option maxRecDepth 100000
namespace Go.Proofs.YthpljjnbniefpaaGreatDoor
open Go Go.Am Go.Proofs
def tab:List TI:=[TI.other,
 TI.scal (Ty.fn),
 TI.scal (Ty.int IntKind.i64),
 TI.scal (Ty.int IntKind.i64),
 TI.scal (Ty.bool),
 TI.scal (Ty.int IntKind.u8),
 TI.scal (Ty.int IntKind.u8),
 TI.struct (Ty.cons (Ty.int IntKind.i64) (Ty.cons (Ty.int IntKind.i64) (Ty.cons Ty.bool (Ty.cons (Ty.int IntKind.u8) Ty.unit)))),
 TI.struct (Ty.cons (Ty.int IntKind.i64) (Ty.cons (Ty.int IntKind.i64) (Ty.cons Ty.bool (Ty.cons (Ty.int IntKind.u8) Ty.unit)))),
 TI.scal (Ty.str),
 TI.scal (Ty.str),
 TI.scal (Ty.str),
 TI.scal (Ty.int IntKind.u64),
 TI.other,
 TI.other,
 TI.other,
 TI.other,
 TI.other,
 TI.other,
 TI.other,
 TI.other,
 TI.scal (Ty.int IntKind.i32),
 TI.slice 162 (Ty.cons (Ty.int IntKind.i64) (Ty.cons (Ty.int IntKind.i64) Ty.unit)) 16,
 TI.struct (Ty.cons (Ty.sl (Ty.cons (Ty.int IntKind.i64) (Ty.cons (Ty.int IntKind.i64) Ty.unit))) (Ty.cons (Ty.int IntKind.i64) (Ty.cons (Ty.int IntKind.i64) Ty.unit))),
 TI.struct (Ty.cons (Ty.sl (Ty.cons (Ty.int IntKind.i64) (Ty.cons (Ty.int IntKind.i64) Ty.unit))) (Ty.cons (Ty.int IntKind.i64) (Ty.cons (Ty.int IntKind.i64) Ty.unit))),
 TI.struct (Ty.cons (Ty.int IntKind.i64) (Ty.cons (Ty.int IntKind.i64) Ty.unit)),
 TI.struct (Ty.cons (Ty.int IntKind.i64) (Ty.cons (Ty.int IntKind.i64) Ty.unit)),
 TI.struct (Ty.cons (Ty.int IntKind.i64) (Ty.cons (Ty.int IntKind.i64) (Ty.cons (Ty.int IntKind.i64) (Ty.cons (Ty.int IntKind.i64) Ty.unit)))),
 TI.struct (Ty.cons (Ty.int IntKind.i64) (Ty.cons (Ty.int IntKind.i64) (Ty.cons (Ty.int IntKind.i64) (Ty.cons (Ty.int IntKind.i64) Ty.unit)))),
 TI.slice 97 (Ty.cons Ty.str (Ty.cons (Ty.int IntKind.i64) (Ty.cons (Ty.int IntKind.i64) (Ty.cons (Ty.int IntKind.i64) Ty.unit)))) 40,
 TI.struct (Ty.cons (Ty.int IntKind.i64) (Ty.cons (Ty.int IntKind.i64) (Ty.cons (Ty.int IntKind.i64) Ty.unit))),
 TI.struct (Ty.cons (Ty.int IntKind.i64) (Ty.cons (Ty.int IntKind.i64) (Ty.cons (Ty.int IntKind.i64) Ty.unit))),
 TI.slice 100 (Ty.cons Ty.str (Ty.cons (Ty.int IntKind.i64) (Ty.cons (Ty.int IntKind.i64) (Ty.cons (Ty.int IntKind.i64) (Ty.cons (Ty.int IntKind.i64) Ty.unit))))) 48,
 TI.slice 129 (Ty.cons (Ty.int IntKind.i64) (Ty.cons (Ty.int IntKind.i64) Ty.unit)) 16,
 TI.slice 103 (Ty.cons (Ty.int IntKind.i64) (Ty.cons (Ty.int IntKind.i64) (Ty.cons Ty.str (Ty.cons (Ty.int IntKind.i64) Ty.unit)))) 40,
 TI.struct (Ty.cons (Ty.cons (Ty.sl (Ty.cons (Ty.int IntKind.i64) (Ty.cons (Ty.int IntKind.i64) Ty.unit))) (Ty.cons (Ty.int IntKind.i64) (Ty.cons (Ty.int IntKind.i64) Ty.unit))) (Ty.cons (Ty.int IntKind.i64) (Ty.cons (Ty.cons (Ty.int IntKind.i64) (Ty.cons (Ty.int IntKind.i64) Ty.unit)) (Ty.cons (Ty.cons (Ty.int IntKind.i64) (Ty.cons (Ty.int IntKind.i64) (Ty.cons (Ty.int IntKind.i64) (Ty.cons (Ty.int IntKind.i64) Ty.unit)))) (Ty.cons (Ty.sl (Ty.cons Ty.str (Ty.cons (Ty.int IntKind.i64) (Ty.cons (Ty.int IntKind.i64) (Ty.cons (Ty.int IntKind.i64) Ty.unit))))) (Ty.cons (Ty.cons (Ty.int IntKind.i64) (Ty.cons (Ty.int IntKind.i64) (Ty.cons (Ty.int IntKind.i64) Ty.unit))) (Ty.cons (Ty.sl (Ty.cons Ty.str (Ty.cons (Ty.int IntKind.i64) (Ty.cons (Ty.int IntKind.i64) (Ty.cons (Ty.int IntKind.i64) (Ty.cons (Ty.int IntKind.i64) Ty.unit)))))) (Ty.cons (Ty.int IntKind.i64) (Ty.cons (Ty.int IntKind.i64) (Ty.cons (Ty.sl (Ty.cons (Ty.int IntKind.i64) (Ty.cons (Ty.int IntKind.i64) Ty.unit))) (Ty.cons (Ty.int IntKind.i64) (Ty.cons (Ty.sl (Ty.cons (Ty.int IntKind.i64) (Ty.cons (Ty.int IntKind.i64) (Ty.cons Ty.str (Ty.cons (Ty.int IntKind.i64) Ty.unit))))) Ty.unit)))))))))))),
 TI.struct (Ty.cons (Ty.cons (Ty.sl (Ty.cons (Ty.int IntKind.i64) (Ty.cons (Ty.int IntKind.i64) Ty.unit))) (Ty.cons (Ty.int IntKind.i64) (Ty.cons (Ty.int IntKind.i64) Ty.unit))) (Ty.cons (Ty.int IntKind.i64) (Ty.cons (Ty.cons (Ty.int IntKind.i64) (Ty.cons (Ty.int IntKind.i64) Ty.unit)) (Ty.cons (Ty.cons (Ty.int IntKind.i64) (Ty.cons (Ty.int IntKind.i64) (Ty.cons (Ty.int IntKind.i64) (Ty.cons (Ty.int IntKind.i64) Ty.unit)))) (Ty.cons (Ty.sl (Ty.cons Ty.str (Ty.cons (Ty.int IntKind.i64) (Ty.cons (Ty.int IntKind.i64) (Ty.cons (Ty.int IntKind.i64) Ty.unit))))) (Ty.cons (Ty.cons (Ty.int IntKind.i64) (Ty.cons (Ty.int IntKind.i64) (Ty.cons (Ty.int IntKind.i64) Ty.unit))) (Ty.cons (Ty.sl (Ty.cons Ty.str (Ty.cons (Ty.int IntKind.i64) (Ty.cons (Ty.int IntKind.i64) (Ty.cons (Ty.int IntKind.i64) (Ty.cons (Ty.int IntKind.i64) Ty.unit)))))) (Ty.cons (Ty.int IntKind.i64) (Ty.cons (Ty.int IntKind.i64) (Ty.cons (Ty.sl (Ty.cons (Ty.int IntKind.i64) (Ty.cons (Ty.int IntKind.i64) Ty.unit))) (Ty.cons (Ty.int IntKind.i64) (Ty.cons (Ty.sl (Ty.cons (Ty.int IntKind.i64) (Ty.cons (Ty.int IntKind.i64) (Ty.cons Ty.str (Ty.cons (Ty.int IntKind.i64) Ty.unit))))) Ty.unit)))))))))))),
 TI.scal (Ty.fn),
 TI.slice 79 (Ty.cons (Ty.int IntKind.i64) (Ty.cons Ty.str (Ty.cons Ty.str Ty.unit))) 40,
 TI.other,
 TI.scal (Ty.fn),
 TI.slice 149 (Ty.cons (Ty.int IntKind.i64) (Ty.cons (Ty.int IntKind.i64) Ty.unit)) 16,
 TI.struct (Ty.cons (Ty.sl (Ty.cons (Ty.int IntKind.i64) (Ty.cons (Ty.int IntKind.i64) Ty.unit))) (Ty.cons (Ty.int IntKind.i64) (Ty.cons (Ty.int IntKind.i64) Ty.unit))),
 TI.struct (Ty.cons (Ty.sl (Ty.cons (Ty.int IntKind.i64) (Ty.cons (Ty.int IntKind.i64) Ty.unit))) (Ty.cons (Ty.int IntKind.i64) (Ty.cons (Ty.int IntKind.i64) Ty.unit))),
 TI.struct (Ty.cons (Ty.int IntKind.i64) (Ty.cons (Ty.int IntKind.i64) Ty.unit)),
 TI.struct (Ty.cons (Ty.int IntKind.i64) (Ty.cons (Ty.int IntKind.i64) (Ty.cons (Ty.int IntKind.i64) (Ty.cons (Ty.int IntKind.i64) Ty.unit)))),
 TI.slice 122 (Ty.cons Ty.str (Ty.cons (Ty.int IntKind.i64) (Ty.cons (Ty.int IntKind.i64) (Ty.cons (Ty.int IntKind.i64) Ty.unit)))) 40,
 TI.struct (Ty.cons (Ty.int IntKind.i64) (Ty.cons (Ty.int IntKind.i64) (Ty.cons (Ty.int IntKind.i64) Ty.unit))),
 TI.slice 124 (Ty.cons Ty.str (Ty.cons (Ty.int IntKind.i64) (Ty.cons (Ty.int IntKind.i64) (Ty.cons (Ty.int IntKind.i64) (Ty.cons (Ty.int IntKind.i64) Ty.unit))))) 48,
 TI.slice 127 (Ty.cons (Ty.int IntKind.i64) (Ty.cons (Ty.int IntKind.i64) Ty.unit)) 16,
 TI.slice 130 (Ty.cons (Ty.int IntKind.i64) (Ty.cons (Ty.int IntKind.i64) (Ty.cons Ty.str (Ty.cons (Ty.int IntKind.i64) Ty.unit)))) 40,
 TI.struct (Ty.cons (Ty.cons (Ty.sl (Ty.cons (Ty.int IntKind.i64) (Ty.cons (Ty.int IntKind.i64) Ty.unit))) (Ty.cons (Ty.int IntKind.i64) (Ty.cons (Ty.int IntKind.i64) Ty.unit))) (Ty.cons (Ty.int IntKind.i64) (Ty.cons (Ty.cons (Ty.int IntKind.i64) (Ty.cons (Ty.int IntKind.i64) Ty.unit)) (Ty.cons (Ty.cons (Ty.int IntKind.i64) (Ty.cons (Ty.int IntKind.i64) (Ty.cons (Ty.int IntKind.i64) (Ty.cons (Ty.int IntKind.i64) Ty.unit)))) (Ty.cons (Ty.sl (Ty.cons Ty.str (Ty.cons (Ty.int IntKind.i64) (Ty.cons (Ty.int IntKind.i64) (Ty.cons (Ty.int IntKind.i64) Ty.unit))))) (Ty.cons (Ty.cons (Ty.int IntKind.i64) (Ty.cons (Ty.int IntKind.i64) (Ty.cons (Ty.int IntKind.i64) Ty.unit))) (Ty.cons (Ty.sl (Ty.cons Ty.str (Ty.cons (Ty.int IntKind.i64) (Ty.cons (Ty.int IntKind.i64) (Ty.cons (Ty.int IntKind.i64) (Ty.cons (Ty.int IntKind.i64) Ty.unit)))))) (Ty.cons (Ty.int IntKind.i64) (Ty.cons (Ty.int IntKind.i64) (Ty.cons (Ty.sl (Ty.cons (Ty.int IntKind.i64) (Ty.cons (Ty.int IntKind.i64) Ty.unit))) (Ty.cons (Ty.int IntKind.i64) (Ty.cons (Ty.sl (Ty.cons (Ty.int IntKind.i64) (Ty.cons (Ty.int IntKind.i64) (Ty.cons Ty.str (Ty.cons (Ty.int IntKind.i64) Ty.unit))))) Ty.unit)))))))))))),
 TI.struct (Ty.cons (Ty.cons (Ty.sl (Ty.cons (Ty.int IntKind.i64) (Ty.cons (Ty.int IntKind.i64) Ty.unit))) (Ty.cons (Ty.int IntKind.i64) (Ty.cons (Ty.int IntKind.i64) Ty.unit))) (Ty.cons (Ty.int IntKind.i64) (Ty.cons (Ty.cons (Ty.int IntKind.i64) (Ty.cons (Ty.int IntKind.i64) Ty.unit)) (Ty.cons (Ty.cons (Ty.int IntKind.i64) (Ty.cons (Ty.int IntKind.i64) (Ty.cons (Ty.int IntKind.i64) (Ty.cons (Ty.int IntKind.i64) Ty.unit)))) (Ty.cons (Ty.sl (Ty.cons Ty.str (Ty.cons (Ty.int IntKind.i64) (Ty.cons (Ty.int IntKind.i64) (Ty.cons (Ty.int IntKind.i64) Ty.unit))))) (Ty.cons (Ty.cons (Ty.int IntKind.i64) (Ty.cons (Ty.int IntKind.i64) (Ty.cons (Ty.int IntKind.i64) Ty.unit))) (Ty.cons (Ty.sl (Ty.cons Ty.str (Ty.cons (Ty.int IntKind.i64) (Ty.cons (Ty.int IntKind.i64) (Ty.cons (Ty.int IntKind.i64) (Ty.cons (Ty.int IntKind.i64) Ty.unit)))))) (Ty.cons (Ty.int IntKind.i64) (Ty.cons (Ty.int IntKind.i64) (Ty.cons (Ty.sl (Ty.cons (Ty.int IntKind.i64) (Ty.cons (Ty.int IntKind.i64) Ty.unit))) (Ty.cons (Ty.int IntKind.i64) (Ty.cons (Ty.sl (Ty.cons (Ty.int IntKind.i64) (Ty.cons (Ty.int IntKind.i64) (Ty.cons Ty.str (Ty.cons (Ty.int IntKind.i64) Ty.unit))))) Ty.unit)))))))))))),
 TI.scal (Ty.fn),
 TI.scal (Ty.fn),
 TI.scal (Ty.fn),
 TI.scal (Ty.fn),
 TI.scal (Ty.fn),
 TI.scal (Ty.fn),
 TI.scal (Ty.fn),
 TI.scal (Ty.fn),
 TI.scal (Ty.fn),
 TI.scal (Ty.fn),
 TI.scal (Ty.fn),
 TI.scal (Ty.fn),
 TI.other,
 TI.scal (Ty.fn),
 TI.scal (Ty.fn),
 TI.scal (Ty.fn),
 TI.scal (Ty.fn),
 TI.scal (Ty.fn),
 TI.scal (Ty.fn),
 TI.scal (Ty.fn),
 TI.scal (Ty.fn),
 TI.scal (Ty.fn),
 TI.scal (Ty.fn),
 TI.scal (Ty.fn),
 TI.scal (Ty.fn),
 TI.struct (Ty.cons (Ty.int IntKind.i64) (Ty.cons Ty.str (Ty.cons Ty.str Ty.unit))),
 TI.struct (Ty.cons (Ty.int IntKind.i64) (Ty.cons Ty.str (Ty.cons Ty.str Ty.unit))),
 TI.scal (Ty.fn),
 TI.scal (Ty.fn),
 TI.scal (Ty.fn),
 TI.scal (Ty.fn),
 TI.scal (Ty.fn),
 TI.scal (Ty.fn),
 TI.scal (Ty.fn),
 TI.scal (Ty.fn),
 TI.scal (Ty.fn),
 TI.scal (Ty.fn),
 TI.scal (Ty.fn),
 TI.scal (Ty.fn),
 TI.scal (Ty.fn),
 TI.scal (Ty.fn),
 TI.scal (Ty.fn),
 TI.scal (Ty.fn),
 TI.struct (Ty.cons Ty.str (Ty.cons (Ty.int IntKind.i64) (Ty.cons (Ty.int IntKind.i64) (Ty.cons (Ty.int IntKind.i64) Ty.unit)))),
 TI.struct (Ty.cons Ty.str (Ty.cons (Ty.int IntKind.i64) (Ty.cons (Ty.int IntKind.i64) (Ty.cons (Ty.int IntKind.i64) Ty.unit)))),
 TI.scal (Ty.fn),
 TI.struct (Ty.cons Ty.str (Ty.cons (Ty.int IntKind.i64) (Ty.cons (Ty.int IntKind.i64) (Ty.cons (Ty.int IntKind.i64) (Ty.cons (Ty.int IntKind.i64) Ty.unit))))),
 TI.struct (Ty.cons Ty.str (Ty.cons (Ty.int IntKind.i64) (Ty.cons (Ty.int IntKind.i64) (Ty.cons (Ty.int IntKind.i64) (Ty.cons (Ty.int IntKind.i64) Ty.unit))))),
 TI.scal (Ty.fn),
 TI.struct (Ty.cons (Ty.int IntKind.i64) (Ty.cons (Ty.int IntKind.i64) (Ty.cons Ty.str (Ty.cons (Ty.int IntKind.i64) Ty.unit)))),
 TI.struct (Ty.cons (Ty.int IntKind.i64) (Ty.cons (Ty.int IntKind.i64) (Ty.cons Ty.str (Ty.cons (Ty.int IntKind.i64) Ty.unit)))),
 TI.scal (Ty.fn),
 TI.other,
 TI.scal (Ty.fn),
 TI.scal (Ty.fn),
 TI.other,
 TI.scal (Ty.fn),
 TI.other,
 TI.scal (Ty.fn),
 TI.scal (Ty.fn),
 TI.other,
 TI.scal (Ty.fn),
 TI.scal (Ty.fn),
 TI.scal (Ty.fn),
 TI.scal (Ty.fn),
 TI.scal (Ty.fn),
 TI.scal (Ty.fn),
 TI.scal (Ty.fn),
 TI.scal (Ty.fn),
 TI.struct (Ty.cons Ty.str (Ty.cons (Ty.int IntKind.i64) (Ty.cons (Ty.int IntKind.i64) (Ty.cons (Ty.int IntKind.i64) Ty.unit)))),
 TI.scal (Ty.fn),
 TI.struct (Ty.cons Ty.str (Ty.cons (Ty.int IntKind.i64) (Ty.cons (Ty.int IntKind.i64) (Ty.cons (Ty.int IntKind.i64) (Ty.cons (Ty.int IntKind.i64) Ty.unit))))),
 TI.scal (Ty.fn),
 TI.struct (Ty.cons (Ty.int IntKind.i64) (Ty.cons (Ty.int IntKind.i64) Ty.unit)),
 TI.struct (Ty.cons (Ty.int IntKind.i64) (Ty.cons (Ty.int IntKind.i64) Ty.unit)),
 TI.scal (Ty.fn),
 TI.struct (Ty.cons (Ty.int IntKind.i64) (Ty.cons (Ty.int IntKind.i64) Ty.unit)),
 TI.struct (Ty.cons (Ty.int IntKind.i64) (Ty.cons (Ty.int IntKind.i64) (Ty.cons Ty.str (Ty.cons (Ty.int IntKind.i64) Ty.unit)))),
 TI.scal (Ty.fn),
 TI.slice 76 (Ty.fn) 8,
 TI.scal (Ty.fn),
 TI.scal (Ty.fn),
 TI.other,
 TI.scal (Ty.fn),
 TI.slice 9 (Ty.str) 16,
 TI.other,
 TI.scal (Ty.fn),
 TI.scal (Ty.fn),
 TI.scal (Ty.fn),
 TI.scal (Ty.fn),
 TI.scal (Ty.fn),
 TI.scal (Ty.fn),
 TI.scal (Ty.fn),
 TI.slice 5 (Ty.int IntKind.u8) 1,
 TI.scal (Ty.fn),
 TI.struct (Ty.cons (Ty.int IntKind.i64) (Ty.cons (Ty.int IntKind.i64) Ty.unit)),
 TI.struct (Ty.cons (Ty.int IntKind.i64) (Ty.cons (Ty.int IntKind.i64) Ty.unit)),
 TI.scal (Ty.fn),
 TI.other,
 TI.scal (Ty.fn),
 TI.scal (Ty.fn),
 TI.other,
 TI.scal (Ty.fn),
 TI.other,
 TI.scal (Ty.fn),
 TI.scal (Ty.fn),
 TI.scal (Ty.fn),
 TI.scal (Ty.fn),
 TI.scal (Ty.fn),
 TI.struct (Ty.cons (Ty.int IntKind.i64) (Ty.cons (Ty.int IntKind.i64) Ty.unit)),
 TI.scal (Ty.fn),
 TI.scal (Ty.fn),
 TI.scal (Ty.fn),
 TI.scal (Ty.fn),
 TI.scal (Ty.fn),
 TI.other,
 TI.scal (Ty.fn),
 TI.scal (Ty.fn),
 TI.scal (Ty.fn),
 TI.scal (Ty.fn),
 TI.scal (Ty.fn),
 TI.scal (Ty.fn),
 TI.scal (Ty.fn),
 TI.scal (Ty.fn),
 TI.scal (Ty.fn),
 TI.scal (Ty.fn),
 TI.scal (Ty.fn),
 TI.other,
 TI.scal (Ty.fn),
 TI.scal (Ty.fn),
 TI.scal (Ty.fn),
 TI.scal (Ty.fn),
 TI.scal (Ty.fn),
 TI.scal (Ty.fn),
 TI.scal (Ty.fn),
 TI.scal (Ty.fn),
 TI.scal (Ty.fn),
 TI.scal (Ty.fn),
 TI.scal (Ty.fn),
 TI.scal (Ty.fn),
 TI.scal (Ty.fn),
 TI.scal (Ty.fn),
 TI.scal (Ty.fn),
 TI.scal (Ty.fn),
 TI.scal (Ty.fn),
 TI.scal (Ty.fn),
 TI.other,
 TI.scal (Ty.int IntKind.u64),
 TI.scal (Ty.fn),
 TI.scal (Ty.fn),
 TI.other,
 TI.scal (Ty.fn),
 TI.scal (Ty.fn),
 TI.scal (Ty.fn),
 TI.scal (Ty.fn),
 TI.scal (Ty.fn),
 TI.scal (Ty.fn),
 TI.scal (Ty.fn),
 TI.scal (Ty.fn),
 TI.scal (Ty.fn),
 TI.other,
 TI.scal (Ty.int IntKind.u32),
 TI.other,
 TI.scal (Ty.fn),
 TI.scal (Ty.int IntKind.u64),
 TI.scal (Ty.fn),
 TI.scal (Ty.fn),
 TI.scal (Ty.fn),
 TI.scal (Ty.fn),
 TI.scal (Ty.fn),
 TI.scal (Ty.fn),
 TI.scal (Ty.fn),
 TI.scal (Ty.fn),
 TI.scal (Ty.fn),
 TI.other,
 TI.other,
 TI.scal (Ty.fn),
 TI.other,
 TI.scal (Ty.fn),
 TI.scal (Ty.fn),
 TI.other,
 TI.struct (Ty.cons (Ty.int IntKind.u8) (Ty.cons (Ty.int IntKind.u8) Ty.unit)),
 TI.struct (Ty.cons (Ty.int IntKind.u8) (Ty.cons (Ty.int IntKind.u8) Ty.unit)),
 TI.other,
 TI.other,
 TI.scal (Ty.fn),
 TI.scal (Ty.fn),
 TI.other,
 TI.other,
 TI.other,
 TI.other,
 TI.other,
 TI.scal (Ty.fn),
 TI.scal (Ty.int IntKind.u8),
 TI.scal (Ty.int IntKind.u8),
 TI.scal (Ty.fn),
 TI.other,
 TI.scal (Ty.int IntKind.i32),
 TI.scal (Ty.int IntKind.i32)]
theorem tabOk:TabOk Tryz.prog tab:=tabOk_of_check (by kernel_rfl)
theorem mixed:Tryz.prog.follows .mixedOrders=true:=by kernel_rfl
theorem gv0 {W:World} (h:GInv W):GHas W 0 (.tab .u64 Lib.pow10Tab):=h.1
theorem gv3 {W:World} (h:GInv W):GHas W 3 (.int .i64):=h.2.1
theorem gcell3 (W:World) (h:W.ShapedOpen Tryz.prog):∃ m,W.cell? ⟨3,0,none⟩=some (.int .i64 m) :=
 Go.Proofs.cell_of_shapedOpen_int (zero := #[.int .i64 0]) (t:=3) h (of_decide_eq_true (by kernel_rfl)) (by kernel_rfl) rfl (by kernel_rfl) (by kernel_rfl) Tryz.underlying3
theorem maxLenG {W:World} (h:GInv W):∃ m,W.cell? ⟨3,0,none⟩=some (.int .i64 m):=gv3 h
theorem pow10G {W : World} (h : GInv W) : Lib.TabIs Tryz.prog W "internal/strconv.uint64pow10" .u64 Lib.pow10Tab := GHas.tab (by kernel_rfl) (gv0 h)
theorem ginv (W:World) (h:W.ShapedOpen Tryz.prog) (h0:GHas W 0 (.tab .u64 Lib.pow10Tab)):GInv W:=⟨h0,gcell3 W h,trivial⟩
@[reducible] def TyA0:Type:=(List (Int×Int×Unit)×Int×Int×Unit)×Int×(Int×Int×Unit)×(Int×Int×Int×Int×Unit)×List (ByteArray×Int×Int×Int×Unit)×(Int×Int×Int×Unit)×List (ByteArray×Int×Int×Int×Int×Unit)×Int×Int×List (Int×Int×Unit)×Int×List (Int×Int×ByteArray×Int×Unit)×Unit
@[reducible] def TyB0:Type:=ByteArray×Int×Int×Int×Int×Unit
@[reducible] def TyB1:Type:=ByteArray×Int×Int×Int×Unit
@[reducible] def TyB2:Type:=Int×Int×ByteArray×Int×Unit
@[reducible] def TyB3:Type:=Int×ByteArray×ByteArray×Unit
@[reducible] def TyB4:Type:=Int×Int×Unit
theorem ca4:Callable Tryz.prog 4:=⟨Tryz.f4,Tryz.func4,by kernel_rfl,by kernel_rfl⟩
theorem ca5:Callable Tryz.prog 5:=⟨Tryz.f5,Tryz.func5,by kernel_rfl,by kernel_rfl⟩
theorem ca6:Callable Tryz.prog 6:=⟨Tryz.f6,Tryz.func6,by kernel_rfl,by kernel_rfl⟩
theorem ca7:Callable Tryz.prog 7:=⟨Tryz.f7,Tryz.func7,by kernel_rfl,by kernel_rfl⟩
theorem ca8:Callable Tryz.prog 8:=⟨Tryz.f8,Tryz.func8,by kernel_rfl,by kernel_rfl⟩
theorem ca9:Callable Tryz.prog 9:=⟨Tryz.f9,Tryz.func9,by kernel_rfl,by kernel_rfl⟩
theorem ca10:Callable Tryz.prog 10:=⟨Tryz.f10,Tryz.func10,by kernel_rfl,by kernel_rfl⟩
theorem ca11:Callable Tryz.prog 11:=⟨Tryz.f11,Tryz.func11,by kernel_rfl,by kernel_rfl⟩
theorem ca12:Callable Tryz.prog 12:=⟨Tryz.f12,Tryz.func12,by kernel_rfl,by kernel_rfl⟩
theorem ca13:Callable Tryz.prog 13:=⟨Tryz.f13,Tryz.func13,by kernel_rfl,by kernel_rfl⟩
theorem ca14:Callable Tryz.prog 14:=⟨Tryz.f14,Tryz.func14,by kernel_rfl,by kernel_rfl⟩
theorem ca15:Callable Tryz.prog 15:=⟨Tryz.f15,Tryz.func15,by kernel_rfl,by kernel_rfl⟩
theorem ca16:Callable Tryz.prog 16:=⟨Tryz.f16,Tryz.func16,by kernel_rfl,by kernel_rfl⟩
theorem ca17:Callable Tryz.prog 17:=⟨Tryz.f17,Tryz.func17,by kernel_rfl,by kernel_rfl⟩
theorem ca18:Callable Tryz.prog 18:=⟨Tryz.f18,Tryz.func18,by kernel_rfl,by kernel_rfl⟩
theorem ca19:Callable Tryz.prog 19:=⟨Tryz.f19,Tryz.func19,by kernel_rfl,by kernel_rfl⟩
theorem ca20:Callable Tryz.prog 20:=⟨Tryz.f20,Tryz.func20,by kernel_rfl,by kernel_rfl⟩
theorem ca21:Callable Tryz.prog 21:=⟨Tryz.f21,Tryz.func21,by kernel_rfl,by kernel_rfl⟩
theorem ca22:Callable Tryz.prog 22:=⟨Tryz.f22,Tryz.func22,by kernel_rfl,by kernel_rfl⟩
theorem ca23:Callable Tryz.prog 23:=⟨Tryz.f23,Tryz.func23,by kernel_rfl,by kernel_rfl⟩
theorem ca24:Callable Tryz.prog 24:=⟨Tryz.f24,Tryz.func24,by kernel_rfl,by kernel_rfl⟩
theorem ca25:Callable Tryz.prog 25:=⟨Tryz.f25,Tryz.func25,by kernel_rfl,by kernel_rfl⟩
theorem ca26:Callable Tryz.prog 26:=⟨Tryz.f26,Tryz.func26,by kernel_rfl,by kernel_rfl⟩
theorem ca27:Callable Tryz.prog 27:=⟨Tryz.f27,Tryz.func27,by kernel_rfl,by kernel_rfl⟩
theorem ca28:Callable Tryz.prog 28:=⟨Tryz.f28,Tryz.func28,by kernel_rfl,by kernel_rfl⟩
theorem ca29:Callable Tryz.prog 29:=⟨Tryz.f29,Tryz.func29,by kernel_rfl,by kernel_rfl⟩
theorem ca30:Callable Tryz.prog 30:=⟨Tryz.f30,Tryz.func30,by kernel_rfl,by kernel_rfl⟩
theorem ca31:Callable Tryz.prog 31:=⟨Tryz.f31,Tryz.func31,by kernel_rfl,by kernel_rfl⟩
theorem ca32:Callable Tryz.prog 32:=⟨Tryz.f32,Tryz.func32,by kernel_rfl,by kernel_rfl⟩
theorem ca33:Callable Tryz.prog 33:=⟨Tryz.f33,Tryz.func33,by kernel_rfl,by kernel_rfl⟩
theorem ca34:Callable Tryz.prog 34:=⟨Tryz.f34,Tryz.func34,by kernel_rfl,by kernel_rfl⟩
theorem ca35:Callable Tryz.prog 35:=⟨Tryz.f35,Tryz.func35,by kernel_rfl,by kernel_rfl⟩
theorem ca36:Callable Tryz.prog 36:=⟨Tryz.f36,Tryz.func36,by kernel_rfl,by kernel_rfl⟩
theorem ca37:Callable Tryz.prog 37:=⟨Tryz.f37,Tryz.func37,by kernel_rfl,by kernel_rfl⟩
theorem ca38:Callable Tryz.prog 38:=⟨Tryz.f38,Tryz.func38,by kernel_rfl,by kernel_rfl⟩
theorem ca39:Callable Tryz.prog 39:=⟨Tryz.f39,Tryz.func39,by kernel_rfl,by kernel_rfl⟩
theorem ca40:Callable Tryz.prog 40:=⟨Tryz.f40,Tryz.func40,by kernel_rfl,by kernel_rfl⟩
theorem ca41:Callable Tryz.prog 41:=⟨Tryz.f41,Tryz.func41,by kernel_rfl,by kernel_rfl⟩
theorem ca42:Callable Tryz.prog 42:=⟨Tryz.f42,Tryz.func42,by kernel_rfl,by kernel_rfl⟩
theorem ca43:Callable Tryz.prog 43:=⟨Tryz.f43,Tryz.func43,by kernel_rfl,by kernel_rfl⟩
theorem ca44:Callable Tryz.prog 44:=⟨Tryz.f44,Tryz.func44,by kernel_rfl,by kernel_rfl⟩
theorem ca45:Callable Tryz.prog 45:=⟨Tryz.f45,Tryz.func45,by kernel_rfl,by kernel_rfl⟩
theorem ca46:Callable Tryz.prog 46:=⟨Tryz.f46,Tryz.func46,by kernel_rfl,by kernel_rfl⟩
theorem ca47:Callable Tryz.prog 47:=⟨Tryz.f47,Tryz.func47,by kernel_rfl,by kernel_rfl⟩
theorem ca48:Callable Tryz.prog 48:=⟨Tryz.f48,Tryz.func48,by kernel_rfl,by kernel_rfl⟩
theorem ca49:Callable Tryz.prog 49:=⟨Tryz.f49,Tryz.func49,by kernel_rfl,by kernel_rfl⟩
theorem ca50:Callable Tryz.prog 50:=⟨Tryz.f50,Tryz.func50,by kernel_rfl,by kernel_rfl⟩
theorem ca51:Callable Tryz.prog 51:=⟨Tryz.f51,Tryz.func51,by kernel_rfl,by kernel_rfl⟩
theorem ca52:Callable Tryz.prog 52:=⟨Tryz.f52,Tryz.func52,by kernel_rfl,by kernel_rfl⟩
theorem ca53:Callable Tryz.prog 53:=⟨Tryz.f53,Tryz.func53,by kernel_rfl,by kernel_rfl⟩
theorem ca54:Callable Tryz.prog 54:=⟨Tryz.f54,Tryz.func54,by kernel_rfl,by kernel_rfl⟩
theorem ca55:Callable Tryz.prog 55:=⟨Tryz.f55,Tryz.func55,by kernel_rfl,by kernel_rfl⟩
theorem ca56:Callable Tryz.prog 56:=⟨Tryz.f56,Tryz.func56,by kernel_rfl,by kernel_rfl⟩
theorem ca57:Callable Tryz.prog 57:=⟨Tryz.f57,Tryz.func57,by kernel_rfl,by kernel_rfl⟩
theorem ca58:Callable Tryz.prog 58:=⟨Tryz.f58,Tryz.func58,by kernel_rfl,by kernel_rfl⟩
theorem ca59:Callable Tryz.prog 59:=⟨Tryz.f59,Tryz.func59,by kernel_rfl,by kernel_rfl⟩
theorem ca60:Callable Tryz.prog 60:=⟨Tryz.f60,Tryz.func60,by kernel_rfl,by kernel_rfl⟩
theorem ca61:Callable Tryz.prog 61:=⟨Tryz.f61,Tryz.func61,by kernel_rfl,by kernel_rfl⟩
theorem ca62:Callable Tryz.prog 62:=⟨Tryz.f62,Tryz.func62,by kernel_rfl,by kernel_rfl⟩
theorem ca63:Callable Tryz.prog 63:=⟨Tryz.f63,Tryz.func63,by kernel_rfl,by kernel_rfl⟩
theorem ca64:Callable Tryz.prog 64:=⟨Tryz.f64,Tryz.func64,by kernel_rfl,by kernel_rfl⟩
theorem ca65:Callable Tryz.prog 65:=⟨Tryz.f65,Tryz.func65,by kernel_rfl,by kernel_rfl⟩
theorem ca66:Callable Tryz.prog 66:=⟨Tryz.f66,Tryz.func66,by kernel_rfl,by kernel_rfl⟩
theorem ca67:Callable Tryz.prog 67:=⟨Tryz.f67,Tryz.func67,by kernel_rfl,by kernel_rfl⟩
theorem ca68:Callable Tryz.prog 68:=⟨Tryz.f68,Tryz.func68,by kernel_rfl,by kernel_rfl⟩
theorem ca69:Callable Tryz.prog 69:=⟨Tryz.f69,Tryz.func69,by kernel_rfl,by kernel_rfl⟩
theorem ca70:Callable Tryz.prog 70:=⟨Tryz.f70,Tryz.func70,by kernel_rfl,by kernel_rfl⟩
theorem ca71:Callable Tryz.prog 71:=⟨Tryz.f71,Tryz.func71,by kernel_rfl,by kernel_rfl⟩
theorem ca72:Callable Tryz.prog 72:=⟨Tryz.f72,Tryz.func72,by kernel_rfl,by kernel_rfl⟩
theorem ca73:Callable Tryz.prog 73:=⟨Tryz.f73,Tryz.func73,by kernel_rfl,by kernel_rfl⟩
theorem ca74:Callable Tryz.prog 74:=⟨Tryz.f74,Tryz.func74,by kernel_rfl,by kernel_rfl⟩
theorem ca75:Callable Tryz.prog 75:=⟨Tryz.f75,Tryz.func75,by kernel_rfl,by kernel_rfl⟩
theorem ca76:Callable Tryz.prog 76:=⟨Tryz.f76,Tryz.func76,by kernel_rfl,by kernel_rfl⟩
theorem ca77:Callable Tryz.prog 77:=⟨Tryz.f77,Tryz.func77,by kernel_rfl,by kernel_rfl⟩
theorem ca78:Callable Tryz.prog 78:=⟨Tryz.f78,Tryz.func78,by kernel_rfl,by kernel_rfl⟩
theorem ca79:Callable Tryz.prog 79:=⟨Tryz.f79,Tryz.func79,by kernel_rfl,by kernel_rfl⟩
theorem ca80:Callable Tryz.prog 80:=⟨Tryz.f80,Tryz.func80,by kernel_rfl,by kernel_rfl⟩
theorem ca81:Callable Tryz.prog 81:=⟨Tryz.f81,Tryz.func81,by kernel_rfl,by kernel_rfl⟩
theorem ca82:Callable Tryz.prog 82:=⟨Tryz.f82,Tryz.func82,by kernel_rfl,by kernel_rfl⟩
theorem ca83:Callable Tryz.prog 83:=⟨Tryz.f83,Tryz.func83,by kernel_rfl,by kernel_rfl⟩
theorem ca84:Callable Tryz.prog 84:=⟨Tryz.f84,Tryz.func84,by kernel_rfl,by kernel_rfl⟩
theorem ca85:Callable Tryz.prog 85:=⟨Tryz.f85,Tryz.func85,by kernel_rfl,by kernel_rfl⟩
theorem ca86:Callable Tryz.prog 86:=⟨Tryz.f86,Tryz.func86,by kernel_rfl,by kernel_rfl⟩
theorem ca87:Callable Tryz.prog 87:=⟨Tryz.f87,Tryz.func87,by kernel_rfl,by kernel_rfl⟩
theorem ca88:Callable Tryz.prog 88:=⟨Tryz.f88,Tryz.func88,by kernel_rfl,by kernel_rfl⟩
theorem ca89:Callable Tryz.prog 89:=⟨Tryz.f89,Tryz.func89,by kernel_rfl,by kernel_rfl⟩
theorem ca90:Callable Tryz.prog 90:=⟨Tryz.f90,Tryz.func90,by kernel_rfl,by kernel_rfl⟩
theorem ca91:Callable Tryz.prog 91:=⟨Tryz.f91,Tryz.func91,by kernel_rfl,by kernel_rfl⟩
theorem ca92:Callable Tryz.prog 92:=⟨Tryz.f92,Tryz.func92,by kernel_rfl,by kernel_rfl⟩
theorem ca93:Callable Tryz.prog 93:=⟨Tryz.f93,Tryz.func93,by kernel_rfl,by kernel_rfl⟩
theorem ca94:Callable Tryz.prog 94:=⟨Tryz.f94,Tryz.func94,by kernel_rfl,by kernel_rfl⟩
theorem ca95:Callable Tryz.prog 95:=⟨Tryz.f95,Tryz.func95,by kernel_rfl,by kernel_rfl⟩
theorem ca96:Callable Tryz.prog 96:=⟨Tryz.f96,Tryz.func96,by kernel_rfl,by kernel_rfl⟩
theorem ca97:Callable Tryz.prog 97:=⟨Tryz.f97,Tryz.func97,by kernel_rfl,by kernel_rfl⟩
theorem ca98:Callable Tryz.prog 98:=⟨Tryz.f98,Tryz.func98,by kernel_rfl,by kernel_rfl⟩
theorem ca99:Callable Tryz.prog 99:=⟨Tryz.f99,Tryz.func99,by kernel_rfl,by kernel_rfl⟩
theorem ca100:Callable Tryz.prog 100:=⟨Tryz.f100,Tryz.func100,by kernel_rfl,by kernel_rfl⟩
theorem ca101:Callable Tryz.prog 101:=⟨Tryz.f101,Tryz.func101,by kernel_rfl,by kernel_rfl⟩
theorem ca102:Callable Tryz.prog 102:=⟨Tryz.f102,Tryz.func102,by kernel_rfl,by kernel_rfl⟩
theorem ca103:Callable Tryz.prog 103:=⟨Tryz.f103,Tryz.func103,by kernel_rfl,by kernel_rfl⟩
theorem ca104:Callable Tryz.prog 104:=⟨Tryz.f104,Tryz.func104,by kernel_rfl,by kernel_rfl⟩
theorem ca105:Callable Tryz.prog 105:=⟨Tryz.f105,Tryz.func105,by kernel_rfl,by kernel_rfl⟩
theorem ca108:Callable Tryz.prog 108:=⟨Tryz.f108,Tryz.func108,by kernel_rfl,by kernel_rfl⟩
theorem ca109:Callable Tryz.prog 109:=⟨Tryz.f109,Tryz.func109,by kernel_rfl,by kernel_rfl⟩
theorem ca110:Callable Tryz.prog 110:=⟨Tryz.f110,Tryz.func110,by kernel_rfl,by kernel_rfl⟩
theorem ca111:Callable Tryz.prog 111:=⟨Tryz.f111,Tryz.func111,by kernel_rfl,by kernel_rfl⟩
theorem ca112:Callable Tryz.prog 112:=⟨Tryz.f112,Tryz.func112,by kernel_rfl,by kernel_rfl⟩
theorem ca113:Callable Tryz.prog 113:=⟨Tryz.f113,Tryz.func113,by kernel_rfl,by kernel_rfl⟩
theorem ca114:Callable Tryz.prog 114:=⟨Tryz.f114,Tryz.func114,by kernel_rfl,by kernel_rfl⟩
theorem ca115:Callable Tryz.prog 115:=⟨Tryz.f115,Tryz.func115,by kernel_rfl,by kernel_rfl⟩
theorem ca116:Callable Tryz.prog 116:=⟨Tryz.f116,Tryz.func116,by kernel_rfl,by kernel_rfl⟩
theorem ca117:Callable Tryz.prog 117:=⟨Tryz.f117,Tryz.func117,by kernel_rfl,by kernel_rfl⟩
theorem ca118:Callable Tryz.prog 118:=⟨Tryz.f118,Tryz.func118,by kernel_rfl,by kernel_rfl⟩
theorem ca119:Callable Tryz.prog 119:=⟨Tryz.f119,Tryz.func119,by kernel_rfl,by kernel_rfl⟩
theorem ca120:Callable Tryz.prog 120:=⟨Tryz.f120,Tryz.func120,by kernel_rfl,by kernel_rfl⟩
theorem ca121:Callable Tryz.prog 121:=⟨Tryz.f121,Tryz.func121,by kernel_rfl,by kernel_rfl⟩
theorem ca122:Callable Tryz.prog 122:=⟨Tryz.f122,Tryz.func122,by kernel_rfl,by kernel_rfl⟩
theorem ca123:Callable Tryz.prog 123:=⟨Tryz.f123,Tryz.func123,by kernel_rfl,by kernel_rfl⟩
theorem ca124:Callable Tryz.prog 124:=⟨Tryz.f124,Tryz.func124,by kernel_rfl,by kernel_rfl⟩
theorem ca125:Callable Tryz.prog 125:=⟨Tryz.f125,Tryz.func125,by kernel_rfl,by kernel_rfl⟩
theorem ca126:Callable Tryz.prog 126:=⟨Tryz.f126,Tryz.func126,by kernel_rfl,by kernel_rfl⟩
theorem ca127:Callable Tryz.prog 127:=⟨Tryz.f127,Tryz.func127,by kernel_rfl,by kernel_rfl⟩
theorem ca128:Callable Tryz.prog 128:=⟨Tryz.f128,Tryz.func128,by kernel_rfl,by kernel_rfl⟩
theorem ca129:Callable Tryz.prog 129:=⟨Tryz.f129,Tryz.func129,by kernel_rfl,by kernel_rfl⟩
theorem ca130:Callable Tryz.prog 130:=⟨Tryz.f130,Tryz.func130,by kernel_rfl,by kernel_rfl⟩
theorem ca133:Callable Tryz.prog 133:=⟨Tryz.f133,Tryz.func133,by kernel_rfl,by kernel_rfl⟩
theorem ca134:Callable Tryz.prog 134:=⟨Tryz.f134,Tryz.func134,by kernel_rfl,by kernel_rfl⟩
theorem ca135:Callable Tryz.prog 135:=⟨Tryz.f135,Tryz.func135,by kernel_rfl,by kernel_rfl⟩
theorem ca136:Callable Tryz.prog 136:=⟨Tryz.f136,Tryz.func136,by kernel_rfl,by kernel_rfl⟩
theorem ca137:Callable Tryz.prog 137:=⟨Tryz.f137,Tryz.func137,by kernel_rfl,by kernel_rfl⟩
theorem ca138:Callable Tryz.prog 138:=⟨Tryz.f138,Tryz.func138,by kernel_rfl,by kernel_rfl⟩
theorem ca139:Callable Tryz.prog 139:=⟨Tryz.f139,Tryz.func139,by kernel_rfl,by kernel_rfl⟩
theorem ca140:Callable Tryz.prog 140:=⟨Tryz.f140,Tryz.func140,by kernel_rfl,by kernel_rfl⟩
theorem ca141:Callable Tryz.prog 141:=⟨Tryz.f141,Tryz.func141,by kernel_rfl,by kernel_rfl⟩
theorem ca142:Callable Tryz.prog 142:=⟨Tryz.f142,Tryz.func142,by kernel_rfl,by kernel_rfl⟩
theorem ca143:Callable Tryz.prog 143:=⟨Tryz.f143,Tryz.func143,by kernel_rfl,by kernel_rfl⟩
theorem ca144:Callable Tryz.prog 144:=⟨Tryz.f144,Tryz.func144,by kernel_rfl,by kernel_rfl⟩
theorem ca145:Callable Tryz.prog 145:=⟨Tryz.f145,Tryz.func145,by kernel_rfl,by kernel_rfl⟩
theorem ca146:Callable Tryz.prog 146:=⟨Tryz.f146,Tryz.func146,by kernel_rfl,by kernel_rfl⟩
theorem ca151:Callable Tryz.prog 151:=⟨Tryz.f151,Tryz.func151,by kernel_rfl,by kernel_rfl⟩
theorem ca152:Callable Tryz.prog 152:=⟨Tryz.f152,Tryz.func152,by kernel_rfl,by kernel_rfl⟩
theorem ca153:Callable Tryz.prog 153:=⟨Tryz.f153,Tryz.func153,by kernel_rfl,by kernel_rfl⟩
theorem ca154:Callable Tryz.prog 154:=⟨Tryz.f154,Tryz.func154,by kernel_rfl,by kernel_rfl⟩
theorem ca155:Callable Tryz.prog 155:=⟨Tryz.f155,Tryz.func155,by kernel_rfl,by kernel_rfl⟩
theorem ca156:Callable Tryz.prog 156:=⟨Tryz.f156,Tryz.func156,by kernel_rfl,by kernel_rfl⟩
theorem ca157:Callable Tryz.prog 157:=⟨Tryz.f157,Tryz.func157,by kernel_rfl,by kernel_rfl⟩
theorem ca158:Callable Tryz.prog 158:=⟨Tryz.f158,Tryz.func158,by kernel_rfl,by kernel_rfl⟩
theorem ca159:Callable Tryz.prog 159:=⟨Tryz.f159,Tryz.func159,by kernel_rfl,by kernel_rfl⟩
theorem ca160:Callable Tryz.prog 160:=⟨Tryz.f160,Tryz.func160,by kernel_rfl,by kernel_rfl⟩
theorem ca166:Callable Tryz.prog 166:=⟨Tryz.f166,Tryz.func166,by kernel_rfl,by kernel_rfl⟩
theorem ca167:Callable Tryz.prog 167:=⟨Tryz.f167,Tryz.func167,by kernel_rfl,by kernel_rfl⟩
theorem ca168:Callable Tryz.prog 168:=⟨Tryz.f168,Tryz.func168,by kernel_rfl,by kernel_rfl⟩
theorem ca169:Callable Tryz.prog 169:=⟨Tryz.f169,Tryz.func169,by kernel_rfl,by kernel_rfl⟩
theorem ca171:Callable Tryz.prog 171:=⟨Tryz.f171,Tryz.func171,by kernel_rfl,by kernel_rfl⟩
theorem ca172:Callable Tryz.prog 172:=⟨Tryz.f172,Tryz.func172,by kernel_rfl,by kernel_rfl⟩
theorem ca175:Callable Tryz.prog 175:=⟨Tryz.f175,Tryz.func175,by kernel_rfl,by kernel_rfl⟩
theorem ca179:Callable Tryz.prog 179:=⟨Tryz.f179,Tryz.func179,by kernel_rfl,by kernel_rfl⟩
@[reducible] def YA0:Ty:=Ty.cons (Ty.cons (Ty.sl (Ty.cons (Ty.int .i64) (Ty.cons (Ty.int .i64) Ty.unit))) (Ty.cons (Ty.int .i64) (Ty.cons (Ty.int .i64) Ty.unit))) (Ty.cons (Ty.int .i64) (Ty.cons (Ty.cons (Ty.int .i64) (Ty.cons (Ty.int .i64) Ty.unit)) (Ty.cons (Ty.cons (Ty.int .i64) (Ty.cons (Ty.int .i64) (Ty.cons (Ty.int .i64) (Ty.cons (Ty.int .i64) Ty.unit)))) (Ty.cons (Ty.sl (Ty.cons Ty.str (Ty.cons (Ty.int .i64) (Ty.cons (Ty.int .i64) (Ty.cons (Ty.int .i64) Ty.unit))))) (Ty.cons (Ty.cons (Ty.int .i64) (Ty.cons (Ty.int .i64) (Ty.cons (Ty.int .i64) Ty.unit))) (Ty.cons (Ty.sl (Ty.cons Ty.str (Ty.cons (Ty.int .i64) (Ty.cons (Ty.int .i64) (Ty.cons (Ty.int .i64) (Ty.cons (Ty.int .i64) Ty.unit)))))) (Ty.cons (Ty.int .i64) (Ty.cons (Ty.int .i64) (Ty.cons (Ty.sl (Ty.cons (Ty.int .i64) (Ty.cons (Ty.int .i64) Ty.unit))) (Ty.cons (Ty.int .i64) (Ty.cons (Ty.sl (Ty.cons (Ty.int .i64) (Ty.cons (Ty.int .i64) (Ty.cons Ty.str (Ty.cons (Ty.int .i64) Ty.unit))))) Ty.unit)))))))))))
@[reducible] def YA1:Ty:=Ty.cons (Ty.int .i64) (Ty.cons (Ty.cons (Ty.int .i64) (Ty.cons (Ty.int .i64) Ty.unit)) (Ty.cons (Ty.cons (Ty.int .i64) (Ty.cons (Ty.int .i64) (Ty.cons (Ty.int .i64) (Ty.cons (Ty.int .i64) Ty.unit)))) (Ty.cons (Ty.sl (Ty.cons Ty.str (Ty.cons (Ty.int .i64) (Ty.cons (Ty.int .i64) (Ty.cons (Ty.int .i64) Ty.unit))))) (Ty.cons (Ty.cons (Ty.int .i64) (Ty.cons (Ty.int .i64) (Ty.cons (Ty.int .i64) Ty.unit))) (Ty.cons (Ty.sl (Ty.cons Ty.str (Ty.cons (Ty.int .i64) (Ty.cons (Ty.int .i64) (Ty.cons (Ty.int .i64) (Ty.cons (Ty.int .i64) Ty.unit)))))) (Ty.cons (Ty.int .i64) (Ty.cons (Ty.int .i64) (Ty.cons (Ty.sl (Ty.cons (Ty.int .i64) (Ty.cons (Ty.int .i64) Ty.unit))) (Ty.cons (Ty.int .i64) (Ty.cons (Ty.sl (Ty.cons (Ty.int .i64) (Ty.cons (Ty.int .i64) (Ty.cons Ty.str (Ty.cons (Ty.int .i64) Ty.unit))))) Ty.unit))))))))))
@[reducible] def YA2:Ty:=Ty.cons (Ty.sl (Ty.cons (Ty.int .i64) (Ty.cons (Ty.int .i64) Ty.unit))) (Ty.cons (Ty.int .i64) (Ty.cons (Ty.int .i64) Ty.unit))
@[reducible] def YA3:Ty:=Ty.cons Ty.str (Ty.cons (Ty.int .i64) (Ty.cons (Ty.int .i64) (Ty.cons (Ty.int .i64) (Ty.cons (Ty.int .i64) Ty.unit))))
@[reducible] def YA4:Ty:=Ty.cons (Ty.int .i64) (Ty.cons (Ty.int .i64) (Ty.cons (Ty.int .i64) (Ty.cons (Ty.int .i64) Ty.unit)))
@[reducible] def YA5:Ty:=Ty.cons Ty.str (Ty.cons (Ty.int .i64) (Ty.cons (Ty.int .i64) (Ty.cons (Ty.int .i64) Ty.unit)))
@[reducible] def YA6:Ty:=Ty.cons (Ty.int .i64) (Ty.cons (Ty.int .i64) (Ty.cons Ty.str (Ty.cons (Ty.int .i64) Ty.unit)))
@[reducible] def YA7:Ty:=Ty.cons (Ty.int .i64) (Ty.cons (Ty.int .i64) (Ty.cons (Ty.int .i64) Ty.unit))
@[reducible] def YA8:Ty:=Ty.cons (Ty.int .i64) (Ty.cons Ty.str (Ty.cons Ty.str Ty.unit))
@[reducible] def YA9:Ty:=Ty.cons (Ty.int .i64) (Ty.cons (Ty.int .i64) Ty.unit)
noncomputable section
def ext118:Ext:=[]
theorem ext118Ok:ExtOk Tryz.prog ext118:=trivial
noncomputable def b118:Code:=bodyOf Tryz.f118
theorem hb118:Tryz.f118.body=some b118:=by kernel_rfl
def sig118:List AT:=[AT.v (Ty.int .i64),AT.v (Ty.int .i64),AT.v (Ty.int .i64)]
def tys118:List Ty:=[Ty.bool]
def kds118:List RK:=[]
def oks118:List AT:=owns sig118
def P118 (x0:Int) (x1:Int) (x2:Int):Prop:=True
def g118_0 (x0:Int) (x1:Int) (x2:Int):Bool:=(if (decide (x0≥x1))=true then decide (x0≤x2) else false)
theorem at118 (x0:Int) (x1:Int) (x2:Int) (h:P118 x0 x1 x2) (K:Ctx) (q:Nat→Value):AtV Tryz.prog 118 (PostR kds118 oks118 [⟨Ty.bool,g118_0 x0 x1 x2⟩] [] [] q K) 15 K q [] [.code b118] (entE 0 0 sig118 (x0,x1,x2,())) (entL sig118 (x0,x1,x2,())):=by
 unfold P118 at h
 unfold g118_0
 by_cases b0:(decide (x0≥x1))=true
 ·try simp only [if_pos b0] at h ⊢
  exact AtV.ret Tryz.func118 tabOk ext118Ok mixed false [] tys118 [true] (a1 b0 trivial) (by kernel_rfl)
 ·try simp only [if_neg b0] at h ⊢
  replace b0:=Bool.eq_false_iff.2 b0
  exact AtV.ret Tryz.func118 tabOk ext118Ok mixed false [] tys118 [false] (a1 b0 trivial) (by kernel_rfl)
def S118:Am.Spec:={ sig:=sig118,pre:=fun ⟨x0,x1,x2,_⟩=>P118 x0 x1 x2,res:=fun ⟨x0,x1,x2,_⟩=>[⟨Ty.bool,g118_0 x0 x1 x2⟩],kds:=kds118 }
theorem con118:Contract Tryz.prog 118 S118:=contract_of Tryz.func118 hb118 (Nat.le_of_ble_eq_true (by kernel_rfl)) (fun ⟨x0,x1,x2,_⟩ h _ K q=>at118 x0 x1 x2 h K q)
end
noncomputable section
def ext103:Ext:=[]
theorem ext103Ok:ExtOk Tryz.prog ext103:=trivial
noncomputable def b103:Code:=bodyOf Tryz.f103
theorem hb103:Tryz.f103.body=some b103:=by kernel_rfl
def sig103:List AT:=[AT.v YA2]
def tys103:List Ty:=[Ty.int .i64]
def kds103:List RK:=[]
def oks103:List AT:=owns sig103
def E103_3 (v3:Int) (v9:Int) (x0:List TyB4×Int×Int×Unit):Env:=[(3,PV.a (Atom.val (Value.int .i64 v3))),(7,PV.a (Atom.sl YA9 x0.1)),(8,PV.a (Atom.val (Value.int .i64 (↑(List.length x0.1):Int)))),(9,PV.a (Atom.val (Value.int .i64 v9)))]
def L103_3 (v3:Int) (v9:Int) (x0:List TyB4×Int×Int×Unit):Heap:=[]
mutual
def R103:Nat→List TyB4×Int×Int×Unit→List Dyn→Prop
 | 0,_,_=>False
 | n+1,x0,ds=>(R103_3 n (0) (0) (x0) ds)
def R103_3:Nat→Int→Int→List TyB4×Int×Int×Unit→List Dyn→Prop
 | 0,_,_,_,_=>False
 | n+1,v3,v9,x0,ds=>(if (decide (v9<(↑(List.length x0.1):Int)))=true then ((0≤v9)∧(v9<(↑(List.length x0.1):Int))∧((InR .i64 (v3+(List.getD x0.1 (Int.toNat v9) (0,0,())).1))∧((InR .i64 (v9+1))∧(R103_3 n (v3+(List.getD x0.1 (Int.toNat v9) (0,0,())).1) (v9+1) (x0) ds)))) else (ds=[Dyn.mk (Ty.int .i64) v3]))
end
theorem snd103:∀ n,(∀ (x0:List TyB4×Int×Int×Unit) ds,R103 n x0 ds→∀ K q,AtV Tryz.prog 103 (PostR kds103 oks103 ds [] [] q K) 19 K q [] [.code b103] (entE 0 0 sig103 (x0,())) (entL sig103 (x0,())))∧(∀ (v3:Int) (v9:Int) (x0:List TyB4×Int×Int×Unit) ds,R103_3 n v3 v9 x0 ds→∀ K q,AtV Tryz.prog 103 (PostR kds103 oks103 ds [] [] q K) 19 K q [] (cutAt b103 3) (E103_3 v3 v9 x0) (L103_3 v3 v9 x0)):=by
 intro n
 induction n with
 | zero=>exact ⟨fun _ _ h=>by simp only [R103] at h,fun _ _ _ _ h=>by simp only [R103_3] at h⟩
 | succ n ih =>
 obtain ⟨ih,ih3⟩:=ih
 refine ⟨?_,?_⟩
 ·intro x0 ds h K q
  rw [R103] at h
  exact AtV.go tabOk ext103Ok mixed false [] [] [3,7,8,9] [] [] trivial (ih3 _ _ _ _ h K q) (by kernel_rfl)
 ·intro v3 v9 x0 ds h K q
  rw [R103_3] at h
  by_cases b0:(decide (v9<(↑(List.length x0.1):Int)))=true
  ·rw [if_pos b0] at h
   obtain ⟨s0,s1,h⟩:=h
   obtain ⟨s2,h⟩:=h
   obtain ⟨s3,h⟩:=h
   exact AtV.go tabOk ext103Ok mixed false [] [] [3,7,8,9] [] [true] (a1 b0 (a1 s0 (a1 s1 (a1 s2 (a1 s3 trivial))))) (ih3 _ _ _ _ h K q) (by kernel_rfl)
  ·rw [if_neg b0] at h
   replace b0:=Bool.eq_false_iff.2 b0
   subst h
   exact AtV.ret Tryz.func103 tabOk ext103Ok mixed false [] tys103 [false] (a1 b0 trivial) (by kernel_rfl)
def sum103 (xs:List TyB4):Int:=xs.foldr (fun x n=>x.1+n) 0
def g103_0 (x0:List TyB4×Int×Int×Unit):Int:=sum103 x0.1
def P103 (x0:List TyB4×Int×Int×Unit):Prop:=x0.1.length≤1000000∧∀ x∈x0.1,0≤x.1∧x.1≤1000000000
theorem run103 (x0:List TyB4×Int×Int×Unit) (hl:x0.1.length≤1000000) (hx:∀ x∈x0.1,0≤x.1∧x.1≤1000000000):∀ (k i:Nat) (v:Int),i+k=x0.1.length→0≤v→v≤1000000000*(i:Int) →
  R103_3 (k+1) v (i:Int) x0 [⟨.int .i64,v+sum103 (x0.1.drop i)⟩]:=by
 intro k
 induction k with
 | zero =>
  intro i v hi h0 h1
  rw [R103_3,if_neg (by simp only [decide_eq_true_eq];omega),drop_end _ _ (by omega)]
  simp [sum103]
 | succ k ih =>
  intro i v hi h0 h1
  have hlt:i<x0.1.length:=by omega
  have hm:=hx _ (mem_getD x0.1 i ((0:Int),(0:Int),()) hlt)
  have h:=ih (i+1) (v+(x0.1.getD i ((0:Int),(0:Int),())).1) (by omega) (by omega) (by omega)
  rw [R103_3,if_pos (by simp only [decide_eq_true_eq];omega)]
  simp only [Int.toNat_natCast]
  refine ⟨by omega,by omega,by rw [i64_iff];omega,by rw [i64_iff];omega,?_⟩
  rw [drop_get x0.1 i ((0:Int),(0:Int),()) hlt]
  have e:∀ (y:Int×Int×Unit) l,v+sum103 (y :: l)=v+y.1+sum103 l:=fun y l=>by
   show v+(y.1+sum103 l)=_;omega
  rw [e]
  exact h
theorem top103 (x0:List TyB4×Int×Int×Unit) (h:P103 x0):R103 (x0.1.length+1+1) x0 [⟨.int .i64,g103_0 x0⟩]:=by
 rw [R103]
 have:=run103 x0 h.1 h.2 x0.1.length 0 0 (by omega) (by omega) (by omega)
 simpa [g103_0] using this
def S103:Am.Spec:={ sig:=sig103,pre:=fun ⟨x0,_⟩=>P103 x0,res:=fun ⟨x0,_⟩=>[⟨.int .i64,g103_0 x0⟩] }
theorem con103:Contract Tryz.prog 103 S103:=contract_of Tryz.func103 hb103 (Nat.le_of_ble_eq_true (by kernel_rfl)) (fun ⟨x0,_⟩ h hwf K q =>
 (snd103 _).1 x0 _ (top103 x0 h) K q)
theorem sum103_le (xs:List TyB4) (h:∀ x∈xs,0≤x.1∧x.1≤3000000):0≤sum103 xs∧sum103 xs≤3000000*(xs.length:Int):=by
 induction xs with
 | nil=>exact ⟨Int.le_refl _,Int.le_refl _⟩
 | cons x r ih =>
  obtain ⟨i1,i2⟩:=ih fun y hy=>h y (List.mem_cons_of_mem _ hy)
  obtain ⟨x1,x2⟩:=h x (List.mem_cons_self ..)
  show 0≤x.1+sum103 r∧x.1+sum103 r≤_
  simp only [List.length_cons]
  omega
end
noncomputable section
def ext92:Ext:=[(118,S118),(103,S103)]
theorem ext92Ok:ExtOk Tryz.prog ext92:=⟨⟨ca118,con118⟩,⟨ca103,con103⟩,trivial⟩
noncomputable def b92:Code:=bodyOf Tryz.f92
theorem hb92:Tryz.f92.body=some b92:=by kernel_rfl
def sig92:List AT:=[AT.v YA2]
def tys92:List Ty:=[Ty.bool]
def kds92:List RK:=[]
def oks92:List AT:=owns sig92
def E92_4 (v18:Int) (x0:List TyB4×Int×Int×Unit):Env:=[(1,PV.a (Atom.optr 0 0 [])),(16,PV.a (Atom.sl YA9 x0.1)),(17,PV.a (Atom.val (Value.int .i64 (↑(List.length x0.1):Int)))),(18,PV.a (Atom.val (Value.int .i64 v18)))]
def L92_4 (v18:Int) (x0:List TyB4×Int×Int×Unit):Heap:=[Option.some (Arr.mk YA2 [x0] true Option.none (Option.some false))]
mutual
def R92:Nat→List TyB4×Int×Int×Unit→List Dyn→Prop
 | 0,_,_=>False
 | n+1,x0,ds=>(if (decide ((↑(List.length x0.1):Int)<1))=true then (ds=[Dyn.mk Ty.bool false]) else (if (decide ((↑(List.length x0.1):Int)>12))=true then (ds=[Dyn.mk Ty.bool false]) else (R92_4 n (0) (x0) ds)))
def R92_4:Nat→Int→List TyB4×Int×Int×Unit→List Dyn→Prop
 | 0,_,_,_=>False
 | n+1,v18,x0,ds=>(if (decide (v18<(↑(List.length x0.1):Int)))=true then ((0≤v18)∧(v18<(↑(List.length x0.1):Int))∧(if (!g118_0 (List.getD x0.1 (Int.toNat v18) (0,0,())).1 1 3000000)=true then (ds=[Dyn.mk Ty.bool false]) else (if (!g118_0 (List.getD x0.1 (Int.toNat v18) (0,0,())).2.1 0 900)=true then (ds=[Dyn.mk Ty.bool false]) else ((InR .i64 (v18+1))∧(R92_4 n (v18+1) (x0) ds))))) else ((P103 x0)∧(if (decide (g103_0 x0≤3000000))=true then ((P103 x0)∧(if (g118_0 x0.2.1 0 (g103_0 x0))=true then ((P103 x0)∧(ds=[Dyn.mk Ty.bool (g118_0 x0.2.2.1 x0.2.1 (g103_0 x0))])) else (ds=[Dyn.mk Ty.bool false]))) else (ds=[Dyn.mk Ty.bool false]))))
end
theorem snd92:∀ n,(∀ (x0:List TyB4×Int×Int×Unit) ds,R92 n x0 ds→∀ K q,AtV Tryz.prog 92 (PostR kds92 oks92 ds [] [] q K) 52 K q [] [.code b92] (entE 0 0 sig92 (x0,())) (entL sig92 (x0,())))∧(∀ (v18:Int) (x0:List TyB4×Int×Int×Unit) ds,R92_4 n v18 x0 ds→∀ K q,AtV Tryz.prog 92 (PostR kds92 oks92 ds [] [] q K) 52 K q [] (cutAt b92 4) (E92_4 v18 x0) (L92_4 v18 x0)):=by
 intro n
 induction n with
 | zero=>exact ⟨fun _ _ h=>by simp only [R92] at h,fun _ _ _ h=>by simp only [R92_4] at h⟩
 | succ n ih =>
 obtain ⟨ih,ih4⟩:=ih
 refine ⟨?_,?_⟩
 ·intro x0 ds h K q
  rw [R92] at h
  by_cases b0:(decide ((↑(List.length x0.1):Int)<1))=true
  ·rw [if_pos b0] at h
   subst h
   exact AtV.ret Tryz.func92 tabOk ext92Ok mixed false [] tys92 [true,true] (a1 b0 (a1 (rfl:true=true) trivial)) (by kernel_rfl)
  ·rw [if_neg b0] at h
   replace b0:=Bool.eq_false_iff.2 b0
   by_cases b1:(decide ((↑(List.length x0.1):Int)>12))=true
   ·rw [if_pos b1] at h
    subst h
    exact AtV.ret Tryz.func92 tabOk ext92Ok mixed false [] tys92 [false,true] (a1 b0 (a1 b1 trivial)) (by kernel_rfl)
   ·rw [if_neg b1] at h
    replace b1:=Bool.eq_false_iff.2 b1
    exact AtV.go tabOk ext92Ok mixed false [] [] [1,16,17,18] [0] [false,false] (a1 b0 (a1 b1 trivial)) (ih4 _ _ _ h K q) (by kernel_rfl)
 ·intro v18 x0 ds h K q
  rw [R92_4] at h
  by_cases b0:(decide (v18<(↑(List.length x0.1):Int)))=true
  ·rw [if_pos b0] at h
   obtain ⟨s0,s1,h⟩:=h
   by_cases b1:(!g118_0 (List.getD x0.1 (Int.toNat v18) (0,0,())).1 1 3000000)=true
   ·rw [if_pos b1] at h
    subst h
    exact AtV.ret Tryz.func92 tabOk ext92Ok mixed false [] tys92 [true,true,true] (a1 b0 (a1 s0 (a1 s1 (a1 trivial (a1 b1 (a1 (rfl:true=true) trivial)))))) (by kernel_rfl)
   ·rw [if_neg b1] at h
    replace b1:=Bool.eq_false_iff.2 b1
    by_cases b2:(!g118_0 (List.getD x0.1 (Int.toNat v18) (0,0,())).2.1 0 900)=true
    ·rw [if_pos b2] at h
     subst h
     exact AtV.ret Tryz.func92 tabOk ext92Ok mixed false [] tys92 [true,false,true] (a1 b0 (a1 s0 (a1 s1 (a1 trivial (a1 b1 (a1 trivial (a1 b2 trivial))))))) (by kernel_rfl)
    ·rw [if_neg b2] at h
     replace b2:=Bool.eq_false_iff.2 b2
     obtain ⟨s2,h⟩:=h
     exact AtV.go tabOk ext92Ok mixed false [] [] [1,16,17,18] [0] [true,false,false] (a1 b0 (a1 s0 (a1 s1 (a1 trivial (a1 b1 (a1 trivial (a1 b2 (a1 s2 trivial)))))))) (ih4 _ _ _ h K q) (by kernel_rfl)
  ·rw [if_neg b0] at h
   replace b0:=Bool.eq_false_iff.2 b0
   obtain ⟨s0,h⟩:=h
   by_cases b1:(decide (g103_0 x0≤3000000))=true
   ·rw [if_pos b1] at h
    obtain ⟨s1,h⟩:=h
    by_cases b2:(g118_0 x0.2.1 0 (g103_0 x0))=true
    ·rw [if_pos b2] at h
     obtain ⟨s2,h⟩:=h
     subst h
     exact AtV.ret Tryz.func92 tabOk ext92Ok mixed false [] tys92 [false,true,true] (a1 b0 (a1 s0 (a1 b1 (a1 s1 (a1 trivial (a1 b2 (a1 s2 (a1 trivial trivial)))))))) (by kernel_rfl)
    ·rw [if_neg b2] at h
     replace b2:=Bool.eq_false_iff.2 b2
     subst h
     exact AtV.ret Tryz.func92 tabOk ext92Ok mixed false [] tys92 [false,true,false] (a1 b0 (a1 s0 (a1 b1 (a1 s1 (a1 trivial (a1 b2 trivial)))))) (by kernel_rfl)
   ·rw [if_neg b1] at h
    replace b1:=Bool.eq_false_iff.2 b1
    subst h
    exact AtV.ret Tryz.func92 tabOk ext92Ok mixed false [] tys92 [false,false,false] (a1 b0 (a1 s0 (a1 b1 (a1 (rfl:false=false) trivial)))) (by kernel_rfl)
def ok92 (x:TyB4):Bool:=g118_0 x.1 1 3000000&&g118_0 x.2.1 0 900
def fine92 (x0:(List TyB4×Int×Int×Unit)):Bool:=if decide (g103_0 x0≤3000000)=true then (if g118_0 x0.2.1 0 (g103_0 x0)=true then g118_0 x0.2.2.1 x0.2.1 (g103_0 x0) else false) else false
def g92_0 (x0:(List TyB4×Int×Int×Unit)):Bool:=x0.1.all ok92&&(decide (1≤x0.1.length)&&decide (x0.1.length≤12))&&fine92 x0
def P92 (x0:(List TyB4×Int×Int×Unit)):Prop:=True
theorem in92 {x a b:Int}:g118_0 x a b=true↔a≤x∧x≤b:=by
 unfold g118_0
 by_cases c1:x≥a
 ·by_cases c2:x≤b
  ·simp [c1,c2]
  ·simp [c1,c2]
 ·have:¬ a≤x:=c1
  simp [c1,this]
theorem lenp92 {x0:(List TyB4×Int×Int×Unit)} (h:x0.1.all ok92=true) (hl:x0.1.length≤12):P103 x0∧0≤g103_0 x0∧g103_0 x0≤36000000:=by
 have hx:∀ x∈x0.1,0≤x.1∧x.1≤3000000:=fun x hx=>by
  have:=List.all_eq_true.1 h x hx
  unfold ok92 at this
  rw [Bool.and_eq_true] at this
  have:=in92.1 this.1
  omega
 obtain ⟨s1,s2⟩:=sum103_le x0.1 hx
 refine ⟨⟨by omega,fun x h=>by have:=hx x h;omega⟩,s1,?_⟩
 show sum103 x0.1≤_
 omega
theorem run92 (x0:(List TyB4×Int×Int×Unit)) (hm:x0.1.length≤maxLen) (yes:List Dyn) (hend:∀ n,x0.1.all ok92=true→R92_4 (n+1) (x0.1.length:Int) x0 yes):∀ (k i:Nat) (B:Bool),i+k=x0.1.length→(x0.1.drop i).all ok92=B→(∀ j,j<i→ok92 (x0.1.getD j ((0:Int),(0:Int),()))=true) →
  R92_4 (k+1) (i:Int) x0 (if B=true then yes else [⟨.bool,false⟩]):=by
 intro k
 induction k with
 | zero =>
  intro i B hi hB hp
  have:i=x0.1.length:=by omega
  subst this
  rw [drop_end _ _ (by omega)] at hB
  subst hB
  refine hend 0 (List.all_eq_true.2 fun x hx => ?_)
  obtain ⟨j,hj,rfl⟩:=List.getElem_of_mem hx
  have:=hp j (by omega)
  rwa [getD_lt _ _ _ hj] at this
 | succ k ih =>
  intro i B hi hB hp
  have hlt:i<x0.1.length:=by omega
  have hu:=inR_up hm hlt
  rw [R92_4,if_pos (by simp only [decide_eq_true_eq];omega)]
  rw [drop_get x0.1 i ((0:Int),(0:Int),()) hlt,List.all_cons] at hB
  simp only [Int.toNat_natCast]
  refine ⟨by omega,by omega,?_⟩
  by_cases h1:ok92 (x0.1.getD i ((0:Int),(0:Int),()))=true
  case neg =>
   have h1:=Bool.eq_false_iff.2 h1
   rw [h1,Bool.false_and] at hB
   subst hB
   by_cases c1:g118_0 (x0.1.getD i ((0:Int),(0:Int),())).1 1 3000000=true
   ·rw [if_neg (by rw [c1];simp)]
    have c2:g118_0 (x0.1.getD i ((0:Int),(0:Int),())).2.1 0 900=false:=by
     unfold ok92 at h1;rw [c1] at h1;simpa using h1
    rw [if_pos (by rw [c2];rfl)] <;> rfl
   ·rw [if_pos (by rw [Bool.eq_false_iff.2 c1];rfl)] <;> rfl
  case pos =>
   have hb:=h1
   rw [h1,Bool.true_and] at hB
   unfold ok92 at hb
   rw [Bool.and_eq_true] at hb
   rw [if_neg (by rw [hb.1];simp)]
   have e1:(((i+1:Nat)):Int)=(i:Int)+1:=by omega
   have hnext:=ih (i+1) B (by omega) hB (fun j hj=>by
    rcases Nat.lt_or_ge j i with h | h
    ·exact hp j h
    ·have:j=i:=by omega
     subst this;exact h1)
   rw [e1] at hnext
   rw [if_neg (by rw [hb.2];simp)]
   exact ⟨hu,hnext⟩
theorem end92 (x0:(List TyB4×Int×Int×Unit)) (d1:1≤x0.1.length) (d2:x0.1.length≤12) (n:Nat) (h:x0.1.all ok92=true):R92_4 (n+1) (x0.1.length:Int) x0 [⟨.bool,(decide (1≤x0.1.length)&&decide (x0.1.length≤12))&&fine92 x0⟩]:=by
 have hp:=(lenp92 h d2).1
 rw [R92_4,if_neg (by simp),decide_eq_true d1,decide_eq_true d2]
 refine ⟨hp,?_⟩
 unfold fine92
 split
 ·refine ⟨hp,?_⟩
  split
  ·exact ⟨hp,rfl⟩
  ·rfl
 ·rfl
theorem top92 (x0:(List TyB4×Int×Int×Unit)) (hm:x0.1.length≤maxLen):∃ n,R92 n x0 [⟨.bool,g92_0 x0⟩]:=by
 refine ⟨x0.1.length+1+1,?_⟩
 rw [R92]
 unfold g92_0
 by_cases c1:(x0.1.length:Int)<1
 ·rw [if_pos (decide_eq_true c1)]
  have:¬ 1≤x0.1.length:=by omega
  rw [decide_eq_false this,Bool.false_and,Bool.and_false,Bool.false_and]
 rw [if_neg (by simpa using c1)]
 by_cases c2:(x0.1.length:Int)>12
 ·rw [if_pos (decide_eq_true c2)]
  have:¬ x0.1.length≤12:=by omega
  rw [decide_eq_false this,Bool.and_false,Bool.and_false,Bool.false_and]
 rw [if_neg (by simpa using c2)]
 have key:=run92 x0 hm _ (end92 x0 (by omega) (by omega)) x0.1.length 0 _ (by omega) rfl (fun j hj=>by omega)
 rw [List.drop_zero] at key
 cases h:x0.1.all ok92 with
 | true=>rw [if_pos h] at key;rw [Bool.true_and];exact key
 | false=>rw [if_neg (by rw [h];simp)] at key;exact key
def S92:Am.Spec:={ sig:=sig92,pre:=fun ⟨x0,_⟩=>P92 x0,res:=fun ⟨x0,_⟩=>[⟨Ty.bool,g92_0 x0⟩] }
theorem con92:Contract Tryz.prog 92 S92:=contract_of Tryz.func92 hb92 (Nat.le_of_ble_eq_true (by kernel_rfl)) (fun ⟨x0,_⟩ h hwf K q =>
 let ⟨n,hn⟩:=top92 x0 hwf.1.1.1
 (snd92 n).1 x0 _ hn K q)
end
noncomputable section
def ext93:Ext:=[(118,S118)]
theorem ext93Ok:ExtOk Tryz.prog ext93:=⟨⟨ca118,con118⟩,trivial⟩
noncomputable def b93:Code:=bodyOf Tryz.f93
theorem hb93:Tryz.f93.body=some b93:=by kernel_rfl
def sig93:List AT:=[AT.v (Ty.int .i64)]
def tys93:List Ty:=[Ty.bool]
def kds93:List RK:=[]
def oks93:List AT:=owns sig93
def P93 (x0:Int):Prop:=True
def g93_0 (x0:Int):Bool:=g118_0 x0 0 3000000
theorem at93 (x0:Int) (h:P93 x0) (K:Ctx) (q:Nat→Value):AtV Tryz.prog 93 (PostR kds93 oks93 [⟨Ty.bool,g93_0 x0⟩] [] [] q K) 5 K q [] [.code b93] (entE 0 0 sig93 (x0,())) (entL sig93 (x0,())):=by
 unfold P93 at h
 unfold g93_0
 exact AtV.ret Tryz.func93 tabOk ext93Ok mixed false [] tys93 [] (a1 trivial trivial) (by kernel_rfl)
def S93:Am.Spec:={ sig:=sig93,pre:=fun ⟨x0,_⟩=>P93 x0,res:=fun ⟨x0,_⟩=>[⟨Ty.bool,g93_0 x0⟩],kds:=kds93 }
theorem con93:Contract Tryz.prog 93 S93:=contract_of Tryz.func93 hb93 (Nat.le_of_ble_eq_true (by kernel_rfl)) (fun ⟨x0,_⟩ h _ K q=>at93 x0 h K q)
end
noncomputable section
def ext94:Ext:=[(118,S118)]
theorem ext94Ok:ExtOk Tryz.prog ext94:=⟨⟨ca118,con118⟩,trivial⟩
noncomputable def b94:Code:=bodyOf Tryz.f94
theorem hb94:Tryz.f94.body=some b94:=by kernel_rfl
def sig94:List AT:=[AT.v YA9]
def tys94:List Ty:=[Ty.bool]
def kds94:List RK:=[]
def oks94:List AT:=owns sig94
def P94 (x0:Int×Int×Unit):Prop:=True
def g94_0 (x0:Int×Int×Unit):Bool:=(if (g118_0 x0.1 0 100)=true then g118_0 x0.2.1 1 10000 else false)
theorem at94 (x0:Int×Int×Unit) (h:P94 x0) (K:Ctx) (q:Nat→Value):AtV Tryz.prog 94 (PostR kds94 oks94 [⟨Ty.bool,g94_0 x0⟩] [] [] q K) 11 K q [] [.code b94] (entE 0 0 sig94 (x0,())) (entL sig94 (x0,())):=by
 unfold P94 at h
 unfold g94_0
 by_cases b0:(g118_0 x0.1 0 100)=true
 ·try simp only [if_pos b0] at h ⊢
  exact AtV.ret Tryz.func94 tabOk ext94Ok mixed false [] tys94 [true] (a1 trivial (a1 b0 (a1 trivial trivial))) (by kernel_rfl)
 ·try simp only [if_neg b0] at h ⊢
  replace b0:=Bool.eq_false_iff.2 b0
  exact AtV.ret Tryz.func94 tabOk ext94Ok mixed false [] tys94 [false] (a1 trivial (a1 b0 trivial)) (by kernel_rfl)
def S94:Am.Spec:={ sig:=sig94,pre:=fun ⟨x0,_⟩=>P94 x0,res:=fun ⟨x0,_⟩=>[⟨Ty.bool,g94_0 x0⟩],kds:=kds94 }
theorem con94:Contract Tryz.prog 94 S94:=contract_of Tryz.func94 hb94 (Nat.le_of_ble_eq_true (by kernel_rfl)) (fun ⟨x0,_⟩ h _ K q=>at94 x0 h K q)
end
noncomputable section
def ext95:Ext:=[(118,S118),(93,S93)]
theorem ext95Ok:ExtOk Tryz.prog ext95:=⟨⟨ca118,con118⟩,⟨ca93,con93⟩,trivial⟩
noncomputable def b95:Code:=bodyOf Tryz.f95
theorem hb95:Tryz.f95.body=some b95:=by kernel_rfl
def sig95:List AT:=[AT.v YA4]
def tys95:List Ty:=[Ty.bool]
def kds95:List RK:=[]
def oks95:List AT:=owns sig95
def P95 (x0:Int×Int×Int×Int×Unit):Prop:=True
def g95_0 (x0:Int×Int×Int×Int×Unit):Bool:=(if (g118_0 x0.1 1 2000)=true then (if (g118_0 x0.2.1 100 15000)=true then (if (g118_0 x0.2.2.1 100 x0.2.1)=true then g93_0 x0.2.2.2.1 else false) else false) else false)
theorem at95 (x0:Int×Int×Int×Int×Unit) (h:P95 x0) (K:Ctx) (q:Nat→Value):AtV Tryz.prog 95 (PostR kds95 oks95 [⟨Ty.bool,g95_0 x0⟩] [] [] q K) 23 K q [] [.code b95] (entE 0 0 sig95 (x0,())) (entL sig95 (x0,())):=by
 unfold P95 at h
 unfold g95_0
 by_cases b0:(g118_0 x0.1 1 2000)=true
 ·try simp only [if_pos b0] at h ⊢
  by_cases b1:(g118_0 x0.2.1 100 15000)=true
  ·try simp only [if_pos b1] at h ⊢
   by_cases b2:(g118_0 x0.2.2.1 100 x0.2.1)=true
   ·try simp only [if_pos b2] at h ⊢
    exact AtV.ret Tryz.func95 tabOk ext95Ok mixed false [] tys95 [true,true,true] (a1 trivial (a1 b0 (a1 trivial (a1 b1 (a1 trivial (a1 b2 (a1 trivial trivial))))))) (by kernel_rfl)
   ·try simp only [if_neg b2] at h ⊢
    replace b2:=Bool.eq_false_iff.2 b2
    exact AtV.ret Tryz.func95 tabOk ext95Ok mixed false [] tys95 [true,true,false] (a1 trivial (a1 b0 (a1 trivial (a1 b1 (a1 trivial (a1 b2 trivial)))))) (by kernel_rfl)
  ·try simp only [if_neg b1] at h ⊢
   replace b1:=Bool.eq_false_iff.2 b1
   exact AtV.ret Tryz.func95 tabOk ext95Ok mixed false [] tys95 [true,false,false] (a1 trivial (a1 b0 (a1 trivial (a1 b1 (a1 (rfl:false=false) trivial))))) (by kernel_rfl)
 ·try simp only [if_neg b0] at h ⊢
  replace b0:=Bool.eq_false_iff.2 b0
  exact AtV.ret Tryz.func95 tabOk ext95Ok mixed false [] tys95 [false,false,false] (a1 trivial (a1 b0 (a1 (rfl:false=false) (a1 (rfl:false=false) trivial)))) (by kernel_rfl)
def S95:Am.Spec:={ sig:=sig95,pre:=fun ⟨x0,_⟩=>P95 x0,res:=fun ⟨x0,_⟩=>[⟨Ty.bool,g95_0 x0⟩],kds:=kds95 }
theorem con95:Contract Tryz.prog 95 S95:=contract_of Tryz.func95 hb95 (Nat.le_of_ble_eq_true (by kernel_rfl)) (fun ⟨x0,_⟩ h _ K q=>at95 x0 h K q)
end
noncomputable section
def ext141:Ext:=[]
theorem ext141Ok:ExtOk Tryz.prog ext141:=trivial
noncomputable def b141:Code:=bodyOf Tryz.f141
theorem hb141:Tryz.f141.body=some b141:=by kernel_rfl
def sig141:List AT:=[AT.v (Ty.str)]
def tys141:List Ty:=[Ty.bool]
def kds141:List RK:=[]
def oks141:List AT:=owns sig141
def E141_4 (v18:Int) (x0:ByteArray):Env:=[(16,PV.a (Atom.osl 0 Option.none)),(17,PV.a (Atom.val (Value.int .i64 (↑(List.length (bytesOf x0)):Int)))),(18,PV.a (Atom.val (Value.int .i64 v18)))]
def L141_4 (v18:Int) (x0:ByteArray):Heap:=[Option.some (Arr.mk (Ty.int .u8) (bytesOf x0) false Option.none Option.none)]
mutual
def R141:Nat→ByteArray→List Dyn→Prop
 | 0,_,_=>False
 | n+1,x0,ds=>(if (decide ((↑(ByteArray.size x0):Int)<1))=true then (ds=[Dyn.mk Ty.bool false]) else (if (decide ((↑(ByteArray.size x0):Int)>10))=true then (ds=[Dyn.mk Ty.bool false]) else (R141_4 n (0) (x0) ds)))
def R141_4:Nat→Int→ByteArray→List Dyn→Prop
 | 0,_,_,_=>False
 | n+1,v18,x0,ds=>(if (decide (v18<(↑(List.length (bytesOf x0)):Int)))=true then ((0≤v18)∧(v18<(↑(List.length (bytesOf x0)):Int))∧(if (decide (List.getD (bytesOf x0) (Int.toNat v18) 0≥97))=true then (if (decide (List.getD (bytesOf x0) (Int.toNat v18) 0≥48))=true then (if (!decide (List.getD (bytesOf x0) (Int.toNat v18) 0≤122))=true then (if (v18==0)=true then (ds=[Dyn.mk Ty.bool false]) else (if (!decide (List.getD (bytesOf x0) (Int.toNat v18) 0≤57))=true then (ds=[Dyn.mk Ty.bool false]) else ((InR .i64 (v18+1))∧(R141_4 n (v18+1) (x0) ds)))) else ((InR .i64 (v18+1))∧(R141_4 n (v18+1) (x0) ds))) else (if (!decide (List.getD (bytesOf x0) (Int.toNat v18) 0≤122))=true then (if (v18==0)=true then (ds=[Dyn.mk Ty.bool false]) else (ds=[Dyn.mk Ty.bool false])) else ((InR .i64 (v18+1))∧(R141_4 n (v18+1) (x0) ds)))) else (if (decide (List.getD (bytesOf x0) (Int.toNat v18) 0≥48))=true then (if (v18==0)=true then (ds=[Dyn.mk Ty.bool false]) else (if (!decide (List.getD (bytesOf x0) (Int.toNat v18) 0≤57))=true then (ds=[Dyn.mk Ty.bool false]) else ((InR .i64 (v18+1))∧(R141_4 n (v18+1) (x0) ds)))) else (if (v18==0)=true then (ds=[Dyn.mk Ty.bool false]) else (ds=[Dyn.mk Ty.bool false]))))) else (ds=[Dyn.mk Ty.bool true]))
end
theorem snd141:∀ n,(∀ (x0:ByteArray) ds,R141 n x0 ds→∀ K q,AtV Tryz.prog 141 (PostR kds141 oks141 ds [] [] q K) 46 K q [] [.code b141] (entE 0 0 sig141 (x0,())) (entL sig141 (x0,())))∧(∀ (v18:Int) (x0:ByteArray) ds,R141_4 n v18 x0 ds→∀ K q,AtV Tryz.prog 141 (PostR kds141 oks141 ds [] [] q K) 46 K q [] (cutAt b141 4) (E141_4 v18 x0) (L141_4 v18 x0)):=by
 intro n
 induction n with
 | zero=>exact ⟨fun _ _ h=>by simp only [R141] at h,fun _ _ _ h=>by simp only [R141_4] at h⟩
 | succ n ih =>
 obtain ⟨ih,ih4⟩:=ih
 refine ⟨?_,?_⟩
 ·intro x0 ds h K q
  rw [R141] at h
  by_cases b0:(decide ((↑(ByteArray.size x0):Int)<1))=true
  ·rw [if_pos b0] at h
   subst h
   exact AtV.ret Tryz.func141 tabOk ext141Ok mixed false [] tys141 [true,true] (a1 b0 (a1 (rfl:true=true) trivial)) (by kernel_rfl)
  ·rw [if_neg b0] at h
   replace b0:=Bool.eq_false_iff.2 b0
   by_cases b1:(decide ((↑(ByteArray.size x0):Int)>10))=true
   ·rw [if_pos b1] at h
    subst h
    exact AtV.ret Tryz.func141 tabOk ext141Ok mixed false [] tys141 [false,true] (a1 b0 (a1 b1 trivial)) (by kernel_rfl)
   ·rw [if_neg b1] at h
    replace b1:=Bool.eq_false_iff.2 b1
    exact AtV.go tabOk ext141Ok mixed false [] [] [16,17,18] [0] [false,false] (a1 b0 (a1 b1 trivial)) (ih4 _ _ _ h K q) (by kernel_rfl)
 ·intro v18 x0 ds h K q
  rw [R141_4] at h
  by_cases b0:(decide (v18<(↑(List.length (bytesOf x0)):Int)))=true
  ·rw [if_pos b0] at h
   obtain ⟨s0,s1,h⟩:=h
   by_cases b1:(decide (List.getD (bytesOf x0) (Int.toNat v18) 0≥97))=true
   ·rw [if_pos b1] at h
    by_cases b2:(decide (List.getD (bytesOf x0) (Int.toNat v18) 0≥48))=true
    ·rw [if_pos b2] at h
     by_cases b3:(!decide (List.getD (bytesOf x0) (Int.toNat v18) 0≤122))=true
     ·rw [if_pos b3] at h
      by_cases b4:(v18==0)=true
      ·rw [if_pos b4] at h
       subst h
       exact AtV.ret Tryz.func141 tabOk ext141Ok mixed false [] tys141 [true,true,true,true,true,true] (a1 b0 (a1 s0 (a1 s1 (a1 b1 (a1 b2 (a1 b3 (a1 b4 (a1 (rfl:true=true) trivial)))))))) (by kernel_rfl)
      ·rw [if_neg b4] at h
       replace b4:=Bool.eq_false_iff.2 b4
       by_cases b5:(!decide (List.getD (bytesOf x0) (Int.toNat v18) 0≤57))=true
       ·rw [if_pos b5] at h
        subst h
        exact AtV.ret Tryz.func141 tabOk ext141Ok mixed false [] tys141 [true,true,true,true,false,true] (a1 b0 (a1 s0 (a1 s1 (a1 b1 (a1 b2 (a1 b3 (a1 b4 (a1 b5 trivial)))))))) (by kernel_rfl)
       ·rw [if_neg b5] at h
        replace b5:=Bool.eq_false_iff.2 b5
        obtain ⟨s2,h⟩:=h
        exact AtV.go tabOk ext141Ok mixed false [] [] [16,17,18] [0] [true,true,true,true,false,false] (a1 b0 (a1 s0 (a1 s1 (a1 b1 (a1 b2 (a1 b3 (a1 b4 (a1 b5 (a1 s2 trivial))))))))) (ih4 _ _ _ h K q) (by kernel_rfl)
     ·rw [if_neg b3] at h
      replace b3:=Bool.eq_false_iff.2 b3
      obtain ⟨s2,h⟩:=h
      exact AtV.go tabOk ext141Ok mixed false [] [] [16,17,18] [0] [true,true,true,false,false] (a1 b0 (a1 s0 (a1 s1 (a1 b1 (a1 b2 (a1 b3 (a1 (rfl:false=false) (a1 s2 trivial)))))))) (ih4 _ _ _ h K q) (by kernel_rfl)
    ·rw [if_neg b2] at h
     replace b2:=Bool.eq_false_iff.2 b2
     by_cases b3:(!decide (List.getD (bytesOf x0) (Int.toNat v18) 0≤122))=true
     ·rw [if_pos b3] at h
      by_cases b4:(v18==0)=true
      ·rw [if_pos b4] at h
       subst h
       exact AtV.ret Tryz.func141 tabOk ext141Ok mixed false [] tys141 [true,true,false,true,true,true] (a1 b0 (a1 s0 (a1 s1 (a1 b1 (a1 b2 (a1 b3 (a1 b4 (a1 (rfl:true=true) trivial)))))))) (by kernel_rfl)
      ·rw [if_neg b4] at h
       replace b4:=Bool.eq_false_iff.2 b4
       subst h
       exact AtV.ret Tryz.func141 tabOk ext141Ok mixed false [] tys141 [true,true,false,true,false,true] (a1 b0 (a1 s0 (a1 s1 (a1 b1 (a1 b2 (a1 b3 (a1 b4 (a1 (rfl:true=true) trivial)))))))) (by kernel_rfl)
     ·rw [if_neg b3] at h
      replace b3:=Bool.eq_false_iff.2 b3
      obtain ⟨s2,h⟩:=h
      exact AtV.go tabOk ext141Ok mixed false [] [] [16,17,18] [0] [true,true,false,false,false] (a1 b0 (a1 s0 (a1 s1 (a1 b1 (a1 b2 (a1 b3 (a1 (rfl:false=false) (a1 s2 trivial)))))))) (ih4 _ _ _ h K q) (by kernel_rfl)
   ·rw [if_neg b1] at h
    replace b1:=Bool.eq_false_iff.2 b1
    by_cases b2:(decide (List.getD (bytesOf x0) (Int.toNat v18) 0≥48))=true
    ·rw [if_pos b2] at h
     by_cases b3:(v18==0)=true
     ·rw [if_pos b3] at h
      subst h
      exact AtV.ret Tryz.func141 tabOk ext141Ok mixed false [] tys141 [true,false,true,true,true,true] (a1 b0 (a1 s0 (a1 s1 (a1 b1 (a1 b2 (a1 (rfl:true=true) (a1 b3 (a1 (rfl:true=true) trivial)))))))) (by kernel_rfl)
     ·rw [if_neg b3] at h
      replace b3:=Bool.eq_false_iff.2 b3
      by_cases b4:(!decide (List.getD (bytesOf x0) (Int.toNat v18) 0≤57))=true
      ·rw [if_pos b4] at h
       subst h
       exact AtV.ret Tryz.func141 tabOk ext141Ok mixed false [] tys141 [true,false,true,true,false,true] (a1 b0 (a1 s0 (a1 s1 (a1 b1 (a1 b2 (a1 (rfl:true=true) (a1 b3 (a1 b4 trivial)))))))) (by kernel_rfl)
      ·rw [if_neg b4] at h
       replace b4:=Bool.eq_false_iff.2 b4
       obtain ⟨s2,h⟩:=h
       exact AtV.go tabOk ext141Ok mixed false [] [] [16,17,18] [0] [true,false,true,true,false,false] (a1 b0 (a1 s0 (a1 s1 (a1 b1 (a1 b2 (a1 (rfl:true=true) (a1 b3 (a1 b4 (a1 s2 trivial))))))))) (ih4 _ _ _ h K q) (by kernel_rfl)
    ·rw [if_neg b2] at h
     replace b2:=Bool.eq_false_iff.2 b2
     by_cases b3:(v18==0)=true
     ·rw [if_pos b3] at h
      subst h
      exact AtV.ret Tryz.func141 tabOk ext141Ok mixed false [] tys141 [true,false,false,true,true,true] (a1 b0 (a1 s0 (a1 s1 (a1 b1 (a1 b2 (a1 (rfl:true=true) (a1 b3 (a1 (rfl:true=true) trivial)))))))) (by kernel_rfl)
     ·rw [if_neg b3] at h
      replace b3:=Bool.eq_false_iff.2 b3
      subst h
      exact AtV.ret Tryz.func141 tabOk ext141Ok mixed false [] tys141 [true,false,false,true,false,true] (a1 b0 (a1 s0 (a1 s1 (a1 b1 (a1 b2 (a1 (rfl:true=true) (a1 b3 (a1 (rfl:true=true) trivial)))))))) (by kernel_rfl)
  ·rw [if_neg b0] at h
   replace b0:=Bool.eq_false_iff.2 b0
   subst h
   exact AtV.ret Tryz.func141 tabOk ext141Ok mixed false [] tys141 [false] (a1 b0 trivial) (by kernel_rfl)
def ok141 (i:Nat) (b:Int):Bool:=(decide (97≤b)&&decide (b≤122))||(!(i==0)&&(decide (48≤b)&&decide (b≤57)))
def g141_0 (x0:ByteArray):Bool:=decide (1≤x0.size)&&decide (x0.size≤10)&&allI ok141 0 (bytesOf x0)
def P141 (x0:ByteArray):Prop:=True
theorem step141 (n i:Nat) (x0:ByteArray) (hw:Wf .str x0) (hi:i<(bytesOf x0).length) (ds:List Dyn) :
  R141_4 (n+1) (i:Int) x0 ds↔(if ok141 i ((bytesOf x0).getD i 0)=true then R141_4 n ((i:Int)+1) x0 ds else ds=[⟨.bool,false⟩]):=by
 have hu:=inR_up (xs:=bytesOf x0) (by rw [bytesOf_length];exact hw) hi
 rw [R141_4,if_pos (by simp;omega)]
 simp only [Int.toNat_natCast]
 have hb:(0:Int)≤(i:Int)∧(i:Int)<((bytesOf x0).length:Int):=by omega
 have hz:((i:Int)==0)=(i==0):=by
  cases i with
  | zero=>rfl
  | succ k=>simp;omega
 simp only [hz,ok141,hu,true_and,hb.1,hb.2,ge_iff_le]
 by_cases h1:(97:Int)≤(bytesOf x0).getD i 0 <;> by_cases h2:(bytesOf x0).getD i 0≤122 <;> by_cases h3:(48:Int)≤(bytesOf x0).getD i 0 <;> by_cases h4:(bytesOf x0).getD i 0≤57 <;> rcases Bool.eq_false_or_eq_true (i==0) with e0 | e0 <;> first | (exfalso;omega) | simp only [h1,h2,h3,h4,e0,decide_true,decide_false,Bool.not_true,Bool.not_false,Bool.true_and,Bool.false_and,Bool.and_true,Bool.and_false,Bool.true_or,Bool.or_true,Bool.or_false,Bool.false_or,if_true,if_false,Bool.false_eq_true]
theorem top141 (x0:ByteArray) (hw:Wf .str x0):R141 (x0.size+1+1) x0 [⟨.bool,g141_0 x0⟩]:=by
 have hl:=bytesOf_length x0
 rw [R141]
 by_cases h0:(x0.size:Int)<1
 ·rw [if_pos (by simpa using h0)]
  have:¬ 1≤x0.size:=by omega
  simp [g141_0,this]
 ·rw [if_neg (by simpa using h0)]
  by_cases h1:(x0.size:Int)>10
  ·rw [if_pos (by simpa using h1)]
   have:¬ x0.size≤10:=by omega
   simp [g141_0,this]
  ·rw [if_neg (by simpa using h1)]
   have key:=loop_testI (bytesOf x0) 0 ok141 [(⟨.bool,false⟩:Dyn)] [⟨.bool,true⟩] (fun n i ds=>R141_4 n i x0 ds) (fun n => ?_) (fun n i hi hok ds hr => ?_) (fun n i hi hok => ?_)
   ·rw [hl] at key
    have e:g141_0 x0=allI ok141 0 (bytesOf x0):=by
     have a:1≤x0.size:=by omega
     have b:x0.size≤10:=by omega
     simp [g141_0,a,b]
    rw [e]
    cases h:allI ok141 0 (bytesOf x0) with
    | true=>rw [if_pos h] at key;exact key
    | false=>rw [if_neg (by rw [h];simp)] at key;exact key
   ·show R141_4 (n+1) ((bytesOf x0).length:Int) x0 _
    rw [R141_4,if_neg (by simp)]
   ·exact (step141 n i x0 hw hi ds).2 (by rw [if_pos hok];exact hr)
   ·exact (step141 n i x0 hw hi _).2 (by rw [if_neg (by rw [hok];simp)])
def S141:Am.Spec:={ sig:=sig141,pre:=fun ⟨x0,_⟩=>P141 x0,res:=fun ⟨x0,_⟩=>[⟨Ty.bool,g141_0 x0⟩] }
theorem con141:Contract Tryz.prog 141 S141:=contract_of Tryz.func141 hb141 (Nat.le_of_ble_eq_true (by kernel_rfl)) (fun ⟨x0,_⟩ h hwf K q =>
 (snd141 _).1 x0 _ (top141 x0 hwf.1) K q)
end
noncomputable section
def ext120:Ext:=[(118,S118)]
theorem ext120Ok:ExtOk Tryz.prog ext120:=⟨⟨ca118,con118⟩,trivial⟩
noncomputable def b120:Code:=bodyOf Tryz.f120
theorem hb120:Tryz.f120.body=some b120:=by kernel_rfl
def sig120:List AT:=[AT.v (Ty.int .i64)]
def tys120:List Ty:=[Ty.bool]
def kds120:List RK:=[]
def oks120:List AT:=owns sig120
def P120 (x0:Int):Prop:=True
def g120_0 (x0:Int):Bool:=g118_0 x0 0 100000
theorem at120 (x0:Int) (h:P120 x0) (K:Ctx) (q:Nat→Value):AtV Tryz.prog 120 (PostR kds120 oks120 [⟨Ty.bool,g120_0 x0⟩] [] [] q K) 5 K q [] [.code b120] (entE 0 0 sig120 (x0,())) (entL sig120 (x0,())):=by
 unfold P120 at h
 unfold g120_0
 exact AtV.ret Tryz.func120 tabOk ext120Ok mixed false [] tys120 [] (a1 trivial trivial) (by kernel_rfl)
def S120:Am.Spec:={ sig:=sig120,pre:=fun ⟨x0,_⟩=>P120 x0,res:=fun ⟨x0,_⟩=>[⟨Ty.bool,g120_0 x0⟩],kds:=kds120 }
theorem con120:Contract Tryz.prog 120 S120:=contract_of Tryz.func120 hb120 (Nat.le_of_ble_eq_true (by kernel_rfl)) (fun ⟨x0,_⟩ h _ K q=>at120 x0 h K q)
end
noncomputable section
def ext119:Ext:=[(141,S141),(118,S118),(120,S120)]
theorem ext119Ok:ExtOk Tryz.prog ext119:=⟨⟨ca141,con141⟩,⟨ca118,con118⟩,⟨ca120,con120⟩,trivial⟩
noncomputable def b119:Code:=bodyOf Tryz.f119
theorem hb119:Tryz.f119.body=some b119:=by kernel_rfl
def sig119:List AT:=[AT.v YA5]
def tys119:List Ty:=[Ty.bool]
def kds119:List RK:=[]
def oks119:List AT:=owns sig119
def P119 (x0:ByteArray×Int×Int×Int×Unit):Prop:=True
def g119_0 (x0:ByteArray×Int×Int×Int×Unit):Bool:=(if (g141_0 x0.1)=true then (if (g118_0 x0.2.1 1 200)=true then (if (g118_0 x0.2.2.1 0 40)=true then g120_0 x0.2.2.2.1 else false) else false) else false)
theorem at119 (x0:ByteArray×Int×Int×Int×Unit) (h:P119 x0) (K:Ctx) (q:Nat→Value):AtV Tryz.prog 119 (PostR kds119 oks119 [⟨Ty.bool,g119_0 x0⟩] [] [] q K) 21 K q [] [.code b119] (entE 0 0 sig119 (x0,())) (entL sig119 (x0,())):=by
 unfold P119 at h
 unfold g119_0
 by_cases b0:(g141_0 x0.1)=true
 ·try simp only [if_pos b0] at h ⊢
  by_cases b1:(g118_0 x0.2.1 1 200)=true
  ·try simp only [if_pos b1] at h ⊢
   by_cases b2:(g118_0 x0.2.2.1 0 40)=true
   ·try simp only [if_pos b2] at h ⊢
    exact AtV.ret Tryz.func119 tabOk ext119Ok mixed false [] tys119 [true,true,true] (a1 trivial (a1 b0 (a1 trivial (a1 b1 (a1 trivial (a1 b2 (a1 trivial trivial))))))) (by kernel_rfl)
   ·try simp only [if_neg b2] at h ⊢
    replace b2:=Bool.eq_false_iff.2 b2
    exact AtV.ret Tryz.func119 tabOk ext119Ok mixed false [] tys119 [true,true,false] (a1 trivial (a1 b0 (a1 trivial (a1 b1 (a1 trivial (a1 b2 trivial)))))) (by kernel_rfl)
  ·try simp only [if_neg b1] at h ⊢
   replace b1:=Bool.eq_false_iff.2 b1
   exact AtV.ret Tryz.func119 tabOk ext119Ok mixed false [] tys119 [true,false,false] (a1 trivial (a1 b0 (a1 trivial (a1 b1 (a1 (rfl:false=false) trivial))))) (by kernel_rfl)
 ·try simp only [if_neg b0] at h ⊢
  replace b0:=Bool.eq_false_iff.2 b0
  exact AtV.ret Tryz.func119 tabOk ext119Ok mixed false [] tys119 [false,false,false] (a1 trivial (a1 b0 (a1 (rfl:false=false) (a1 (rfl:false=false) trivial)))) (by kernel_rfl)
def S119:Am.Spec:={ sig:=sig119,pre:=fun ⟨x0,_⟩=>P119 x0,res:=fun ⟨x0,_⟩=>[⟨Ty.bool,g119_0 x0⟩],kds:=kds119 }
theorem con119:Contract Tryz.prog 119 S119:=contract_of Tryz.func119 hb119 (Nat.le_of_ble_eq_true (by kernel_rfl)) (fun ⟨x0,_⟩ h _ K q=>at119 x0 h K q)
end
noncomputable section
def ext96:Ext:=[(119,S119)]
theorem ext96Ok:ExtOk Tryz.prog ext96:=⟨⟨ca119,con119⟩,trivial⟩
noncomputable def b96:Code:=bodyOf Tryz.f96
theorem hb96:Tryz.f96.body=some b96:=by kernel_rfl
def sig96:List AT:=[AT.v (Ty.sl YA5)]
def tys96:List Ty:=[Ty.bool]
def kds96:List RK:=[]
def oks96:List AT:=owns sig96
def E96_2 (v7:Int) (x0:List TyB1):Env:=[(0,PV.a (Atom.sl YA5 x0)),(5,PV.a (Atom.sl YA5 x0)),(6,PV.a (Atom.val (Value.int .i64 (↑(List.length x0):Int)))),(7,PV.a (Atom.val (Value.int .i64 v7)))]
def L96_2 (v7:Int) (x0:List TyB1):Heap:=[]
mutual
def R96:Nat→List TyB1→List Dyn→Prop
 | 0,_,_=>False
 | n+1,x0,ds=>(R96_2 n (0) (x0) ds)
def R96_2:Nat→Int→List TyB1→List Dyn→Prop
 | 0,_,_,_=>False
 | n+1,v7,x0,ds=>(if (decide (v7<(↑(List.length x0):Int)))=true then ((0≤v7)∧(v7<(↑(List.length x0):Int))∧(if (!g119_0 (List.getD x0 (Int.toNat v7) (ByteArray.empty,0,0,0,())))=true then (ds=[Dyn.mk Ty.bool false]) else (if (decide (v7>0))=true then ((InR .i64 (v7 - 1))∧((0≤v7 - 1)∧(v7 - 1<(↑(List.length x0):Int))∧(if (Op.bytesLess (ByteArray.toList (List.getD x0 (Int.toNat v7) (ByteArray.empty,0,0,0,())).1) (ByteArray.toList (List.getD x0 (Int.toNat (v7 - 1)) (ByteArray.empty,0,0,0,())).1)||ByteArray.toList (List.getD x0 (Int.toNat v7) (ByteArray.empty,0,0,0,())).1==ByteArray.toList (List.getD x0 (Int.toNat (v7 - 1)) (ByteArray.empty,0,0,0,())).1)=true then (ds=[Dyn.mk Ty.bool false]) else ((InR .i64 (v7+1))∧(R96_2 n (v7+1) (x0) ds))))) else ((InR .i64 (v7+1))∧(R96_2 n (v7+1) (x0) ds))))) else (ds=[Dyn.mk Ty.bool (decide ((↑(List.length x0):Int)≤12))]))
end
theorem snd96:∀ n,(∀ (x0:List TyB1) ds,R96 n x0 ds→∀ K q,AtV Tryz.prog 96 (PostR kds96 oks96 ds [] [] q K) 34 K q [] [.code b96] (entE 0 0 sig96 (x0,())) (entL sig96 (x0,())))∧(∀ (v7:Int) (x0:List TyB1) ds,R96_2 n v7 x0 ds→∀ K q,AtV Tryz.prog 96 (PostR kds96 oks96 ds [] [] q K) 34 K q [] (cutAt b96 2) (E96_2 v7 x0) (L96_2 v7 x0)):=by
 intro n
 induction n with
 | zero=>exact ⟨fun _ _ h=>by simp only [R96] at h,fun _ _ _ h=>by simp only [R96_2] at h⟩
 | succ n ih =>
 obtain ⟨ih,ih2⟩:=ih
 refine ⟨?_,?_⟩
 ·intro x0 ds h K q
  rw [R96] at h
  exact AtV.go tabOk ext96Ok mixed false [] [] [0,5,6,7] [] [] trivial (ih2 _ _ _ h K q) (by kernel_rfl)
 ·intro v7 x0 ds h K q
  rw [R96_2] at h
  by_cases b0:(decide (v7<(↑(List.length x0):Int)))=true
  ·rw [if_pos b0] at h
   obtain ⟨s0,s1,h⟩:=h
   by_cases b1:(!g119_0 (List.getD x0 (Int.toNat v7) (ByteArray.empty,0,0,0,())))=true
   ·rw [if_pos b1] at h
    subst h
    exact AtV.ret Tryz.func96 tabOk ext96Ok mixed false [] tys96 [true,true,true] (a1 b0 (a1 s0 (a1 s1 (a1 trivial (a1 b1 (a1 (rfl:true=true) trivial)))))) (by kernel_rfl)
   ·rw [if_neg b1] at h
    replace b1:=Bool.eq_false_iff.2 b1
    by_cases b2:(decide (v7>0))=true
    ·rw [if_pos b2] at h
     obtain ⟨s2,h⟩:=h
     obtain ⟨s3,s4,h⟩:=h
     by_cases b3:(Op.bytesLess (ByteArray.toList (List.getD x0 (Int.toNat v7) (ByteArray.empty,0,0,0,())).1) (ByteArray.toList (List.getD x0 (Int.toNat (v7 - 1)) (ByteArray.empty,0,0,0,())).1)||ByteArray.toList (List.getD x0 (Int.toNat v7) (ByteArray.empty,0,0,0,())).1==ByteArray.toList (List.getD x0 (Int.toNat (v7 - 1)) (ByteArray.empty,0,0,0,())).1)=true
     ·rw [if_pos b3] at h
      subst h
      exact AtV.ret Tryz.func96 tabOk ext96Ok mixed false [] tys96 [true,false,true,true] (a1 b0 (a1 s0 (a1 s1 (a1 trivial (a1 b1 (a1 b2 (a1 s2 (a1 s3 (a1 s4 (a1 b3 trivial)))))))))) (by kernel_rfl)
     ·rw [if_neg b3] at h
      replace b3:=Bool.eq_false_iff.2 b3
      obtain ⟨s5,h⟩:=h
      exact AtV.go tabOk ext96Ok mixed false [] [] [0,5,6,7] [] [true,false,true,false] (a1 b0 (a1 s0 (a1 s1 (a1 trivial (a1 b1 (a1 b2 (a1 s2 (a1 s3 (a1 s4 (a1 b3 (a1 s5 trivial))))))))))) (ih2 _ _ _ h K q) (by kernel_rfl)
    ·rw [if_neg b2] at h
     replace b2:=Bool.eq_false_iff.2 b2
     obtain ⟨s2,h⟩:=h
     exact AtV.go tabOk ext96Ok mixed false [] [] [0,5,6,7] [] [true,false,false,false] (a1 b0 (a1 s0 (a1 s1 (a1 trivial (a1 b1 (a1 b2 (a1 (rfl:false=false) (a1 s2 trivial)))))))) (ih2 _ _ _ h K q) (by kernel_rfl)
  ·rw [if_neg b0] at h
   replace b0:=Bool.eq_false_iff.2 b0
   subst h
   exact AtV.ret Tryz.func96 tabOk ext96Ok mixed false [] tys96 [false] (a1 b0 trivial) (by kernel_rfl)
def ok96 (x0:List TyB1) (i:Nat) (x:TyB1):Bool :=
 g119_0 x&&(i==0 || !(Op.bytesLess (ByteArray.toList x.1) (ByteArray.toList (x0.getD (i - 1) (ByteArray.empty,(0:Int),(0:Int),(0:Int),())).1)||ByteArray.toList x.1==ByteArray.toList (x0.getD (i - 1) (ByteArray.empty,(0:Int),(0:Int),(0:Int),())).1))
def g96_0 (x0:List TyB1):Bool:=allI (ok96 x0) 0 x0&&decide (x0.length≤12)
def P96 (x0:List TyB1):Prop:=True
theorem step96 (n i : Nat) (x0 : List TyB1) (hm : x0.length ≤ maxLen) (hi : i < x0.length) (ds : List Dyn) :
    (if ok96 x0 i (x0.getD i (ByteArray.empty, (0 : Int), (0 : Int), (0 : Int), ())) = true then R96_2 n ((i : Int) + 1) x0 ds else ds = [⟨.bool, false⟩]) → R96_2 (n + 1) (i : Int) x0 ds := by
  intro h
  have hu := inR_up hm hi
  rw [R96_2, if_pos (by simp; omega)]
  refine ⟨by omega, by omega, ?_⟩
  simp only [Int.toNat_natCast]
  unfold ok96 at h
  by_cases h1 : g119_0 (x0.getD i (ByteArray.empty, (0 : Int), (0 : Int), (0 : Int), ())) = true
  case neg =>
    have h1 := Bool.eq_false_iff.2 h1
    rw [h1] at h
    rw [if_pos (by rw [h1]; rfl)]
    simpa using h
  case pos =>
    rw [h1] at h
    rw [if_neg (by rw [h1]; simp)]
    by_cases h0 : (i : Int) > 0
    · rw [if_pos (by simpa using h0)]
      have hi0 : (i == 0) = false := by simp; omega
      have e : ((i : Int) - 1).toNat = i - 1 := by omega
      refine ⟨by rw [i64_iff]; have : maxLen ≤ 9223372036854775807 := by decide
                 omega, by omega, by omega, ?_⟩
      rw [e]
      by_cases h2 : (Op.bytesLess (ByteArray.toList (x0.getD i (ByteArray.empty, (0 : Int), (0 : Int), (0 : Int), ())).1) (ByteArray.toList (x0.getD (i - 1) (ByteArray.empty, (0 : Int), (0 : Int), (0 : Int), ())).1) || ByteArray.toList (x0.getD i (ByteArray.empty, (0 : Int), (0 : Int), (0 : Int), ())).1 == ByteArray.toList (x0.getD (i - 1) (ByteArray.empty, (0 : Int), (0 : Int), (0 : Int), ())).1) = true
      · rw [if_pos h2]
        rw [hi0, h2] at h
        simpa using h
      · rw [if_neg h2]
        rw [hi0, Bool.eq_false_iff.2 h2] at h
        exact ⟨hu, by simpa using h⟩
    · rw [if_neg (by simpa using h0)]
      have hi0 : (i == 0) = true := by simp; omega
      rw [hi0] at h
      exact ⟨hu, by simpa using h⟩
theorem top96 (x0:List TyB1) (hw:x0.length≤maxLen):R96 (x0.length+1+1) x0 [⟨.bool,g96_0 x0⟩]:=by
 rw [R96]
 have key:=loop_testI x0 (ByteArray.empty,(0:Int),(0:Int),(0:Int),()) (ok96 x0) [(⟨.bool,false⟩:Dyn)] [⟨.bool,decide (x0.length≤12)⟩] (fun n i ds=>R96_2 n i x0 ds) (fun n => ?_) (fun n i hi hok ds hr => ?_) (fun n i hi hok => ?_)
 ·unfold g96_0
  cases h:allI (ok96 x0) 0 x0 with
  | true=>rw [if_pos h] at key;simpa using key
  | false=>rw [if_neg (by rw [h];simp)] at key;simpa using key
 ·rw [R96_2,if_neg (by simp)]
  have hc:decide ((x0.length:Int)≤12)=decide (x0.length≤12):=by
   congr 1;exact propext ⟨fun h=>by omega,fun h=>by omega⟩
  rw [hc]
 ·exact step96 n i x0 hw hi ds (by rw [if_pos hok];exact hr)
 ·exact step96 n i x0 hw hi _ (by rw [if_neg (by rw [hok];simp)])
def S96:Am.Spec:={ sig:=sig96,pre:=fun ⟨x0,_⟩=>P96 x0,res:=fun ⟨x0,_⟩=>[⟨Ty.bool,g96_0 x0⟩] }
theorem con96:Contract Tryz.prog 96 S96:=contract_of Tryz.func96 hb96 (Nat.le_of_ble_eq_true (by kernel_rfl)) (fun ⟨x0,_⟩ h hwf K q =>
 (snd96 _).1 x0 _ (top96 x0 hwf.1.1) K q)
end
noncomputable section
def ext97:Ext:=[(118,S118),(120,S120)]
theorem ext97Ok:ExtOk Tryz.prog ext97:=⟨⟨ca118,con118⟩,⟨ca120,con120⟩,trivial⟩
noncomputable def b97:Code:=bodyOf Tryz.f97
theorem hb97:Tryz.f97.body=some b97:=by kernel_rfl
def sig97:List AT:=[AT.v YA7]
def tys97:List Ty:=[Ty.bool]
def kds97:List RK:=[]
def oks97:List AT:=owns sig97
def P97 (x0:Int×Int×Int×Unit):Prop:=True
def g97_0 (x0:Int×Int×Int×Unit):Bool:=(if (g118_0 x0.1 0 200)=true then (if (g118_0 x0.2.1 0 40)=true then g120_0 x0.2.2.1 else false) else false)
theorem at97 (x0:Int×Int×Int×Unit) (h:P97 x0) (K:Ctx) (q:Nat→Value):AtV Tryz.prog 97 (PostR kds97 oks97 [⟨Ty.bool,g97_0 x0⟩] [] [] q K) 16 K q [] [.code b97] (entE 0 0 sig97 (x0,())) (entL sig97 (x0,())):=by
 unfold P97 at h
 unfold g97_0
 by_cases b0:(g118_0 x0.1 0 200)=true
 ·try simp only [if_pos b0] at h ⊢
  by_cases b1:(g118_0 x0.2.1 0 40)=true
  ·try simp only [if_pos b1] at h ⊢
   exact AtV.ret Tryz.func97 tabOk ext97Ok mixed false [] tys97 [true,true] (a1 trivial (a1 b0 (a1 trivial (a1 b1 (a1 trivial trivial))))) (by kernel_rfl)
  ·try simp only [if_neg b1] at h ⊢
   replace b1:=Bool.eq_false_iff.2 b1
   exact AtV.ret Tryz.func97 tabOk ext97Ok mixed false [] tys97 [true,false] (a1 trivial (a1 b0 (a1 trivial (a1 b1 trivial)))) (by kernel_rfl)
 ·try simp only [if_neg b0] at h ⊢
  replace b0:=Bool.eq_false_iff.2 b0
  exact AtV.ret Tryz.func97 tabOk ext97Ok mixed false [] tys97 [false,false] (a1 trivial (a1 b0 (a1 (rfl:false=false) trivial))) (by kernel_rfl)
def S97:Am.Spec:={ sig:=sig97,pre:=fun ⟨x0,_⟩=>P97 x0,res:=fun ⟨x0,_⟩=>[⟨Ty.bool,g97_0 x0⟩],kds:=kds97 }
theorem con97:Contract Tryz.prog 97 S97:=contract_of Tryz.func97 hb97 (Nat.le_of_ble_eq_true (by kernel_rfl)) (fun ⟨x0,_⟩ h _ K q=>at97 x0 h K q)
end
noncomputable section
def ext123:Ext:=[(118,S118)]
theorem ext123Ok:ExtOk Tryz.prog ext123:=⟨⟨ca118,con118⟩,trivial⟩
noncomputable def b123:Code:=bodyOf Tryz.f123
theorem hb123:Tryz.f123.body=some b123:=by kernel_rfl
def sig123:List AT:=[AT.v (Ty.int .i64)]
def tys123:List Ty:=[Ty.bool]
def kds123:List RK:=[]
def oks123:List AT:=owns sig123
def P123 (x0:Int):Prop:=True
def g123_0 (x0:Int):Bool:=g118_0 x0 0 100000
theorem at123 (x0:Int) (h:P123 x0) (K:Ctx) (q:Nat→Value):AtV Tryz.prog 123 (PostR kds123 oks123 [⟨Ty.bool,g123_0 x0⟩] [] [] q K) 5 K q [] [.code b123] (entE 0 0 sig123 (x0,())) (entL sig123 (x0,())):=by
 unfold P123 at h
 unfold g123_0
 exact AtV.ret Tryz.func123 tabOk ext123Ok mixed false [] tys123 [] (a1 trivial trivial) (by kernel_rfl)
def S123:Am.Spec:={ sig:=sig123,pre:=fun ⟨x0,_⟩=>P123 x0,res:=fun ⟨x0,_⟩=>[⟨Ty.bool,g123_0 x0⟩],kds:=kds123 }
theorem con123:Contract Tryz.prog 123 S123:=contract_of Tryz.func123 hb123 (Nat.le_of_ble_eq_true (by kernel_rfl)) (fun ⟨x0,_⟩ h _ K q=>at123 x0 h K q)
end
noncomputable section
def ext122:Ext:=[(118,S118)]
theorem ext122Ok:ExtOk Tryz.prog ext122:=⟨⟨ca118,con118⟩,trivial⟩
noncomputable def b122:Code:=bodyOf Tryz.f122
theorem hb122:Tryz.f122.body=some b122:=by kernel_rfl
def sig122:List AT:=[AT.v (Ty.int .i64)]
def tys122:List Ty:=[Ty.bool]
def kds122:List RK:=[]
def oks122:List AT:=owns sig122
def P122 (x0:Int):Prop:=True
def g122_0 (x0:Int):Bool:=g118_0 x0 0 1000000
theorem at122 (x0:Int) (h:P122 x0) (K:Ctx) (q:Nat→Value):AtV Tryz.prog 122 (PostR kds122 oks122 [⟨Ty.bool,g122_0 x0⟩] [] [] q K) 5 K q [] [.code b122] (entE 0 0 sig122 (x0,())) (entL sig122 (x0,())):=by
 unfold P122 at h
 unfold g122_0
 exact AtV.ret Tryz.func122 tabOk ext122Ok mixed false [] tys122 [] (a1 trivial trivial) (by kernel_rfl)
def S122:Am.Spec:={ sig:=sig122,pre:=fun ⟨x0,_⟩=>P122 x0,res:=fun ⟨x0,_⟩=>[⟨Ty.bool,g122_0 x0⟩],kds:=kds122 }
theorem con122:Contract Tryz.prog 122 S122:=contract_of Tryz.func122 hb122 (Nat.le_of_ble_eq_true (by kernel_rfl)) (fun ⟨x0,_⟩ h _ K q=>at122 x0 h K q)
end
noncomputable section
def ext142:Ext:=[(141,S141),(118,S118),(123,S123),(122,S122)]
theorem ext142Ok:ExtOk Tryz.prog ext142:=⟨⟨ca141,con141⟩,⟨ca118,con118⟩,⟨ca123,con123⟩,⟨ca122,con122⟩,trivial⟩
noncomputable def b142:Code:=bodyOf Tryz.f142
theorem hb142:Tryz.f142.body=some b142:=by kernel_rfl
def sig142:List AT:=[AT.v YA3]
def tys142:List Ty:=[Ty.bool]
def kds142:List RK:=[]
def oks142:List AT:=owns sig142
def P142 (x0:ByteArray×Int×Int×Int×Int×Unit):Prop:=True
def g142_0 (x0:ByteArray×Int×Int×Int×Int×Unit):Bool:=(if (g141_0 x0.1)=true then (if (g118_0 x0.2.1 1 100000)=true then (if (g118_0 x0.2.2.1 1 1000000)=true then (if (g123_0 x0.2.2.2.1)=true then g122_0 x0.2.2.2.2.1 else false) else false) else false) else false)
theorem at142 (x0:ByteArray×Int×Int×Int×Int×Unit) (h:P142 x0) (K:Ctx) (q:Nat→Value):AtV Tryz.prog 142 (PostR kds142 oks142 [⟨Ty.bool,g142_0 x0⟩] [] [] q K) 26 K q [] [.code b142] (entE 0 0 sig142 (x0,())) (entL sig142 (x0,())):=by
 unfold P142 at h
 unfold g142_0
 by_cases b0:(g141_0 x0.1)=true
 ·try simp only [if_pos b0] at h ⊢
  by_cases b1:(g118_0 x0.2.1 1 100000)=true
  ·try simp only [if_pos b1] at h ⊢
   by_cases b2:(g118_0 x0.2.2.1 1 1000000)=true
   ·try simp only [if_pos b2] at h ⊢
    by_cases b3:(g123_0 x0.2.2.2.1)=true
    ·try simp only [if_pos b3] at h ⊢
     exact AtV.ret Tryz.func142 tabOk ext142Ok mixed false [] tys142 [true,true,true,true] (a1 trivial (a1 b0 (a1 trivial (a1 b1 (a1 trivial (a1 b2 (a1 trivial (a1 b3 (a1 trivial trivial))))))))) (by kernel_rfl)
    ·try simp only [if_neg b3] at h ⊢
     replace b3:=Bool.eq_false_iff.2 b3
     exact AtV.ret Tryz.func142 tabOk ext142Ok mixed false [] tys142 [true,true,true,false] (a1 trivial (a1 b0 (a1 trivial (a1 b1 (a1 trivial (a1 b2 (a1 trivial (a1 b3 trivial)))))))) (by kernel_rfl)
   ·try simp only [if_neg b2] at h ⊢
    replace b2:=Bool.eq_false_iff.2 b2
    exact AtV.ret Tryz.func142 tabOk ext142Ok mixed false [] tys142 [true,true,false,false] (a1 trivial (a1 b0 (a1 trivial (a1 b1 (a1 trivial (a1 b2 (a1 (rfl:false=false) trivial))))))) (by kernel_rfl)
  ·try simp only [if_neg b1] at h ⊢
   replace b1:=Bool.eq_false_iff.2 b1
   exact AtV.ret Tryz.func142 tabOk ext142Ok mixed false [] tys142 [true,false,false,false] (a1 trivial (a1 b0 (a1 trivial (a1 b1 (a1 (rfl:false=false) (a1 (rfl:false=false) trivial)))))) (by kernel_rfl)
 ·try simp only [if_neg b0] at h ⊢
  replace b0:=Bool.eq_false_iff.2 b0
  exact AtV.ret Tryz.func142 tabOk ext142Ok mixed false [] tys142 [false,false,false,false] (a1 trivial (a1 b0 (a1 (rfl:false=false) (a1 (rfl:false=false) (a1 (rfl:false=false) trivial))))) (by kernel_rfl)
def S142:Am.Spec:={ sig:=sig142,pre:=fun ⟨x0,_⟩=>P142 x0,res:=fun ⟨x0,_⟩=>[⟨Ty.bool,g142_0 x0⟩],kds:=kds142 }
theorem con142:Contract Tryz.prog 142 S142:=contract_of Tryz.func142 hb142 (Nat.le_of_ble_eq_true (by kernel_rfl)) (fun ⟨x0,_⟩ h _ K q=>at142 x0 h K q)
end
noncomputable section
def ext121:Ext:=[(142,S142)]
theorem ext121Ok:ExtOk Tryz.prog ext121:=⟨⟨ca142,con142⟩,trivial⟩
noncomputable def b121:Code:=bodyOf Tryz.f121
theorem hb121:Tryz.f121.body=some b121:=by kernel_rfl
def sig121:List AT:=[AT.v (Ty.sl YA3)]
def tys121:List Ty:=[Ty.bool]
def kds121:List RK:=[]
def oks121:List AT:=owns sig121
def E121_2 (v7:Int) (x0:List TyB0):Env:=[(0,PV.a (Atom.sl YA3 x0)),(5,PV.a (Atom.sl YA3 x0)),(6,PV.a (Atom.val (Value.int .i64 (↑(List.length x0):Int)))),(7,PV.a (Atom.val (Value.int .i64 v7)))]
def L121_2 (v7:Int) (x0:List TyB0):Heap:=[]
mutual
def R121:Nat→List TyB0→List Dyn→Prop
 | 0,_,_=>False
 | n+1,x0,ds=>(R121_2 n (0) (x0) ds)
def R121_2:Nat→Int→List TyB0→List Dyn→Prop
 | 0,_,_,_=>False
 | n+1,v7,x0,ds=>(if (decide (v7<(↑(List.length x0):Int)))=true then ((0≤v7)∧(v7<(↑(List.length x0):Int))∧(if (!g142_0 (List.getD x0 (Int.toNat v7) (ByteArray.empty,0,0,0,0,())))=true then (ds=[Dyn.mk Ty.bool false]) else (if (decide (v7>0))=true then ((InR .i64 (v7 - 1))∧((0≤v7 - 1)∧(v7 - 1<(↑(List.length x0):Int))∧(if (Op.bytesLess (ByteArray.toList (List.getD x0 (Int.toNat v7) (ByteArray.empty,0,0,0,0,())).1) (ByteArray.toList (List.getD x0 (Int.toNat (v7 - 1)) (ByteArray.empty,0,0,0,0,())).1)||ByteArray.toList (List.getD x0 (Int.toNat v7) (ByteArray.empty,0,0,0,0,())).1==ByteArray.toList (List.getD x0 (Int.toNat (v7 - 1)) (ByteArray.empty,0,0,0,0,())).1)=true then (ds=[Dyn.mk Ty.bool false]) else ((InR .i64 (v7+1))∧(R121_2 n (v7+1) (x0) ds))))) else ((InR .i64 (v7+1))∧(R121_2 n (v7+1) (x0) ds))))) else (ds=[Dyn.mk Ty.bool (decide ((↑(List.length x0):Int)≤16))]))
end
theorem snd121:∀ n,(∀ (x0:List TyB0) ds,R121 n x0 ds→∀ K q,AtV Tryz.prog 121 (PostR kds121 oks121 ds [] [] q K) 34 K q [] [.code b121] (entE 0 0 sig121 (x0,())) (entL sig121 (x0,())))∧(∀ (v7:Int) (x0:List TyB0) ds,R121_2 n v7 x0 ds→∀ K q,AtV Tryz.prog 121 (PostR kds121 oks121 ds [] [] q K) 34 K q [] (cutAt b121 2) (E121_2 v7 x0) (L121_2 v7 x0)):=by
 intro n
 induction n with
 | zero=>exact ⟨fun _ _ h=>by simp only [R121] at h,fun _ _ _ h=>by simp only [R121_2] at h⟩
 | succ n ih =>
 obtain ⟨ih,ih2⟩:=ih
 refine ⟨?_,?_⟩
 ·intro x0 ds h K q
  rw [R121] at h
  exact AtV.go tabOk ext121Ok mixed false [] [] [0,5,6,7] [] [] trivial (ih2 _ _ _ h K q) (by kernel_rfl)
 ·intro v7 x0 ds h K q
  rw [R121_2] at h
  by_cases b0:(decide (v7<(↑(List.length x0):Int)))=true
  ·rw [if_pos b0] at h
   obtain ⟨s0,s1,h⟩:=h
   by_cases b1:(!g142_0 (List.getD x0 (Int.toNat v7) (ByteArray.empty,0,0,0,0,())))=true
   ·rw [if_pos b1] at h
    subst h
    exact AtV.ret Tryz.func121 tabOk ext121Ok mixed false [] tys121 [true,true,true] (a1 b0 (a1 s0 (a1 s1 (a1 trivial (a1 b1 (a1 (rfl:true=true) trivial)))))) (by kernel_rfl)
   ·rw [if_neg b1] at h
    replace b1:=Bool.eq_false_iff.2 b1
    by_cases b2:(decide (v7>0))=true
    ·rw [if_pos b2] at h
     obtain ⟨s2,h⟩:=h
     obtain ⟨s3,s4,h⟩:=h
     by_cases b3:(Op.bytesLess (ByteArray.toList (List.getD x0 (Int.toNat v7) (ByteArray.empty,0,0,0,0,())).1) (ByteArray.toList (List.getD x0 (Int.toNat (v7 - 1)) (ByteArray.empty,0,0,0,0,())).1)||ByteArray.toList (List.getD x0 (Int.toNat v7) (ByteArray.empty,0,0,0,0,())).1==ByteArray.toList (List.getD x0 (Int.toNat (v7 - 1)) (ByteArray.empty,0,0,0,0,())).1)=true
     ·rw [if_pos b3] at h
      subst h
      exact AtV.ret Tryz.func121 tabOk ext121Ok mixed false [] tys121 [true,false,true,true] (a1 b0 (a1 s0 (a1 s1 (a1 trivial (a1 b1 (a1 b2 (a1 s2 (a1 s3 (a1 s4 (a1 b3 trivial)))))))))) (by kernel_rfl)
     ·rw [if_neg b3] at h
      replace b3:=Bool.eq_false_iff.2 b3
      obtain ⟨s5,h⟩:=h
      exact AtV.go tabOk ext121Ok mixed false [] [] [0,5,6,7] [] [true,false,true,false] (a1 b0 (a1 s0 (a1 s1 (a1 trivial (a1 b1 (a1 b2 (a1 s2 (a1 s3 (a1 s4 (a1 b3 (a1 s5 trivial))))))))))) (ih2 _ _ _ h K q) (by kernel_rfl)
    ·rw [if_neg b2] at h
     replace b2:=Bool.eq_false_iff.2 b2
     obtain ⟨s2,h⟩:=h
     exact AtV.go tabOk ext121Ok mixed false [] [] [0,5,6,7] [] [true,false,false,false] (a1 b0 (a1 s0 (a1 s1 (a1 trivial (a1 b1 (a1 b2 (a1 (rfl:false=false) (a1 s2 trivial)))))))) (ih2 _ _ _ h K q) (by kernel_rfl)
  ·rw [if_neg b0] at h
   replace b0:=Bool.eq_false_iff.2 b0
   subst h
   exact AtV.ret Tryz.func121 tabOk ext121Ok mixed false [] tys121 [false] (a1 b0 trivial) (by kernel_rfl)
def ok121 (x0:List TyB0) (i:Nat) (x:TyB0):Bool :=
 g142_0 x&&(i==0 || !(Op.bytesLess (ByteArray.toList x.1) (ByteArray.toList (x0.getD (i - 1) (ByteArray.empty,(0:Int),(0:Int),(0:Int),(0:Int),())).1)||ByteArray.toList x.1==ByteArray.toList (x0.getD (i - 1) (ByteArray.empty,(0:Int),(0:Int),(0:Int),(0:Int),())).1))
def g121_0 (x0:List TyB0):Bool:=allI (ok121 x0) 0 x0&&decide (x0.length≤16)
def P121 (x0:List TyB0):Prop:=True
theorem step121 (n i : Nat) (x0 : List TyB0) (hm : x0.length ≤ maxLen) (hi : i < x0.length) (ds : List Dyn) :
    (if ok121 x0 i (x0.getD i (ByteArray.empty, (0 : Int), (0 : Int), (0 : Int), (0 : Int), ())) = true then R121_2 n ((i : Int) + 1) x0 ds else ds = [⟨.bool, false⟩]) → R121_2 (n + 1) (i : Int) x0 ds := by
  intro h
  have hu := inR_up hm hi
  rw [R121_2, if_pos (by simp; omega)]
  refine ⟨by omega, by omega, ?_⟩
  simp only [Int.toNat_natCast]
  unfold ok121 at h
  by_cases h1 : g142_0 (x0.getD i (ByteArray.empty, (0 : Int), (0 : Int), (0 : Int), (0 : Int), ())) = true
  case neg =>
    have h1 := Bool.eq_false_iff.2 h1
    rw [h1] at h
    rw [if_pos (by rw [h1]; rfl)]
    simpa using h
  case pos =>
    rw [h1] at h
    rw [if_neg (by rw [h1]; simp)]
    by_cases h0 : (i : Int) > 0
    · rw [if_pos (by simpa using h0)]
      have hi0 : (i == 0) = false := by simp; omega
      have e : ((i : Int) - 1).toNat = i - 1 := by omega
      refine ⟨by rw [i64_iff]; have : maxLen ≤ 9223372036854775807 := by decide
                 omega, by omega, by omega, ?_⟩
      rw [e]
      by_cases h2 : (Op.bytesLess (ByteArray.toList (x0.getD i (ByteArray.empty, (0 : Int), (0 : Int), (0 : Int), (0 : Int), ())).1) (ByteArray.toList (x0.getD (i - 1) (ByteArray.empty, (0 : Int), (0 : Int), (0 : Int), (0 : Int), ())).1) || ByteArray.toList (x0.getD i (ByteArray.empty, (0 : Int), (0 : Int), (0 : Int), (0 : Int), ())).1 == ByteArray.toList (x0.getD (i - 1) (ByteArray.empty, (0 : Int), (0 : Int), (0 : Int), (0 : Int), ())).1) = true
      · rw [if_pos h2]
        rw [hi0, h2] at h
        simpa using h
      · rw [if_neg h2]
        rw [hi0, Bool.eq_false_iff.2 h2] at h
        exact ⟨hu, by simpa using h⟩
    · rw [if_neg (by simpa using h0)]
      have hi0 : (i == 0) = true := by simp; omega
      rw [hi0] at h
      exact ⟨hu, by simpa using h⟩
theorem top121 (x0:List TyB0) (hw:x0.length≤maxLen):R121 (x0.length+1+1) x0 [⟨.bool,g121_0 x0⟩]:=by
 rw [R121]
 have key:=loop_testI x0 (ByteArray.empty,(0:Int),(0:Int),(0:Int),(0:Int),()) (ok121 x0) [(⟨.bool,false⟩:Dyn)] [⟨.bool,decide (x0.length≤16)⟩] (fun n i ds=>R121_2 n i x0 ds) (fun n => ?_) (fun n i hi hok ds hr => ?_) (fun n i hi hok => ?_)
 ·unfold g121_0
  cases h:allI (ok121 x0) 0 x0 with
  | true=>rw [if_pos h] at key;simpa using key
  | false=>rw [if_neg (by rw [h];simp)] at key;simpa using key
 ·rw [R121_2,if_neg (by simp)]
  have hc:decide ((x0.length:Int)≤16)=decide (x0.length≤16):=by
   congr 1;exact propext ⟨fun h=>by omega,fun h=>by omega⟩
  rw [hc]
 ·exact step121 n i x0 hw hi ds (by rw [if_pos hok];exact hr)
 ·exact step121 n i x0 hw hi _ (by rw [if_neg (by rw [hok];simp)])
def S121:Am.Spec:={ sig:=sig121,pre:=fun ⟨x0,_⟩=>P121 x0,res:=fun ⟨x0,_⟩=>[⟨Ty.bool,g121_0 x0⟩] }
theorem con121:Contract Tryz.prog 121 S121:=contract_of Tryz.func121 hb121 (Nat.le_of_ble_eq_true (by kernel_rfl)) (fun ⟨x0,_⟩ h hwf K q =>
 (snd121 _).1 x0 _ (top121 x0 hwf.1.1) K q)
end
noncomputable section
def ext125:Ext:=[]
theorem ext125Ok:ExtOk Tryz.prog ext125:=trivial
noncomputable def b125:Code:=bodyOf Tryz.f125
theorem hb125:Tryz.f125.body=some b125:=by kernel_rfl
def sig125:List AT:=[AT.v YA3,AT.p (.int .i64),AT.p (.int .i64)]
def tys125:List Ty:=[Ty.bool]
def kds125:List RK:=[]
def oks125:List AT:=owns sig125
def P125 (x0:ByteArray×Int×Int×Int×Int×Unit) (x1:Int) (x2:Int):Prop:=True
def g125_0 (x0:ByteArray×Int×Int×Int×Int×Unit) (x1:Int) (x2:Int):Bool:=(if (decide (x0.2.2.2.1>x1))=true then true else decide (x0.2.2.2.2.1>x2))
theorem at125 (x0:ByteArray×Int×Int×Int×Int×Unit) (x1:Int) (x2:Int) (h:P125 x0 x1 x2) (K:Ctx) (q:Nat→Value):AtV Tryz.prog 125 (PostR kds125 oks125 [⟨Ty.bool,g125_0 x0 x1 x2⟩] [] [] q K) 15 K q [] [.code b125] (entE 0 0 sig125 (x0,x1,x2,())) (entL sig125 (x0,x1,x2,())):=by
 unfold P125 at h
 unfold g125_0
 by_cases b0:(decide (x0.2.2.2.1>x1))=true
 ·try simp only [if_pos b0] at h ⊢
  exact AtV.ret Tryz.func125 tabOk ext125Ok mixed false [] tys125 [true] (a1 b0 trivial) (by kernel_rfl)
 ·try simp only [if_neg b0] at h ⊢
  replace b0:=Bool.eq_false_iff.2 b0
  exact AtV.ret Tryz.func125 tabOk ext125Ok mixed false [] tys125 [false] (a1 b0 trivial) (by kernel_rfl)
def S125:Am.Spec:={ sig:=sig125,pre:=fun ⟨x0,x1,x2,_⟩=>P125 x0 x1 x2,res:=fun ⟨x0,x1,x2,_⟩=>[⟨Ty.bool,g125_0 x0 x1 x2⟩],kds:=kds125 }
theorem con125:Contract Tryz.prog 125 S125:=contract_of Tryz.func125 hb125 (Nat.le_of_ble_eq_true (by kernel_rfl)) (fun ⟨x0,x1,x2,_⟩ h _ K q=>at125 x0 x1 x2 h K q)
end
noncomputable section
def ext143c125:Ext:=[(125,S125)]
theorem ext143c125Ok:ExtOk Tryz.prog ext143c125:=⟨⟨ca125,con125⟩,trivial⟩
noncomputable def b143c125:Code:=bodyOf Tryz.f143
theorem hb143c125:Tryz.f143.body=some b143c125:=by kernel_rfl
def sig143c125:List AT:=[AT.v (Ty.sl YA3),AT.fn 125 [(true,(.int .i64)),(true,(.int .i64))]]
def tys143c125:List Ty:=[Ty.int .i64]
def kds143c125:List RK:=[]
def oks143c125:List AT:=owns sig143c125
def E143c125_2 (v8:Int) (x0:List TyB0) (x1:Int) (x1c:Int):Env:=[(0,PV.a (Atom.sl YA3 x0)),(1,PV.fn 125 [Atom.ptr (Ty.int .i64) x1,Atom.ptr (Ty.int .i64) x1c]),(7,PV.a (Atom.val (Value.int .i64 (↑(List.length x0):Int)))),(8,PV.a (Atom.val (Value.int .i64 v8)))]
def L143c125_2 (v8:Int) (x0:List TyB0) (x1:Int) (x1c:Int):Heap:=[]
mutual
def R143c125:Nat→List TyB0→Int→Int→List Dyn→Prop
 | 0,_,_,_,_=>False
 | n+1,x0,x1,x1c,ds=>(R143c125_2 n (0) (x0) (x1) (x1c) ds)
def R143c125_2:Nat→Int→List TyB0→Int→Int→List Dyn→Prop
 | 0,_,_,_,_,_=>False
 | n+1,v8,x0,x1,x1c,ds=>(if (decide (v8<(↑(List.length x0):Int)))=true then ((0≤v8)∧(v8<(↑(List.length x0):Int))∧(if (g125_0 (List.getD x0 (Int.toNat v8) (ByteArray.empty,0,0,0,0,())) x1 x1c)=true then (ds=[Dyn.mk (Ty.int .i64) v8]) else ((InR .i64 (v8+1))∧(R143c125_2 n (v8+1) (x0) (x1) (x1c) ds)))) else (ds=[Dyn.mk (Ty.int .i64) (-1)]))
end
theorem snd143c125:∀ n,(∀ (x0:List TyB0) (x1:Int) (x1c:Int) ds,R143c125 n x0 x1 x1c ds→∀ K q,AtV Tryz.prog 143 (PostR kds143c125 oks143c125 ds [] [] q K) 19 K q [] [.code b143c125] (entE 0 0 sig143c125 (x0,(x1,x1c,()),())) (entL sig143c125 (x0,(x1,x1c,()),())))∧(∀ (v8:Int) (x0:List TyB0) (x1:Int) (x1c:Int) ds,R143c125_2 n v8 x0 x1 x1c ds→∀ K q,AtV Tryz.prog 143 (PostR kds143c125 oks143c125 ds [] [] q K) 19 K q [] (cutAt b143c125 2) (E143c125_2 v8 x0 x1 x1c) (L143c125_2 v8 x0 x1 x1c)):=by
 intro n
 induction n with
 | zero=>exact ⟨fun _ _ _ _ h=>by simp only [R143c125] at h,fun _ _ _ _ _ h=>by simp only [R143c125_2] at h⟩
 | succ n ih =>
 obtain ⟨ih,ih2⟩:=ih
 refine ⟨?_,?_⟩
 ·intro x0 x1 x1c ds h K q
  rw [R143c125] at h
  exact AtV.go tabOk ext143c125Ok mixed false [] [] [0,1,7,8] [] [] trivial (ih2 _ _ _ _ _ h K q) (by kernel_rfl)
 ·intro v8 x0 x1 x1c ds h K q
  rw [R143c125_2] at h
  by_cases b0:(decide (v8<(↑(List.length x0):Int)))=true
  ·rw [if_pos b0] at h
   obtain ⟨s0,s1,h⟩:=h
   by_cases b1:(g125_0 (List.getD x0 (Int.toNat v8) (ByteArray.empty,0,0,0,0,())) x1 x1c)=true
   ·rw [if_pos b1] at h
    subst h
    exact AtV.ret Tryz.func143 tabOk ext143c125Ok mixed false [] tys143c125 [true,true] (a1 b0 (a1 s0 (a1 s1 (a1 trivial (a1 b1 trivial))))) (by kernel_rfl)
   ·rw [if_neg b1] at h
    replace b1:=Bool.eq_false_iff.2 b1
    obtain ⟨s2,h⟩:=h
    exact AtV.go tabOk ext143c125Ok mixed false [] [] [0,1,7,8] [] [true,false] (a1 b0 (a1 s0 (a1 s1 (a1 trivial (a1 b1 (a1 s2 trivial)))))) (ih2 _ _ _ _ _ h K q) (by kernel_rfl)
  ·rw [if_neg b0] at h
   replace b0:=Bool.eq_false_iff.2 b0
   subst h
   exact AtV.ret Tryz.func143 tabOk ext143c125Ok mixed false [] tys143c125 [false] (a1 b0 trivial) (by kernel_rfl)
def g143c125_0 (x0:List TyB0) (y0:Int) (y1:Int):Int:=idx (x0.findIdx? (fun x=>g125_0 x y0 y1))
def P143c125 (x0:List TyB0) (y0:Int) (y1:Int):Prop:=True
theorem top143c125 (x0:List TyB0) (y0:Int) (y1:Int) (hm:x0.length≤maxLen):R143c125 (x0.length+1+1) x0 y0 y1 [⟨.int .i64,g143c125_0 x0 y0 y1⟩]:=by
 rw [R143c125]
 have key:=loop_find x0 (ByteArray.empty,(0:Int),(0:Int),(0:Int),(0:Int),()) (fun x=>g125_0 x y0 y1) [(⟨.int .i64, -1⟩:Dyn)] (fun k=>[⟨.int .i64,k⟩]) (fun n i ds=>R143c125_2 n i x0 y0 y1 ds) (fun n => ?_) (fun n i hi hok ds hr => ?_) (fun n i hi hok => ?_)
 ·unfold g143c125_0
  cases h:x0.findIdx? (fun x=>g125_0 x y0 y1) <;> rw [h] at key <;> exact key
 ·rw [R143c125_2,if_neg (by simp)]
 ·rw [R143c125_2,if_pos (by simp;omega)]
  simp only [Int.toNat_natCast]
  refine ⟨by omega,by omega,?_⟩
  rw [if_neg (by rw [hok];simp)]
  exact ⟨inR_up hm hi,hr⟩
 ·rw [R143c125_2,if_pos (by simp;omega)]
  simp only [Int.toNat_natCast]
  refine ⟨by omega,by omega,?_⟩
  rw [if_pos hok] <;> trivial
def S143c125:Am.Spec:={ sig:=sig143c125,pre:=fun ⟨x0,⟨y0,y1,_⟩,_⟩=>P143c125 x0 y0 y1,res:=fun ⟨x0,⟨y0,y1,_⟩,_⟩=>[⟨Ty.int .i64,g143c125_0 x0 y0 y1⟩] }
theorem con143c125:Contract Tryz.prog 143 S143c125:=contract_of Tryz.func143 hb143c125 (Nat.le_of_ble_eq_true (by kernel_rfl)) (fun ⟨x0,⟨y0,y1,_⟩,_⟩ h hwf K q =>
 (snd143c125 _).1 x0 y0 y1 _ (top143c125 x0 y0 y1 hwf.1.1) K q)
theorem any143c125 (x0:List TyB0) (y0:Int) (y1:Int):decide (g143c125_0 x0 y0 y1≥0)=x0.any (fun x=>g125_0 x y0 y1):=by
 have:=findIdx_any (fun x=>g125_0 x y0 y1) x0
 unfold g143c125_0
 cases h:x0.any (fun x=>g125_0 x y0 y1) with
 | true=>rw [h] at this;simpa using this
 | false=>rw [h] at this;simpa using this
end
noncomputable section
def ext124c125:Ext:=[(143,S143c125),(125,S125)]
theorem ext124c125Ok:ExtOk Tryz.prog ext124c125:=⟨⟨ca143,con143c125⟩,⟨ca125,con125⟩,trivial⟩
noncomputable def b124c125:Code:=bodyOf Tryz.f124
theorem hb124c125:Tryz.f124.body=some b124c125:=by kernel_rfl
def sig124c125:List AT:=[AT.v (Ty.sl YA3),AT.fn 125 [(true,(.int .i64)),(true,(.int .i64))]]
def tys124c125:List Ty:=[Ty.bool]
def kds124c125:List RK:=[]
def oks124c125:List AT:=owns sig124c125
def P124c125 (x0:List TyB0) (x1:Int) (x1c:Int):Prop:=True
def g124c125_0 (x0:List TyB0) (x1:Int) (x1c:Int):Bool:=decide (g143c125_0 x0 x1 x1c≥0)
theorem at124c125 (x0:List TyB0) (x1:Int) (x1c:Int) (h:P124c125 x0 x1 x1c) (K:Ctx) (q:Nat→Value):AtV Tryz.prog 124 (PostR kds124c125 oks124c125 [⟨Ty.bool,g124c125_0 x0 x1 x1c⟩] [] [] q K) 9 K q [] [.code b124c125] (entE 0 0 sig124c125 (x0,(x1,x1c,()),())) (entL sig124c125 (x0,(x1,x1c,()),())):=by
 unfold P124c125 at h
 unfold g124c125_0
 exact AtV.ret Tryz.func124 tabOk ext124c125Ok mixed false [] tys124c125 [] (a1 trivial trivial) (by kernel_rfl)
def S124c125:Am.Spec:={ sig:=sig124c125,pre:=fun ⟨x0,⟨x1,x1c,_⟩,_⟩=>P124c125 x0 x1 x1c,res:=fun ⟨x0,⟨x1,x1c,_⟩,_⟩=>[⟨Ty.bool,g124c125_0 x0 x1 x1c⟩],kds:=kds124c125 }
theorem con124c125:Contract Tryz.prog 124 S124c125:=contract_of Tryz.func124 hb124c125 (Nat.le_of_ble_eq_true (by kernel_rfl)) (fun ⟨x0,⟨x1,x1c,_⟩,_⟩ h _ K q=>at124c125 x0 x1 x1c h K q)
end
noncomputable section
def ext98:Ext:=[(121,S121),(122,S122),(123,S123),(124,S124c125)]
theorem ext98Ok:ExtOk Tryz.prog ext98:=⟨⟨ca121,con121⟩,⟨ca122,con122⟩,⟨ca123,con123⟩,⟨ca124,con124c125⟩,trivial⟩
noncomputable def b98:Code:=bodyOf Tryz.f98
theorem hb98:Tryz.f98.body=some b98:=by kernel_rfl
def sig98:List AT:=[AT.v (Ty.sl YA3),AT.v (Ty.int .i64),AT.v (Ty.int .i64),AT.v (Ty.int .i64)]
def tys98:List Ty:=[Ty.int .i64]
def kds98:List RK:=[]
def oks98:List AT:=owns sig98
def P98 (x0:List TyB0) (x1:Int) (x2:Int) (x3:Int):Prop:=True
def g98_0 (x0:List TyB0) (x1:Int) (x2:Int) (x3:Int):Int:=(if (!g121_0 x0)=true then 1 else (if (!g122_0 x3)=true then 2 else (if (!g123_0 x1)=true then 2 else (if (!g122_0 x2)=true then 2 else (if (g124c125_0 x0 x1 x2)=true then 6 else 0)))))
theorem at98 (x0:List TyB0) (x1:Int) (x2:Int) (x3:Int) (h:P98 x0 x1 x2 x3) (K:Ctx) (q:Nat→Value):AtV Tryz.prog 98 (PostR kds98 oks98 [⟨Ty.int .i64,g98_0 x0 x1 x2 x3⟩] [] [] q K) 31 K q [] [.code b98] (entE 0 0 sig98 (x0,x1,x2,x3,())) (entL sig98 (x0,x1,x2,x3,())):=by
 unfold P98 at h
 unfold g98_0
 by_cases b0:(!g121_0 x0)=true
 ·try simp only [if_pos b0] at h ⊢
  exact AtV.ret Tryz.func98 tabOk ext98Ok mixed false [] tys98 [true] (a1 trivial (a1 b0 trivial)) (by kernel_rfl)
 ·try simp only [if_neg b0] at h ⊢
  replace b0:=Bool.eq_false_iff.2 b0
  by_cases b1:(!g122_0 x3)=true
  ·try simp only [if_pos b1] at h ⊢
   exact AtV.ret Tryz.func98 tabOk ext98Ok mixed false [] tys98 [false,true,true,true] (a1 trivial (a1 b0 (a1 trivial (a1 b1 (a1 (rfl:true=true) (a1 (rfl:true=true) trivial)))))) (by kernel_rfl)
  ·try simp only [if_neg b1] at h ⊢
   replace b1:=Bool.eq_false_iff.2 b1
   by_cases b2:(!g123_0 x1)=true
   ·try simp only [if_pos b2] at h ⊢
    exact AtV.ret Tryz.func98 tabOk ext98Ok mixed false [] tys98 [false,false,true,true] (a1 trivial (a1 b0 (a1 trivial (a1 b1 (a1 trivial (a1 b2 (a1 (rfl:true=true) trivial))))))) (by kernel_rfl)
   ·try simp only [if_neg b2] at h ⊢
    replace b2:=Bool.eq_false_iff.2 b2
    by_cases b3:(!g122_0 x2)=true
    ·try simp only [if_pos b3] at h ⊢
     exact AtV.ret Tryz.func98 tabOk ext98Ok mixed false [] tys98 [false,false,false,true] (a1 trivial (a1 b0 (a1 trivial (a1 b1 (a1 trivial (a1 b2 (a1 trivial (a1 b3 trivial)))))))) (by kernel_rfl)
    ·try simp only [if_neg b3] at h ⊢
     replace b3:=Bool.eq_false_iff.2 b3
     by_cases b4:(g124c125_0 x0 x1 x2)=true
     ·try simp only [if_pos b4] at h ⊢
      exact AtV.ret Tryz.func98 tabOk ext98Ok mixed false [] tys98 [false,false,false,false,true] (a1 trivial (a1 b0 (a1 trivial (a1 b1 (a1 trivial (a1 b2 (a1 trivial (a1 b3 (a1 trivial (a1 b4 trivial)))))))))) (by kernel_rfl)
     ·try simp only [if_neg b4] at h ⊢
      replace b4:=Bool.eq_false_iff.2 b4
      exact AtV.ret Tryz.func98 tabOk ext98Ok mixed false [] tys98 [false,false,false,false,false] (a1 trivial (a1 b0 (a1 trivial (a1 b1 (a1 trivial (a1 b2 (a1 trivial (a1 b3 (a1 trivial (a1 b4 trivial)))))))))) (by kernel_rfl)
def S98:Am.Spec:={ sig:=sig98,pre:=fun ⟨x0,x1,x2,x3,_⟩=>P98 x0 x1 x2 x3,res:=fun ⟨x0,x1,x2,x3,_⟩=>[⟨Ty.int .i64,g98_0 x0 x1 x2 x3⟩],kds:=kds98 }
theorem con98:Contract Tryz.prog 98 S98:=contract_of Tryz.func98 hb98 (Nat.le_of_ble_eq_true (by kernel_rfl)) (fun ⟨x0,x1,x2,x3,_⟩ h _ K q=>at98 x0 x1 x2 x3 h K q)
end
noncomputable section
def ext100:Ext:=[(118,S118)]
theorem ext100Ok:ExtOk Tryz.prog ext100:=⟨⟨ca118,con118⟩,trivial⟩
noncomputable def b100:Code:=bodyOf Tryz.f100
theorem hb100:Tryz.f100.body=some b100:=by kernel_rfl
def sig100:List AT:=[AT.v (Ty.int .i64)]
def tys100:List Ty:=[Ty.bool]
def kds100:List RK:=[]
def oks100:List AT:=owns sig100
def P100 (x0:Int):Prop:=True
def g100_0 (x0:Int):Bool:=g118_0 x0 0 1440
theorem at100 (x0:Int) (h:P100 x0) (K:Ctx) (q:Nat→Value):AtV Tryz.prog 100 (PostR kds100 oks100 [⟨Ty.bool,g100_0 x0⟩] [] [] q K) 5 K q [] [.code b100] (entE 0 0 sig100 (x0,())) (entL sig100 (x0,())):=by
 unfold P100 at h
 unfold g100_0
 exact AtV.ret Tryz.func100 tabOk ext100Ok mixed false [] tys100 [] (a1 trivial trivial) (by kernel_rfl)
def S100:Am.Spec:={ sig:=sig100,pre:=fun ⟨x0,_⟩=>P100 x0,res:=fun ⟨x0,_⟩=>[⟨Ty.bool,g100_0 x0⟩],kds:=kds100 }
theorem con100:Contract Tryz.prog 100 S100:=contract_of Tryz.func100 hb100 (Nat.le_of_ble_eq_true (by kernel_rfl)) (fun ⟨x0,_⟩ h _ K q=>at100 x0 h K q)
end
noncomputable section
def ext126:Ext:=[(100,S100),(118,S118)]
theorem ext126Ok:ExtOk Tryz.prog ext126:=⟨⟨ca100,con100⟩,⟨ca118,con118⟩,trivial⟩
noncomputable def b126:Code:=bodyOf Tryz.f126
theorem hb126:Tryz.f126.body=some b126:=by kernel_rfl
def sig126:List AT:=[AT.v YA9]
def tys126:List Ty:=[Ty.bool]
def kds126:List RK:=[]
def oks126:List AT:=owns sig126
def P126 (x0:Int×Int×Unit):Prop:=(if (g100_0 x0.1)=true then (if (g118_0 x0.2.1 1 1440)=true then ((InR .i64 (x0.1+x0.2.1))∧True) else True) else True)
def g126_0 (x0:Int×Int×Unit):Bool:=(if (g100_0 x0.1)=true then (if (g118_0 x0.2.1 1 1440)=true then decide (x0.1+x0.2.1≤1440) else false) else false)
theorem at126 (x0:Int×Int×Unit) (h:P126 x0) (K:Ctx) (q:Nat→Value):AtV Tryz.prog 126 (PostR kds126 oks126 [⟨Ty.bool,g126_0 x0⟩] [] [] q K) 19 K q [] [.code b126] (entE 0 0 sig126 (x0,())) (entL sig126 (x0,())):=by
 unfold P126 at h
 unfold g126_0
 by_cases b0:(g100_0 x0.1)=true
 ·try simp only [if_pos b0] at h ⊢
  by_cases b1:(g118_0 x0.2.1 1 1440)=true
  ·try simp only [if_pos b1] at h ⊢
   obtain ⟨s0,h⟩:=h
   exact AtV.ret Tryz.func126 tabOk ext126Ok mixed false [] tys126 [true,true] (a1 trivial (a1 b0 (a1 trivial (a1 b1 (a1 s0 trivial))))) (by kernel_rfl)
  ·try simp only [if_neg b1] at h ⊢
   replace b1:=Bool.eq_false_iff.2 b1
   exact AtV.ret Tryz.func126 tabOk ext126Ok mixed false [] tys126 [true,false] (a1 trivial (a1 b0 (a1 trivial (a1 b1 trivial)))) (by kernel_rfl)
 ·try simp only [if_neg b0] at h ⊢
  replace b0:=Bool.eq_false_iff.2 b0
  exact AtV.ret Tryz.func126 tabOk ext126Ok mixed false [] tys126 [false,false] (a1 trivial (a1 b0 (a1 (rfl:false=false) trivial))) (by kernel_rfl)
def S126:Am.Spec:={ sig:=sig126,pre:=fun ⟨x0,_⟩=>P126 x0,res:=fun ⟨x0,_⟩=>[⟨Ty.bool,g126_0 x0⟩],kds:=kds126 }
theorem con126:Contract Tryz.prog 126 S126:=contract_of Tryz.func126 hb126 (Nat.le_of_ble_eq_true (by kernel_rfl)) (fun ⟨x0,_⟩ h _ K q=>at126 x0 h K q)
end
noncomputable section
def ext127:Ext:=[]
theorem ext127Ok:ExtOk Tryz.prog ext127:=trivial
noncomputable def b127:Code:=bodyOf Tryz.f127
theorem hb127:Tryz.f127.body=some b127:=by kernel_rfl
def sig127:List AT:=[AT.v YA9]
def tys127:List Ty:=[Ty.int .i64]
def kds127:List RK:=[]
def oks127:List AT:=owns sig127
def P127 (x0:Int×Int×Unit):Prop:=((InR .i64 (x0.1+x0.2.1))∧True)
def g127_0 (x0:Int×Int×Unit):Int:=x0.1+x0.2.1
theorem at127 (x0:Int×Int×Unit) (h:P127 x0) (K:Ctx) (q:Nat→Value):AtV Tryz.prog 127 (PostR kds127 oks127 [⟨Ty.int .i64,g127_0 x0⟩] [] [] q K) 8 K q [] [.code b127] (entE 0 0 sig127 (x0,())) (entL sig127 (x0,())):=by
 unfold P127 at h
 unfold g127_0
 obtain ⟨s0,h⟩:=h
 exact AtV.ret Tryz.func127 tabOk ext127Ok mixed false [] tys127 [] (a1 s0 trivial) (by kernel_rfl)
def S127:Am.Spec:={ sig:=sig127,pre:=fun ⟨x0,_⟩=>P127 x0,res:=fun ⟨x0,_⟩=>[⟨Ty.int .i64,g127_0 x0⟩],kds:=kds127 }
theorem con127:Contract Tryz.prog 127 S127:=contract_of Tryz.func127 hb127 (Nat.le_of_ble_eq_true (by kernel_rfl)) (fun ⟨x0,_⟩ h _ K q=>at127 x0 h K q)
end
noncomputable section
def ext99:Ext:=[(126,S126),(127,S127)]
theorem ext99Ok:ExtOk Tryz.prog ext99:=⟨⟨ca126,con126⟩,⟨ca127,con127⟩,trivial⟩
noncomputable def b99:Code:=bodyOf Tryz.f99
theorem hb99:Tryz.f99.body=some b99:=by kernel_rfl
def sig99:List AT:=[AT.v (Ty.sl YA9)]
def tys99:List Ty:=[Ty.bool]
def kds99:List RK:=[]
def oks99:List AT:=owns sig99
def E99_2 (v7:Int) (x0:List TyB4):Env:=[(0,PV.a (Atom.sl YA9 x0)),(5,PV.a (Atom.sl YA9 x0)),(6,PV.a (Atom.val (Value.int .i64 (↑(List.length x0):Int)))),(7,PV.a (Atom.val (Value.int .i64 v7)))]
def L99_2 (v7:Int) (x0:List TyB4):Heap:=[]
mutual
def R99:Nat→List TyB4→List Dyn→Prop
 | 0,_,_=>False
 | n+1,x0,ds=>(R99_2 n (0) (x0) ds)
def R99_2:Nat→Int→List TyB4→List Dyn→Prop
 | 0,_,_,_=>False
 | n+1,v7,x0,ds=>(if (decide (v7<(↑(List.length x0):Int)))=true then ((0≤v7)∧(v7<(↑(List.length x0):Int))∧((P126 (List.getD x0 (Int.toNat v7) (0,0,())))∧(if (!g126_0 (List.getD x0 (Int.toNat v7) (0,0,())))=true then (ds=[Dyn.mk Ty.bool false]) else (if (decide (v7>0))=true then ((InR .i64 (v7 - 1))∧((0≤v7 - 1)∧(v7 - 1<(↑(List.length x0):Int))∧((P127 (List.getD x0 (Int.toNat (v7 - 1)) (0,0,())))∧(if (decide ((List.getD x0 (Int.toNat v7) (0,0,())).1<g127_0 (List.getD x0 (Int.toNat (v7 - 1)) (0,0,()))))=true then (ds=[Dyn.mk Ty.bool false]) else ((InR .i64 (v7+1))∧(R99_2 n (v7+1) (x0) ds)))))) else ((InR .i64 (v7+1))∧(R99_2 n (v7+1) (x0) ds)))))) else (ds=[Dyn.mk Ty.bool (decide ((↑(List.length x0):Int)≤24))]))
end
theorem snd99:∀ n,(∀ (x0:List TyB4) ds,R99 n x0 ds→∀ K q,AtV Tryz.prog 99 (PostR kds99 oks99 ds [] [] q K) 34 K q [] [.code b99] (entE 0 0 sig99 (x0,())) (entL sig99 (x0,())))∧(∀ (v7:Int) (x0:List TyB4) ds,R99_2 n v7 x0 ds→∀ K q,AtV Tryz.prog 99 (PostR kds99 oks99 ds [] [] q K) 34 K q [] (cutAt b99 2) (E99_2 v7 x0) (L99_2 v7 x0)):=by
 intro n
 induction n with
 | zero=>exact ⟨fun _ _ h=>by simp only [R99] at h,fun _ _ _ h=>by simp only [R99_2] at h⟩
 | succ n ih =>
 obtain ⟨ih,ih2⟩:=ih
 refine ⟨?_,?_⟩
 ·intro x0 ds h K q
  rw [R99] at h
  exact AtV.go tabOk ext99Ok mixed false [] [] [0,5,6,7] [] [] trivial (ih2 _ _ _ h K q) (by kernel_rfl)
 ·intro v7 x0 ds h K q
  rw [R99_2] at h
  by_cases b0:(decide (v7<(↑(List.length x0):Int)))=true
  ·rw [if_pos b0] at h
   obtain ⟨s0,s1,h⟩:=h
   obtain ⟨s2,h⟩:=h
   by_cases b1:(!g126_0 (List.getD x0 (Int.toNat v7) (0,0,())))=true
   ·rw [if_pos b1] at h
    subst h
    exact AtV.ret Tryz.func99 tabOk ext99Ok mixed false [] tys99 [true,true,true] (a1 b0 (a1 s0 (a1 s1 (a1 s2 (a1 b1 (a1 (rfl:true=true) trivial)))))) (by kernel_rfl)
   ·rw [if_neg b1] at h
    replace b1:=Bool.eq_false_iff.2 b1
    by_cases b2:(decide (v7>0))=true
    ·rw [if_pos b2] at h
     obtain ⟨s3,h⟩:=h
     obtain ⟨s4,s5,h⟩:=h
     obtain ⟨s6,h⟩:=h
     by_cases b3:(decide ((List.getD x0 (Int.toNat v7) (0,0,())).1<g127_0 (List.getD x0 (Int.toNat (v7 - 1)) (0,0,()))))=true
     ·rw [if_pos b3] at h
      subst h
      exact AtV.ret Tryz.func99 tabOk ext99Ok mixed false [] tys99 [true,false,true,true] (a1 b0 (a1 s0 (a1 s1 (a1 s2 (a1 b1 (a1 b2 (a1 s3 (a1 s4 (a1 s5 (a1 s6 (a1 b3 trivial))))))))))) (by kernel_rfl)
     ·rw [if_neg b3] at h
      replace b3:=Bool.eq_false_iff.2 b3
      obtain ⟨s7,h⟩:=h
      exact AtV.go tabOk ext99Ok mixed false [] [] [0,5,6,7] [] [true,false,true,false] (a1 b0 (a1 s0 (a1 s1 (a1 s2 (a1 b1 (a1 b2 (a1 s3 (a1 s4 (a1 s5 (a1 s6 (a1 b3 (a1 s7 trivial)))))))))))) (ih2 _ _ _ h K q) (by kernel_rfl)
    ·rw [if_neg b2] at h
     replace b2:=Bool.eq_false_iff.2 b2
     obtain ⟨s3,h⟩:=h
     exact AtV.go tabOk ext99Ok mixed false [] [] [0,5,6,7] [] [true,false,false,false] (a1 b0 (a1 s0 (a1 s1 (a1 s2 (a1 b1 (a1 b2 (a1 (rfl:false=false) (a1 s3 trivial)))))))) (ih2 _ _ _ h K q) (by kernel_rfl)
  ·rw [if_neg b0] at h
   replace b0:=Bool.eq_false_iff.2 b0
   subst h
   exact AtV.ret Tryz.func99 tabOk ext99Ok mixed false [] tys99 [false] (a1 b0 trivial) (by kernel_rfl)
def one99 (x:TyB4):Bool:=g126_0 x
def ok99 (x0:List TyB4) (i:Nat) (x:TyB4):Bool:=one99 x&&(i==0||decide ((x0.getD (i - 1) ((0:Int),(0:Int),())).1+(x0.getD (i - 1) ((0:Int),(0:Int),())).2.1≤x.1))
def g99_0 (x0:List TyB4):Bool:=allI (ok99 x0) 0 x0&&decide ((x0.length:Int)≤24)
def P99 (x0:List TyB4):Prop:=True
theorem in99 {x a b:Int}:g118_0 x a b=true↔a≤x∧x≤b:=by
 unfold g118_0
 by_cases c1:x≥a
 ·by_cases c2:x≤b
  ·simp [c1,c2]
  ·simp [c1,c2]
 ·have:¬ a≤x:=c1
  simp [c1,this]
theorem one99_pre (x:TyB4):P126 x:=by
 unfold P126
 split
 ·rename_i h1
  split
  ·rename_i h2
   have h1:=in99.1 (show g118_0 x.1 0 1440=true from h1)
   have h2:=in99.1 (show g118_0 x.2.1 1 1440=true from h2)
   exact ⟨by rw [i64_iff];omega,trivial⟩
  ·trivial
 ·trivial
theorem one99_b {x:TyB4} (h:one99 x=true):(0≤x.1∧x.1≤1440)∧(1≤x.2.1∧x.2.1≤1440):=by
 unfold one99 g126_0 at h
 split at h
 ·rename_i h0
  split at h
  ·rename_i h1
   exact ⟨in99.1 h0,in99.1 h1⟩
  ·cases h
 ·cases h
theorem run99 (x0:List TyB4) (hm:x0.length≤maxLen):∀ (k i:Nat),i+k=x0.length→(∀ j,j<i→one99 (x0.getD j ((0:Int),(0:Int),()))=true) →
  R99_2 (k+1) (i:Int) x0 [⟨.bool,allI (ok99 x0) i (x0.drop i)&&decide ((x0.length:Int)≤24)⟩]:=by
 intro k
 induction k with
 | zero =>
  intro i hi _
  rw [R99_2,if_neg (by simp only [decide_eq_true_eq];omega),drop_end _ _ (by omega)]
  rfl
 | succ k ih =>
  intro i hi hp
  have hlt:i<x0.length:=by omega
  have hu:=inR_up hm hlt
  have hmx:maxLen≤9223372036854775807:=by decide
  rw [R99_2,if_pos (by simp only [decide_eq_true_eq];omega),drop_get x0 i ((0:Int),(0:Int),()) hlt]
  simp only [Int.toNat_natCast,allI]
  refine ⟨by omega,by omega,one99_pre _,?_⟩
  cases h1:one99 (x0.getD i ((0:Int),(0:Int),())) with
  | false =>
   unfold one99 at h1
   rw [if_pos (by rw [h1];rfl)]
   have:ok99 x0 i (x0.getD i ((0:Int),(0:Int),()))=false:=by unfold ok99 one99;rw [h1];rfl
   rw [this];rfl
  | true =>
   have h1':=h1
   unfold one99 at h1
   rw [if_neg (by rw [h1];simp)]
   have hnext:=ih (i+1) (by omega) (fun j hj=>by
    rcases Nat.lt_or_ge j i with h | h
    ·exact hp j h
    ·have:j=i:=by omega
     subst this;exact h1')
   have e1:(((i+1:Nat)):Int)=(i:Int)+1:=by omega
   rw [e1] at hnext
   by_cases h0:(i:Int)>0
   ·rw [if_pos (by simpa using h0)]
    have hi0:(i==0)=false:=by simp;omega
    have e:((i:Int) - 1).toNat=i - 1:=by omega
    obtain ⟨b1,b2⟩:=one99_b (hp (i - 1) (by omega))
    have hd:InR .i64 ((i:Int) - 1):=by rw [i64_iff];omega
    simp only [e]
    refine ⟨hd,by omega,by omega,⟨by rw [i64_iff];show _≤(x0.getD (i - 1) ((0:Int),(0:Int),())).1+(x0.getD (i - 1) ((0:Int),(0:Int),())).2.1∧_;omega,trivial⟩,?_⟩
    by_cases hc:(x0.getD (i - 1) ((0:Int),(0:Int),())).1+(x0.getD (i - 1) ((0:Int),(0:Int),())).2.1≤(x0.getD i ((0:Int),(0:Int),())).1
    ·rw [if_neg (by show ¬ decide ((x0.getD i ((0:Int),(0:Int),())).1<(x0.getD (i - 1) ((0:Int),(0:Int),())).1+(x0.getD (i - 1) ((0:Int),(0:Int),())).2.1)=true;rw [decide_eq_true_eq];omega)]
     have:ok99 x0 i (x0.getD i ((0:Int),(0:Int),()))=true:=by unfold ok99;rw [h1',hi0,decide_eq_true hc];rfl
     rw [this,Bool.true_and]
     exact ⟨hu,hnext⟩
    ·rw [if_pos (by show decide ((x0.getD i ((0:Int),(0:Int),())).1<(x0.getD (i - 1) ((0:Int),(0:Int),())).1+(x0.getD (i - 1) ((0:Int),(0:Int),())).2.1)=true;rw [decide_eq_true_eq];omega)]
     have:ok99 x0 i (x0.getD i ((0:Int),(0:Int),()))=false:=by unfold ok99;rw [hi0,decide_eq_false hc,Bool.or_false,Bool.and_false]
     rw [this,Bool.false_and,Bool.false_and]
   ·rw [if_neg (by simpa using h0)]
    have hi0:(i==0)=true:=by simp;omega
    have:ok99 x0 i (x0.getD i ((0:Int),(0:Int),()))=true:=by unfold ok99;rw [h1',hi0];rfl
    rw [this,Bool.true_and]
    exact ⟨hu,hnext⟩
theorem top99 (x0:List TyB4) (hw:x0.length≤maxLen):R99 (x0.length+1+1) x0 [⟨.bool,g99_0 x0⟩]:=by
 rw [R99]
 exact run99 x0 hw x0.length 0 (by omega) (fun j hj=>by omega)
def S99:Am.Spec:={ sig:=sig99,pre:=fun ⟨x0,_⟩=>P99 x0,res:=fun ⟨x0,_⟩=>[⟨Ty.bool,g99_0 x0⟩] }
theorem con99:Contract Tryz.prog 99 S99:=contract_of Tryz.func99 hb99 (Nat.le_of_ble_eq_true (by kernel_rfl)) (fun ⟨x0,_⟩ h hwf K q =>
 (snd99 _).1 x0 _ (top99 x0 hwf.1.1) K q)
end
noncomputable section
def ext144:Ext:=[(118,S118)]
theorem ext144Ok:ExtOk Tryz.prog ext144:=⟨⟨ca118,con118⟩,trivial⟩
noncomputable def b144:Code:=bodyOf Tryz.f144
theorem hb144:Tryz.f144.body=some b144:=by kernel_rfl
def sig144:List AT:=[AT.v (Ty.int .i64)]
def tys144:List Ty:=[Ty.bool]
def kds144:List RK:=[]
def oks144:List AT:=owns sig144
def P144 (x0:Int):Prop:=True
def g144_0 (x0:Int):Bool:=g118_0 x0 0 1439
theorem at144 (x0:Int) (h:P144 x0) (K:Ctx) (q:Nat→Value):AtV Tryz.prog 144 (PostR kds144 oks144 [⟨Ty.bool,g144_0 x0⟩] [] [] q K) 5 K q [] [.code b144] (entE 0 0 sig144 (x0,())) (entL sig144 (x0,())):=by
 unfold P144 at h
 unfold g144_0
 exact AtV.ret Tryz.func144 tabOk ext144Ok mixed false [] tys144 [] (a1 trivial trivial) (by kernel_rfl)
def S144:Am.Spec:={ sig:=sig144,pre:=fun ⟨x0,_⟩=>P144 x0,res:=fun ⟨x0,_⟩=>[⟨Ty.bool,g144_0 x0⟩],kds:=kds144 }
theorem con144:Contract Tryz.prog 144 S144:=contract_of Tryz.func144 hb144 (Nat.le_of_ble_eq_true (by kernel_rfl)) (fun ⟨x0,_⟩ h _ K q=>at144 x0 h K q)
end
end Go.Proofs.YthpljjnbniefpaaGreatDoor
set_option linter.unusedVariables false
set_option maxRecDepth 100000
namespace Go.Proofs
open Go.Shelf
def Tryz.laysM173_ren:Go.Shelf.Ren:=⟨fun | 173=>105 | 246=>131 | 283=>147 | 284=>148 | 285=>149 | 286=>150 | 129=>162 | 317=>161 | 318=>163 | 319=>164 | 320=>165 | 337=>173 | 338=>174 | n=>n,fun | 2=>2 | 3=>3 | 9=>9 | 4=>4 | 171=>199 | 0=>0 | 53=>200 | 37=>146 | 5=>5 | 173=>203 | 212=>213 | 51=>214 | 20=>20 | 213=>215 | 46=>217 | 232=>227 | 233=>228 | n=>n,fun | 17=>0 | 18=>1 | 19=>2 | n=>n⟩
theorem Tryz.laysM173:Go.Proofs.LaysM.n173 Tryz.prog Tryz.laysM173_ren:={
 mixed:=by kernel_rfl
 f129:=Tryz.func162.trans (congrArg some (by kernel_rfl))
 f173:=Tryz.func105.trans (congrArg some (by kernel_rfl))
 f246:=Tryz.func131.trans (congrArg some (by kernel_rfl))
 f283:=Tryz.func147.trans (congrArg some (by kernel_rfl))
 f284:=Tryz.func148.trans (congrArg some (by kernel_rfl))
 f285:=Tryz.func149.trans (congrArg some (by kernel_rfl))
 f286:=Tryz.func150.trans (congrArg some (by kernel_rfl))
 f317:=Tryz.func161.trans (congrArg some (by kernel_rfl))
 f318:=Tryz.func163.trans (congrArg some (by kernel_rfl))
 f319:=Tryz.func164.trans (congrArg some (by kernel_rfl))
 f320:=Tryz.func165.trans (congrArg some (by kernel_rfl))
 f337:=Tryz.func173.trans (congrArg some (by kernel_rfl))
 f338:=Tryz.func174.trans (congrArg some (by kernel_rfl))
 t0:=Tryz.underlying0
 a0:=Tryz.isAgg0
 z0:=Tryz.sizeOf0
 v0:=Tryz.zeroValue0
 t2:=Tryz.underlying2
 a2:=Tryz.isAgg2
 z2:=Tryz.sizeOf2
 v2:=Tryz.zeroValue2
 t3:=Tryz.underlying3
 a3:=Tryz.isAgg3
 z3:=Tryz.sizeOf3
 v3:=Tryz.zeroValue3
 t4:=Tryz.underlying4
 a4:=Tryz.isAgg4
 z4:=Tryz.sizeOf4
 v4:=Tryz.zeroValue4
 t5:=Tryz.underlying5
 a5:=Tryz.isAgg5
 z5:=Tryz.sizeOf5
 v5:=Tryz.zeroValue5
 t9:=Tryz.underlying9
 a9:=Tryz.isAgg9
 z9:=Tryz.sizeOf9
 v9:=Tryz.zeroValue9
 t20:=Tryz.underlying20
 a20:=Tryz.isAgg20
 z20:=Tryz.sizeOf20
 v20:=Tryz.zeroValue20
 t37:=Tryz.underlying146
 a37:=Tryz.isAgg146
 z37:=Tryz.sizeOf146
 v37:=Tryz.zeroValue146
 t46:=Tryz.underlying217
 a46:=Tryz.isAgg217
 z46:=Tryz.sizeOf217
 v46:=Tryz.zeroValue217
 t51:=Tryz.underlying214
 a51:=Tryz.isAgg214
 z51:=Tryz.sizeOf214
 v51:=Tryz.zeroValue214
 t53:=Tryz.underlying200
 a53:=Tryz.isAgg200
 z53:=Tryz.sizeOf200
 v53:=Tryz.zeroValue200
 t171:=Tryz.underlying199
 a171:=Tryz.isAgg199
 z171:=Tryz.sizeOf199
 v171:=Tryz.zeroValue199
 t173:=Tryz.underlying203
 a173:=Tryz.isAgg203
 z173:=Tryz.sizeOf203
 v173:=Tryz.zeroValue203
 t212:=Tryz.underlying213
 a212:=Tryz.isAgg213
 z212:=Tryz.sizeOf213
 v212:=Tryz.zeroValue213
 t213:=Tryz.underlying215
 a213:=Tryz.isAgg215
 z213:=Tryz.sizeOf215
 t232:=Tryz.underlying227
 a232:=Tryz.isAgg227
 z232:=Tryz.sizeOf227
 v232:=Tryz.zeroValue227
 t233:=Tryz.underlying228
 a233:=Tryz.isAgg228
 z233:=Tryz.sizeOf228
 v233:=Tryz.zeroValue228
 g17:=by kernel_rfl
 g18:=by kernel_rfl
 g19:=by kernel_rfl
 i0:=by kernel_rfl
 i2:=by kernel_rfl
 i3:=by kernel_rfl
 i4:=by kernel_rfl
 i5:=by kernel_rfl
 i9:=by kernel_rfl
 i20:=by kernel_rfl
 i37:=by kernel_rfl
 i46:=by kernel_rfl
 i51:=by kernel_rfl
 i53:=by kernel_rfl
 i171:=by kernel_rfl
 i173:=by kernel_rfl
 i212:=by kernel_rfl
 i232:=by kernel_rfl
 i233:=by kernel_rfl
 m17:=by kernel_rfl
 m18:=by kernel_rfl
 m19:=by kernel_rfl }
open Go.RowKit Go.Sort Go.Lib in theorem Tryz.strconv_FormatInt_10 (n : Int) (h0 : -9223372036854775808 ≤ n) (h1 : n ≤ 9223372036854775807) (w : World) (htab : Lib.TabIs Tryz.prog w "internal/strconv.uint64pow10" .u64 Lib.pow10Tab) :
    Calls Tryz.prog 105 #[.int .i64 n, .int .i64 10] w fun e w' => e = .returned (.string ⟨(Lib.itoa n).toArray⟩) ∧ ∃ k os, w' = grow (w.drewN k) os := Any.strconv_FormatInt_10 Tryz.laysM173 n h0 h1 w htab
def Tryz.lays146_ren:Go.Shelf.Ren:=⟨fun | 146=>158 | 221=>170 | 268=>176 | 138=>177 | 143=>178 | 195=>180 | 197=>181 | 218=>182 | 219=>183 | 260=>184 | 217=>185 | 225=>186 | 224=>187 | 267=>188 | 266=>189 | 314=>190 | n=>n,fun | 9=>9 | 31=>137 | 3=>3 | 4=>4 | 0=>0 | 105=>230 | 21=>21 | 5=>5 | 46=>217 | 119=>233 | 139=>236 | 138=>235 | 146=>237 | 51=>214 | n=>n,fun | 1=>3 | 3=>4 | 4=>5 | n=>n⟩
theorem Tryz.lays146:Go.Proofs.Lays.n146 Tryz.prog Tryz.lays146_ren:={
 mixed:=by kernel_rfl
 f138:=Tryz.func177.trans (congrArg some (by kernel_rfl))
 f143:=Tryz.func178.trans (congrArg some (by kernel_rfl))
 f146:=Tryz.func158.trans (congrArg some (by kernel_rfl))
 f195:=Tryz.func180.trans (congrArg some (by kernel_rfl))
 f197:=Tryz.func181.trans (congrArg some (by kernel_rfl))
 f217:=Tryz.func185.trans (congrArg some (by kernel_rfl))
 f218:=Tryz.func182.trans (congrArg some (by kernel_rfl))
 f219:=Tryz.func183.trans (congrArg some (by kernel_rfl))
 f221:=Tryz.func170.trans (congrArg some (by kernel_rfl))
 f224:=Tryz.func187.trans (congrArg some (by kernel_rfl))
 f225:=Tryz.func186.trans (congrArg some (by kernel_rfl))
 f260:=Tryz.func184.trans (congrArg some (by kernel_rfl))
 f266:=Tryz.func189.trans (congrArg some (by kernel_rfl))
 f267:=Tryz.func188.trans (congrArg some (by kernel_rfl))
 f268:=Tryz.func176.trans (congrArg some (by kernel_rfl))
 f314:=Tryz.func190.trans (congrArg some (by kernel_rfl))
 t0:=Tryz.underlying0
 a0:=Tryz.isAgg0
 z0:=Tryz.sizeOf0
 v0:=Tryz.zeroValue0
 t3:=Tryz.underlying3
 a3:=Tryz.isAgg3
 z3:=Tryz.sizeOf3
 v3:=Tryz.zeroValue3
 t4:=Tryz.underlying4
 a4:=Tryz.isAgg4
 z4:=Tryz.sizeOf4
 v4:=Tryz.zeroValue4
 t5:=Tryz.underlying5
 a5:=Tryz.isAgg5
 z5:=Tryz.sizeOf5
 v5:=Tryz.zeroValue5
 t9:=Tryz.underlying9
 a9:=Tryz.isAgg9
 z9:=Tryz.sizeOf9
 v9:=Tryz.zeroValue9
 t21:=Tryz.underlying21
 a21:=Tryz.isAgg21
 z21:=Tryz.sizeOf21
 v21:=Tryz.zeroValue21
 t31:=Tryz.underlying137
 a31:=Tryz.isAgg137
 z31:=Tryz.sizeOf137
 v31:=Tryz.zeroValue137
 t46:=Tryz.underlying217
 a46:=Tryz.isAgg217
 z46:=Tryz.sizeOf217
 v46:=Tryz.zeroValue217
 t51:=Tryz.underlying214
 a51:=Tryz.isAgg214
 z51:=Tryz.sizeOf214
 v51:=Tryz.zeroValue214
 t105:=Tryz.underlying230
 a105:=Tryz.isAgg230
 z105:=Tryz.sizeOf230
 v105:=Tryz.zeroValue230
 t119:=Tryz.underlying233
 a119:=Tryz.isAgg233
 z119:=Tryz.sizeOf233
 t138:=Tryz.underlying235
 a138:=Tryz.isAgg235
 z138:=Tryz.sizeOf235
 v138:=Tryz.zeroValue235
 t139:=Tryz.underlying236
 a139:=Tryz.isAgg236
 z139:=Tryz.sizeOf236
 v139:=Tryz.zeroValue236
 t146:=Tryz.underlying237
 a146:=Tryz.isAgg237
 z146:=Tryz.sizeOf237
 v146:=Tryz.zeroValue237
 g1:=by kernel_rfl
 g3:=by kernel_rfl
 g4:=by kernel_rfl }
open Go.RowKit Go.Lib in theorem Tryz.strings_Split (s sep : ByteArray) (m : Int) (w : World) (hs : s.size < 4294967281) (hm : w.cell? ⟨3, 0, none⟩ = some (.int .i64 m)) (h1 : 1 ≤ sep.size) :
    Calls Tryz.prog 158 #[.string s, .string sep] w fun e w' =>
      e = .returned (.slice (some ⟨w.heap.size, 0, none⟩) (Lib.countB s sep + 1) (Lib.countB s sep + 1)) ∧ w' = w.alloc (.cells ((Lib.splitB sep 0 (Lib.countB s sep) s).map Value.string).toArray 9) := Any.strings_Split Tryz.lays146 (by kernel_rfl) s sep m w hs hm h1
end Go.Proofs
set_option linter.unusedVariables false
set_option linter.unusedSimpArgs false
set_option maxRecDepth 100000
namespace Go.Proofs.YthpljjnbniefpaaGreatDoor
open Go Go.Am Go.Proofs
def sig158:List AT:=[AT.v Ty.str,AT.v Ty.str]
def g158_0 (x0 x1:ByteArray):List ByteArray:=Lib.splitB x1 0 (Lib.countB x0 x1) x0
def P158 (x0 x1:ByteArray):Prop:=x0.size<4294967281∧1≤x1.size
def S158:Am.Spec:={ sig:=sig158,pre:=fun ⟨x0,x1,_⟩=>P158 x0 x1,res:=fun ⟨x0,x1,_⟩=>[⟨Ty.sl Ty.str,g158_0 x0 x1⟩] }
theorem con158:Contract Tryz.prog 158 S158:=by
 refine Contract0.up rfl rfl ?_
 rintro w ⟨x0,x1,u⟩ vs bss hgo hp ⟨v0,s0,b0,bs0,rfl,rfl,⟨rfl,rfl,_⟩,v1,s1,b1,bs1,rfl,rfl,⟨rfl,rfl,_⟩,rfl,rfl⟩ hn
 obtain ⟨hs,h1⟩:x0.size<4294967281∧1≤x1.size:=hp
 obtain ⟨m,hm⟩:=maxLenG hgo.inv
 refine (Tryz.strings_Split x0 x1 m w hs hm h1).mono ?_
 rintro e w' ⟨rfl,rfl⟩
 have hlen:(g158_0 x0 x1).length=Lib.countB x0 x1+1:=Lib.splitB_all x1 h1 0 _ _ rfl
 have hle:=Lib.countB_le x1 h1 x0.size x0 (Nat.le_refl _)
 have hparts:∀ y∈g158_0 x0 x1,y.size≤maxLen:=fun y hy=>by
  have:=splitB_part x1 0 _ _ y hy
  unfold maxLen;omega
 have e1:∀ xs:List ByteArray,fcs .str xs=xs.map Value.string:=by
  intro xs
  induction xs with
  | nil=>rfl
  | cons a r ih=>unfold fcs at ih ⊢;rw [List.map_cons,List.flatten_cons,ih];rfl
 have ho:OwnC (w.alloc (.cells ((g158_0 x0 x1).map Value.string).toArray 9)) (.sl .str) (g158_0 x0 x1) [.slice (some ⟨w.heap.size,0,none⟩) (Lib.countB x0 x1+1) (Lib.countB x0 x1+1)] [w.heap.size] :=
  own_flat_mk rfl hparts hlen.symm (Nat.le_of_eq hlen) (by unfold maxLen;omega) (by rw [List.size_toArray,List.length_map,hlen];simp [Ty.size]) (heap_new w _) (freeS_zero _ _) (fun j u hj=>by
   rw [e1] at hj
   rw [Nat.zero_add, ← Array.getElem?_toList]
   exact hj)
 refine ⟨[_],[],[[w.heap.size]],rfl,(Kept.refl _ _).alloc _,⟨_,_,_,_,_,rfl,rfl,ho,rfl,rfl,rfl⟩,⟨rfl,rfl⟩,by simp,fun b hb hg => ?_⟩
 simp at hb
 have:=hg.1
 omega
noncomputable section
def ext172:Ext:=[]
theorem ext172Ok:ExtOk Tryz.prog ext172:=trivial
noncomputable def b172:Code:=bodyOf Tryz.f172
theorem hb172:Tryz.f172.body=some b172:=by kernel_rfl
def sig172:List AT:=[AT.v (Ty.int .u8)]
def tys172:List Ty:=[Ty.bool]
def kds172:List RK:=[]
def oks172:List AT:=owns sig172
def P172 (x0:Int):Prop:=True
def g172_0 (x0:Int):Bool:=(if (decide (x0<97))=true then (if (decide (x0<48))=true then true else decide (x0>57)) else (if (decide (x0>122))=true then (if (decide (x0<48))=true then true else decide (x0>57)) else false))
theorem at172 (x0:Int) (h:P172 x0) (K:Ctx) (q:Nat→Value):AtV Tryz.prog 172 (PostR kds172 oks172 [⟨Ty.bool,g172_0 x0⟩] [] [] q K) 17 K q [] [.code b172] (entE 0 0 sig172 (x0,())) (entL sig172 (x0,())):=by
 unfold P172 at h
 unfold g172_0
 by_cases b0:(decide (x0<97))=true
 ·try simp only [if_pos b0] at h ⊢
  by_cases b1:(decide (x0<48))=true
  ·try simp only [if_pos b1] at h ⊢
   exact AtV.ret Tryz.func172 tabOk ext172Ok mixed false [] tys172 [true,true,true] (a1 b0 (a1 (rfl:true=true) (a1 b1 trivial))) (by kernel_rfl)
  ·try simp only [if_neg b1] at h ⊢
   replace b1:=Bool.eq_false_iff.2 b1
   exact AtV.ret Tryz.func172 tabOk ext172Ok mixed false [] tys172 [true,true,false] (a1 b0 (a1 (rfl:true=true) (a1 b1 trivial))) (by kernel_rfl)
 ·try simp only [if_neg b0] at h ⊢
  replace b0:=Bool.eq_false_iff.2 b0
  by_cases b1:(decide (x0>122))=true
  ·try simp only [if_pos b1] at h ⊢
   by_cases b2:(decide (x0<48))=true
   ·try simp only [if_pos b2] at h ⊢
    exact AtV.ret Tryz.func172 tabOk ext172Ok mixed false [] tys172 [false,true,true] (a1 b0 (a1 b1 (a1 b2 trivial))) (by kernel_rfl)
   ·try simp only [if_neg b2] at h ⊢
    replace b2:=Bool.eq_false_iff.2 b2
    exact AtV.ret Tryz.func172 tabOk ext172Ok mixed false [] tys172 [false,true,false] (a1 b0 (a1 b1 (a1 b2 trivial))) (by kernel_rfl)
  ·try simp only [if_neg b1] at h ⊢
   replace b1:=Bool.eq_false_iff.2 b1
   exact AtV.ret Tryz.func172 tabOk ext172Ok mixed false [] tys172 [false,false] (a1 b0 (a1 b1 trivial)) (by kernel_rfl)
def S172:Am.Spec:={ sig:=sig172,pre:=fun ⟨x0,_⟩=>P172 x0,res:=fun ⟨x0,_⟩=>[⟨Ty.bool,g172_0 x0⟩],kds:=kds172 }
theorem con172:Contract Tryz.prog 172 S172:=contract_of Tryz.func172 hb172 (Nat.le_of_ble_eq_true (by kernel_rfl)) (fun ⟨x0,_⟩ h _ K q=>at172 x0 h K q)
end
noncomputable section
def ext179c172:Ext:=[(172,S172)]
theorem ext179c172Ok:ExtOk Tryz.prog ext179c172:=⟨⟨ca172,con172⟩,trivial⟩
noncomputable def b179c172:Code:=bodyOf Tryz.f179
theorem hb179c172:Tryz.f179.body=some b179c172:=by kernel_rfl
def sig179c172:List AT:=[AT.v (Ty.sl (Ty.int .u8)),AT.fn 172 []]
def tys179c172:List Ty:=[Ty.int .i64]
def kds179c172:List RK:=[]
def oks179c172:List AT:=owns sig179c172
def E179c172_2 (v8:Int) (x0:List Int):Env:=[(0,PV.a (Atom.sl (Ty.int .u8) x0)),(1,PV.fn 172 []),(7,PV.a (Atom.val (Value.int .i64 (↑(List.length x0):Int)))),(8,PV.a (Atom.val (Value.int .i64 v8)))]
def L179c172_2 (v8:Int) (x0:List Int):Heap:=[]
mutual
def R179c172:Nat→List Int→List Dyn→Prop
 | 0,_,_=>False
 | n+1,x0,ds=>(R179c172_2 n (0) (x0) ds)
def R179c172_2:Nat→Int→List Int→List Dyn→Prop
 | 0,_,_,_=>False
 | n+1,v8,x0,ds=>(if (decide (v8<(↑(List.length x0):Int)))=true then ((0≤v8)∧(v8<(↑(List.length x0):Int))∧(if (g172_0 (List.getD x0 (Int.toNat v8) 0))=true then (ds=[Dyn.mk (Ty.int .i64) v8]) else ((InR .i64 (v8+1))∧(R179c172_2 n (v8+1) (x0) ds)))) else (ds=[Dyn.mk (Ty.int .i64) (-1)]))
end
theorem snd179c172:∀ n,(∀ (x0:List Int) ds,R179c172 n x0 ds→∀ K q,AtV Tryz.prog 179 (PostR kds179c172 oks179c172 ds [] [] q K) 19 K q [] [.code b179c172] (entE 0 0 sig179c172 (x0,(),())) (entL sig179c172 (x0,(),())))∧(∀ (v8:Int) (x0:List Int) ds,R179c172_2 n v8 x0 ds→∀ K q,AtV Tryz.prog 179 (PostR kds179c172 oks179c172 ds [] [] q K) 19 K q [] (cutAt b179c172 2) (E179c172_2 v8 x0) (L179c172_2 v8 x0)):=by
 intro n
 induction n with
 | zero=>exact ⟨fun _ _ h=>by simp only [R179c172] at h,fun _ _ _ h=>by simp only [R179c172_2] at h⟩
 | succ n ih =>
 obtain ⟨ih,ih2⟩:=ih
 refine ⟨?_,?_⟩
 ·intro x0 ds h K q
  rw [R179c172] at h
  exact AtV.go tabOk ext179c172Ok mixed false [] [] [0,1,7,8] [] [] trivial (ih2 _ _ _ h K q) (by kernel_rfl)
 ·intro v8 x0 ds h K q
  rw [R179c172_2] at h
  by_cases b0:(decide (v8<(↑(List.length x0):Int)))=true
  ·rw [if_pos b0] at h
   obtain ⟨s0,s1,h⟩:=h
   by_cases b1:(g172_0 (List.getD x0 (Int.toNat v8) 0))=true
   ·rw [if_pos b1] at h
    subst h
    exact AtV.ret Tryz.func179 tabOk ext179c172Ok mixed false [] tys179c172 [true,true] (a1 b0 (a1 s0 (a1 s1 (a1 trivial (a1 b1 trivial))))) (by kernel_rfl)
   ·rw [if_neg b1] at h
    replace b1:=Bool.eq_false_iff.2 b1
    obtain ⟨s2,h⟩:=h
    exact AtV.go tabOk ext179c172Ok mixed false [] [] [0,1,7,8] [] [true,false] (a1 b0 (a1 s0 (a1 s1 (a1 trivial (a1 b1 (a1 s2 trivial)))))) (ih2 _ _ _ h K q) (by kernel_rfl)
  ·rw [if_neg b0] at h
   replace b0:=Bool.eq_false_iff.2 b0
   subst h
   exact AtV.ret Tryz.func179 tabOk ext179c172Ok mixed false [] tys179c172 [false] (a1 b0 trivial) (by kernel_rfl)
def g179c172_0 (x0:List (Int)):Int:=idx (x0.findIdx? g172_0)
def P179c172 (x0:List (Int)):Prop:=True
theorem top179c172 (x0:List (Int)) (hm:x0.length≤maxLen):R179c172 (x0.length+1+1) x0 [⟨.int .i64,g179c172_0 x0⟩]:=by
 rw [R179c172]
 have key:=loop_find x0 (0:Int) g172_0 [(⟨.int .i64, -1⟩:Dyn)] (fun k=>[⟨.int .i64,k⟩]) (fun n i ds=>R179c172_2 n i x0 ds) (fun n => ?_) (fun n i hi hok ds hr => ?_) (fun n i hi hok => ?_)
 ·unfold g179c172_0
  cases h:x0.findIdx? g172_0 <;> rw [h] at key <;> exact key
 ·rw [R179c172_2,if_neg (by simp)]
 ·rw [R179c172_2,if_pos (by simp;omega)]
  simp only [Int.toNat_natCast]
  refine ⟨by omega,by omega,?_⟩
  rw [if_neg (by rw [hok];simp)]
  exact ⟨inR_up hm hi,hr⟩
 ·rw [R179c172_2,if_pos (by simp;omega)]
  simp only [Int.toNat_natCast]
  refine ⟨by omega,by omega,?_⟩
  rw [if_pos hok] <;> trivial
def S179c172:Am.Spec:={ sig:=sig179c172,pre:=fun ⟨x0,_⟩=>P179c172 x0,res:=fun ⟨x0,_⟩=>[⟨Ty.int .i64,g179c172_0 x0⟩] }
theorem con179c172:Contract Tryz.prog 179 S179c172:=contract_of Tryz.func179 hb179c172 (Nat.le_of_ble_eq_true (by kernel_rfl)) (fun ⟨x0,_⟩ h hwf K q =>
 (snd179c172 _).1 x0 _ (top179c172 x0 hwf.1.1) K q)
theorem any179c172 (x0:List (Int)):decide (g179c172_0 x0≥0)=x0.any g172_0:=by
 have:=findIdx_any g172_0 x0
 unfold g179c172_0
 cases h:x0.any g172_0 with
 | true=>rw [h] at this;simpa using this
 | false=>rw [h] at this;simpa using this
end
noncomputable section
def ext171c172:Ext:=[(179,S179c172),(172,S172)]
theorem ext171c172Ok:ExtOk Tryz.prog ext171c172:=⟨⟨ca179,con179c172⟩,⟨ca172,con172⟩,trivial⟩
noncomputable def b171c172:Code:=bodyOf Tryz.f171
theorem hb171c172:Tryz.f171.body=some b171c172:=by kernel_rfl
def sig171c172:List AT:=[AT.v (Ty.sl (Ty.int .u8)),AT.fn 172 []]
def tys171c172:List Ty:=[Ty.bool]
def kds171c172:List RK:=[]
def oks171c172:List AT:=owns sig171c172
def P171c172 (x0:List Int):Prop:=True
def g171c172_0 (x0:List Int):Bool:=decide (g179c172_0 x0≥0)
theorem at171c172 (x0:List Int) (h:P171c172 x0) (K:Ctx) (q:Nat→Value):AtV Tryz.prog 171 (PostR kds171c172 oks171c172 [⟨Ty.bool,g171c172_0 x0⟩] [] [] q K) 9 K q [] [.code b171c172] (entE 0 0 sig171c172 (x0,(),())) (entL sig171c172 (x0,(),())):=by
 unfold P171c172 at h
 unfold g171c172_0
 exact AtV.ret Tryz.func171 tabOk ext171c172Ok mixed false [] tys171c172 [] (a1 trivial trivial) (by kernel_rfl)
def S171c172:Am.Spec:={ sig:=sig171c172,pre:=fun ⟨x0,_⟩=>P171c172 x0,res:=fun ⟨x0,_⟩=>[⟨Ty.bool,g171c172_0 x0⟩],kds:=kds171c172 }
theorem con171c172:Contract Tryz.prog 171 S171c172:=contract_of Tryz.func171 hb171c172 (Nat.le_of_ble_eq_true (by kernel_rfl)) (fun ⟨x0,_⟩ h _ K q=>at171c172 x0 h K q)
end
noncomputable section
def ext160:Ext:=[(171,S171c172)]
theorem ext160Ok:ExtOk Tryz.prog ext160:=⟨⟨ca171,con171c172⟩,trivial⟩
noncomputable def b160:Code:=bodyOf Tryz.f160
theorem hb160:Tryz.f160.body=some b160:=by kernel_rfl
def sig160:List AT:=[AT.v (Ty.str)]
def tys160:List Ty:=[Ty.bool]
def kds160:List RK:=[]
def oks160:List AT:=owns sig160
def P160 (x0:ByteArray):Prop:=True
def g160_0 (x0:ByteArray):Bool:=(if (!ByteArray.toList x0==ByteArray.toList (ByteArray.mk #[]))=true then !g171c172_0 (bytesOf x0) else false)
theorem at160 (x0:ByteArray) (h:P160 x0) (K:Ctx) (q:Nat→Value):AtV Tryz.prog 160 (PostR kds160 oks160 [⟨Ty.bool,g160_0 x0⟩] [] [] q K) 11 K q [] [.code b160] (entE 0 0 sig160 (x0,())) (entL sig160 (x0,())):=by
 unfold P160 at h
 unfold g160_0
 by_cases b0:(!ByteArray.toList x0==ByteArray.toList (ByteArray.mk #[]))=true
 ·try simp only [if_pos b0] at h ⊢
  exact AtV.ret Tryz.func160 tabOk ext160Ok mixed false [] tys160 [true] (a1 b0 (a1 trivial trivial)) (by kernel_rfl)
 ·try simp only [if_neg b0] at h ⊢
  replace b0:=Bool.eq_false_iff.2 b0
  exact AtV.ret Tryz.func160 tabOk ext160Ok mixed false [] tys160 [false] (a1 b0 trivial) (by kernel_rfl)
def S160:Am.Spec:={ sig:=sig160,pre:=fun ⟨x0,_⟩=>P160 x0,res:=fun ⟨x0,_⟩=>[⟨Ty.bool,g160_0 x0⟩],kds:=kds160 }
theorem con160:Contract Tryz.prog 160 S160:=contract_of Tryz.func160 hb160 (Nat.le_of_ble_eq_true (by kernel_rfl)) (fun ⟨x0,_⟩ h _ K q=>at160 x0 h K q)
end
noncomputable section
def ext159:Ext:=[(160,S160)]
theorem ext159Ok:ExtOk Tryz.prog ext159:=⟨⟨ca160,con160⟩,trivial⟩
noncomputable def b159:Code:=bodyOf Tryz.f159
theorem hb159:Tryz.f159.body=some b159:=by kernel_rfl
def sig159:List AT:=[AT.v (Ty.str)]
def tys159:List Ty:=[Ty.bool]
def kds159:List RK:=[]
def oks159:List AT:=owns sig159
def P159 (x0:ByteArray):Prop:=True
def g159_0 (x0:ByteArray):Bool := !g160_0 x0
theorem at159 (x0:ByteArray) (h:P159 x0) (K:Ctx) (q:Nat→Value):AtV Tryz.prog 159 (PostR kds159 oks159 [⟨Ty.bool,g159_0 x0⟩] [] [] q K) 6 K q [] [.code b159] (entE 0 0 sig159 (x0,())) (entL sig159 (x0,())):=by
 unfold P159 at h
 unfold g159_0
 exact AtV.ret Tryz.func159 tabOk ext159Ok mixed false [] tys159 [] (a1 trivial trivial) (by kernel_rfl)
def S159:Am.Spec:={ sig:=sig159,pre:=fun ⟨x0,_⟩=>P159 x0,res:=fun ⟨x0,_⟩=>[⟨Ty.bool,g159_0 x0⟩],kds:=kds159 }
theorem con159:Contract Tryz.prog 159 S159:=contract_of Tryz.func159 hb159 (Nat.le_of_ble_eq_true (by kernel_rfl)) (fun ⟨x0,_⟩ h _ K q=>at159 x0 h K q)
end
noncomputable section
def ext169c159:Ext:=[(159,S159)]
theorem ext169c159Ok:ExtOk Tryz.prog ext169c159:=⟨⟨ca159,con159⟩,trivial⟩
noncomputable def b169c159:Code:=bodyOf Tryz.f169
theorem hb169c159:Tryz.f169.body=some b169c159:=by kernel_rfl
def sig169c159:List AT:=[AT.v (Ty.sl Ty.str),AT.fn 159 []]
def tys169c159:List Ty:=[Ty.int .i64]
def kds169c159:List RK:=[]
def oks169c159:List AT:=owns sig169c159
def E169c159_2 (v8:Int) (x0:List ByteArray):Env:=[(0,PV.a (Atom.sl Ty.str x0)),(1,PV.fn 159 []),(7,PV.a (Atom.val (Value.int .i64 (↑(List.length x0):Int)))),(8,PV.a (Atom.val (Value.int .i64 v8)))]
def L169c159_2 (v8:Int) (x0:List ByteArray):Heap:=[]
mutual
def R169c159:Nat→List ByteArray→List Dyn→Prop
 | 0,_,_=>False
 | n+1,x0,ds=>(R169c159_2 n (0) (x0) ds)
def R169c159_2:Nat→Int→List ByteArray→List Dyn→Prop
 | 0,_,_,_=>False
 | n+1,v8,x0,ds=>(if (decide (v8<(↑(List.length x0):Int)))=true then ((0≤v8)∧(v8<(↑(List.length x0):Int))∧(if (g159_0 (List.getD x0 (Int.toNat v8) ByteArray.empty))=true then (ds=[Dyn.mk (Ty.int .i64) v8]) else ((InR .i64 (v8+1))∧(R169c159_2 n (v8+1) (x0) ds)))) else (ds=[Dyn.mk (Ty.int .i64) (-1)]))
end
theorem snd169c159:∀ n,(∀ (x0:List ByteArray) ds,R169c159 n x0 ds→∀ K q,AtV Tryz.prog 169 (PostR kds169c159 oks169c159 ds [] [] q K) 19 K q [] [.code b169c159] (entE 0 0 sig169c159 (x0,(),())) (entL sig169c159 (x0,(),())))∧(∀ (v8:Int) (x0:List ByteArray) ds,R169c159_2 n v8 x0 ds→∀ K q,AtV Tryz.prog 169 (PostR kds169c159 oks169c159 ds [] [] q K) 19 K q [] (cutAt b169c159 2) (E169c159_2 v8 x0) (L169c159_2 v8 x0)):=by
 intro n
 induction n with
 | zero=>exact ⟨fun _ _ h=>by simp only [R169c159] at h,fun _ _ _ h=>by simp only [R169c159_2] at h⟩
 | succ n ih =>
 obtain ⟨ih,ih2⟩:=ih
 refine ⟨?_,?_⟩
 ·intro x0 ds h K q
  rw [R169c159] at h
  exact AtV.go tabOk ext169c159Ok mixed false [] [] [0,1,7,8] [] [] trivial (ih2 _ _ _ h K q) (by kernel_rfl)
 ·intro v8 x0 ds h K q
  rw [R169c159_2] at h
  by_cases b0:(decide (v8<(↑(List.length x0):Int)))=true
  ·rw [if_pos b0] at h
   obtain ⟨s0,s1,h⟩:=h
   by_cases b1:(g159_0 (List.getD x0 (Int.toNat v8) ByteArray.empty))=true
   ·rw [if_pos b1] at h
    subst h
    exact AtV.ret Tryz.func169 tabOk ext169c159Ok mixed false [] tys169c159 [true,true] (a1 b0 (a1 s0 (a1 s1 (a1 trivial (a1 b1 trivial))))) (by kernel_rfl)
   ·rw [if_neg b1] at h
    replace b1:=Bool.eq_false_iff.2 b1
    obtain ⟨s2,h⟩:=h
    exact AtV.go tabOk ext169c159Ok mixed false [] [] [0,1,7,8] [] [true,false] (a1 b0 (a1 s0 (a1 s1 (a1 trivial (a1 b1 (a1 s2 trivial)))))) (ih2 _ _ _ h K q) (by kernel_rfl)
  ·rw [if_neg b0] at h
   replace b0:=Bool.eq_false_iff.2 b0
   subst h
   exact AtV.ret Tryz.func169 tabOk ext169c159Ok mixed false [] tys169c159 [false] (a1 b0 trivial) (by kernel_rfl)
def g169c159_0 (x0:List (ByteArray)):Int:=idx (x0.findIdx? g159_0)
def P169c159 (x0:List (ByteArray)):Prop:=True
theorem top169c159 (x0:List (ByteArray)) (hm:x0.length≤maxLen):R169c159 (x0.length+1+1) x0 [⟨.int .i64,g169c159_0 x0⟩]:=by
 rw [R169c159]
 have key:=loop_find x0 ByteArray.empty g159_0 [(⟨.int .i64, -1⟩:Dyn)] (fun k=>[⟨.int .i64,k⟩]) (fun n i ds=>R169c159_2 n i x0 ds) (fun n => ?_) (fun n i hi hok ds hr => ?_) (fun n i hi hok => ?_)
 ·unfold g169c159_0
  cases h:x0.findIdx? g159_0 <;> rw [h] at key <;> exact key
 ·rw [R169c159_2,if_neg (by simp)]
 ·rw [R169c159_2,if_pos (by simp;omega)]
  simp only [Int.toNat_natCast]
  refine ⟨by omega,by omega,?_⟩
  rw [if_neg (by rw [hok];simp)]
  exact ⟨inR_up hm hi,hr⟩
 ·rw [R169c159_2,if_pos (by simp;omega)]
  simp only [Int.toNat_natCast]
  refine ⟨by omega,by omega,?_⟩
  rw [if_pos hok] <;> trivial
def S169c159:Am.Spec:={ sig:=sig169c159,pre:=fun ⟨x0,_⟩=>P169c159 x0,res:=fun ⟨x0,_⟩=>[⟨Ty.int .i64,g169c159_0 x0⟩] }
theorem con169c159:Contract Tryz.prog 169 S169c159:=contract_of Tryz.func169 hb169c159 (Nat.le_of_ble_eq_true (by kernel_rfl)) (fun ⟨x0,_⟩ h hwf K q =>
 (snd169c159 _).1 x0 _ (top169c159 x0 hwf.1.1) K q)
theorem any169c159 (x0:List (ByteArray)):decide (g169c159_0 x0≥0)=x0.any g159_0:=by
 have:=findIdx_any g159_0 x0
 unfold g169c159_0
 cases h:x0.any g159_0 with
 | true=>rw [h] at this;simpa using this
 | false=>rw [h] at this;simpa using this
end
noncomputable section
def ext157c159:Ext:=[(169,S169c159),(159,S159)]
theorem ext157c159Ok:ExtOk Tryz.prog ext157c159:=⟨⟨ca169,con169c159⟩,⟨ca159,con159⟩,trivial⟩
noncomputable def b157c159:Code:=bodyOf Tryz.f157
theorem hb157c159:Tryz.f157.body=some b157c159:=by kernel_rfl
def sig157c159:List AT:=[AT.v (Ty.sl Ty.str),AT.fn 159 []]
def tys157c159:List Ty:=[Ty.bool]
def kds157c159:List RK:=[]
def oks157c159:List AT:=owns sig157c159
def P157c159 (x0:List ByteArray):Prop:=True
def g157c159_0 (x0:List ByteArray):Bool:=decide (g169c159_0 x0≥0)
theorem at157c159 (x0:List ByteArray) (h:P157c159 x0) (K:Ctx) (q:Nat→Value):AtV Tryz.prog 157 (PostR kds157c159 oks157c159 [⟨Ty.bool,g157c159_0 x0⟩] [] [] q K) 9 K q [] [.code b157c159] (entE 0 0 sig157c159 (x0,(),())) (entL sig157c159 (x0,(),())):=by
 unfold P157c159 at h
 unfold g157c159_0
 exact AtV.ret Tryz.func157 tabOk ext157c159Ok mixed false [] tys157c159 [] (a1 trivial trivial) (by kernel_rfl)
def S157c159:Am.Spec:={ sig:=sig157c159,pre:=fun ⟨x0,_⟩=>P157c159 x0,res:=fun ⟨x0,_⟩=>[⟨Ty.bool,g157c159_0 x0⟩],kds:=kds157c159 }
theorem con157c159:Contract Tryz.prog 157 S157c159:=contract_of Tryz.func157 hb157c159 (Nat.le_of_ble_eq_true (by kernel_rfl)) (fun ⟨x0,_⟩ h _ K q=>at157c159 x0 h K q)
end
noncomputable section
def ext145:Ext:=[(158,S158),(157,S157c159)]
theorem ext145Ok:ExtOk Tryz.prog ext145:=⟨⟨ca158,con158⟩,⟨ca157,con157c159⟩,trivial⟩
noncomputable def b145:Code:=bodyOf Tryz.f145
theorem hb145:Tryz.f145.body=some b145:=by kernel_rfl
def sig145:List AT:=[AT.v (Ty.str)]
def tys145:List Ty:=[Ty.bool]
def kds145:List RK:=[]
def oks145:List AT:=owns sig145
def P145 (x0:ByteArray):Prop:=(if (decide ((↑(ByteArray.size x0):Int)≤40))=true then ((P158 x0 (ByteArray.mk #[32]))∧True) else True)
def g145_0 (x0:ByteArray):Bool:=(if (decide ((↑(ByteArray.size x0):Int)≤40))=true then !g157c159_0 (g158_0 x0 (ByteArray.mk #[32])) else false)
theorem at145 (x0:ByteArray) (h:P145 x0) (K:Ctx) (q:Nat→Value):AtV Tryz.prog 145 (PostR kds145 oks145 [⟨Ty.bool,g145_0 x0⟩] [] [] q K) 12 K q [] [.code b145] (entE 0 0 sig145 (x0,())) (entL sig145 (x0,())):=by
 unfold P145 at h
 unfold g145_0
 by_cases b0:(decide ((↑(ByteArray.size x0):Int)≤40))=true
 ·try simp only [if_pos b0] at h ⊢
  obtain ⟨s0,h⟩:=h
  exact AtV.ret Tryz.func145 tabOk ext145Ok mixed false [] tys145 [true] (a1 b0 (a1 s0 (a1 trivial trivial))) (by kernel_rfl)
 ·try simp only [if_neg b0] at h ⊢
  replace b0:=Bool.eq_false_iff.2 b0
  exact AtV.ret Tryz.func145 tabOk ext145Ok mixed false [] tys145 [false] (a1 b0 trivial) (by kernel_rfl)
def S145:Am.Spec:={ sig:=sig145,pre:=fun ⟨x0,_⟩=>P145 x0,res:=fun ⟨x0,_⟩=>[⟨Ty.bool,g145_0 x0⟩],kds:=kds145 }
theorem con145:Contract Tryz.prog 145 S145:=contract_of Tryz.func145 hb145 (Nat.le_of_ble_eq_true (by kernel_rfl)) (fun ⟨x0,_⟩ h _ K q=>at145 x0 h K q)
end
noncomputable section
def ext146:Ext:=[(118,S118)]
theorem ext146Ok:ExtOk Tryz.prog ext146:=⟨⟨ca118,con118⟩,trivial⟩
noncomputable def b146:Code:=bodyOf Tryz.f146
theorem hb146:Tryz.f146.body=some b146:=by kernel_rfl
def sig146:List AT:=[AT.v (Ty.int .i64)]
def tys146:List Ty:=[Ty.bool]
def kds146:List RK:=[]
def oks146:List AT:=owns sig146
def P146 (x0:Int):Prop:=True
def g146_0 (x0:Int):Bool:=g118_0 x0 0 65535
theorem at146 (x0:Int) (h:P146 x0) (K:Ctx) (q:Nat→Value):AtV Tryz.prog 146 (PostR kds146 oks146 [⟨Ty.bool,g146_0 x0⟩] [] [] q K) 5 K q [] [.code b146] (entE 0 0 sig146 (x0,())) (entL sig146 (x0,())):=by
 unfold P146 at h
 unfold g146_0
 exact AtV.ret Tryz.func146 tabOk ext146Ok mixed false [] tys146 [] (a1 trivial trivial) (by kernel_rfl)
def S146:Am.Spec:={ sig:=sig146,pre:=fun ⟨x0,_⟩=>P146 x0,res:=fun ⟨x0,_⟩=>[⟨Ty.bool,g146_0 x0⟩],kds:=kds146 }
theorem con146:Contract Tryz.prog 146 S146:=contract_of Tryz.func146 hb146 (Nat.le_of_ble_eq_true (by kernel_rfl)) (fun ⟨x0,_⟩ h _ K q=>at146 x0 h K q)
end
noncomputable section
def ext128:Ext:=[(123,S123),(144,S144),(145,S145),(146,S146)]
theorem ext128Ok:ExtOk Tryz.prog ext128:=⟨⟨ca123,con123⟩,⟨ca144,con144⟩,⟨ca145,con145⟩,⟨ca146,con146⟩,trivial⟩
noncomputable def b128:Code:=bodyOf Tryz.f128
theorem hb128:Tryz.f128.body=some b128:=by kernel_rfl
def sig128:List AT:=[AT.v YA6]
def tys128:List Ty:=[Ty.bool]
def kds128:List RK:=[]
def oks128:List AT:=owns sig128
def P128 (x0:Int×Int×ByteArray×Int×Unit):Prop:=(if (g123_0 x0.1)=true then (if (g144_0 x0.2.1)=true then ((P145 x0.2.2.1)∧True) else True) else True)
def g128_0 (x0:Int×Int×ByteArray×Int×Unit):Bool:=(if (g123_0 x0.1)=true then (if (g144_0 x0.2.1)=true then (if (g145_0 x0.2.2.1)=true then g146_0 x0.2.2.2.1 else false) else false) else false)
theorem at128 (x0:Int×Int×ByteArray×Int×Unit) (h:P128 x0) (K:Ctx) (q:Nat→Value):AtV Tryz.prog 128 (PostR kds128 oks128 [⟨Ty.bool,g128_0 x0⟩] [] [] q K) 21 K q [] [.code b128] (entE 0 0 sig128 (x0,())) (entL sig128 (x0,())):=by
 unfold P128 at h
 unfold g128_0
 by_cases b0:(g123_0 x0.1)=true
 ·try simp only [if_pos b0] at h ⊢
  by_cases b1:(g144_0 x0.2.1)=true
  ·try simp only [if_pos b1] at h ⊢
   obtain ⟨s0,h⟩:=h
   by_cases b2:(g145_0 x0.2.2.1)=true
   ·try simp only [if_pos b2] at h ⊢
    exact AtV.ret Tryz.func128 tabOk ext128Ok mixed false [] tys128 [true,true,true] (a1 trivial (a1 b0 (a1 trivial (a1 b1 (a1 s0 (a1 b2 (a1 trivial trivial))))))) (by kernel_rfl)
   ·try simp only [if_neg b2] at h ⊢
    replace b2:=Bool.eq_false_iff.2 b2
    exact AtV.ret Tryz.func128 tabOk ext128Ok mixed false [] tys128 [true,true,false] (a1 trivial (a1 b0 (a1 trivial (a1 b1 (a1 s0 (a1 b2 trivial)))))) (by kernel_rfl)
  ·try simp only [if_neg b1] at h ⊢
   replace b1:=Bool.eq_false_iff.2 b1
   exact AtV.ret Tryz.func128 tabOk ext128Ok mixed false [] tys128 [true,false,false] (a1 trivial (a1 b0 (a1 trivial (a1 b1 (a1 (rfl:false=false) trivial))))) (by kernel_rfl)
 ·try simp only [if_neg b0] at h ⊢
  replace b0:=Bool.eq_false_iff.2 b0
  exact AtV.ret Tryz.func128 tabOk ext128Ok mixed false [] tys128 [false,false,false] (a1 trivial (a1 b0 (a1 (rfl:false=false) (a1 (rfl:false=false) trivial)))) (by kernel_rfl)
def S128:Am.Spec:={ sig:=sig128,pre:=fun ⟨x0,_⟩=>P128 x0,res:=fun ⟨x0,_⟩=>[⟨Ty.bool,g128_0 x0⟩],kds:=kds128 }
theorem con128:Contract Tryz.prog 128 S128:=contract_of Tryz.func128 hb128 (Nat.le_of_ble_eq_true (by kernel_rfl)) (fun ⟨x0,_⟩ h _ K q=>at128 x0 h K q)
end
noncomputable section
def ext129:Ext:=[]
theorem ext129Ok:ExtOk Tryz.prog ext129:=trivial
noncomputable def b129:Code:=bodyOf Tryz.f129
theorem hb129:Tryz.f129.body=some b129:=by kernel_rfl
def sig129:List AT:=[AT.v YA6,AT.v YA6]
def tys129:List Ty:=[Ty.bool]
def kds129:List RK:=[]
def oks129:List AT:=owns sig129
def P129 (x0:Int×Int×ByteArray×Int×Unit) (x1:Int×Int×ByteArray×Int×Unit):Prop:=True
def g129_0 (x0:Int×Int×ByteArray×Int×Unit) (x1:Int×Int×ByteArray×Int×Unit):Bool:=(if (decide (x0.1>x1.1))=true then true else (if (x0.1==x1.1)=true then decide (x0.2.1>x1.2.1) else false))
theorem at129 (x0:Int×Int×ByteArray×Int×Unit) (x1:Int×Int×ByteArray×Int×Unit) (h:P129 x0 x1) (K:Ctx) (q:Nat→Value):AtV Tryz.prog 129 (PostR kds129 oks129 [⟨Ty.bool,g129_0 x0 x1⟩] [] [] q K) 24 K q [] [.code b129] (entE 0 0 sig129 (x0,x1,())) (entL sig129 (x0,x1,())):=by
 unfold P129 at h
 unfold g129_0
 by_cases b0:(decide (x0.1>x1.1))=true
 ·try simp only [if_pos b0] at h ⊢
  exact AtV.ret Tryz.func129 tabOk ext129Ok mixed false [] tys129 [true] (a1 b0 trivial) (by kernel_rfl)
 ·try simp only [if_neg b0] at h ⊢
  replace b0:=Bool.eq_false_iff.2 b0
  by_cases b1:(x0.1==x1.1)=true
  ·try simp only [if_pos b1] at h ⊢
   exact AtV.ret Tryz.func129 tabOk ext129Ok mixed false [] tys129 [false,true] (a1 b0 (a1 b1 trivial)) (by kernel_rfl)
  ·try simp only [if_neg b1] at h ⊢
   replace b1:=Bool.eq_false_iff.2 b1
   exact AtV.ret Tryz.func129 tabOk ext129Ok mixed false [] tys129 [false,false] (a1 b0 (a1 b1 trivial)) (by kernel_rfl)
def S129:Am.Spec:={ sig:=sig129,pre:=fun ⟨x0,x1,_⟩=>P129 x0 x1,res:=fun ⟨x0,x1,_⟩=>[⟨Ty.bool,g129_0 x0 x1⟩],kds:=kds129 }
theorem con129:Contract Tryz.prog 129 S129:=contract_of Tryz.func129 hb129 (Nat.le_of_ble_eq_true (by kernel_rfl)) (fun ⟨x0,x1,_⟩ h _ K q=>at129 x0 x1 h K q)
end
noncomputable section
def ext101:Ext:=[(128,S128),(129,S129)]
theorem ext101Ok:ExtOk Tryz.prog ext101:=⟨⟨ca128,con128⟩,⟨ca129,con129⟩,trivial⟩
noncomputable def b101:Code:=bodyOf Tryz.f101
theorem hb101:Tryz.f101.body=some b101:=by kernel_rfl
def sig101:List AT:=[AT.v (Ty.sl YA6)]
def tys101:List Ty:=[Ty.bool]
def kds101:List RK:=[]
def oks101:List AT:=owns sig101
def E101_2 (v7:Int) (x0:List TyB2):Env:=[(0,PV.a (Atom.sl YA6 x0)),(5,PV.a (Atom.sl YA6 x0)),(6,PV.a (Atom.val (Value.int .i64 (↑(List.length x0):Int)))),(7,PV.a (Atom.val (Value.int .i64 v7)))]
def L101_2 (v7:Int) (x0:List TyB2):Heap:=[]
mutual
def R101:Nat→List TyB2→List Dyn→Prop
 | 0,_,_=>False
 | n+1,x0,ds=>(R101_2 n (0) (x0) ds)
def R101_2:Nat→Int→List TyB2→List Dyn→Prop
 | 0,_,_,_=>False
 | n+1,v7,x0,ds=>(if (decide (v7<(↑(List.length x0):Int)))=true then ((0≤v7)∧(v7<(↑(List.length x0):Int))∧((P128 (List.getD x0 (Int.toNat v7) (0,0,ByteArray.empty,0,())))∧(if (!g128_0 (List.getD x0 (Int.toNat v7) (0,0,ByteArray.empty,0,())))=true then (ds=[Dyn.mk Ty.bool false]) else (if (decide (v7>0))=true then ((InR .i64 (v7 - 1))∧((0≤v7 - 1)∧(v7 - 1<(↑(List.length x0):Int))∧(if (g129_0 (List.getD x0 (Int.toNat (v7 - 1)) (0,0,ByteArray.empty,0,())) (List.getD x0 (Int.toNat v7) (0,0,ByteArray.empty,0,())))=true then (ds=[Dyn.mk Ty.bool false]) else ((InR .i64 (v7+1))∧(R101_2 n (v7+1) (x0) ds))))) else ((InR .i64 (v7+1))∧(R101_2 n (v7+1) (x0) ds)))))) else (ds=[Dyn.mk Ty.bool (decide ((↑(List.length x0):Int)≤40))]))
end
theorem snd101:∀ n,(∀ (x0:List TyB2) ds,R101 n x0 ds→∀ K q,AtV Tryz.prog 101 (PostR kds101 oks101 ds [] [] q K) 32 K q [] [.code b101] (entE 0 0 sig101 (x0,())) (entL sig101 (x0,())))∧(∀ (v7:Int) (x0:List TyB2) ds,R101_2 n v7 x0 ds→∀ K q,AtV Tryz.prog 101 (PostR kds101 oks101 ds [] [] q K) 32 K q [] (cutAt b101 2) (E101_2 v7 x0) (L101_2 v7 x0)):=by
 intro n
 induction n with
 | zero=>exact ⟨fun _ _ h=>by simp only [R101] at h,fun _ _ _ h=>by simp only [R101_2] at h⟩
 | succ n ih =>
 obtain ⟨ih,ih2⟩:=ih
 refine ⟨?_,?_⟩
 ·intro x0 ds h K q
  rw [R101] at h
  exact AtV.go tabOk ext101Ok mixed false [] [] [0,5,6,7] [] [] trivial (ih2 _ _ _ h K q) (by kernel_rfl)
 ·intro v7 x0 ds h K q
  rw [R101_2] at h
  by_cases b0:(decide (v7<(↑(List.length x0):Int)))=true
  ·rw [if_pos b0] at h
   obtain ⟨s0,s1,h⟩:=h
   obtain ⟨s2,h⟩:=h
   by_cases b1:(!g128_0 (List.getD x0 (Int.toNat v7) (0,0,ByteArray.empty,0,())))=true
   ·rw [if_pos b1] at h
    subst h
    exact AtV.ret Tryz.func101 tabOk ext101Ok mixed false [] tys101 [true,true,true] (a1 b0 (a1 s0 (a1 s1 (a1 s2 (a1 b1 (a1 (rfl:true=true) trivial)))))) (by kernel_rfl)
   ·rw [if_neg b1] at h
    replace b1:=Bool.eq_false_iff.2 b1
    by_cases b2:(decide (v7>0))=true
    ·rw [if_pos b2] at h
     obtain ⟨s3,h⟩:=h
     obtain ⟨s4,s5,h⟩:=h
     by_cases b3:(g129_0 (List.getD x0 (Int.toNat (v7 - 1)) (0,0,ByteArray.empty,0,())) (List.getD x0 (Int.toNat v7) (0,0,ByteArray.empty,0,())))=true
     ·rw [if_pos b3] at h
      subst h
      exact AtV.ret Tryz.func101 tabOk ext101Ok mixed false [] tys101 [true,false,true,true] (a1 b0 (a1 s0 (a1 s1 (a1 s2 (a1 b1 (a1 b2 (a1 s3 (a1 s4 (a1 s5 (a1 trivial (a1 b3 trivial))))))))))) (by kernel_rfl)
     ·rw [if_neg b3] at h
      replace b3:=Bool.eq_false_iff.2 b3
      obtain ⟨s6,h⟩:=h
      exact AtV.go tabOk ext101Ok mixed false [] [] [0,5,6,7] [] [true,false,true,false] (a1 b0 (a1 s0 (a1 s1 (a1 s2 (a1 b1 (a1 b2 (a1 s3 (a1 s4 (a1 s5 (a1 trivial (a1 b3 (a1 s6 trivial)))))))))))) (ih2 _ _ _ h K q) (by kernel_rfl)
    ·rw [if_neg b2] at h
     replace b2:=Bool.eq_false_iff.2 b2
     obtain ⟨s3,h⟩:=h
     exact AtV.go tabOk ext101Ok mixed false [] [] [0,5,6,7] [] [true,false,false,false] (a1 b0 (a1 s0 (a1 s1 (a1 s2 (a1 b1 (a1 b2 (a1 (rfl:false=false) (a1 s3 trivial)))))))) (ih2 _ _ _ h K q) (by kernel_rfl)
  ·rw [if_neg b0] at h
   replace b0:=Bool.eq_false_iff.2 b0
   subst h
   exact AtV.ret Tryz.func101 tabOk ext101Ok mixed false [] tys101 [false] (a1 b0 trivial) (by kernel_rfl)
def ok101 (x0:List TyB2) (i:Nat) (x:TyB2):Bool:=g128_0 x&&(i==0 || !g129_0 (x0.getD (i - 1) ((0:Int),(0:Int),ByteArray.empty,(0:Int),())) x)
def g101_0 (x0:List TyB2):Bool:=allI (ok101 x0) 0 x0&&decide ((x0.length:Int)≤40)
def P101 (x0:List TyB2):Prop:=True
theorem one101_pre (x:TyB2):P128 x:=by
 unfold P128
 split
 ·split
  ·refine ⟨?_,trivial⟩
   unfold P145
   split
   ·rename_i h
    have h:(x.2.2.1.size:Int)≤40:=by simpa using h
    have h':x.2.2.1.size≤281474976710656:=by omega
    repeat' (first | apply And.intro | exact trivial | split)
    all_goals (first | omega | decide | trivial)
   ·trivial
  ·trivial
 ·trivial
theorem step101 (n i:Nat) (x0:List TyB2) (hm:x0.length≤maxLen) (hi:i<x0.length) (ds:List Dyn)
  (h:if ok101 x0 i (x0.getD i ((0:Int),(0:Int),ByteArray.empty,(0:Int),()))=true then R101_2 n ((i:Int)+1) x0 ds else ds=[⟨.bool,false⟩]):R101_2 (n+1) (i:Int) x0 ds:=by
 have hu:=inR_up hm hi
 have hmx:maxLen≤9223372036854775807:=by decide
 rw [R101_2,if_pos (by simp only [decide_eq_true_eq];omega)]
 simp only [Int.toNat_natCast]
 refine ⟨by omega,by omega,one101_pre _,?_⟩
 unfold ok101 at h
 by_cases hv:g128_0 (x0.getD i ((0:Int),(0:Int),ByteArray.empty,(0:Int),()))=true
 case neg=>rw [Bool.eq_false_iff.2 hv] at h;rw [if_pos (by rw [Bool.eq_false_iff.2 hv];rfl)];simpa using h
 rw [if_neg (by rw [hv];simp)]
 rw [hv] at h
 by_cases h0:(i:Int)>0
 case neg =>
  rw [if_neg (by simpa using h0)]
  have hi0:(i==0)=true:=by simp;omega
  rw [hi0] at h
  exact ⟨hu,by simpa using h⟩
 rw [if_pos (by simpa using h0)]
 have hi0:(i==0)=false:=by simp;omega
 have e:((i:Int) - 1).toNat=i - 1:=by omega
 have hd:InR .i64 ((i:Int) - 1):=by rw [i64_iff];omega
 rw [hi0] at h
 simp only [e]
 refine ⟨hd,by omega,by omega,?_⟩
 by_cases c0:g129_0 (x0.getD (i - 1) ((0:Int),(0:Int),ByteArray.empty,(0:Int),())) (x0.getD i ((0:Int),(0:Int),ByteArray.empty,(0:Int),()))=true
 ·rw [if_pos c0]
  rw [c0] at h
  simpa using h
 ·rw [if_neg c0]
  rw [Bool.eq_false_iff.2 c0] at h
  exact ⟨hu,by simpa using h⟩
theorem top101 (x0:List TyB2) (hw:x0.length≤maxLen):R101 (x0.length+1+1) x0 [⟨.bool,g101_0 x0⟩]:=by
 rw [R101]
 have key:=loop_testI x0 ((0:Int),(0:Int),ByteArray.empty,(0:Int),()) (ok101 x0) [(⟨.bool,false⟩:Dyn)] [⟨.bool,decide ((x0.length:Int)≤40)⟩] (fun n i ds=>R101_2 n i x0 ds) (fun n => ?_) (fun n i hi hok ds hr => ?_) (fun n i hi hok => ?_)
 ·unfold g101_0
  cases h:allI (ok101 x0) 0 x0 with
  | true=>rw [if_pos h] at key;simpa using key
  | false=>rw [if_neg (by rw [h];simp)] at key;simpa using key
 ·rw [R101_2,if_neg (by simp)]
 ·exact step101 n i x0 hw hi ds (by rw [if_pos hok];exact hr)
 ·exact step101 n i x0 hw hi _ (by rw [if_neg (by rw [hok];simp)])
def S101:Am.Spec:={ sig:=sig101,pre:=fun ⟨x0,_⟩=>P101 x0,res:=fun ⟨x0,_⟩=>[⟨Ty.bool,g101_0 x0⟩] }
theorem con101:Contract Tryz.prog 101 S101:=contract_of Tryz.func101 hb101 (Nat.le_of_ble_eq_true (by kernel_rfl)) (fun ⟨x0,_⟩ h hwf K q =>
 (snd101 _).1 x0 _ (top101 x0 hwf.1.1) K q)
end
end Go.Proofs.YthpljjnbniefpaaGreatDoor
