/- Several texts in one: the functions that this law reaches, and their laws. -/
import Derived.Test.YthmimdpgkcadnaaZ3A
import Derived.OrdersHeld
namespace Go.Am
set_option linter.unusedVariables false
set_option linter.unusedSimpArgs false
theorem entR_one {w0 w:World} {G:Nat→Prop} {t:Ty} {bor:Bool} {x:t.den} {cs:List Value} {bi:List Nat} (h:entR w0 G w t bor x cs bi):∀ c∈cs,c.oneCell'=true:=by
 revert h
 unfold entR
 cases bor with
 | true=>exact fun h=>h.1.one
 | false=>exact fun h=>h.one
theorem entR_flat {w0 w w':World} {G G':Nat→Prop} {t:Ty} {bor bor':Bool} {x:t.den} {cs:List Value} {bi:List Nat} (hf:t.flat=true) (h:entR w0 G w t bor x cs bi):entR w0 G' w' t bor' x cs []:=by
 have h1:RepC w0 G t x cs:=by
  revert h
  unfold entR
  cases bor with
  | true=>exact fun h=>h.1
  | false=>exact fun h=>(h.flat (w':=w0) (G:=G) hf).1
 unfold entR
 cases bor' with
 | true=>exact ⟨h1.flat hf,rfl⟩
 | false=>exact h1.own hf
theorem storeCells_run {P:Program}:∀ (vs:List Value) (w:World) (b o i:Nat) (cur:Array Value) (ty:TypeId) (fz:Nat×Nat),w.heap[b]? = some (.cells cur ty fz)→Free fz cur.size→o+i+vs.length≤cur.size→(∀ v∈vs,v.oneCell'=true) →
  ∃ w' cur',(storeCells ⟨b,o,none⟩ vs i).run P w = .ok () w'∧w'.heap[b]? = some (.cells cur' ty fz)∧cur'.toList=splice cur.toList (o+i) vs∧Kept [b] w w'∧w'.heap.size=w.heap.size
 | [],w,b,o,i,cur,ty,fz,hb,_,_,_=>⟨w,cur,rfl,hb,by simp [splice],Kept.refl _ _,rfl⟩
 | v :: vs,w,b,o,i,cur,ty,fz,hb,hf,hl,h1=>by
  simp only [List.length_cons] at hl
  have hcell:w.cell? ⟨b,o+i,none⟩=some (cur[o+i]'(by omega)):=by
   simp only [World.cell?, hb]
   simp [Array.getElem?_eq_getElem (show o+i<cur.size by omega)]
  have hfr:w.frozen? ⟨b,o+i,none⟩=false:=by
   simp only [World.frozen?, hb]
   have:=hf (o+i) (by omega)
   simp only [Bool.and_eq_false_iff,decide_eq_false_iff_not]
   by_cases h:fz.1≤o+i
   ·exact .inr fun h'=>this ⟨h,h'⟩
   ·exact .inl h
  have hblt:b<w.heap.size:=by
   rcases Nat.lt_or_ge b w.heap.size with h | h
   ·exact h
   ·rw [Array.getElem?_eq_none h] at hb;cases hb
  have hset:(w.setCell ⟨b,o+i,none⟩ v).heap[b]? = some (.cells (cur.setIfInBounds (o+i) v) ty fz):=by
   have hbe:w.heap[b] = .cells cur ty fz:=by
    rw [Array.getElem?_eq_getElem hblt] at hb;exact Option.some.inj hb
   simp only [World.setCell,Array.getElem?_modify,if_pos,hb]
   simp [hbe]
  obtain ⟨w',cur',h2,h3,h4,h5,h6⟩:=storeCells_run (P:=P) vs (w.setCell ⟨b,o+i,none⟩ v) b o (i+1) (cur.setIfInBounds (o+i) v) ty fz hset (by simpa using hf) (by simp;omega) (fun u hu=>h1 u (List.mem_cons_of_mem _ hu))
  refine ⟨w',cur',?_,h3,?_,?_,?_⟩
  ·unfold storeCells
   simp only [Sem.run_bind,Addr.add_lit,run_store P w _ v _ (h1 v (List.mem_cons_self ..)),hcell,hfr,Bool.false_eq_true,if_false,Result.andThen_ok]
   exact h2
  ·rw [h4]
   have hlt:o+i<cur.toList.length:=by rw [Array.length_toList];omega
   simp only [splice,Array.toList_setIfInBounds,List.length_cons]
   rw [show o+(i+1)=o+i+1 from by omega,List.take_add_one]
   simp only [List.getElem?_set_self hlt,Option.toList_some,List.append_assoc,List.cons_append,List.nil_append]
   rw [List.take_set_of_le (Nat.le_refl _),List.drop_set_of_lt (by omega),show o+i+1+vs.length=o+i+(vs.length+1) from by omega]
  ·have hk1:Kept [b] w (w.setCell ⟨b,o+i,none⟩ v):=⟨rfl,rfl,rfl,by simp [World.setCell],fun k hk hkb=>Go.RowKit.Below.heap_setCell w ⟨b,o+i,none⟩ v k (by simpa using hkb)⟩
   exact hk1.trans h5
  ·rw [h6];simp [World.setCell]
def Row {α:Type} (R:α→List Value→List Nat→Prop) (sz:Nat):List α→List (List Value)→List (List Nat)→Prop
 | [],css,bss=>css=[]∧bss=[]
 | y :: ys,css,bss=>∃ c cs b bs,css=c :: cs∧bss=b :: bs∧c.length=sz∧R y c b∧Row R sz ys cs bs
theorem Row.len {α:Type} {R:α→List Value→List Nat→Prop} {sz:Nat}:∀ {ys:List α} {css:List (List Value)} {bss:List (List Nat)},Row R sz ys css bss→css.length=ys.length∧bss.length=ys.length∧css.flatten.length=ys.length*sz
 | [],_,_,⟨h1,h2⟩=>by subst h1 h2;simp
 | y :: ys,_,_,⟨c,cs,b,bs,h1,h2,h3,h4,h5⟩=>by
  subst h1 h2
  obtain ⟨e1,e2,e3⟩:=h5.len
  refine ⟨by simp [e1],by simp [e2],?_⟩
  simp [h3,e3,Nat.add_mul,Nat.add_comm]
theorem Row.mono {α:Type} {R R':α→List Value→List Nat→Prop} {sz:Nat}:∀ {ys:List α} {css:List (List Value)} {bss:List (List Nat)},(∀ y c b,b∈bss→R y c b→R' y c b)→Row R sz ys css bss→Row R' sz ys css bss
 | [],_,_,_,h=>h
 | y :: ys,_,_,hm,⟨c,cs,b,bs,h1,h2,h3,h4,h5⟩=>⟨c,cs,b,bs,h1,h2,h3,hm _ _ _ (by rw [h2];exact List.mem_cons_self ..) h4,h5.mono (fun y c b hb=>hm y c b (by rw [h2];exact List.mem_cons_of_mem _ hb))⟩
theorem Row.nil {α:Type} {R R':α→List Value→List Nat→Prop} {sz:Nat}:∀ {ys:List α} {css:List (List Value)} {bss:List (List Nat)},(∀ y c b,R y c b→R' y c [])→Row R sz ys css bss→∃ bss',Row R' sz ys css bss'∧bss'.flatten=[]
 | [],css,_,_,h=>⟨[],⟨h.1,rfl⟩,rfl⟩
 | y :: ys,_,_,hm,⟨c,cs,b,bs,h1,h2,h3,h4,h5⟩=>by
  obtain ⟨bs',h6,h7⟩:=h5.nil hm
  exact ⟨[] :: bs',⟨c,cs,[],bs',h1,rfl,h3,hm _ _ _ h4,h6⟩,by simp [h7]⟩
theorem Row.append {α:Type} {R:α→List Value→List Nat→Prop} {sz:Nat}:∀ {ys zs:List α} {cs ds:List (List Value)} {bs es:List (List Nat)},Row R sz ys cs bs→Row R sz zs ds es→Row R sz (ys++zs) (cs++ds) (bs++es)
 | [],_,_,_,_,_,⟨h1,h2⟩,h=>by subst h1 h2;exact h
 | y :: ys,_,_,_,_,_,⟨c,cs,b,bs,h1,h2,h3,h4,h5⟩,h=>by
  subst h1 h2
  exact ⟨c,_,b,_,rfl,rfl,h3,h4,h5.append h⟩
theorem Row.get {α:Type} {R:α→List Value→List Nat→Prop} {sz:Nat}:∀ {ys:List α} {css:List (List Value)} {bss:List (List Nat)},Row R sz ys css bss→∀ i y bi,ys[i]? = some y→bss[i]? = some bi →
  ∃ c,c.length=sz∧R y c bi∧∀ j v,c[j]? = some v→css.flatten[i*sz+j]? = some v
 | [],_,_,_,i,y,bi,h,_=>by simp at h
 | y :: ys,_,_,⟨c,cs,b,bs,h1,h2,h3,h4,h5⟩,0,z,bi,hy,hb=>by
  subst h1 h2
  cases hy;cases hb
  refine ⟨c,h3,h4,fun j v hj => ?_⟩
  have:j<c.length:=(List.getElem?_eq_some_iff.1 hj).1
  simp only [Nat.zero_mul,Nat.zero_add,List.flatten_cons]
  rw [List.getElem?_append_left this];exact hj
 | y :: ys,_,_,⟨c,cs,b,bs,h1,h2,h3,h4,h5⟩,i+1,z,bi,hy,hb=>by
  subst h1 h2
  obtain ⟨d,e1,e2,e3⟩:=h5.get i z bi (by simpa using hy) (by simpa using hb)
  refine ⟨d,e1,e2,fun j v hj => ?_⟩
  simp only [List.flatten_cons]
  rw [List.getElem?_append_right (by rw [h3,Nat.add_mul];omega),h3,show (i+1)*sz+j - sz=i*sz+j from by rw [Nat.add_mul];omega]
  exact e3 j v hj
theorem row_of {α:Type} {R:α→List Value→List Nat→Prop} {sz:Nat} {f:Nat→Option Value}:∀ (ys:List α) (bss:List (List Nat)) (off:Nat),bss.length=ys.length →
  (∀ i y bi,ys[i]? = some y→bss[i]? = some bi→∃ cs,cs.length=sz∧(∀ j c,cs[j]? = some c→f (off+i*sz+j)=some c)∧R y cs bi) →
  ∃ css,Row R sz ys css bss∧∀ j c,css.flatten[j]? = some c→f (off+j)=some c
 | [],bss,off,hl,_=>⟨[],⟨rfl,List.eq_nil_of_length_eq_zero hl⟩,fun j c h=>by simp at h⟩
 | y :: ys,[],_,hl,_=>by simp at hl
 | y :: ys,b :: bs,off,hl,h=>by
  obtain ⟨c,hc1,hc2,hc3⟩:=h 0 y b rfl rfl
  obtain ⟨cs,hr,hcs⟩:=row_of ys bs (off+sz) (by simpa using hl) (fun i z bi hz hb=>by
   obtain ⟨d,e1,e2,e3⟩:=h (i+1) z bi (by simpa using hz) (by simpa using hb)
   refine ⟨d,e1,fun j v hj => ?_,e3⟩
   have:=e2 j v hj
   rwa [show off+(i+1)*sz+j=off+sz+i*sz+j from by rw [Nat.add_mul];omega] at this)
  refine ⟨c :: cs,⟨c,cs,b,bs,rfl,rfl,hc1,hc3,hr⟩,fun j v hj => ?_⟩
  simp only [List.flatten_cons] at hj
  by_cases hlt:j<c.length
  ·rw [List.getElem?_append_left hlt] at hj
   have:=hc2 j v hj
   simpa using this
  ·rw [List.getElem?_append_right (by omega)] at hj
   have:=hcs _ v hj
   rwa [hc1,show off+sz+(j - sz)=off+j from by omega] at this
theorem ownSl_of_row {w:World} {α:Type} {R:α→List Value→List Nat→Prop} {sz:Nat} {xs:List α} {css:List (List Value)} {bss:List (List Nat)} (h:Row R sz xs css bss) {b off cap:Nat} {cur:Array Value} {ty:TypeId} {fz:Nat×Nat}
  (hl:xs.length≤maxLen) (h1:xs.length≤cap) (h2:cap≤maxLen) (h3:off+cap*sz≤cur.size) (h4:w.heap[b]? = some (.cells cur ty fz)) (h5:FreeS sz fz cur.size)
  (h6:∀ j c,css.flatten[j]? = some c→cur[off+j]? = some c):OwnSl w R sz xs (.slice (some ⟨b,off,none⟩) xs.length cap) (b :: bss.flatten):=by
 refine ⟨hl,.inr ⟨b,off,cap,cur,ty,fz,bss,rfl,h1,h2,h3,h4,h5,h.len.2.1,rfl,fun i x bi hx hb => ?_⟩⟩
 obtain ⟨c,e1,e2,e3⟩:=h.get i x bi hx hb
 refine ⟨c,e1,fun j v hj => ?_,e2⟩
 rw [Nat.add_assoc]
 exact h6 _ _ (e3 j v hj)
theorem Row.one {α:Type} {R:α→List Value→List Nat→Prop} {sz:Nat} (hR:∀ y c b,R y c b→∀ v∈c,v.oneCell'=true):∀ {ys:List α} {css:List (List Value)} {bss:List (List Nat)},Row R sz ys css bss→∀ v∈css.flatten,v.oneCell'=true
 | [],_,_,⟨h1,h2⟩,v,hv=>by subst h1;cases hv
 | y :: ys,_,_,⟨c,cs,b,bs,h1,h2,h3,h4,h5⟩,v,hv=>by
  subst h1
  simp only [List.flatten_cons,List.mem_append] at hv
  rcases hv with hv | hv
  ·exact hR _ _ _ h4 v hv
  ·exact h5.one hR v hv
theorem Row.take {α:Type} {R:α→List Value→List Nat→Prop} {sz:Nat}:∀ {ys:List α} {css:List (List Value)} {bss:List (List Nat)} (k:Nat),Row R sz ys css bss→Row R sz (ys.take k) (css.take k) (bss.take k)
 | _,_,_,0,_=>⟨by simp,by simp⟩
 | [],_,_,k+1,⟨h1,h2⟩=>by subst h1 h2;exact ⟨rfl,rfl⟩
 | y :: ys,_,_,k+1,⟨c,cs,b,bs,h1,h2,h3,h4,h5⟩=>by
  subst h1 h2
  exact ⟨c,_,b,_,rfl,rfl,h3,h4,h5.take k⟩
theorem Row.drop {α:Type} {R:α→List Value→List Nat→Prop} {sz:Nat}:∀ {ys:List α} {css:List (List Value)} {bss:List (List Nat)} (k:Nat),Row R sz ys css bss→Row R sz (ys.drop k) (css.drop k) (bss.drop k)
 | _,_,_,0,h=>h
 | [],_,_,k+1,⟨h1,h2⟩=>by subst h1 h2;exact ⟨rfl,rfl⟩
 | y :: ys,_,_,k+1,⟨c,cs,b,bs,h1,h2,h3,h4,h5⟩=>by
  subst h1 h2
  exact h5.drop k
end Go.Am
namespace Go.Am
set_option linter.unusedVariables false
set_option linter.unusedSimpArgs false
theorem flatten_replicate_get {α:Type} (l:List α):∀ (n j:Nat),(List.replicate n l).flatten[j]? = if j<n*l.length then l[j % l.length]? else none
 | 0,j=>by simp
 | n+1,j=>by
  rw [List.replicate_succ,List.flatten_cons]
  by_cases h:j<l.length
  ·rw [List.getElem?_append_left h,Nat.mod_eq_of_lt h,if_pos]
   rw [Nat.add_mul];omega
  ·rw [List.getElem?_append_right (by omega),flatten_replicate_get l n]
   have e:(j - l.length) % l.length=j % l.length:=by
    rw [← Nat.mod_eq_sub_mod (by omega)]
   rw [e]
   have:(j - l.length<n*l.length)↔(j<(n+1)*l.length):=by rw [Nat.add_mul];omega
   by_cases hh:j - l.length<n*l.length
   ·rw [if_pos hh,if_pos (this.1 hh)]
   ·rw [if_neg hh,if_neg (fun h'=>hh (this.2 h'))]
theorem zeros_flat (z:Array Value) (n:Nat):((Array.range (n*z.size)).map (z[· % z.size]!)).toList=(List.replicate n z.toList).flatten:=by
 apply List.ext_getElem?
 intro j
 rw [flatten_replicate_get,Array.getElem?_toList]
 simp only [Array.getElem?_map,Array.length_toList]
 by_cases h:j<n*z.size
 ·rw [if_pos h]
  have hz:0<z.size:=by
   rcases Nat.eq_zero_or_pos z.size with h0 | h0
   ·rw [h0,Nat.mul_zero] at h;omega
   ·exact h0
  have hm:j % z.size<z.size:=Nat.mod_lt _ hz
  simp [Array.getElem?_range,h,hm,getElem!_pos,Array.getElem?_toList]
 ·rw [if_neg h]
  simp [Array.getElem?_range,h]
theorem row_replicate {w0 w:World} {G:Nat→Prop} (t:Ty) (bor:Bool):∀ n:Nat,Row (entR w0 G w t bor) t.size (List.replicate n t.dflt) (List.replicate n (dcells t)) (List.replicate n [])
 | 0=>⟨rfl,rfl⟩
 | n+1=>by
  refine ⟨dcells t,_,[],_,rfl,rfl,(dcells_rep w G t).length,?_,row_replicate t bor n⟩
  unfold entR
  cases bor with
  | true=>exact ⟨dcells_rep w0 G t,rfl⟩
  | false=>exact own_dcells t
where
 own_dcells {w:World}:∀ t:Ty,OwnC w t t.dflt (dcells t) []
 | .int k=>⟨rfl,by cases k <;> simp [InR,IntKind.min,IntKind.max,IntKind.bits,IntKind.signed,Ty.dflt],rfl⟩
 | .bool=>⟨rfl,rfl⟩
 | .fn=>⟨rfl,rfl⟩
 | .str=>⟨rfl,Nat.zero_le _,rfl⟩
 | .sl e=>⟨_,rfl,Nat.zero_le _,.inl ⟨_,rfl,rfl,rfl⟩⟩
 | .unit=>⟨rfl,rfl⟩
 | .cons a b=>⟨_,_,[],[],rfl,rfl,own_dcells a,own_dcells b⟩
theorem Row.set {α:Type} {R:α→List Value→List Nat→Prop} {sz:Nat} {y':α} {c':List Value} {b':List Nat} (h1:c'.length=sz) (h2:R y' c' b'):∀ {ys:List α} {css:List (List Value)} {bss:List (List Nat)} (i:Nat),Row R sz ys css bss →
  Row R sz (ys.set i y') (css.set i c') (bss.set i b')
 | [],_,_,i,⟨e1,e2⟩=>by subst e1 e2;exact ⟨rfl,rfl⟩
 | y :: ys,_,_,0,⟨c,cs,b,bs,e1,e2,e3,e4,e5⟩=>by subst e1 e2;exact ⟨c',cs,b',bs,rfl,rfl,h1,h2,e5⟩
 | y :: ys,_,_,i+1,⟨c,cs,b,bs,e1,e2,e3,e4,e5⟩=>by subst e1 e2;exact ⟨c,_,b,_,rfl,rfl,e3,e4,e5.set h1 h2 i⟩
theorem splice_flat {sz:Nat} {c':List Value} (h1:c'.length=sz):∀ {css:List (List Value)} {i:Nat},(∀ c∈css,c.length=sz)→i<css.length→splice css.flatten (i*sz) c'=(css.set i c').flatten
 | [],i,_,h=>by simp at h
 | c :: cs,0,h,_=>by
  have:=h c (List.mem_cons_self ..)
  simp [splice,h1, ← this]
 | c :: cs,i+1,h,hi=>by
  have hc:=h c (List.mem_cons_self ..)
  have ih:=splice_flat h1 (css:=cs) (i:=i) (fun d hd=>h d (List.mem_cons_of_mem _ hd)) (by simpa using hi)
  simp only [splice,List.flatten_cons,List.set_cons_succ] at ih ⊢
  rw [← ih,Nat.add_mul,Nat.one_mul,Nat.add_comm (i*sz) sz]
  rw [← hc,List.take_append,List.drop_append]
  simp [List.take_of_length_le,List.drop_of_length_le,Nat.add_assoc,show c.length+(i*c.length+c'.length) - c.length=i*c.length+c'.length from by omega]
theorem Row.lens {α:Type} {R:α→List Value→List Nat→Prop} {sz:Nat}:∀ {ys:List α} {css:List (List Value)} {bss:List (List Nat)},Row R sz ys css bss→∀ c∈css,c.length=sz
 | [],_,_,⟨e1,e2⟩,c,hc=>by subst e1;cases hc
 | y :: ys,_,_,⟨d,cs,b,bs,e1,e2,e3,e4,e5⟩,c,hc=>by
  subst e1
  rcases List.mem_cons.1 hc with rfl | hc
  ·exact e3
  ·exact e5.lens c hc
def boxT (t:Ty) (A:Atom):Option Arr :=
 match decB t A with
 | some x=>some ⟨t,[x],true,none,some false⟩
 | none=>match lsOf t A with
  | some ls=>some ⟨t,[],false,some ls,none⟩
  | none=>none
def boxA (tab:List TI) (T:TypeId):PV→Option Arr
 | .a A=>match (tabGet tab T).ty with
  | some t=>boxT t A
  | none=>none
 | _=>none
def allocA (tab:List TI) (T:TypeId):Option Arr :=
 match (tabGet tab T).ty with
 | some t=>match t.flat with
  | true=>some ⟨t,[t.dflt],true,none,some false⟩
  | false=>some ⟨t,[],false,some (zLs t),none⟩
 | none=>none
def ptrOf (k:Nat) (A:Arr):Atom :=
 match A.ls with
 | some _ => .bptr k 0 A.t
 | none => .optr k 0 []
def litA (t:Ty):List t.den→List (Nat×PV)→Option (List t.den)
 | xs,[]=>some xs
 | xs,(i,.a A) :: r=>match Nat.blt i xs.length,decB t A with
  | true,some y=>litA t (xs.set i y) r
  | _,_=>none
 | _,_=>none
def litP:PV→PV
 | .fn f [] => .a (.val (.func (.func f) #[] #[]))
 | p=>p
def sliceLitA (tab:List TI) (T:TypeId) (n:Nat) (parts:List (Nat×PV)):Option Arr :=
 match tabGet tab T with
 | .slice _ t _=>match Nat.ble (n*t.size) 16777216&&Nat.ble 1 t.size,litA t (List.replicate n t.dflt) (parts.map fun p=>(p.1,litP p.2)) with
  | true,some xs=>some ⟨t,xs, !t.flat && !(Nat.beq n 0),none,none⟩
  | _,_=>none
 | _=>none
def makeA (tab:List TI) (T:TypeId) (l c:PV):Option (List Prop×Arr) :=
 match tabGet tab T,l,c with
 | .slice _ t by',.a (.val (.int .i64 l)),.a (.val (.int .i64 c))=>some ([0≤l,l≤c,(by':Int)*c≤281474976710656],⟨t,List.replicate l.toNat t.dflt,false,none,none⟩)
 | _,_,_=>none
def smOk (A:Arr) (t:Ty):Bool :=
 match A.sm with
 | some true=>t.flat
 | _=>true
def storeA (tab:List TI) (L:Heap) (T:TypeId):PV→PV→Option Heap
 | .a (.optr r i p),.a B=>match (tabGet tab T).ty,hget L r with
  | some t,some A=>match (A.bor||t.flat)&&smOk A t,A.ls,decB t B with
   | true,none,some y=>match setD A.t (A.xs.getD i A.t.dflt) p ⟨t,y⟩ with
    | some x=>some (hset L r (some ⟨A.t,A.xs.set i x,A.bor,none,A.sm⟩))
    | none=>none
   | _,_,_=>none
  | _,_=>none
 | .a (.bptr r o t'),.a B=>match (tabGet tab T).ty,hget L r with
  | some t,some A=>match decide (t'=t),A.ls,lsOf t B with
   | true,some ls,some l=>some (hset L r (some ⟨A.t,A.xs,A.bor,some (spliceL ls o l),A.sm⟩))
   | _,_,_=>none
  | _,_=>none
 | _,_=>none
section
variable {P:Program} {n:Nat} {K:Ctx} {G:Nat→Prop} {w0 w:World} {a:Act} {E:Env} {L:Heap} {V:Nat→Value} {own:Nat→List Nat}
theorem RelV.fresh (hR:RelV n K w0 G w a E L V own) {w':World} (hk:Kept [] w w') {A0:Arr} {v:Value} {bs:List Nat} (h:EntC w0 G w' A0 v bs) (hn:bs.Nodup) (hb:∀ b∈bs,w.heap.size≤b)
  (hbox:∀ ls,A0.ls=some ls→BoxC w0 G w' L V A0.t ls v:=by intro ls h;cases h) (hsm:∀ q,A0.sm=some q→(∃ b off,v = .slice (some ⟨b,off,none⟩) 1 1)∧(q=true→A0.bor=true∧EntC w0 K.G0 w' A0 v bs):=by intro q h;cases h) :
  RelV n K w0 G w' a E (L++[some A0]) (upd1 V L.length v) (upd1 own L.length bs) :=
 (hR.ext hk).grow h hn (fun b hb'=>hR.out_new (hb b hb')) (fun r A hA b hb' hm=>by have:=hb b hm;have:=hR.own_lt hA b hb';omega) hbox hsm
structure New (L:Heap) (w w':World) (V V':Nat→Value) (own own':Nat→List Nat):Prop where
 kept:Kept [] w w'
 same:∀ r,r<L.length→V' r=V r∧own' r=own r
 fresh:∀ r,L.length≤r→∀ A L',hget (L++L') r=some A→L'.length≤1→∀ b∈own' r,w.heap.size≤b
def RelN (n:Nat) (K:Ctx) (w0:World) (G:Nat→Prop) (w w':World) (a:Act) (E:Env) (L L':Heap) (V V':Nat→Value) (own own':Nat→List Nat):Prop :=
 RelV n K w0 G w' a E L' V' own'∧New L w w' V V' own own'
theorem RelV.freshN (hR:RelV n K w0 G w a E L V own) {w':World} (hk:Kept [] w w') {A0:Arr} {v:Value} {bs:List Nat} (h:EntC w0 G w' A0 v bs) (hn:bs.Nodup) (hb:∀ b∈bs,w.heap.size≤b)
  (hbox:∀ ls,A0.ls=some ls→BoxC w0 G w' L V A0.t ls v:=by intro ls h;cases h) (hsm:∀ q,A0.sm=some q→(∃ b off,v = .slice (some ⟨b,off,none⟩) 1 1)∧(q=true→A0.bor=true∧EntC w0 K.G0 w' A0 v bs):=by intro q h;cases h) :
  RelN n K w0 G w w' a E L (L++[some A0]) V (upd1 V L.length v) own (upd1 own L.length bs) :=
 ⟨hR.fresh hk h hn hb hbox hsm,hk,fun r hr=>⟨upd1_other _ _ (by omega),upd1_other _ _ (by omega)⟩,fun r hr A L' hg hl b hb'=>by
  have hlt:=hget_lt hg
  rw [List.length_append] at hlt
  have:r=L.length:=by omega
  subst this
  rw [upd1_same] at hb'
  exact hb b hb'⟩
theorem entR_of_decB {A:Atom} {v:Value} (hb:RepB w0 G A v) {t:Ty} {x:t.den} (h:decB t A=some x) (bor:Bool) (hf:bor=false→t.flat=true):∃ cs,v=valOf t cs∧cs.length=t.size∧RepC w0 G t x cs∧∀ w,entR w0 G w t bor x cs []:=by
 obtain ⟨cs,hr,hv⟩:=decB_spec hb h
 refine ⟨cs,hv,hr.length,hr,fun w => ?_⟩
 unfold entR
 cases bor with
 | true=>exact ⟨hr,rfl⟩
 | false=>exact hr.own (hf rfl)
theorem heap_new (w:World) (o:Obj):(w.alloc o).heap[w.heap.size]? = some o:=heap_alloc_new w o
theorem free_zero (n:Nat):Free (0,0) n:=fun j _ h=>by omega
theorem freeS_zero (sz n:Nat):FreeS sz (0,0) n:=⟨free_zero _,.inr (free_zero _)⟩
theorem ent_one {w:World} {t:Ty} {bor:Bool} {sm:Option Bool} {x:t.den} {cs:List Value} (h:∀ w,entR w0 G w t bor x cs []) (hl:cs.length=t.size) (ty:TypeId) :
  EntC w0 G (w.alloc (.cells cs.toArray ty)) ⟨t,[x],bor,none,sm⟩ (.slice (some ⟨w.heap.size,0,none⟩) 1 1) [w.heap.size]:=by
 have hrow:Row (entR w0 G (w.alloc (.cells cs.toArray ty)) t bor) t.size [x] [cs] [[]]:=⟨cs,[],[],[],rfl,rfl,hl,h _,rfl,rfl⟩
 have:=ownSl_of_row hrow (b:=w.heap.size) (off:=0) (cap:=1) (cur:=cs.toArray) (ty:=ty) (fz:=(0,0)) (by simp [maxLen]) (by simp) (by simp [maxLen]) (by simp [hl]) (heap_new _ _) (freeS_zero _ _) (by simp)
 simpa [EntC] using this
theorem valOf_cells' {t:Ty} {cs:List Value} {x:t.den} (h:RepC w0 G t x cs):(valOf t cs).cells=cs.toArray:=by
 have:=congrArg List.toArray (valOf_cells h)
 simpa using this
theorem new_var (hR:RelV n K w0 G w a E L V own) {t:Ty} {A:Arr} {cs:List Value} (T:TypeId) (hl:cs.length=t.size)
  (h:(∃ x,A=⟨t,[x],true,none,some false⟩∧RepC w0 G t x cs)∨∃ ls,A=⟨t,[],false,some ls,none⟩∧ls.length=t.size∧RepLs w0 G L V ls cs) :
  ∃ V' own',RelN n K w0 G w (w.alloc (.cells cs.toArray T)) a E L (L++[some A]) V V' own own'∧RepP w0 G (L++[some A]) V' (.a (ptrOf L.length A)) (.pointer (some ⟨w.heap.size,0,none⟩)):=by
 rcases h with ⟨x,rfl,hr⟩ | ⟨ls,rfl,hll,hr⟩
 ·have hE:=ent_one (w:=w) (sm:=some false) (bor:=true) (x:=x) (fun w=>(⟨hr,rfl⟩:entR w0 G w t true x cs [])) hl T
  refine ⟨_,_,hR.freshN ((Kept.refl [] w).alloc _) hE (by simp) (by simp) (hsm:=fun q hq=>⟨⟨_,_,rfl⟩,fun e=>by subst e;cases hq⟩),?_⟩
  exact ⟨_,hget_new _ _,by simp,w.heap.size,0,1,1,0,t,upd1_same _ _ _,rfl,by simp⟩
 ·have hE:EntC w0 G (w.alloc (.cells cs.toArray T)) ⟨t,[],false,some ls,none⟩ (.slice (some ⟨w.heap.size,0,none⟩) 0 1) [w.heap.size] :=
   ⟨by simp [maxLen],.inr ⟨w.heap.size,0,1,cs.toArray,T,(0,0),[],rfl,Nat.zero_le _,by simp [maxLen],by simp [hl],heap_new _ _,freeS_zero _ _,rfl,rfl,fun i y bi hy=>by simp at hy⟩⟩
  refine ⟨_,_,hR.freshN ((Kept.refl [] w).alloc _) hE (by simp) (by simp) (hbox:=fun l hl' => ?_),?_⟩
  ·cases hl'
   refine ⟨w.heap.size,0,cs,rfl,hl,hll,fun j c hj => ?_,hr⟩
   simp only [World.cell?, heap_new]
   simpa using hj
  ·exact ⟨_,ls,w.heap.size,0,hget_new _ _,rfl,upd1_same _ _ _,rfl,by simp⟩
theorem box_spec {tab:List TI} (hT:TabOk P tab) (hR:RelV n K w0 G w a E L V own) {T:TypeId} {x:Operand} {A:Arr} (h:boxA tab T (opnd E x)=some A) :
  ∃ v w' V' own',(Instr.box T (a.eval x)).run P w = .ok v w'∧RelN n K w0 G w w' a E L (L++[some A]) V V' own own'∧RepP w0 G (L++[some A]) V' (.a (ptrOf L.length A)) v:=by
 unfold boxA at h
 split at h
 ·rename_i B hB
  split at h
  ·rename_i t ht
   have key:∃ cs,cs.length=t.size∧(a.eval x).cells=cs.toArray∧((∃ y,A=⟨t,[y],true,none,some false⟩∧RepC w0 G t y cs)∨∃ ls,A=⟨t,[],false,some ls,none⟩∧ls.length=t.size∧RepLs w0 G L V ls cs):=by
    unfold boxT at h
    split at h
    ·rename_i y hy
     cases h
     obtain ⟨cs,hv,hl,hrep,hcs⟩:=entR_of_decB (repB_of_decB (hR.atom hB) hy) hy true (fun h=>by cases h)
     exact ⟨cs,hl,by rw [hv];exact valOf_cells' hrep,.inl ⟨y,rfl,hrep⟩⟩
    ·split at h
     ·rename_i ls hls
      cases h
      obtain ⟨cs,e1,e2,e3,e4,e5⟩:=lsOf_rep (hR.atom hB) hls
      exact ⟨cs,e3,by rw [← e5],.inr ⟨ls,rfl,e2,e4⟩⟩
     ·cases h
   obtain ⟨cs,hl,hc,hcase⟩:=key
   obtain ⟨V',own',h1,h2⟩:=new_var hR T hl hcase
   refine ⟨_,_,V',own',?_,h1,h2⟩
   simp only [Instr.box,newVar,newRow,Sem.run_bind,run_newObj,Result.andThen_ok,Sem.run_pure,hc]
   rfl
  ·cases h
 ·cases h
theorem alloc_spec {tab:List TI} (hT:TabOk P tab) (hR:RelV n K w0 G w a E L V own) {T:TypeId} {A:Arr} (h:allocA tab T=some A) :
  ∃ v w' V' own',(Instr.alloc T true (.tuple #[])).run P w = .ok v w'∧RelN n K w0 G w w' a E L (L++[some A]) V V' own own'∧RepP w0 G (L++[some A]) V' (.a (ptrOf L.length A)) v:=by
 unfold allocA at h
 split at h
 ·rename_i t ht
  have hd:=dcells_rep w0 G t
  have key:(∃ y,A=⟨t,[y],true,none,some false⟩∧RepC w0 G t y (dcells t))∨∃ ls,A=⟨t,[],false,some ls,none⟩∧ls.length=t.size∧RepLs w0 G L V ls (dcells t):=by
   split at h
   ·cases h;exact .inl ⟨_,rfl,hd⟩
   ·cases h;exact .inr ⟨_,rfl,zLs_length,zLs_rep⟩
  obtain ⟨V',own',h1,h2⟩:=new_var hR T hd.length key
  refine ⟨_,_,V',own',?_,h1,h2⟩
  simp only [Instr.alloc,newVar,newRow,Sem.run_bind,run_newObj,Result.andThen_ok,Sem.run_pure,(TI.ty_ok (hT T) ht).zero_run,valOf_cells' hd]
  rfl
 ·cases h
theorem lit_fill {t:Ty} {bor:Bool} (hbor:bor=false→t.flat=true):∀ {parts:List (Nat×PV)} {vs:List (Nat×Value)} {xs xs':List t.den} {css:List (List Value)} {bss:List (List Nat)},
  litA t xs parts=some xs'→PartsRep w0 G parts vs→(∀ w,Row (entR w0 G w t bor) t.size xs css bss)→bss.flatten=[] →
  ∃ css' bss',Instr.fill (fun i=>some (i*t.size,t.size)) css.flatten.toArray vs=some css'.flatten.toArray∧(∀ w,Row (entR w0 G w t bor) t.size xs' css' bss')∧bss'.flatten=[]∧xs'.length=xs.length
 | [],vs,xs,xs',css,bss,h,hv,hr,hb=>by
  cases hv;cases h
  exact ⟨css,bss,rfl,hr,hb,rfl⟩
 | (i,.a A) :: r,vs,xs,xs',css,bss,h,hv,hr,hb=>by
  obtain ⟨v,s,rfl,h1,h2⟩:=hv
  simp only [litA] at h
  split at h
  ·rename_i y hlt hy
   have hlt:i<xs.length:=by simpa using hlt
   obtain ⟨cs,hv,hl,hrep,hcs⟩:=entR_of_decB (h1 A rfl _ _ hy) hy bor hbor
   obtain ⟨e1,e2,e3⟩:=(hr w0).len
   have hset:∀ w,Row (entR w0 G w t bor) t.size (xs.set i y) (css.set i cs) (bss.set i []):=fun w=>(hr w).set hl (hcs w) i
   have hbn:(bss.set i []).flatten=[]:=by
    rw [List.flatten_eq_nil_iff] at hb ⊢
    intro l hl'
    rcases List.mem_or_eq_of_mem_set hl' with h | h
    ·exact hb l h
    ·exact h
   obtain ⟨css',bss',e4,e5,e6,e7⟩:=lit_fill hbor h h2 hset hbn
   refine ⟨css',bss',?_,e5,e6,by rw [e7];simp⟩
   rw [fill_step _ css.flatten i (i*t.size) v cs t.size s rfl (by rw [hv];exact valOf_cells hrep) hl (by rw [e3];have:=Nat.mul_le_mul_right t.size hlt;rw [Nat.succ_mul] at this;exact this),
    splice_flat hl (hr w0).lens (by rw [e1];exact hlt)]
   exact e4
  ·cases h
 | (_,.tup _) :: _,_,_,_,_,_,h,_,_,_=>by cases h
 | (_,.fn _ _) :: _,_,_,_,_,_,h,_,_,_=>by cases h
theorem ent_row {w:World} {t:Ty} {bor:Bool} {sm:Option Bool} {xs:List t.den} {css:List (List Value)} {bss:List (List Nat)} {rest:List Value} {cap:Nat} {ty:TypeId} (hr:Row (entR w0 G (w.alloc (.cells (css.flatten++rest).toArray ty)) t bor) t.size xs css bss) (hb:bss.flatten=[])
  (hl:xs.length≤cap) (hm:cap≤maxLen) (hc:cap*t.size≤(css.flatten++rest).length) :
  EntC w0 G (w.alloc (.cells (css.flatten++rest).toArray ty)) ⟨t,xs,bor,none,sm⟩ (.slice (some ⟨w.heap.size,0,none⟩) xs.length cap) [w.heap.size]:=by
 have:=ownSl_of_row hr (b:=w.heap.size) (off:=0) (cap:=cap) (cur:=(css.flatten++rest).toArray) (ty:=ty) (fz:=(0,0)) (by omega) hl hm (by rw [Nat.zero_add];simpa using hc) (heap_new _ _) (freeS_zero _ _) (fun j c hj=>by
  rw [Nat.zero_add,List.getElem?_toArray,List.getElem?_append_left (List.getElem?_eq_some_iff.1 hj).1];exact hj)
 rw [hb] at this
 exact this
theorem dcells_cells (t:Ty):(valOf t (dcells t)).cells=(dcells t).toArray:=valOf_cells' (w0:=default) (G:=fun _=>True) (dcells_rep default (fun _=>True) t)
theorem zeros_list (t:Ty) (k:Nat) (z:Array Value) (hz:k*t.size≠0→z=(dcells t).toArray):((Array.range (k*t.size)).map (z[· % z.size]!))=(List.replicate k (dcells t)).flatten.toArray:=by
 have hl:(dcells t).length=t.size:=(dcells_rep default (Good default []) t).length
 by_cases h:k*t.size=0
 ·rw [h]
  have:(List.replicate k (dcells t)).flatten=[]:=by
   apply List.eq_nil_of_length_eq_zero
   simp [hl,h]
  rw [this]
  simp
 ·have:=hz h
  subst this
  have hs:(dcells t).toArray.size=t.size:=by simp [hl]
  have e:=zeros_flat (dcells t).toArray k
  rw [hs] at e ⊢
  exact Array.toList_inj.1 e
theorem litP_rep (hR:RelV n K w0 G w a E L V own) (x:Operand) {A:Atom} (hA:litP (opnd E x) = .a A) {t:Ty} {y:t.den} (hd:decB t A=some y):RepB w0 G A (a.eval x):=by
 unfold litP at hA
 split at hA
 ·rename_i f hq
  cases hA
  have hv:=hR.opnd x
  rw [hq] at hv
  obtain ⟨us,hu,hr⟩:=hv
  cases hr
  exact ⟨hu,trivial⟩
 ·exact repB_of_decB (hR.atom hA) hd
theorem partsLit (hR:RelV n K w0 G w a E L V own):∀ (l:List (Nat×Operand)),PartsRep w0 G ((l.map fun p=>(p.1,opnd E p.2)).map fun p=>(p.1,litP p.2)) (l.map fun p=>(p.1,a.eval p.2))
 | []=>rfl
 | p :: r=>⟨a.eval p.2,_,rfl,fun A hA t x hd=>litP_rep hR p.2 hA hd,partsLit hR r⟩
theorem sliceLit_spec {tab:List TI} (hT:TabOk P tab) (hR:RelV n K w0 G w a E L V own) {T:TypeId} {k:Nat} {parts:Array (Nat×Operand)} {A:Arr} (h:sliceLitA tab T k (parts.toList.map fun p=>(p.1,opnd E p.2))=some A) :
  ∃ v w' V' own',(Instr.buildSlice T k (parts.map fun p=>(p.1,a.eval p.2))).run P w = .ok v w'∧RelN n K w0 G w w' a E L (L++[some A]) V V' own own'∧RepP w0 G (L++[some A]) V' (.a (.osl L.length none)) v:=by
 unfold sliceLitA at h
 split at h
 ·rename_i e t by' ht
  split at h
  ·rename_i xs hle hlit
   cases h
   have hS:=hT T;rw [ht] at hS
   obtain ⟨_,hu,he,_⟩:=hS
   simp only [Bool.and_eq_true,Nat.ble_eq] at hle
   obtain ⟨hle,hsz⟩:=hle
   have hkm:k≤maxLen:=by have:=Nat.le_mul_of_pos_right k hsz;unfold maxLen;omega
   have hb0:(List.replicate k ([]:List Nat)).flatten=[]:=by simp
   have hbor:(!t.flat && !(Nat.beq k 0))=false→t.flat=true∨k=0:=by
    intro hh
    cases hf:t.flat with
    | true=>exact .inl rfl
    | false=>rw [hf] at hh;simp at hh;exact .inr hh
   have hfill:∃ css' bss',Instr.fill (fun i=>some (i*t.size,t.size)) (List.replicate k (dcells t)).flatten.toArray (parts.toList.map fun p=>(p.1,a.eval p.2))=some css'.flatten.toArray∧(∀ w,Row (entR w0 G w t (!t.flat && !(Nat.beq k 0))) t.size xs css' bss')∧bss'.flatten=[]∧xs.length=k:=by
    by_cases hk:k=0
    ·subst hk
     have:parts.toList=[]:=by
      cases hp:parts.toList with
      | nil=>rfl
      | cons q r =>
       exfalso
       rw [hp] at hlit
       simp only [List.map_cons,List.replicate_zero] at hlit
       cases hq:opnd E q.2 with
       | a A=>rw [hq] at hlit;simp [litP,litA,Nat.blt] at hlit
       | tup _=>rw [hq] at hlit;simp [litP,litA] at hlit
       | fn _ cs=>rw [hq] at hlit;cases cs <;> simp [litP,litA,Nat.blt] at hlit
     rw [this] at hlit ⊢
     cases hlit
     exact ⟨[],[],rfl,fun w=>⟨rfl,rfl⟩,rfl,rfl⟩
    ·obtain ⟨css',bss',e1,e2,e3,e4⟩:=lit_fill (bor := !t.flat && !(Nat.beq k 0)) (fun hh=>(hbor hh).resolve_right hk) hlit (partsLit hR parts.toList) (fun w=>row_replicate t _ k) hb0
     exact ⟨css',bss',e1,e2,e3,by rw [e4];simp⟩
   obtain ⟨css,bss,hf,hrow,hbn,hlen⟩:=hfill
   obtain ⟨l1,l2,l3⟩:=(hrow w).len
   have hent:=ent_row (w:=w) (sm:=none) (ty:=e) (rest:=[]) (cap:=k) (hrow _) hbn (by omega) hkm (by simp [l3,hlen])
   rw [List.append_nil] at hent
   refine ⟨_,_,_,_,?_,hR.freshN ((Kept.refl [] w).alloc _) hent (by simp) (by simp),repA_new (w0:=w0) (G:=G) (u:=w0) (G':=G) hent⟩
   have e1:(parts.map fun p=>(p.1,a.eval p.2)).toList=parts.toList.map fun p=>(p.1,a.eval p.2):=by simp
   unfold Instr.buildSlice
   simp only [Sem.run_bind,run_underlying hu,Result.andThen_ok,he.size_run]
   rw [if_neg (by omega)]
   by_cases h0:k*t.size=0
   ·have hz:=zeros_list t k #[] (fun h=>absurd h0 h)
    rw [if_pos h0]
    simp only [Sem.run_bind,Sem.run_pure,Result.andThen_ok,hz,e1,hf,newRow,run_newObj,hlen]
    rfl
   ·have hz:=zeros_list t k (dcells t).toArray (fun _=>rfl)
    rw [if_neg h0]
    simp only [Sem.run_bind,Sem.run_pure,Result.andThen_ok,he.zero_run,dcells_cells,hz,e1,hf,newRow,run_newObj,hlen]
    rfl
  ·cases h
 ·cases h
end
end Go.Am
namespace Go.Am
set_option linter.unusedVariables false
set_option linter.unusedSimpArgs false
def bytesOf (s:ByteArray):List Int:=s.data.toList.map fun b=>(b.toNat:Int)
def s2bA (tab:List TI) (src dst:TypeId):PV→Option Arr
 | .a (.val (.string s))=>match tabGet tab src,tabGet tab dst with
  | .scal .str,.slice _ (.int .u8) _=>some ⟨.int .u8,bytesOf s,false,none,none⟩
  | _,_=>none
 | _=>none
def b2sA (tab:List TI) (L:Heap) (src dst:TypeId):PV→Option ByteArray
 | .a A=>match tabGet tab src,tabGet tab dst,decV L (.sl (.int .u8)) A with
  | .slice _ (.int .u8) _,.scal .str,some xs=>some (bytesStr xs)
  | _,_,_=>none
 | _=>none
section
variable {P:Program} {n:Nat} {K:Ctx} {G:Nat→Prop} {w0 w:World} {a:Act} {E:Env} {L:Heap} {V:Nat→Value} {own:Nat→List Nat}
theorem inR_i64 {n:Int} (h:InR .i64 n) : -9223372036854775808≤n∧n≤9223372036854775807:=by
 simpa [InR,IntKind.min,IntKind.max,IntKind.bits,IntKind.signed] using h
theorem make_spec {tab:List TI} (hT:TabOk P tab) (hR:RelV n K w0 G w a E L V own) {T:TypeId} {l c:Operand} {cs:List Prop} {A:Arr} (h:makeA tab T (opnd E l) (opnd E c)=some (cs,A)) (hc:All cs) :
  ∃ v w' V' own',(Instr.makeSlice T (a.eval l) (a.eval c)).run P w = .ok v w'∧RelN n K w0 G w w' a E L (L++[some A]) V V' own own'∧RepP w0 G (L++[some A]) V' (.a (.osl L.length none)) v:=by
 unfold makeA at h
 split at h
 ·rename_i e t by' li ci ht hl hcc
  cases h
  simp only [All] at hc
  obtain ⟨h0,h1,h2,_⟩:=hc
  obtain ⟨e1,o1⟩:=hR.valEq hl
  obtain ⟨e2,o2⟩:=hR.valEq hcc
  have hS:=hT T;rw [ht] at hS
  obtain ⟨_,hu,he,hby⟩:=hS
  obtain ⟨i,hi,hbi⟩:∃ i,P.info? e=some i∧i.bytes=by':=by
   cases hi:P.info? e with
   | none=>rw [hi] at hby;cases hby
   | some i=>rw [hi] at hby;simp at hby;exact ⟨i,rfl,hby⟩
  have hcm:ci.toNat≤maxLen:=by have:=(inR_i64 o2).2;unfold maxLen;omega
  have hdl:(dcells t).length=t.size:=(dcells_rep default (Good default []) t).length
  have hsplit:(List.replicate ci.toNat (dcells t)).flatten=(List.replicate li.toNat (dcells t)).flatten++(List.replicate (ci.toNat - li.toNat) (dcells t)).flatten:=by
   rw [← List.flatten_append,List.replicate_append_replicate]
   congr 2;omega
  have hent:=ent_row (w:=w) (sm:=none) (ty:=e) (rest:=(List.replicate (ci.toNat - li.toNat) (dcells t)).flatten) (cap:=ci.toNat) (row_replicate (w0:=w0) (G:=G) t false li.toNat) (by simp) (by simp;omega) hcm (by
   rw [← hsplit];simp [hdl])
  rw [← hsplit,List.length_replicate] at hent
  refine ⟨_,_,_,_,?_,hR.freshN ((Kept.refl [] w).alloc _) hent (by simp) (by simp),repA_new (w0:=w0) (G:=G) (u:=w0) (G':=G) hent⟩
  rw [e1,e2]
  unfold Instr.makeSlice
  have hnl:¬ ((by':Int)*ci>281474976710656):=by omega
  simp only [Sem.run_bind,run_underlying hu,Result.andThen_ok,asInt,asIntOf,Sem.run_pure,typeInfo,run_program,hi,hbi,wrap_of_inR o1,wrap_of_inR o2]
  rw [if_neg (by simp;omega)]
  simp only [Sem.run_bind,run_askRoom,Result.andThen_ok,he.size_run]
  by_cases hz:ci.toNat*t.size=0
  ·have hzl:=zeros_list t ci.toNat #[] (fun h=>absurd hz h)
   rw [if_pos hz]
   simp only [Sem.run_bind,Sem.run_pure,Result.andThen_ok,hzl,newRow,run_newObj]
   rfl
  ·have hzl:=zeros_list t ci.toNat (dcells t).toArray (fun _=>rfl)
   rw [if_neg hz]
   simp only [Sem.run_bind,Sem.run_pure,Result.andThen_ok,he.zero_run,dcells_cells,hzl,newRow,run_newObj]
   rfl
 ·cases h
theorem castT_repC {w:World} {G:Nat→Prop} {t t':Ty} (h:t'=t) {x:t'.den} {cs:List Value} (hp:RepC w G t' x cs):RepC w G t (h ▸ x) cs:=by
 subst h;exact hp
theorem castT_ownC {w:World} {t t':Ty} (h:t'=t) {x:t'.den} {cs:List Value} {bs:List Nat} (hp:OwnC w t' x cs bs):OwnC w t (h ▸ x) cs bs:=by
 subst h;exact hp
theorem splice_whole {cs c:List Value} (h:cs.length=c.length):splice cs 0 c=c:=by
 simp [splice, ← h]
theorem splice_left {c1 c2 c:List Value} {o:Nat} (h:o+c.length≤c1.length):splice (c1++c2) o c=splice c1 o c++c2:=by
 unfold splice
 rw [List.take_append_of_le_length (by omega),List.drop_append_of_le_length (by omega)]
 simp [List.append_assoc]
theorem splice_right {c1 c2 c:List Value} {o:Nat}:splice (c1++c2) (c1.length+o) c=c1++splice c2 o c:=by
 unfold splice
 rw [List.take_append,List.take_of_length_le (by omega),List.drop_append,List.drop_of_length_le (by omega)]
 simp [show c1.length+o - c1.length=o from by omega,show c1.length+o+c.length - c1.length=o+c.length from by omega]
theorem splice_length {cs c:List Value} {o:Nat} (h:o+c.length≤cs.length):(splice cs o c).length=cs.length:=by
 simp [splice];omega
theorem setD_rep {w:World} {G:Nat→Prop} {d:Dyn} {c:List Value} (hd:RepC w G d.t d.x c):∀ {t:Ty} {x x':t.den} {p:List Nat} {cs:List Value},setD t x p d=some x'→RepC w G t x cs →
  ∃ o,pathOff p t=some (o,d.t)∧RepC w G t x' (splice cs o c)∧o+c.length≤cs.length
 | t,x,x',[],cs,h,hr=>by
  have h':(if h:d.t=t then some (h ▸ d.x) else none:Option t.den)=some x':=by
   cases t <;> exact h
  split at h'
  ·rename_i ht
   cases h'
   have hl:cs.length=c.length:=by rw [hr.length,hd.length,ht]
   refine ⟨0,by rw [ht];rfl,?_,by omega⟩
   rw [splice_whole hl]
   exact castT_repC ht hd
  ·cases h'
 | .cons a b,x,x',0 :: p,cs,h,hr=>by
  obtain ⟨c1,c2,rfl,h1,h2⟩:=hr
  simp only [setD] at h
  split at h
  ·rename_i y hy
   cases h
   obtain ⟨o,ho,hr',hl⟩:=setD_rep hd (t:=a) hy h1
   refine ⟨o,by simp [pathOff,fldOff,ho],?_,by rw [List.length_append];omega⟩
   rw [splice_left hl]
   exact ⟨_,_,rfl,hr',h2⟩
  ·cases h
 | .cons a b,x,x',(k+1) :: p,cs,h,hr=>by
  obtain ⟨c1,c2,rfl,h1,h2⟩:=hr
  simp only [setD] at h
  split at h
  ·rename_i y hy
   cases h
   obtain ⟨o,ho,hr',hl⟩:=setD_rep hd (t:=b) hy h2
   have hp:pathOff ((k+1) :: p) (.cons a b)=some (a.size+o,d.t):=by
    simp only [pathOff] at ho ⊢
    simp only [fldOff]
    split at ho
    ·rename_i o1 t1 h3
     split at ho
     ·rename_i o2 t2 h4
      cases ho
      simp [h4,Nat.add_assoc]
     ·cases ho
    ·cases ho
   refine ⟨a.size+o,hp,?_,by rw [List.length_append,h1.length];omega⟩
   rw [← h1.length,splice_right]
   exact ⟨_,_,rfl,h1,hr'⟩
  ·cases h
 | .int _,_,_,0 :: _,_,h,_=>by cases h
 | .bool,_,_,0 :: _,_,h,_=>by cases h
 | .fn,_,_,0 :: _,_,h,_=>by cases h
 | .str,_,_,0 :: _,_,h,_=>by cases h
 | .sl _,_,_,0 :: _,_,h,_=>by cases h
 | .unit,_,_,0 :: _,_,h,_=>by cases h
 | .int _,_,_,(_+1) :: _,_,h,_=>by cases h
 | .bool,_,_,(_+1) :: _,_,h,_=>by cases h
 | .fn,_,_,(_+1) :: _,_,h,_=>by cases h
 | .str,_,_,(_+1) :: _,_,h,_=>by cases h
 | .sl _,_,_,(_+1) :: _,_,h,_=>by cases h
 | .unit,_,_,(_+1) :: _,_,h,_=>by cases h
theorem setD_own {w:World} {d:Dyn} {c:List Value} (hf:d.t.flat=true) (hd:OwnC w d.t d.x c []):∀ {t:Ty} {x x':t.den} {p:List Nat} {cs:List Value} {bs:List Nat},setD t x p d=some x'→OwnC w t x cs bs →
  ∃ o,pathOff p t=some (o,d.t)∧OwnC w t x' (splice cs o c) bs∧o+c.length≤cs.length
 | t,x,x',[],cs,bs,h,hr=>by
  have h':(if h:d.t=t then some (h ▸ d.x) else none:Option t.den)=some x':=by
   cases t <;> exact h
  split at h'
  ·rename_i ht
   cases h'
   have hl:cs.length=c.length:=by rw [hr.length,hd.length,ht]
   have hb:=(hr.flat (w':=w) (G:=fun _=>True) (by rw [← ht];exact hf)).2
   refine ⟨0,by rw [ht];rfl,?_,by omega⟩
   rw [splice_whole hl,hb]
   exact castT_ownC ht hd
  ·cases h'
 | .cons a b,x,x',0 :: p,cs,bs,h,hr=>by
  obtain ⟨c1,c2,b1,b2,rfl,rfl,h1,h2⟩:=hr
  simp only [setD] at h
  split at h
  ·rename_i y hy
   cases h
   obtain ⟨o,ho,hr',hl⟩:=setD_own hf hd (t:=a) hy h1
   refine ⟨o,by simp [pathOff,fldOff,ho],?_,by rw [List.length_append];omega⟩
   rw [splice_left hl]
   exact ⟨_,_,_,_,rfl,rfl,hr',h2⟩
  ·cases h
 | .cons a b,x,x',(k+1) :: p,cs,bs,h,hr=>by
  obtain ⟨c1,c2,b1,b2,rfl,rfl,h1,h2⟩:=hr
  simp only [setD] at h
  split at h
  ·rename_i y hy
   cases h
   obtain ⟨o,ho,hr',hl⟩:=setD_own hf hd (t:=b) hy h2
   have hp:pathOff ((k+1) :: p) (.cons a b)=some (a.size+o,d.t):=by
    simp only [pathOff] at ho ⊢
    simp only [fldOff]
    split at ho
    ·rename_i o1 t1 h3
     split at ho
     ·rename_i o2 t2 h4
      cases ho
      simp [h4,Nat.add_assoc]
     ·cases ho
    ·cases ho
   refine ⟨a.size+o,hp,?_,by rw [List.length_append,h1.length];omega⟩
   rw [← h1.length,splice_right]
   exact ⟨_,_,_,_,rfl,rfl,h1,hr'⟩
  ·cases h
 | .int _,_,_,0 :: _,_,_,h,_=>by cases h
 | .bool,_,_,0 :: _,_,_,h,_=>by cases h
 | .fn,_,_,0 :: _,_,_,h,_=>by cases h
 | .str,_,_,0 :: _,_,_,h,_=>by cases h
 | .sl _,_,_,0 :: _,_,_,h,_=>by cases h
 | .unit,_,_,0 :: _,_,_,h,_=>by cases h
 | .int _,_,_,(_+1) :: _,_,_,h,_=>by cases h
 | .bool,_,_,(_+1) :: _,_,_,h,_=>by cases h
 | .fn,_,_,(_+1) :: _,_,_,h,_=>by cases h
 | .str,_,_,(_+1) :: _,_,_,h,_=>by cases h
 | .sl _,_,_,(_+1) :: _,_,_,h,_=>by cases h
 | .unit,_,_,(_+1) :: _,_,_,h,_=>by cases h
theorem splice_splice {l c1 c:List Value} {o1 o:Nat} (h:o+c.length≤c1.length) (hl:o1+c1.length≤l.length) (hc:∀ j v,c1[j]? = some v→l[o1+j]? = some v):splice l (o1+o) c=splice l o1 (splice c1 o c):=by
 have hc1:c1=(l.drop o1).take c1.length:=by
  apply List.ext_getElem?
  intro j
  rw [List.getElem?_take]
  by_cases hj:j<c1.length
  ·rw [if_pos hj,List.getElem?_drop,List.getElem?_eq_getElem hj]
   exact (hc j _ (List.getElem?_eq_getElem hj)).symm
  ·rw [if_neg hj,List.getElem?_eq_none (by omega)]
 unfold splice
 have hlen:(c1.take o++c++c1.drop (o+c.length)).length=c1.length:=by simp;omega
 rw [hlen]
 have e1:l.take (o1+o)=l.take o1++c1.take o:=by
  rw [List.take_add,hc1,List.take_take,Nat.min_eq_left (by omega)]
 have e2:l.drop (o1+o+c.length)=c1.drop (o+c.length)++l.drop (o1+c1.length):=by
  have:l.drop o1=c1++l.drop (o1+c1.length):=by
   conv=>lhs;rw [← List.take_append_drop c1.length (l.drop o1)]
   rw [← hc1,List.drop_drop]
  rw [Nat.add_assoc, ← List.drop_drop,this,List.drop_append_of_le_length (by omega)]
 rw [e1,e2]
 simp [List.append_assoc]
theorem RelV.turn (hR:RelV n K w0 G w a E L V own) {w':World} {r b:Nat} {A A':Arr} (hA:hget L r=some A) (hb:b∈own r) (hk:Kept [b] w w') (hs:Shape A A') (hE:EntC w0 G w' A' (V r) (own r))
  (hbox:∀ ls,A'.ls=some ls→BoxC w0 G w' L V A'.t ls (V r)) (hsm:∀ q,A'.sm=some q→(∃ b off,V r = .slice (some ⟨b,off,none⟩) 1 1)∧(q=true→A'.bor=true∧EntC w0 K.G0 w' A' (V r) (own r))):RelV n K w0 G w' a E (hset L r (some A')) V own:=by
 have hag:∀ s,Agree L V (hset L r (some A')) V s:=agree_set hA hs V
 have hnot:∀ s C,hget L s=some C→s≠r→∀ d∈own s,d≠b:=fun s C hs hsr d hd e=>by
  subst e
  exact hR.apart s r C A hs hA hsr d hd hb
 have hsplit:∀ s C,hget (hset L r (some A')) s=some C→(s≠r∧hget L s=some C)∨(s=r∧C=A'):=by
  intro s C hs
  by_cases hsr:s=r
  ·subst hsr;rw [hget_hset_same hA] at hs;cases hs;exact .inr ⟨rfl,rfl⟩
  ·exact .inl ⟨hsr,by rwa [hget_hset_other (Ne.symm hsr)] at hs⟩
 have hGb:∀ c,G c→c≠b:=fun c hc e=>(hR.good r A hA b hb).2 (e ▸ hc)
 refine ⟨hR.glob,?_,hR.size,hR.defers,fun c hc=>Nat.lt_of_lt_of_le (hR.glt c hc) hk.size,fun c hc=>(hk.block c (hR.glt c hc) (by simp [hGb c hc])).trans (hR.gref c hc),hR.gsub,hR.gold,hR.gup,?_,?_,?_,?_,?_,?_,fun i=>repP_agree (hR.env i) fun s _=>hag s⟩
 ·refine ⟨hk.os.trans hR.kept.os,hk.tape.trans hR.kept.tape,hk.output.trans hR.kept.output,Nat.le_trans hR.kept.size hk.size,fun k hk' hkO => ?_⟩
  rw [hk.block k (Nat.lt_of_lt_of_le hk' hR.kept.size) (by simp;exact fun e=>(hR.good r A hA b hb).1 (e ▸ ⟨hk',hkO⟩))]
  exact hR.kept.block k hk' hkO
 ·intro s C hs
  rcases hsplit s C hs with ⟨e1,e2⟩ | ⟨rfl,rfl⟩
  ·exact (hR.heap s C e2).keep fun d hd=>hk.block d (hR.own_lt e2 d hd) (by simp [hnot s C e2 e1 d hd])
  ·exact hE
 ·intro s C hs
  rcases hsplit s C hs with ⟨e1,e2⟩ | ⟨rfl,rfl⟩
  ·exact hR.good s C e2
  ·exact hR.good s A hA
 ·intro s C hs
  rcases hsplit s C hs with ⟨e1,e2⟩ | ⟨rfl,rfl⟩
  ·exact hR.nodup s C e2
  ·exact hR.nodup s A hA
 ·intro s u C D hs hu' hsu
  rcases hsplit s C hs with ⟨e1,e2⟩ | ⟨rfl,rfl⟩
  ·rcases hsplit u D hu' with ⟨e3,e4⟩ | ⟨rfl,rfl⟩
   ·exact hR.apart s u C D e2 e4 hsu
   ·exact hR.apart s u C A e2 hA hsu
  ·rcases hsplit u D hu' with ⟨e3,e4⟩ | ⟨rfl,rfl⟩
   ·exact hR.apart s u A D hA e4 hsu
   ·exact absurd rfl hsu
 ·intro s C ls hs hl
  rcases hsplit s C hs with ⟨e1,e2⟩ | ⟨rfl,rfl⟩
  ·refine ((hR.boxs s C ls e2 hl).keepB fun d off hv => ?_).agree fun u _=>hag u
   have hd:=(hR.heap s C e2).block hv (Nat.le_refl _)
   exact hk.block d (hR.own_lt e2 d hd) (by simp [hnot s C e2 e1 d hd])
  ·exact (hbox ls hl).agree fun u _=>hag u
 ·intro s C q hs hq
  rcases hsplit s C hs with ⟨e1,e2⟩ | ⟨rfl,rfl⟩
  ·obtain ⟨g1,g2⟩:=hR.small s C q e2 hq
   exact ⟨g1,fun e=>⟨(g2 e).1,(g2 e).2.keep fun d hd=>hk.block d (hR.own_lt e2 d hd) (by simp [hnot s C e2 e1 d hd])⟩⟩
  ·exact hsm q hq
theorem store_ent {w w':World} {A:Arr} {v:Value} {bs:List Nat} (hent:EntC w0 G w A v bs) (hnd:bs.Nodup) {i b off m cap po:Nat} {p:List Nat} {t:Ty} {z:t.den} {x':A.t.den} {c:List Value} {cur cur':Array Value} {ty:TypeId} {fz:Nat×Nat} {ls:Option (List Leaf)} {sm:Option Bool}
  (hi:i<A.xs.length) (hv:v = .slice (some ⟨b,off,none⟩) m cap) (hp:pathOff p A.t=some (po,t)) (hbf:A.bor=true∨t.flat=true) (hrc:RepC w0 G t z c) (hst:setD A.t (A.xs.getD i A.t.dflt) p ⟨t,z⟩=some x')
  (h5:w.heap[b]? = some (.cells cur ty fz)) (hs2:w'.heap[b]? = some (.cells cur' ty fz)) (hs3:cur'.toList=splice cur.toList (off+i*A.t.size+po) c) (hs4:Kept [b] w w'):EntC w0 G w' ⟨A.t,A.xs.set i x',A.bor,ls,sm⟩ v bs:=by
 rcases hent.2 with ⟨_,_,h1,_⟩ | ⟨b',off',cap',cur0,ty0,fz0,bss,h1,h2,h3,h4,h5',h6,h7,h8,h9⟩
 ·rw [h1] at hi;simp at hi
 ·rw [h1] at hv
  simp only [Value.slice.injEq,Option.some.injEq,Addr.mk.injEq] at hv
  obtain ⟨⟨q1,q2,_⟩,_,q3⟩:=hv
  subst q1 q2 q3
  rw [h5] at h5'
  cases h5'
  have hib:i<bss.length:=by rw [h7];exact hi
  obtain ⟨cs,hcs1,hcs2,hcs3⟩:=h9 i _ _ (getD_of_lt A.xs i A.t.dflt hi) (List.getElem?_eq_getElem hib)
  have hnew:(∀ w,entR w0 G w A.t A.bor (A.xs.getD i A.t.dflt) cs bss[i]→entR w0 G w A.t A.bor x' (splice cs po c) bss[i])∧po+c.length≤cs.length:=by
   cases hbor:A.bor with
   | true =>
    rw [hbor] at hcs3
    obtain ⟨o,e1,e2,e3⟩:=setD_rep (d:=⟨t,z⟩) hrc hst hcs3.1
    rw [hp] at e1;cases e1
    exact ⟨fun w hh=>⟨e2,hh.2⟩,e3⟩
   | false =>
    rw [hbor] at hcs3 hbf
    have hfl:t.flat=true:=hbf.resolve_left (by simp)
    obtain ⟨o,e1,e2,e3⟩:=setD_own (d:=⟨t,z⟩) hfl (hrc.own hfl (w':=w)) hst hcs3
    rw [hp] at e1;cases e1
    refine ⟨fun w' hh => ?_,e3⟩
    obtain ⟨o',e1',e2',_⟩:=setD_own (d:=⟨t,z⟩) hfl (hrc.own hfl (w':=w')) hst hh
    rw [hp] at e1'
    cases e1'
    exact e2'
  obtain ⟨hnw,hol⟩:=hnew
  have hsz:i*A.t.size+A.t.size≤cap'*A.t.size:=by
   have:(i+1)*A.t.size≤cap'*A.t.size:=Nat.mul_le_mul_right _ (by omega)
   rw [Nat.add_mul,Nat.one_mul] at this;exact this
  have hcl:cur.toList.length=cur.size:=Array.length_toList
  have hcurlen:cur'.size=cur.size:=by
   have:=congrArg List.length hs3
   rw [splice_length (by omega)] at this
   simpa using this
  have hnb:∀ d∈bss.flatten,d≠b':=fun d hd e=>by
   rw [h8,List.nodup_cons] at hnd
   exact hnd.1 (e ▸ hd)
  refine ⟨by simpa using hent.1,.inr ⟨b',off',cap',cur',ty,fz,bss,by simpa using h1,by simpa using h2,h3,by rw [hcurlen];exact h4,hs2,by rw [hcurlen];exact h6,by simpa using h7,h8,fun j y bj hy hbj => ?_⟩⟩
  have hkeep:∀ d∈bj,w'.heap[d]? = w.heap[d]? := fun d hd=>by
   have hm:=mem_flatten_of_get hbj d hd
   exact hs4.block d (hent.lt d (by rw [h8];exact List.mem_cons_of_mem _ hm)) (by simp [hnb d hm])
  have hkeepR:∀ {yy:A.t.den} {cc:List Value},entR w0 G w A.t A.bor yy cc bj→entR w0 G w' A.t A.bor yy cc bj:=fun hh=>entR_keep (fun _ h=>h) (fun _ _=>rfl) hkeep hh
  have hb2:off'+i*A.t.size+cs.length≤cur.toList.length:=by rw [hcs1];omega
  have hcsg:∀ j v,cs[j]? = some v→cur.toList[off'+i*A.t.size+j]? = some v:=fun j v hj=>by rw [Array.getElem?_toList];exact hcs2 j v hj
  have hs3':cur'.toList=splice cur.toList (off'+i*A.t.size) (splice cs po c):=by
   rw [hs3]
   exact splice_splice hol hb2 hcsg
  have hspl:(splice cs po c).length=cs.length:=splice_length hol
  simp only at hy
  rw [List.getElem?_set] at hy
  by_cases hij:i=j
  ·subst hij
   rw [if_pos rfl,if_pos hi] at hy
   cases hy
   rw [List.getElem?_eq_getElem hib] at hbj
   cases hbj
   refine ⟨splice cs po c,by rw [hspl,hcs1],fun k v hk => ?_,hkeepR (hnw w hcs3)⟩
   have hk':k<cs.length:=by rw [← hspl];exact (List.getElem?_eq_some_iff.1 hk).1
   rw [← Array.getElem?_toList,hs3',splice,List.append_assoc,List.getElem?_append_right (by simp;omega)]
   rw [List.getElem?_append_left (by simp only [List.length_take];omega)]
   have:off'+i*A.t.size+k - (cur.toList.take (off'+i*A.t.size)).length=k:=by simp only [List.length_take];omega
   rw [this]
   exact hk
  ·rw [if_neg hij] at hy
   obtain ⟨ds,e1,e2,e3⟩:=h9 j y bj hy hbj
   refine ⟨ds,e1,fun k v hk => ?_,hkeepR e3⟩
   have hk':k<A.t.size:=by rw [← e1];exact (List.getElem?_eq_some_iff.1 hk).1
   show cur'[off'+j*A.t.size+k]? = some v
   have:=e2 k v hk
   rw [← Array.getElem?_toList] at this
   rw [← Array.getElem?_toList,hs3',splice,hspl,hcs1]
   rcases Nat.lt_or_gt_of_ne hij with hlt | hgt
   ·have hle:(i+1)*A.t.size≤j*A.t.size:=Nat.mul_le_mul_right _ hlt
    rw [Nat.add_mul,Nat.one_mul] at hle
    rw [List.getElem?_append_right (by simp only [List.length_append,List.length_take,hspl,hcs1];omega),List.getElem?_drop]
    simp only [List.length_append,List.length_take,hspl,hcs1]
    rw [show off'+i*A.t.size+A.t.size+(off'+j*A.t.size+k - (min (off'+i*A.t.size) cur.toList.length+A.t.size))=off'+j*A.t.size+k from by omega]
    exact this
   ·have hle:(j+1)*A.t.size≤i*A.t.size:=Nat.mul_le_mul_right _ hgt
    rw [Nat.add_mul,Nat.one_mul] at hle
    rw [List.append_assoc,List.getElem?_append_left (by simp only [List.length_take];omega),List.getElem?_take,if_pos (by omega)]
    exact this
def tgt:PV→Option Nat
 | .a (.optr r _ _)=>some r
 | .a (.bptr r _ _)=>some r
 | _=>none
theorem store_spec {tab:List TI} (hT:TabOk P tab) (hR:RelV n K w0 G w a E L V own) {T:TypeId} {x y:Operand} {L':Heap} (h:storeA tab L T (opnd E x) (opnd E y)=some L') :
  ∃ w',(Instr.storeAt T (a.eval x) (a.eval y)).run P w = .ok () w'∧RelV n K w0 G w' a E L' V own∧∃ r,tgt (opnd E x)=some r∧Kept (own r) w w':=by
 unfold storeA at h
 split at h
 ·rename_i r i p B hx hy
  split at h
  ·rename_i t A ht hA
   split at h
   ·rename_i z hbf hls hz
    split at h
    ·rename_i x' hst
     cases h
     simp only [Bool.and_eq_true,Bool.or_eq_true] at hbf
     obtain ⟨hbf,hsmok⟩:=hbf
     obtain ⟨A',hA',hi,b,off,m,cap,po,t',hv,hp,he⟩:=hR.atom hx
     rw [hA] at hA';cases hA'
     obtain ⟨c,hrc,hvc⟩:=decB_spec (repB_of_decB (hR.atom hy) hz) hz
     have hcl:=hrc.length
     have hent:=hR.heap r A hA
     have hb:b∈own r:=by
      rcases hent.2 with ⟨_,_,h1,_⟩ | ⟨b',off',cap',cur,ty,fz,bss,h1,h2,h3,h4,h5,h6,h7,h8,h9⟩
      ·rw [h1] at hi;simp at hi
      ·rw [h1] at hv;cases hv;rw [h8];exact List.mem_cons_self ..
     -- the place of the part
     have hpt:t'=t∧po+t.size≤A.t.size:=by
      obtain ⟨cs,bi,hc,ho,_⟩:=own_elem hent hv (getD_of_lt A.xs i A.t.dflt hi)
      revert ho
      unfold entR
      cases A.bor with
      | true =>
       intro ho
       obtain ⟨o,e1,e2,e3⟩:=setD_rep (d:=⟨t,z⟩) hrc hst ho.1
       rw [hp] at e1;cases e1
       rw [ho.1.length,hcl] at e3
       exact ⟨rfl,e3⟩
      | false =>
       intro ho
       obtain ⟨o,e1,e2,e3⟩:=setD_rep (w:=w) (G:=fun _=>True) (d:=⟨t,z⟩) (hrc.keep (w':=w) (fun _ _=>trivial) (fun c hc=>hR.gref c hc)) hst (ho.read (fun _ _=>trivial))
       rw [hp] at e1;cases e1
       rw [ho.length,hcl] at e3
       exact ⟨rfl,e3⟩
     obtain ⟨rfl,hps⟩:=hpt
     rcases hent.2 with ⟨_,_,h1,_⟩ | ⟨b',off',cap',cur,ty,fz,bss,h1,h2,h3,h4,h5,h6,h7,h8,h9⟩
     ·rw [h1] at hi;simp at hi
     ·rw [h1] at hv
      simp only [Value.slice.injEq,Option.some.injEq,Addr.mk.injEq] at hv
      obtain ⟨⟨q1,q2,_⟩,_,q3⟩:=hv
      subst q1 q2 q3
      have hsz:i*A.t.size+A.t.size≤cap'*A.t.size:=by
       have:(i+1)*A.t.size≤cap'*A.t.size:=Nat.mul_le_mul_right _ (by omega)
       rw [Nat.add_mul,Nat.one_mul] at this;exact this
      obtain ⟨w',cur',hs1,hs2,hs3,hs4,hs5⟩:=storeCells_run (P:=P) c w b' (off'+i*A.t.size+po) 0 cur ty fz h5 h6.1 (by omega) hrc.one
      rw [Nat.add_zero] at hs3
      refine ⟨w',?_,?_,r,by rw [hx];rfl,hs4.mono fun k hk=>by rw [List.mem_singleton.1 hk];exact hb⟩
      ·unfold Instr.storeAt
       rw [he,hvc]
       have hvs:(valOf t' c).cells.toList=c:=valOf_cells hrc
       have hvz:(valOf t' c).cells.size=t'.size:=by rw [← Array.length_toList,hvs,hcl]
       simp only [Instr.sureAddr,Sem.run_bind,Sem.run_pure,Result.andThen_ok,storeVar,(TI.ty_ok (hT T) ht).size_run,hvz,hvs]
       simp only [ne_eq,not_true_eq_false,if_false]
       exact hs1
      ·refine hR.turn hA hb hs4 ⟨rfl,by simp,fun l hl=>by rw [hls] at hl;cases hl⟩ (store_ent hent (hR.nodup r A hA) hi h1 hp hbf hrc hst h5 hs2 hs3 hs4) (fun l hl=>by cases hl) fun q hq => ?_
       have hq:A.sm=some q:=hq
       obtain ⟨g1,g2⟩:=hR.small r A q hA hq
       refine ⟨g1,fun e=>⟨(g2 e).1,?_⟩⟩
       subst e
       have hfl:t'.flat=true:=by simpa [smOk,hq] using hsmok
       exact store_ent (g2 rfl).2 (hR.nodup r A hA) hi h1 hp (.inr hfl) (hrc.flat hfl) hst h5 hs2 hs3 hs4
    ·cases h
   ·cases h
  ·cases h
 ·rename_i r o t' B hx hy
  split at h
  ·rename_i t A ht hA
   split at h
   ·rename_i ls l htt hls hl
    obtain rfl:=of_decide_eq_true htt
    cases h
    obtain ⟨A',ls',b,off,hA',hls',hv,he,hsz⟩:=hR.atom hx
    rw [hA] at hA';cases hA'
    rw [hls] at hls';cases hls'
    obtain ⟨c,hvc,ell,hcl,hrl,hvs⟩:=lsOf_rep (hR.atom hy) hl
    obtain ⟨b1,off1,cs,e1,e3,e4,e5,e6⟩:=hR.boxs r A ls hA hls
    rw [hv] at e1;cases e1
    have hent:=hR.heap r A hA
    have hb:=hent.block hv (Nat.le_refl _)
    rcases hent.2 with ⟨_,h1,_,_⟩ | ⟨b',off',cap',cur,ty,fz,bss,h1,h2,h3,h4,h5,h6,h7,h8,h9⟩
    ·rw [hv] at h1;cases h1
    ·rw [hv] at h1
     simp only [Value.slice.injEq,Option.some.injEq,Addr.mk.injEq] at h1
     obtain ⟨⟨q1,q2,_⟩,q4,q3⟩:=h1
     subst q1 q2 q3
     have hx0:A.xs=[]:=List.eq_nil_of_length_eq_zero q4.symm
     have hcsl:cs.length=A.t.size:=e3
     obtain ⟨w',cur',hs1,hs2,hs3,hs4,hs5⟩:=storeCells_run (P:=P) c w b (off+o) 0 cur ty fz h5 h6.1 (by omega) hrl.one
     rw [Nat.add_zero] at hs3
     have hcurl:cur.toList.length=cur.size:=Array.length_toList
     have hcurlen:cur'.size=cur.size:=by
      have:=congrArg List.length hs3
      rw [splice_length (by omega)] at this
      simpa using this
     refine ⟨w',?_,?_,r,by rw [hx];rfl,hs4.mono fun k hk=>by rw [List.mem_singleton.1 hk];exact hb⟩
     ·unfold Instr.storeAt
      rw [he]
      have hvz:(a.eval y).cells.size=t'.size:=by rw [← Array.length_toList,hvs,hcl]
      simp only [Instr.sureAddr,Sem.run_bind,Sem.run_pure,Result.andThen_ok,storeVar,(TI.ty_ok (hT T) ht).size_run,hvz,hvs]
      simp only [ne_eq,not_true_eq_false,if_false]
      exact hs1
     ·have hE:EntC w0 G w' ⟨A.t,A.xs,A.bor,some (spliceL ls o l),A.sm⟩ (V r) (own r):=by
       refine ⟨hent.1,.inr ⟨b,off,1,cur',ty,fz,bss,by rw [hv,hx0];rfl,by rw [hx0];exact Nat.zero_le _,h3,by rw [hcurlen];exact h4,hs2,by rw [hcurlen];exact h6,h7,h8,fun i y bi hy => ?_⟩⟩
       have hy:A.xs[i]? = some y:=hy
       rw [hx0] at hy;simp at hy
      refine hR.turn hA hb hs4 ⟨rfl,rfl,fun _ _=>⟨_,rfl⟩⟩ hE (fun ls2 h2 => ?_) (fun q hq => ?_)
      ·cases h2
       refine ⟨b,off,splice cs o c,hv,by rw [splice_length (by omega)];exact e3,by rw [spliceL_length (by omega)];exact e4,fun j v hj => ?_,spliceL_rep e6 hrl⟩
       have hjl:j<cs.length:=by
        have:=(List.getElem?_eq_some_iff.1 hj).1
        rwa [splice_length (by omega)] at this
       simp only [World.cell?, hs2]
       show cur'[off+j]? = some v
       have hcs:cs=(cur.toList.drop off).take cs.length:=by
        apply List.ext_getElem?
        intro k
        rw [List.getElem?_take]
        by_cases hk:k<cs.length
        ·rw [if_pos hk,List.getElem?_drop,List.getElem?_eq_getElem hk]
         have:=e5 k _ (List.getElem?_eq_getElem hk)
         simp only [World.cell?, h5] at this
         rw [Array.getElem?_toList]
         exact this.symm
        ·rw [if_neg hk,List.getElem?_eq_none (by omega)]
       have hcg:∀ j v,cs[j]? = some v→cur.toList[off+j]? = some v:=fun j v hj=>by
        have:=e5 j v hj
        simp only [World.cell?, h5] at this
        rw [Array.getElem?_toList]
        exact this
       rw [← Array.getElem?_toList,hs3,splice_splice (by omega) (by omega) hcg]
       have hlen:(splice cs o c).length=cs.length:=splice_length (by omega)
       rw [splice,List.append_assoc,List.getElem?_append_right (by simp;omega),List.getElem?_append_left (by simp only [List.length_take];omega)]
       have:off+j - (cur.toList.take off).length=j:=by simp only [List.length_take];omega
       rw [this]
       exact hj
      ·have hq:A.sm=some q:=hq
       obtain ⟨⟨b2,off2,g1⟩,_⟩:=hR.small r A q hA hq
       rw [hv] at g1;cases g1
   ·cases h
  ·cases h
 ·cases h
end
end Go.Am
namespace Go.Am
set_option linter.unusedVariables false
set_option linter.unusedSimpArgs false
section
variable {P:Program}
theorem free_of (n:Nat):Free (n,n+1) n:=fun j hj h=>by omega
theorem append_run {w : World} {T T2 ty e : TypeId} {i : TypeInfo} {d : TypeDesc} {t : Ty} (hT : P.underlying T = some (.slice e)) (hT2 : P.underlying T2 = some d) (hd : ∀ k, d ≠ .int k) (hi : P.info? e = some i) (he : TyOk P e t) (hsz : 0 < t.size)
    {adr : Option Addr} {len cap m : Nat} {x : Value} {olds news : List Value} (hx : ∀ w' : World, w'.heap = w.heap → (Builtin.firstCells t.size m x).run P w' = .ok news.toArray w') (hxl : ∀ w', (Builtin.lenOf x).run P w' = .ok m w')
    (ho : ∀ w' : World, w'.heap = w.heap → (Builtin.firstCells t.size len (.slice adr len cap)).run P w' = .ok olds.toArray w') (hol : olds.length = len * t.size) (hnl : news.length = m * t.size) (h1 : ∀ v ∈ news, v.oneCell' = true)
    (hbound : (len + m) * i.bytes ≤ 140737488355328) (hml : len + m ≤ maxLen)
    (hadr : cap = 0 ∨ ∃ b o cur ct fz, adr = some ⟨b, o, none⟩ ∧ w.heap[b]? = some (.cells cur ct fz) ∧ FreeS t.size fz cur.size ∧ o + cap * t.size ≤ cur.size) :
    ∃ v' w', (Builtin.append_ #[T, T2] ty #[.slice adr len cap, x]).run P w = .ok v' w' ∧
      ((len + m ≤ cap ∧ ((cap = 0 ∧ v' = .slice adr 0 0 ∧ w' = w ∧ m = 0 ∧ len = 0) ∨
          cap ≠ 0 ∧ ∃ b o cur ct fz cur', adr = some ⟨b, o, none⟩ ∧ w.heap[b]? = some (.cells cur ct fz) ∧ FreeS t.size fz cur.size ∧ o + cap * t.size ≤ cur.size ∧ v' = .slice (some ⟨b, o, none⟩) (len + m) cap ∧ w'.heap[b]? = some (.cells cur' ct fz) ∧ cur'.toList = splice cur.toList (o + len * t.size) news ∧ Kept [b] w w')) ∨
       (cap < len + m ∧ ∃ nc rest, v' = .slice (some ⟨w.heap.size, 0, none⟩) (len + m) nc ∧ len + m ≤ nc ∧ nc ≤ maxLen ∧ w' = w.drew.alloc (.cells (olds ++ news ++ rest).toArray e) ∧ (olds ++ news ++ rest).length = nc * t.size)) := by
  have hzero : (match d with | .int _ => true | _ => false) = false := by
    cases d <;> first | rfl | exact absurd rfl (hd _)
  have hset : ∀ w, (sizeOf e).run P w = .ok t.size w := he.size_run
  by_cases hroom : len + m ≤ cap
  · by_cases hcap : cap = 0
    · subst hcap
      have e0 : m = 0 := by omega
      have e1 : len = 0 := by omega
      subst e0 e1
      have en : news = [] := List.eq_nil_of_length_eq_zero (by rw [hnl, Nat.zero_mul])
      subst en
      refine ⟨.slice adr 0 0, w, ?_, .inl ⟨hroom, .inl ⟨rfl, rfl, rfl, rfl, rfl⟩⟩⟩
      unfold Builtin.append_
      simp only [run_underlying hT, run_underlying hT2, hset, hzero, hxl, hx w rfl, Sem.run_bind, Result.andThen_ok]
      cases adr <;> simp [run_underlying hT, run_underlying hT2, hset, hzero, hxl, hx w rfl, storeCells]
    · obtain ⟨b, o, cur, ct, fz, rfl, hb, hf, hfit⟩ := hadr.resolve_left hcap
      have hle : (len + m) * t.size ≤ cap * t.size := Nat.mul_le_mul_right _ hroom
      rw [Nat.add_mul] at hle
      obtain ⟨w', cur', s1, s2, s3, s4, s5⟩ := storeCells_run (P := P) news w b (o + len * t.size) 0 cur ct fz hb hf.1 (by omega) h1
      refine ⟨_, w', ?_, .inl ⟨hroom, .inr ⟨hcap, b, o, cur, ct, fz, cur', rfl, hb, hf, hfit, rfl, s2, by rw [s3, Nat.add_zero], s4⟩⟩⟩
      unfold Builtin.append_
      simp [run_underlying hT, run_underlying hT2, hset, hzero, hxl, hx w rfl, hroom, Addr.add_lit, s1]
  · have hlt : cap < len + m := by omega
    have hge := grownCap_ge w (len + m) cap e
    have hcm := grownCap_le_maxLen w (len + m) cap e hml
    have hdl : (dcells t).length = t.size := (dcells_rep default (Good default []) t).length
    have hzl := zeros_list t (grownCap w (len + m) cap e - (len + m)) (dcells t).toArray (fun _ => rfl)
    refine ⟨.slice (some ⟨w.heap.size, 0, none⟩) (len + m) (grownCap w (len + m) cap e), _, ?_, .inr ⟨hlt, grownCap w (len + m) cap e, (List.replicate (grownCap w (len + m) cap e - (len + m)) (dcells t)).flatten, rfl, hge, hcm, rfl, ?_⟩⟩
    · have hfit := growslice_fits hlt hbound
      have h2 : ¬ (((len + m : Nat) : Int) > 9223372036854775807) := by unfold maxLen at hml; omega
      have h2' : ¬ ((9223372036854775807 : Int) < (len : Int) + (m : Int)) := by unfold maxLen at hml; omega
      have hzc : Builtin.zeroCells (valOf t (dcells t)).cells (grownCap w (len + m) cap e - (len + m)) = (List.replicate (grownCap w (len + m) cap e - (len + m)) (dcells t)).flatten.toArray := by
        rw [dcells_cells, ← hzl]
        simp only [Builtin.zeroCells, List.size_toArray, hdl]
      have hforced : (Question.appendCap (len + m) cap e).forced = false := rfl
      have hfit' : ¬ (281474976710656 < Builtin.nextslicecap (len + m) cap * i.bytes) := by omega
      have ho' := ho w.drew rfl
      have hx' := hx w.drew rfl
      have hgc : (Question.appendCap (len + m) cap e).cut (w.tape w.drawn (.appendCap (len + m) cap e)) = grownCap w (len + m) cap e := rfl
      have hdr : ({ w with drawn := w.drawn + 1 } : World) = w.drew := rfl
      unfold Builtin.append_
      simp [run_underlying hT, run_underlying hT2, hset, hzero, hxl, hroom, typeInfo, hi, h2', hfit', hforced, hgc, hdr, ho', hx', he.zero_run, hzc, newRow]
    · simp only [List.length_append, hol, hnl, List.length_flatten]
      simp [hdl]
      rw [← Nat.add_mul, ← Nat.add_mul]
      congr 1
      omega
theorem run_firstCells_slice {w:World} {sz m b o len cap:Nat} {cs:List Value} (hl:cs.length=m*sz) (hc:CellsAt w b o cs):(Builtin.firstCells sz m (.slice (some ⟨b,o,none⟩) len cap)).run P w = .ok cs.toArray w:=by
 have:=run_loadCells_list (P:=P) w ⟨b,o,none⟩ cs (fun j v hj=>by rw [Addr.add_lit];exact hc j v hj)
 simp only [Builtin.firstCells, ← hl,this]
end
theorem SlAt.row {w:World} {G:Nat→Prop} {α:Type} {R:α→List Value→Prop} {sz:Nat} {xs:List α} {v:Value} (h:SlAt w G R sz xs v) :
  ∃ css bss,Row (fun y c b=>R y c∧b=[]) sz xs css bss∧bss.flatten=[]∧((∃ ad,v = .slice ad 0 0∧xs=[])∨∃ b off cap,v = .slice (some ⟨b,off,none⟩) xs.length cap∧G b∧CellsAt w b off css.flatten):=by
 rcases h.2 with ⟨ad,rfl,rfl⟩ | ⟨b,off,cap,rfl,h1,h2,h3,h4⟩
 ·exact ⟨[],[],⟨rfl,rfl⟩,rfl,.inl ⟨ad,rfl,rfl⟩⟩
 ·obtain ⟨css,hr,hc⟩:=row_of (R:=fun y c b=>R y c∧b=[]) (sz:=sz) (f:=fun j=>w.cell? ⟨b,j,none⟩) xs (List.replicate xs.length []) off (by simp) (fun i y bi hy hb=>by
   obtain ⟨cs,e1,e2,e3⟩:=h4 i y hy
   have:bi=[]:=by
    have:=List.mem_of_getElem? hb
    exact (List.mem_replicate.1 this).2
   exact ⟨cs,e1,e2,e3,this⟩)
  exact ⟨css,_,hr,by simp,.inr ⟨b,off,cap,rfl,h3,hc⟩⟩
theorem OwnSl.row {w:World} {α:Type} {R:α→List Value→List Nat→Prop} {sz:Nat} {xs:List α} {v:Value} {bs:List Nat} (h:OwnSl w R sz xs v bs) :
  ∃ css bss,Row R sz xs css bss∧((∃ ad,v = .slice ad 0 0∧xs=[]∧bs=[])∨∃ b off cap cur ty fz,v = .slice (some ⟨b,off,none⟩) xs.length cap∧xs.length≤cap∧cap≤maxLen∧off+cap*sz≤cur.size ∧
   w.heap[b]? = some (.cells cur ty fz)∧FreeS sz fz cur.size∧bs=b :: bss.flatten∧∀ j c,css.flatten[j]? = some c→cur[off+j]? = some c):=by
 rcases h.2 with ⟨ad,rfl,rfl,rfl⟩ | ⟨b,off,cap,cur,ty,fz,bss,rfl,h1,h2,h3,h4,h5,h6,h7,h8⟩
 ·exact ⟨[],[],⟨rfl,rfl⟩,.inl ⟨ad,rfl,rfl,rfl⟩⟩
 ·obtain ⟨css,hr,hc⟩:=row_of (R:=R) (sz:=sz) (f:=fun j=>cur[j]?) xs bss off h6 (fun i y bi hy hb=>h8 i y bi hy hb)
  exact ⟨css,bss,hr,.inr ⟨b,off,cap,cur,ty,fz,rfl,h1,h2,h3,h4,h5,h7,hc⟩⟩
end Go.Am
namespace Go.Am
set_option linter.unusedVariables false
set_option linter.unusedSimpArgs false
def srcS:(t:Ty)→ByteArray→Option (List t.den)
 | .int .u8,s=>some (bytesOf s)
 | _,_=>none
def srcA (tab:List TI) (L:Heap) (T2:TypeId) (t:Ty):Atom→Option (List t.den)
 | .val (.string s)=>match tabGet tab T2 with
  | .scal .str=>srcS t s
  | _=>none
 | A=>match tabGet tab T2 with
  | .slice _ _ _=>decV L (.sl t) A
  | _=>none
def srcN (L:Heap) (t:Ty):Atom→Option (List t.den)
 | .sl t' xs=>if h:t'=t then some (castL h xs) else none
 | .osl r rg=>match hget L r with
  | some A=>match A.bor with
   | true=>if h:A.t=t then some (rgL rg (castL h A.xs)) else none
   | false=>none
  | none=>none
 | .val (.slice none _ _)=>some []
 | _=>none
def srcT (tab:List TI) (L:Heap) (T2:TypeId) (t:Ty) (X:Atom):Option (List t.den) :=
 match t.flat with
 | true=>srcA tab L T2 t X
 | false=>match tabGet tab T2 with
  | .slice _ _ _=>srcN L t X
  | _=>none
def borOk (A:Arr):Bool:=A.t.flat||(A.bor||A.xs.isEmpty)
def appA (tab:List TI) (E:Env) (L:Heap) (T T2:TypeId):PV→PV→Option (List Prop×PV×Env×Heap)
 | .a S,.a X=>match tabGet tab T with
  | .slice _ t by'=>match Nat.ble 1 t.size&&Nat.ble 1 by',srcT tab L T2 t X with
   | true,some ys=>match S with
    | .val (.slice none _ _)=>some ([ys.length*by'≤140737488355328],.a (.osl L.length none),E,L++[some ⟨t,ys, !t.flat,none,none⟩])
    | .osl r rg=>match hget L r with
     | some A=>if h:t=A.t then (match borOk A with
      | true=>some ([((rgL rg A.xs).length+ys.length)*by'≤140737488355328],.a (.osl r none),killE r E,killH r (hset L r (some ⟨A.t,rgL rg A.xs++castL h ys,A.bor || !A.t.flat,none,none⟩)))
      | false=>none) else none
     | none=>none
    | _=>none
   | _,_=>none
  | _=>none
 | _,_=>none
section
variable {P:Program} {n:Nat} {K:Ctx} {G:Nat→Prop} {w0 w:World} {a:Act} {E:Env} {L:Heap} {V:Nat→Value} {own:Nat→List Nat}
theorem RelV.replace (hR:RelV n K w0 G w a E L V own) {w':World} (hk:Kept K.O K.w0 w') (hsz:w.heap.size≤w'.heap.size) {r:Nat} {A A':Arr} (hA:hget L r=some A) (hold:∀ c,c<w.heap.size→c ∉ own r→w'.heap[c]? = w.heap[c]?)
  {v':Value} {bs':List Nat} (hls:A'.ls=none) (hsm:A'.sm=none) (hE:EntC w0 G w' A' v' bs') (hn:bs'.Nodup) (hg:∀ b∈bs',Out K G b) (hd:∀ s C,hget L s=some C→s≠r→∀ b∈own s,b ∉ bs') :
  RelV n K w0 G w' a (killE r E) (killH r (hset L r (some A'))) (upd1 V r v') (upd1 own r bs'):=by
 have hkill:killR r A'=A':=by unfold killR;rw [hls]
 have hsplit:∀ s C,hget (killH r (hset L r (some A'))) s=some C→(s≠r∧∃ D,hget L s=some D∧C=killR r D)∨(s=r∧C=A'):=by
  intro s C hs
  rw [hget_killH] at hs
  by_cases hsr:s=r
  ·subst hsr;rw [hget_hset_same hA] at hs;cases hs;exact .inr ⟨rfl,hkill⟩
  ·rw [hget_hset_other (Ne.symm hsr)] at hs
   cases hD:hget L s with
   | none=>rw [hD] at hs;cases hs
   | some D=>rw [hD] at hs;cases hs;exact .inl ⟨hsr,D,rfl,rfl⟩
 have hag:∀ s,s≠r→Agree L V (killH r (hset L r (some A'))) (upd1 V r v') s:=fun s hs=>by
  refine ⟨upd1_other _ _ hs,fun B hB=>⟨killR r B,?_,killR_t r B,killR_len r B,fun ls h=>⟨_,killR_ls.1 ls h⟩⟩⟩
  rw [hget_killH,hget_hset_other (Ne.symm hs),hB];rfl
 have hkeep:∀ s D,hget L s=some D→s≠r→∀ b∈own s,w'.heap[b]? = w.heap[b]? := fun s D hD hs b hb=>hold b (hR.own_lt hD b hb) (hR.apart s r D A hD hA hs b hb)
 have hGk:∀ c,G c→w'.heap[c]? = w.heap[c]? := fun c hc=>hold c (hR.glt c hc) fun hm=>(hR.good r A hA c hm).2 hc
 refine ⟨hR.glob,hk,hR.size,hR.defers,fun c hc=>Nat.lt_of_lt_of_le (hR.glt c hc) hsz,fun c hc=>(hGk c hc).trans (hR.gref c hc),hR.gsub,hR.gold,hR.gup,?_,?_,?_,?_,?_,?_,fun i => ?_⟩
 ·intro s C hs
  rcases hsplit s C hs with ⟨e1,D,e2,rfl⟩ | ⟨rfl,rfl⟩
  ·rw [upd1_other _ _ e1,upd1_other _ _ e1];exact killR_ent.2 ((hR.heap s D e2).keep (hkeep s D e2 e1))
  ·rw [upd1_same,upd1_same];exact hE
 ·intro s C hs
  rcases hsplit s C hs with ⟨e1,D,e2,rfl⟩ | ⟨rfl,rfl⟩
  ·rw [upd1_other _ _ e1];exact hR.good s D e2
  ·rw [upd1_same];exact hg
 ·intro s C hs
  rcases hsplit s C hs with ⟨e1,D,e2,rfl⟩ | ⟨rfl,rfl⟩
  ·rw [upd1_other _ _ e1];exact hR.nodup s D e2
  ·rw [upd1_same];exact hn
 ·intro s u C D hs hu hsu
  rcases hsplit s C hs with ⟨e1,C',e2,rfl⟩ | ⟨rfl,rfl⟩
  ·rcases hsplit u D hu with ⟨e3,D',e4,rfl⟩ | ⟨rfl,rfl⟩
   ·rw [upd1_other _ _ e1,upd1_other _ _ e3];exact hR.apart s u C' D' e2 e4 hsu
   ·rw [upd1_other _ _ e1,upd1_same];exact hd s C' e2 e1
  ·rcases hsplit u D hu with ⟨e3,D',e4,rfl⟩ | ⟨rfl,rfl⟩
   ·rw [upd1_same,upd1_other _ _ e3];exact fun b hb hb'=>hd u D' e4 e3 b hb' hb
   ·exact absurd rfl hsu
 ·intro s C ls hs hl
  rcases hsplit s C hs with ⟨e1,D,e2,rfl⟩ | ⟨rfl,rfl⟩
  ·obtain ⟨l0,h0,rfl⟩:=killR_ls.2 ls hl
   rw [upd1_other _ _ e1,killR_t]
   refine (((hR.boxs s D l0 e2 h0).keepB fun d off hv => ?_).kill r).agree fun u hu=>hag u fun e => ?_
   ·exact hkeep s D e2 e1 d ((hR.heap s D e2).block hv (Nat.le_refl _))
   ·subst e;exact killLs_refs.1 hu
  ·rw [hls] at hl;cases hl
 ·intro s C q hs hq
  rcases hsplit s C hs with ⟨e1,D,e2,rfl⟩ | ⟨rfl,rfl⟩
  ·rw [killR_sm] at hq
   obtain ⟨g1,g2⟩:=hR.small s D q e2 hq
   rw [upd1_other _ _ e1,upd1_other _ _ e1]
   exact ⟨g1,fun e=>⟨by rw [killR_bor];exact (g2 e).1,killR_ent.2 ((g2 e).2.keep (hkeep s D e2 e1))⟩⟩
  ·rw [hsm] at hq;cases hq
 ·rw [get_killE]
  exact repP_agree (repP_kill r (hR.env i)) fun s hs=>hag s fun e=>killP_refs.1 (e ▸ hs)
theorem rep_whole {r:Nat} {A:Arr} {v:Value} {bs:List Nat} {G':Nat→Prop} {u u':World} {L:Heap} {V:Nat→Value} (hA:hget L r=some A) (hV:V r=v) (h:EntC u G' u' A v bs):RepA w0 G L V (.osl r none) v:=by
 refine ⟨A,hA,fun _=>hV.symm,?_⟩
 rw [hV]
 refine ⟨Nat.zero_le _,Nat.le_refl _,?_⟩
 rcases h.2 with ⟨ad,h1,h2,_⟩ | ⟨b,off,cap,cur,ty,fz,bss,h1,h2,h3,h4,h5,h6,h7,h8,h9⟩
 ·exact .inl ⟨ad,ad,h1,h1,by rw [h2];exact ⟨rfl,rfl⟩⟩
 ·exact .inr ⟨b,off,A.xs.length,cap,off,cap,h1,by rw [h1];rfl,by simpa [rgLo,rgHi] using h2,.inl ⟨by simp [rgLo],by simp [rgLo]⟩⟩
theorem repC_ent {w:World} {G G':Nat→Prop} {t:Ty} {x:t.den} {cs:List Value} (h:RepC w G t x cs) (hf:t.flat=true) (bor:Bool) (u u':World):entR u G' u' t bor x cs []:=by
 unfold entR
 cases bor with
 | true=>exact ⟨h.flat hf,rfl⟩
 | false=>exact h.own hf
theorem firstCells_nil (sz:Nat) (ad:Option Addr) (w:World):(Builtin.firstCells sz 0 (.slice ad 0 0)).run P w = .ok #[] w:=by
 cases ad with
 | none=>rfl
 | some ad =>
  have:=run_loadCells_list (P:=P) w ad [] (fun j v hj=>by simp at hj)
  simpa [Builtin.firstCells] using this
theorem SlAt.mapR {w:World} {G G':Nat→Prop} {α:Type} {R R':α→List Value→Prop} {sz:Nat} {xs:List α} {v:Value} (h:SlAt w G R sz xs v) (hG:∀ b,G b→G' b) (hR:∀ x cs,R x cs→R' x cs):SlAt w G' R' sz xs v :=
 SlAt.keep hR hG (fun _ _=>rfl) h
theorem slAt_cast {w w0:World} {G G':Nat→Prop} {t e:Ty} (h:t=e) {xs:List t.den} {v:Value} (hx:SlAt w G' (RepC w0 G t) t.size xs v):SlAt w G' (RepC w0 G e) e.size (castL h xs) v:=by
 subst h;exact hx
theorem srcT_spec {tab:List TI} (hT:TabOk P tab) (hR:RelV n K w0 G w a E L V own) {T2:TypeId} {t:Ty} {X:Atom} {x:Operand} (hx:opnd E x = .a X) {ys:List t.den} (h:srcT tab L T2 t X=some ys) :
  ∃ d css bss,P.underlying T2=some d∧(∀ k,d ≠ .int k)∧bss.flatten=[]∧(∀ w1 bor,(t.flat=true∨bor=true)→Row (entR w0 G w1 t bor) t.size ys css bss)∧(∀ w':World,w'.heap=w.heap→(Builtin.firstCells t.size ys.length (a.eval x)).run P w' = .ok css.flatten.toArray w')∧∀ w',(Builtin.lenOf (a.eval x)).run P w' = .ok ys.length w':=by
 have slice:∀ {e:TypeId} {t':Ty} {b:Nat},tabGet tab T2 = .slice e t' b→SlAt w (fun _=>True) (RepC w0 G t) t.size ys (a.eval x)→∃ d css bss,P.underlying T2=some d∧(∀ k,d ≠ .int k)∧bss.flatten=[]∧(∀ w1 bor,(t.flat=true∨bor=true)→Row (entR w0 G w1 t bor) t.size ys css bss) ∧
   (∀ w':World,w'.heap=w.heap→(Builtin.firstCells t.size ys.length (a.eval x)).run P w' = .ok css.flatten.toArray w')∧∀ w',(Builtin.lenOf (a.eval x)).run P w' = .ok ys.length w':=by
  intro e t' b ht hr
  have hS:=hT T2;rw [ht] at hS
  obtain ⟨css,bss,h1,h2,h3⟩:=SlAt.row hr
  refine ⟨_,css,bss,hS.2.1,(fun k h=>by cases h),h2,fun w1 bor hfb=>h1.mono (fun y c b hb hh => ?_),?_,?_⟩
  ·rw [hh.2]
   unfold entR
   cases bor with
   | true=>exact ⟨hh.1,rfl⟩
   | false=>exact hh.1.own (hfb.resolve_right (by simp))
  ·intro w' hw'
   rcases h3 with ⟨ad,e1,e2⟩ | ⟨b',off,cap,e1,e2,e3⟩
   ·have:css=[]:=by rw [e2] at h1;exact h1.1
    rw [e1,this,e2];exact firstCells_nil _ _ _
   ·rw [e1]
    exact run_firstCells_slice h1.len.2.2 (e3.keep (by rw [hw']))
  ·intro w'
   rcases h3 with ⟨ad,e1,e2⟩ | ⟨b',off,cap,e1,e2,e3⟩
   ·rw [e1,e2];rfl
   ·rw [e1];rfl
 unfold srcT at h
 split at h
 ·rename_i hf
  unfold srcA at h
  split at h
  ·rename_i s
   split at h
   ·rename_i ht
    have hS:=hT T2;rw [ht] at hS
    obtain ⟨e1,e2⟩:=hR.valEq hx
    unfold srcS at h
    split at h
    ·cases h
     have hrow:∀ (l:List UInt8) (w1:World) (bor:Bool),Row (entR w0 G w1 (.int .u8) bor) (Ty.int IntKind.u8).size (l.map fun b=>(b.toNat:Int)) (l.map fun b=>[.int .u8 (b.toNat:Int)]) (l.map fun _=>[]):=by
      intro l w1 bor
      induction l with
      | nil=>exact ⟨rfl,rfl⟩
      | cons b l ih =>
       refine ⟨_,_,_,_,rfl,rfl,rfl,?_,ih⟩
       refine repC_ent (w:=w1) (G:=fun _=>True) (t := .int .u8) (x:=(b.toNat:Int)) (cs:=[.int .u8 (b.toNat:Int)]) ⟨rfl,?_⟩ rfl bor _ _
       have hb:=b.toNat_lt
       simp [InR,IntKind.min,IntKind.max,IntKind.bits,IntKind.signed];omega
     refine ⟨_,_,_,TyOk.str_und hS,(fun k h=>by cases h),by simp,fun w1 bor _=>hrow s.data.toList w1 bor,fun w' _ => ?_,fun w' => ?_⟩
     ·rw [e1]
      have hl:(bytesOf s).length=s.size:=by simp [bytesOf]
      simp only [Builtin.firstCells,hl,Sem.run_pure]
      congr 1
      have hs:s.extract 0 s.size=s:=by simp
      rw [hs]
      apply Array.toList_inj.1
      simp
      induction s.data.toList with
      | nil=>rfl
      | cons b l ih=>simp [ih]
     ·rw [e1]
      have hl:(bytesOf s).length=s.size:=by simp [bytesOf]
      simp [Builtin.lenOf,hl]
    ·cases h
   ·cases h
  ·split at h
   ·rename_i e t' b ht
    have hr:=decV_rep hR (Kept.refl [] w) (G':=fun _=>True) (fun _ _=>trivial) (hR.atom hx) h (fun _ _ _ _=>trivial)
    exact slice ht (SlAt.mapR hr (fun _ h=>h) (fun y c hh=>hh.flat hf))
   ·cases h
 ·split at h
  ·rename_i e t' b ht
   refine slice ht ?_
   have hX:=hR.atom hx
   unfold srcN at h
   split at h
   ·rename_i t2 xs
    split at h
    ·rename_i he
     cases h
     have hX:SlAt w0 G (RepC w0 G t2) t2.size xs (a.eval x):=hX
     have h1:SlAt w (fun _=>True) (RepC w0 G t2) t2.size xs (a.eval x):=SlAt.keep (fun _ _ h=>h) (fun _ _=>trivial) hR.gref hX
     exact slAt_cast he h1
    ·cases h
   ·rename_i r rg
    split at h
    ·rename_i A hA
     split at h
     ·rename_i hbor
      split at h
      ·rename_i he
       cases h
       subst he
       obtain ⟨B,hB,_,hs⟩:=hX
       rw [hA] at hB;cases hB
       have h1:SlAt w (fun _=>True) (RepC w0 G A.t) A.t.size A.xs (V r):=OwnSl.read (fun y c bi _ hr=>by
        unfold entR at hr
        rw [hbor] at hr
        exact hr.1) (fun _ _=>trivial) (hR.heap r A hA)
       cases rg with
       | none=>exact h1.whole hs
       | some q=>obtain ⟨lo,hi⟩:=q;exact h1.sub (nn:=0) hs
      ·cases h
     ·cases h
    ·cases h
   ·cases h
    obtain ⟨e1,⟨e3,e4⟩⟩:=hX
    subst e3 e4
    rw [e1]
    exact ⟨Nat.zero_le _,.inl ⟨_,rfl,rfl⟩⟩
   ·cases h
  ·cases h
theorem hget_kill_same {r:Nat} {A A':Arr} (hA:hget L r=some A) (hls:A'.ls=none):hget (killH r (hset L r (some A'))) r=some A':=by
 rw [hget_killH,hget_hset_same hA]
 show some (killR r A')=some A'
 unfold killR
 rw [hls]
theorem Row.nilM {α:Type} {R R':α→List Value→List Nat→Prop} {sz:Nat}:∀ {ys:List α} {css:List (List Value)} {bss:List (List Nat)},(∀ y c b,y∈ys→R y c b→R' y c [])→Row R sz ys css bss→∃ bss',Row R' sz ys css bss'∧bss'.flatten=[]
 | [],css,_,_,h=>⟨[],⟨h.1,rfl⟩,rfl⟩
 | y :: ys,_,_,hm,⟨c,cs,b,bs,h1,h2,h3,h4,h5⟩=>by
  obtain ⟨bs',h6,h7⟩:=h5.nilM (fun y c b hy=>hm y c b (List.mem_cons_of_mem _ hy))
  exact ⟨[] :: bs',⟨c,cs,[],bs',h1,rfl,h3,hm _ _ _ (List.mem_cons_self ..) h4,h6⟩,by simp [h7]⟩
theorem drew_size (w:World):w.drew.heap.size=w.heap.size:=rfl
theorem append_nil {tab:List TI} (hT:TabOk P tab) (hR:RelV n K w0 G w a E L V own) {T T2 ty e:TypeId} {t:Ty} {i:TypeInfo} {d:TypeDesc} {by':Nat} {s x:Operand} {ys:List t.den} {css:List (List Value)} {bss:List (List Nat)}
  (hu:P.underlying T=some (.slice e)) (hd1:P.underlying T2=some d) (hd2:∀ k,d ≠ .int k) (hi:P.info? e=some i) (hbi:i.bytes=by') (he:TyOk P e t) (hsz:1≤t.size) (hby1:1≤by') (hb0:bss.flatten=[])
  {bo:Bool} (hrow:∀ w1,Row (entR w0 G w1 t bo) t.size ys css bss) (hfc:∀ w':World,w'.heap=w.heap→(Builtin.firstCells t.size ys.length (a.eval x)).run P w' = .ok css.flatten.toArray w') (hlen:∀ w',(Builtin.lenOf (a.eval x)).run P w' = .ok ys.length w')
  (l3:css.flatten.length=ys.length*t.size) (hone:∀ v∈css.flatten,v.oneCell'=true) (hc:ys.length*by'≤140737488355328) (e1:a.eval s = .slice none 0 0) :
  ∃ v w' V' own',(Builtin.append_ #[T,T2] ty #[a.eval s,a.eval x]).run P w = .ok v w'∧RelN n K w0 G w w' a E L (L++[some ⟨t,ys,bo,none,none⟩]) V V' own own'∧RepP w0 G (L++[some ⟨t,ys,bo,none,none⟩]) V' (.a (.osl L.length none)) v:=by
 have hml:0+ys.length≤maxLen:=by
  have:ys.length≤ys.length*by':=Nat.le_mul_of_pos_right _ hby1
  have:=hc
  unfold maxLen;omega
 obtain ⟨v',w',hrun,hcase⟩:=append_run (P:=P) (w:=w) (T:=T) (T2:=T2) (ty:=ty) (adr:=none) (len:=0) (cap:=0) (olds:=[]) hu hd1 hd2 hi he hsz hfc hlen (fun w' _=>rfl) (by simp) l3 hone (by rw [hbi,Nat.zero_add];exact hc) hml (.inl rfl)
 rw [e1]
 rcases hcase with ⟨_,hcase⟩ | ⟨hlt,nc,rest,rfl,hnc1,hnc2,rfl,hlr⟩
 ·rcases hcase with ⟨_,rfl,rfl,hm,_⟩ | ⟨hh,_⟩
  ·have hys:ys=[]:=List.eq_nil_of_length_eq_zero hm
   subst hys
   have hent:EntC w0 G w' ⟨t,[],bo,none,none⟩ (.slice none 0 0) []:=⟨by simp,.inl ⟨_,rfl,rfl,rfl⟩⟩
   exact ⟨_,_,_,_,hrun,hR.freshN (Kept.refl _ _) hent (by simp) (by simp),repA_new (w0:=w0) (G:=G) (u:=w0) (G':=G) hent⟩
  ·exact absurd rfl hh
 ·simp only [List.nil_append,Nat.zero_add] at hrun hnc1 hlr hlt
  have hent:=ent_row (w:=w.drew) (sm:=none) (ty:=e) (cap:=nc) (hrow _) hb0 hnc1 hnc2 (by rw [hlr];exact Nat.le_refl _)
  exact ⟨_,_,_,_,hrun,hR.freshN ((Kept.refl [] w).drew.alloc _) hent (by simp) (by rw [drew_size];simp),repA_new (w0:=w0) (G:=G) (u:=w0) (G':=G) hent⟩
set_option maxHeartbeats 800000 in
theorem append_osl {tab:List TI} (hT:TabOk P tab) (hR:RelV n K w0 G w a E L V own) {T T2 ty e:TypeId} {i:TypeInfo} {d:TypeDesc} {by':Nat} {s x:Operand} {r:Nat} {rg:Option (Nat×Nat)} {A:Arr} {ys:List A.t.den} {css:List (List Value)} {bss:List (List Nat)}
  (hu:P.underlying T=some (.slice e)) (hd1:P.underlying T2=some d) (hd2:∀ k,d ≠ .int k) (hi:P.info? e=some i) (hbi:i.bytes=by') (he:TyOk P e A.t) {bo:Bool} (hbo:∀ w1 y c b,y∈A.xs→entR w0 G w A.t A.bor y c b→entR w0 G w1 A.t bo y c []) (hsz:1≤A.t.size) (hby1:1≤by') (hb0:bss.flatten=[])
  (hrow:∀ w1,Row (entR w0 G w1 A.t bo) A.t.size ys css bss) (hfc:∀ w':World,w'.heap=w.heap→(Builtin.firstCells A.t.size ys.length (a.eval x)).run P w' = .ok css.flatten.toArray w') (hlen:∀ w',(Builtin.lenOf (a.eval x)).run P w' = .ok ys.length w')
  (l3:css.flatten.length=ys.length*A.t.size) (hone:∀ v∈css.flatten,v.oneCell'=true) (hA:hget L r=some A) (hs:opnd E s = .a (.osl r rg)) (hc:((rgL rg A.xs).length+ys.length)*by'≤140737488355328∧True) :
  ∃ v w' V' own',(Builtin.append_ #[T,T2] ty #[a.eval s,a.eval x]).run P w = .ok v w'∧RelV n K w0 G w' a (killE r E) (killH r (hset L r (some ⟨A.t,rgL rg A.xs++castL rfl ys,bo,none,none⟩))) V' own'∧RepP w0 G (killH r (hset L r (some ⟨A.t,rgL rg A.xs++castL rfl ys,bo,none,none⟩))) V' (.a (.osl r none)) v:=by
 obtain ⟨A',hA',hve,hs1,hs2,hs3⟩:=hR.atom hs
 rw [hA] at hA';cases hA'
 have hent:=hR.heap r A hA
 obtain ⟨ocss,obss,horow,hocase⟩:=OwnSl.row hent
 -- the base's own elements
 have hbrow:∀ w1,∃ ob,Row (entR w0 G w1 A.t bo) A.t.size (rgL rg A.xs) (rgL rg ocss) ob∧ob.flatten=[]:=by
  intro w1
  obtain ⟨ob,h1,h2⟩:=horow.nilM (R':=entR w0 G w1 A.t bo) (fun y c b hy hh=>hbo w1 y c b hy hh)
  cases rg with
  | none=>exact ⟨ob,h1,h2⟩
  | some q =>
   obtain ⟨lo,hi⟩:=q
   refine ⟨(ob.take hi).drop lo,(h1.take hi).drop lo,?_⟩
   rw [List.flatten_eq_nil_iff] at h2 ⊢
   exact fun l hl=>h2 l (List.mem_of_mem_take (List.mem_of_mem_drop hl))
 obtain ⟨ob,hbrow1,hbflat⟩:=hbrow w
 obtain ⟨m1,m2,m3⟩:=hbrow1.len
 have hlenrg:(rgL rg A.xs).length=rgHi A.xs.length rg - rgLo rg:=by
  cases rg with
  | none=>simp [rgL,rgHi,rgLo]
  | some q =>
   obtain ⟨lo,hi⟩:=q
   simp only [rgL,rgHi,rgLo,List.length_drop,List.length_take] at hs2 ⊢
   omega
 have hml:(rgL rg A.xs).length+ys.length≤maxLen:=by
  have:(rgL rg A.xs).length+ys.length≤((rgL rg A.xs).length+ys.length)*by':=Nat.le_mul_of_pos_right _ hby1
  have:=hc.1
  unfold maxLen;omega
 have hcast:∀ (w1:World),∃ nb,Row (entR w0 G w1 A.t bo) A.t.size (rgL rg A.xs++castL rfl ys) (rgL rg ocss++css) nb∧nb.flatten=[]:=by
  intro w1
  obtain ⟨ob,h1,h2⟩:=hbrow w1
  exact ⟨ob++bss,h1.append (hrow w1),by simp [h2,hb0]⟩
 have hbnot:∀ s C,hget L s=some C→s≠r→∀ b∈own s,b ∉ own r:=fun s C hs' hsr=>hR.apart s r C A hs' hA hsr
 have hbg:=hR.good r A hA
 have nothing:∀ adr:Option Addr,a.eval s = .slice adr 0 0→rgHi A.xs.length rg - rgLo rg=0 →
   ∃ v w' V' own',(Builtin.append_ #[T,T2] ty #[a.eval s,a.eval x]).run P w = .ok v w'∧RelV n K w0 G w' a (killE r E) (killH r (hset L r (some ⟨A.t,rgL rg A.xs++castL rfl ys,bo,none,none⟩))) V' own'∧RepP w0 G (killH r (hset L r (some ⟨A.t,rgL rg A.xs++castL rfl ys,bo,none,none⟩))) V' (.a (.osl r none)) v:=by
  intro adr hv e0
  have eo:rgL rg A.xs=[]:=List.eq_nil_of_length_eq_zero (by omega)
  obtain ⟨v',w',hrun,hcase⟩:=append_run (P:=P) (w:=w) (T:=T) (T2:=T2) (ty:=ty) (adr:=adr) (len:=0) (cap:=0) (olds:=[]) hu hd1 hd2 hi he hsz hfc hlen (fun w' _=>firstCells_nil _ _ _) (by simp) l3 hone
   (by rw [hbi];have:=hc.1;rw [eo] at this;simpa using this) (by rw [eo] at hml;simpa using hml) (.inl rfl)
  rw [hv]
  simp only [eo,List.nil_append] at *
  rcases hcase with ⟨_,hcase⟩ | ⟨hlt,nc,rest,rfl,hnc1,hnc2,rfl,hlr⟩
  ·rcases hcase with ⟨_,rfl,rfl,hm,_⟩ | ⟨hh,_⟩
   ·have hys:ys=[]:=List.eq_nil_of_length_eq_zero hm
    subst hys
    have hent':EntC w0 G w' ⟨A.t,castL rfl [],bo,none,none⟩ (.slice adr 0 0) []:=⟨by simp [castL],.inl ⟨_,rfl,rfl,rfl⟩⟩
    exact ⟨_,_,_,_,hrun,hR.replace hR.kept (Nat.le_refl _) hA (fun _ _ _=>rfl) rfl rfl hent' (by simp) (by simp) (by simp),rep_whole (w0:=w0) (G:=G) (hget_kill_same hA rfl) (upd1_same _ _ _) hent'⟩
   ·exact absurd rfl hh
  ·simp only [List.nil_append,Nat.zero_add] at hrun hnc1 hlr hlt
   have hent':=ent_row (w:=w.drew) (sm:=none) (ty:=e) (cap:=nc) (hrow _) hb0 hnc1 hnc2 (by rw [hlr];exact Nat.le_refl _)
   refine ⟨_,_,_,_,hrun,hR.replace (hR.kept.drew.alloc _) (by simp [World.alloc,drew_size]) hA (fun c hc _ => ?_) rfl rfl hent' (by simp) (by rw [drew_size];intro b hb;simp at hb;subst hb;exact hR.out_new (Nat.le_refl _)) (fun s C hs' _ b hb => ?_),rep_whole (w0:=w0) (G:=G) (hget_kill_same hA rfl) (upd1_same _ _ _) hent'⟩
   ·exact Go.RowKit.Below.heap_alloc _ _ _ hc
   ·have:=hR.own_lt hs' b hb
    rw [drew_size];simp;omega
 rcases hs3 with ⟨ad,ad',hV,hv,hz⟩ | ⟨b0,off0,m0,cap0,o,c,hV,hv,hle,hcase⟩
 ·exact nothing ad' hv (by omega)
 by_cases hc00:c=0
 ·subst hc00
  have e0:rgHi A.xs.length rg - rgLo rg=0:=by omega
  exact nothing _ (by rw [hv,e0]) e0
 ·rcases hocase with ⟨_,h1,_,_⟩ | ⟨b1,off1,cap1,cur,ct,fz,h1,h2,h3,h4,h5,h6,h7,h8⟩
  ·rw [h1] at hV;cases hV
   have:=(hcase.resolve_right (fun h=>hc00 h.1)).2
   omega
  ·rw [h1] at hV
   cases hV
   have hoc:o+c*A.t.size≤cur.size:=by
    rcases hcase with ⟨ho,hcap⟩ | ⟨hc0,ho⟩
    ·have:(rgLo rg+c)*A.t.size≤cap0*A.t.size:=Nat.mul_le_mul_right _ hcap
     rw [Nat.add_mul] at this
     omega
    ·rw [hc0,Nat.zero_mul];omega
   have hold:∀ j v,(rgL rg ocss).flatten[j]? = some v→cur[o+j]? = some v:=by
    intro j v hj
    have hjl:j<(rgL rg A.xs).length*A.t.size:=by rw [← m3];exact (List.getElem?_eq_some_iff.1 hj).1
    have hne:c≠0:=by
     intro hc0
     rw [hlenrg] at hjl
     have:rgHi A.xs.length rg - rgLo rg=0:=by omega
     rw [this,Nat.zero_mul] at hjl;omega
    obtain ⟨ho,hcap⟩:=hcase.resolve_right (fun h=>hne h.1)
    cases rg with
    | none =>
     have:=h8 j v hj
     rw [ho];simpa [rgLo] using this
    | some q =>
     obtain ⟨lo,hi'⟩:=q
     have hl:=horow.lens
     have hpre:(ocss.take lo).flatten.length=lo*A.t.size:=by
      have:=(horow.take lo).len.2.2
      rw [this,List.length_take]
      congr 1
      simp only [rgLo,rgHi] at hs1 hs2
      omega
     have hfl:ocss.flatten[lo*A.t.size+j]? = some v:=by
      have hsplit:ocss=(ocss.take lo++(ocss.take hi').drop lo)++ocss.drop hi':=by
       have e1:ocss.take lo=(ocss.take hi').take lo:=by
        rw [List.take_take];congr 1;simp only [rgLo,rgHi] at hs1;omega
       rw [e1,List.take_append_drop,List.take_append_drop]
      rw [hsplit,List.flatten_append,List.flatten_append,List.append_assoc,List.getElem?_append_right (by omega),hpre,Nat.add_sub_cancel_left]
      have hj':((ocss.take hi').drop lo).flatten[j]? = some v:=hj
      rw [List.getElem?_append_left (List.getElem?_eq_some_iff.1 hj').1]
      exact hj'
     have:=h8 _ v hfl
     rw [ho]
     simp only [rgLo]
     rwa [← Nat.add_assoc] at this
   have hblt:b0<w.heap.size:=hR.own_lt hA b0 (by rw [h7];exact List.mem_cons_self ..)
   have hbown:b0∈own r:=by rw [h7];exact List.mem_cons_self ..
   have hcells:∀ w':World,w'.heap=w.heap→CellsAt w' b0 o (rgL rg ocss).flatten:=fun w' hw' j v hj=>by
    simp only [World.cell?, hw',h5]
    exact hold j v hj
   obtain ⟨v',w',hrun,hcase'⟩:=append_run (P:=P) (w:=w) (T:=T) (T2:=T2) (ty:=ty) (adr:=some ⟨b0,o,none⟩) (len:=(rgL rg A.xs).length) (cap:=c) (olds:=(rgL rg ocss).flatten) hu hd1 hd2 hi he hsz hfc hlen
    (fun w' hw'=>run_firstCells_slice m3 (hcells w' hw')) m3 l3 hone (by rw [hbi];exact hc.1) hml (.inr ⟨b0,o,cur,ct,fz,rfl,h5,h6,hoc⟩)
   rw [hv, ← hlenrg]
   rcases hcase' with ⟨hroom,hcase'⟩ | ⟨hlt,nc,rest,rfl,hnc1,hnc2,rfl,hlr⟩
   ·rcases hcase' with ⟨hh,_⟩ | ⟨_,b2,o2,cur2,ct2,fz2,cur',hh,g1,g2,g3,rfl,g4,g5,g6⟩
    ·exact absurd hh hc00
    ·cases hh
     rw [h5] at g1
     cases g1
     replace g5:cur'.toList=splice cur.toList (o+(rgL rg A.xs).length*A.t.size) css.flatten:=g5
     obtain ⟨nb,hnrow,hnflat⟩:=hcast w'
     have hnl:(rgL rg ocss).flatten.length+css.flatten.length≤c*A.t.size:=by
      rw [m3,l3, ← Nat.add_mul];exact Nat.mul_le_mul_right _ hroom
     have hcs:cur'.size=cur.size:=by
      have hsl:=splice_length (cs:=cur.toList) (c:=css.flatten) (o:=o+(rgL rg A.xs).length*A.t.size) (by have hcl:cur.toList.length=cur.size:=Array.length_toList;omega)
      have:=congrArg List.length g5
      rw [hsl] at this
      simpa using this
     have hget':∀ j v,(rgL rg ocss++css).flatten[j]? = some v→cur'[o+j]? = some v:=by
      intro j v hj
      rw [← Array.getElem?_toList,g5,splice]
      rw [List.flatten_append] at hj
      by_cases hjl:j<(rgL rg ocss).flatten.length
      ·rw [List.getElem?_append_left hjl] at hj
       rw [List.append_assoc,List.getElem?_append_left (by simp only [List.length_take,Array.length_toList];omega),List.getElem?_take,if_pos (by omega),Array.getElem?_toList]
       exact hold j v hj
      ·rw [List.getElem?_append_right (by omega)] at hj
       have hj2:=(List.getElem?_eq_some_iff.1 hj).1
       rw [List.append_assoc,List.getElem?_append_right (by simp only [List.length_take,Array.length_toList];omega)]
       have e9:o+j - (cur.toList.take (o+(rgL rg A.xs).length*A.t.size)).length=j - (rgL rg ocss).flatten.length:=by
        simp only [List.length_take,Array.length_toList];omega
       rw [e9,List.getElem?_append_left hj2]
       exact hj
     have hnlen:(rgL rg A.xs++castL rfl ys).length=(rgL rg A.xs).length+ys.length:=by rw [List.length_append];rfl
     have hent':=ownSl_of_row hnrow (b:=b0) (off:=o) (cap:=c) (cur:=cur') (ty:=ct) (fz:=fz) (by rw [hnlen];exact hml) (by rw [hnlen];exact hroom) (by
      rcases hcase with ⟨ho,hcap⟩ | ⟨hc0,ho⟩
      ·omega
      ·omega) (by rw [hcs];exact hoc) g4 (by rw [hcs];exact h6) hget'
     rw [hnflat,hnlen] at hent'
     have hent'':EntC w0 G w' ⟨A.t,rgL rg A.xs++castL rfl ys,bo,none,none⟩ (.slice (some ⟨b0,o,none⟩) ((rgL rg A.xs).length+ys.length) c) [b0]:=hent'
     refine ⟨_,_,_,_,hrun,hR.replace ?_ g6.size hA (fun c hc hco=>g6.block c hc ?_) rfl rfl hent'' (by simp) (by simp;exact hbg b0 hbown) (fun s C hs' hsr b hb => ?_),rep_whole (w0:=w0) (G:=G) (hget_kill_same hA rfl) (upd1_same _ _ _) hent''⟩
     ·refine ⟨g6.os.trans hR.kept.os,g6.tape.trans hR.kept.tape,g6.output.trans hR.kept.output,Nat.le_trans hR.kept.size g6.size,fun k hk hkO => ?_⟩
      rw [g6.block k (Nat.lt_of_lt_of_le hk hR.kept.size) (by simp;exact fun e=>(hbg b0 hbown).1 (e ▸ ⟨hk,hkO⟩))]
      exact hR.kept.block k hk hkO
     ·simp;exact fun e=>hco (e ▸ hbown)
     ·simp;exact fun e=>hbnot s C hs' hsr b hb (e ▸ hbown)
   ·obtain ⟨nb,hnrow,hnflat⟩:=hcast (w.drew.alloc (.cells ((rgL rg ocss++css).flatten++rest).toArray e))
    rw [← List.flatten_append] at hrun hlr
    have hnlen:(rgL rg A.xs++castL rfl ys).length=(rgL rg A.xs).length+ys.length:=by rw [List.length_append];rfl
    have hent':=ent_row (w:=w.drew) (sm:=none) (ty:=e) (cap:=nc) hnrow hnflat (by rw [hnlen];exact hnc1) hnc2 (by rw [hlr];exact Nat.le_refl _)
    rw [hnlen] at hent'
    refine ⟨_,_,_,_,hrun,hR.replace (hR.kept.drew.alloc _) (by simp [World.alloc,drew_size]) hA (fun c hc _ => ?_) rfl rfl hent' (by simp) (by rw [drew_size];intro b hb;simp at hb;subst hb;exact hR.out_new (Nat.le_refl _)) (fun s C hs' _ b hb => ?_),rep_whole (w0:=w0) (G:=G) (hget_kill_same hA rfl) (upd1_same _ _ _) hent'⟩
    ·exact Go.RowKit.Below.heap_alloc _ _ _ hc
    ·have:=hR.own_lt hs' b hb
     rw [drew_size];simp;omega
theorem append_spec {tab:List TI} (hT:TabOk P tab) (hR:RelV n K w0 G w a E L V own) {T T2 ty:TypeId} {s x:Operand} {cs:List Prop} {pv:PV} {E':Env} {L':Heap} (h:appA tab E L T T2 (opnd E s) (opnd E x)=some (cs,pv,E',L')) (hc:All cs) :
  ∃ v w' V' own',(Builtin.append_ #[T,T2] ty #[a.eval s,a.eval x]).run P w = .ok v w'∧RelV n K w0 G w' a E' L' V' own'∧RepP w0 G L' V' pv v:=by
 unfold appA at h
 split at h
 ·rename_i S X hs hx
  split at h
  ·rename_i e t by' ht
   split at h
   ·rename_i ys hck hsrc
    simp only [Bool.and_eq_true,Nat.ble_eq] at hck
    obtain ⟨hsz,hby1⟩:=hck
    have hS:=hT T;rw [ht] at hS
    obtain ⟨_,hu,he,hby⟩:=hS
    obtain ⟨i,hi,hbi⟩:∃ i,P.info? e=some i∧i.bytes=by':=by
     cases hi:P.info? e with
     | none=>rw [hi] at hby;cases hby
     | some i=>rw [hi] at hby;simp at hby;exact ⟨i,rfl,hby⟩
    obtain ⟨d,css,bss,hd1,hd2,hb0,hrow,hfc,hlen⟩:=srcT_spec hT hR hx hsrc
    obtain ⟨l1,l2,l3⟩:=(hrow w true (.inr rfl)).len
    have hone:=(hrow w true (.inr rfl)).one (fun y c b h=>entR_one h)
    split at h
    ·cases h
     obtain ⟨e1,e2⟩:=hR.valEq hs
     obtain ⟨e3,e4⟩:=e2
     subst e3 e4
     obtain ⟨v,w',V',own',g1,g2,g3⟩:=append_nil hT hR hu hd1 hd2 hi hbi he hsz hby1 hb0 (bo := !t.flat) (fun w1=>hrow w1 _ (by cases t.flat <;> simp)) hfc hlen l3 hone hc.1 e1
     exact ⟨v,w',V',own',g1,g2.1,g3⟩
    ·rename_i r rg
     split at h
     ·rename_i A hA
      split at h
      ·rename_i hte
       subst hte
       split at h
       ·rename_i hok
        cases h
        refine append_osl hT hR hu hd1 hd2 hi hbi he (bo:=A.bor || !A.t.flat) (fun w1 y c b hy hh => ?_) hsz hby1 hb0 (fun w1=>hrow w1 _ (by cases A.t.flat <;> simp)) hfc hlen l3 hone hA hs hc
        cases hf:A.t.flat with
        | true=>exact entR_flat hf hh
        | false =>
         unfold borOk at hok
         rw [hf] at hok
         simp only [Bool.false_or,Bool.or_eq_true,List.isEmpty_iff] at hok
         rcases hok with hb | he
         ·rw [hb] at hh ⊢
          exact ⟨hh.1,rfl⟩
         ·rw [he] at hy;cases hy
       ·cases h
      ·cases h
     ·cases h
    ·cases h
   ·cases h
  ·cases h
 ·cases h
end
end Go.Am
namespace Go.Am
set_option linter.unusedVariables false
set_option linter.unusedSimpArgs false
def clrL {α:Type} (rg:Option (Nat×Nat)) (d:α) (xs:List α):List α :=
 match rg with
 | none=>List.replicate xs.length d
 | some (lo,hi)=>xs.take lo++List.replicate (hi - lo) d++xs.drop hi
def clearA (tab:List TI) (L:Heap) (T:TypeId):PV→Option Heap
 | .a (.osl r rg)=>match hget L r,tabGet tab T with
  | some A,.slice _ t _=>match decide (t=A.t)&&A.t.flat,A.ls,A.sm with
   | true,none,none=>some (hset L r (some ⟨A.t,clrL rg A.t.dflt A.xs,A.bor,none,none⟩))
   | _,_,_=>none
  | _,_=>none
 | _=>none
theorem get_splice {l c:List Value} {o:Nat} (h:o+c.length≤l.length) (j:Nat):(splice l o c)[j]? = if j<o then l[j]? else if j<o+c.length then c[j - o]? else l[j]? := by
 have hto:(l.take o).length=o:=by simp;omega
 unfold splice
 by_cases h1:j<o
 ·rw [if_pos h1,List.append_assoc,List.getElem?_append_left (by omega),List.getElem?_take,if_pos h1]
 ·rw [if_neg h1]
  by_cases h2:j<o+c.length
  ·rw [if_pos h2,List.append_assoc,List.getElem?_append_right (by omega),List.getElem?_append_left (by omega),hto]
  ·rw [if_neg h2,List.getElem?_append_right (by simp;omega),List.getElem?_drop]
   congr 1
   simp;omega
section
variable {P:Program} {n:Nat} {K:Ctx} {G:Nat→Prop} {w0 w:World} {a:Act} {E:Env} {L:Heap} {V:Nat→Value} {own:Nat→List Nat}
theorem clear_zero {T ty e:TypeId} (hu:P.underlying T=some (.slice e)) (w:World) (ad:Option Addr) (c:Nat):(Builtin.clear_ #[T] ty #[.slice ad 0 c]).run P w = .ok (.tuple #[]) w:=by
 cases ad <;> simp [Builtin.clear_,run_underlying hu]
theorem hset_same {L:Heap} {r:Nat} {A:Arr} (h:hget L r=some A):hset L r (some A)=L:=by
 induction L generalizing r with
 | nil=>cases h
 | cons b l ih=>cases r with
  | zero=>simp only [hget] at h;simp [hset,h]
  | succ r=>simp only [hget] at h;simp [hset,ih h]
theorem clear_spec {tab:List TI} (hT:TabOk P tab) (hR:RelV n K w0 G w a E L V own) {T ty:TypeId} {x:Operand} {L':Heap} (h:clearA tab L T (opnd E x)=some L') :
  ∃ w',(Builtin.clear_ #[T] ty #[a.eval x]).run P w = .ok (.tuple #[]) w'∧RelV n K w0 G w' a E L' V own:=by
 unfold clearA at h
 split at h
 ·rename_i r rg hx
  split at h
  ·rename_i A e t by' hA ht
   split at h
   ·rename_i hck hls hsm
    simp only [Bool.and_eq_true,decide_eq_true_eq] at hck
    obtain ⟨hte,hf⟩:=hck
    subst hte
    cases h
    have hS:=hT T;rw [ht] at hS
    obtain ⟨_,hu,he,_⟩:=hS
    obtain ⟨A',hA',hve,hs1,hs2,hs3⟩:=hR.atom hx
    rw [hA] at hA';cases hA'
    have hlen:(clrL rg A.t.dflt A.xs).length=A.xs.length:=by
     cases rg with
     | none=>simp [clrL]
     | some q =>
      obtain ⟨lo,hi⟩:=q
      simp only [rgLo,rgHi] at hs1 hs2
      simp [clrL];omega
    have nop:rgHi A.xs.length rg - rgLo rg=0→clrL rg A.t.dflt A.xs=A.xs:=by
     intro h0
     cases rg with
     | none =>
      simp only [rgLo,rgHi] at h0
      have:A.xs=[]:=List.eq_nil_of_length_eq_zero (by omega)
      simp [clrL,this]
     | some q =>
      obtain ⟨lo,hi⟩:=q
      simp only [rgLo,rgHi] at hs1 hs2 h0
      have:lo=hi:=by omega
      subst this
      simp [clrL]
    have nothing:∀ ad c,a.eval x = .slice ad 0 c→rgHi A.xs.length rg - rgLo rg=0→∃ w',(Builtin.clear_ #[T] ty #[a.eval x]).run P w = .ok (.tuple #[]) w'∧RelV n K w0 G w' a E (hset L r (some ⟨A.t,clrL rg A.t.dflt A.xs,A.bor,none,none⟩)) V own:=by
     intro ad c hv h0
     refine ⟨w,by rw [hv];exact clear_zero hu w ad c,?_⟩
     have:(⟨A.t,clrL rg A.t.dflt A.xs,A.bor,none,none⟩:Arr)=A:=by
      rw [nop h0]
      obtain ⟨_,_,_,_,_⟩:=A
      simp only at hls hsm
      rw [hls,hsm]
     rw [this,hset_same hA]
     exact hR
    have hent:=hR.heap r A hA
    obtain ⟨ocss,obss,horow,hocase⟩:=OwnSl.row hent
    rcases hs3 with ⟨ad,ad',hV,hv,hz⟩ | ⟨b0,off0,m0,cap0,o,c,hV,hv,hle,hcase⟩
    ·exact nothing ad' 0 hv (by omega)
    by_cases h00:rgHi A.xs.length rg - rgLo rg=0
    ·exact nothing _ c (by rw [hv,h00]) h00
    rcases hocase with ⟨_,h1,h2,_⟩ | ⟨b1,off1,cap1,cur,ct,fz,h1,h2,h3,h4,h5,h6,h7,h8⟩
    ·have e0:A.xs.length=0:=by rw [h2];rfl
     rw [e0] at hs2 h00;omega
    rw [h1] at hV
    cases hV
    obtain ⟨ho,hcap⟩:=hcase.resolve_right (by omega)
    subst ho
    have hdl:(dcells A.t).length=A.t.size:=(dcells_rep default (fun _=>True) A.t).length
    let k:=rgHi A.xs.length rg - rgLo rg
    let zs:List Value:=(List.replicate k (dcells A.t)).flatten
    have hzl:zs.length=k*A.t.size:=by simp [zs,hdl]
    have hmul:(rgLo rg+k)*A.t.size≤cap0*A.t.size:=Nat.mul_le_mul_right _ (by show rgLo rg+(rgHi A.xs.length rg - rgLo rg)≤cap0;omega)
    rw [Nat.add_mul] at hmul
    obtain ⟨w',cur',g1,g2,g3,g4,g5⟩:=storeCells_run (P:=P) zs w b0 (off0+rgLo rg*A.t.size) 0 cur ct fz h5 h6.1 (by omega) (by
     intro v hv
     obtain ⟨l,hl,hvl⟩:=List.mem_flatten.1 hv
     rw [(List.mem_replicate.1 hl).2] at hvl
     exact (dcells_rep default (fun _=>True) A.t).one v hvl)
    rw [Nat.add_zero] at g3
    have hbown:b0∈own r:=by rw [h7];exact List.mem_cons_self ..
    have hcl:cur.toList.length=cur.size:=Array.length_toList
    have hcs:cur'.size=cur.size:=by
     have:=congrArg List.length g3
     rw [splice_length (by omega)] at this
     simpa using this
    -- the new row
    have hrow:∃ css' bss',Row (entR w0 G w' A.t A.bor) A.t.size (clrL rg A.t.dflt A.xs) css' bss'∧bss'.flatten=[]∧css'=ocss.take (rgLo rg)++List.replicate k (dcells A.t)++ocss.drop (rgHi A.xs.length rg):=by
     obtain ⟨ob,hb1,hb2⟩:=horow.nil (R':=entR w0 G w' A.t A.bor) (fun y c b hh=>entR_flat hf hh)
     have hr:=((hb1.take (rgLo rg)).append (row_replicate (w0:=w0) (w:=w') (G:=G) A.t A.bor k)).append (hb1.drop (rgHi A.xs.length rg))
     refine ⟨_,(ob.take (rgLo rg)++List.replicate k [])++ob.drop (rgHi A.xs.length rg),?_,?_,rfl⟩
     rotate_left
     ·rw [List.flatten_eq_nil_iff] at hb2 ⊢
      intro l hl
      rcases List.mem_append.1 hl with hl | hl
      ·rcases List.mem_append.1 hl with hl | hl
       ·exact hb2 l (List.mem_of_mem_take hl)
       ·exact (List.mem_replicate.1 hl).2
      ·exact hb2 l (List.mem_of_mem_drop hl)
     ·have e:clrL rg A.t.dflt A.xs=A.xs.take (rgLo rg)++List.replicate k A.t.dflt++A.xs.drop (rgHi A.xs.length rg):=by
       cases rg with
       | none=>simp [clrL,k,rgLo,rgHi]
       | some q=>rfl
      rw [e]
      exact hr
    obtain ⟨css',bss',hr1,hr2,rfl⟩:=hrow
    have hpre:(ocss.take (rgLo rg)).flatten.length=rgLo rg*A.t.size:=by
     rw [(horow.take (rgLo rg)).len.2.2,List.length_take]
     congr 1;omega
    have hpre2:(ocss.take (rgHi A.xs.length rg)).flatten.length=rgHi A.xs.length rg*A.t.size:=by
     rw [(horow.take (rgHi A.xs.length rg)).len.2.2,List.length_take]
     congr 1;omega
    have hsum:rgHi A.xs.length rg*A.t.size=rgLo rg*A.t.size+k*A.t.size:=by
     rw [← Nat.add_mul];congr 1;show _=rgLo rg+(rgHi A.xs.length rg - rgLo rg);omega
    have hget:∀ j v,(ocss.take (rgLo rg)++List.replicate k (dcells A.t)++ocss.drop (rgHi A.xs.length rg)).flatten[j]? = some v→cur'[off0+j]? = some v:=by
     intro j v hj
     rw [← Array.getElem?_toList,g3,get_splice (by omega),hzl]
     rw [List.flatten_append,List.flatten_append] at hj
     have hzz:((List.replicate k (dcells A.t)).flatten).length=k*A.t.size:=hzl
     by_cases j1:j<rgLo rg*A.t.size
     ·rw [if_pos (by omega),Array.getElem?_toList]
      rw [List.append_assoc,List.getElem?_append_left (by omega)] at hj
      refine h8 j v ?_
      rw [← List.take_append_drop (rgLo rg) ocss,List.flatten_append,List.getElem?_append_left (by omega)]
      exact hj
     ·rw [if_neg (by omega)]
      by_cases j2:j<rgLo rg*A.t.size+k*A.t.size
      ·rw [if_pos (by omega)]
       rw [List.getElem?_append_left (by rw [List.length_append];omega),List.getElem?_append_right (by omega),hpre] at hj
       rw [show off0+j - (off0+rgLo rg*A.t.size)=j - rgLo rg*A.t.size from by omega]
       exact hj
      ·rw [if_neg (by omega),Array.getElem?_toList]
       rw [List.getElem?_append_right (by rw [List.length_append];omega),List.length_append,hpre,hzz] at hj
       refine h8 j v ?_
       rw [← List.take_append_drop (rgHi A.xs.length rg) ocss,List.flatten_append,List.getElem?_append_right (by omega),hpre2,hsum]
       exact hj
    have hent':=ownSl_of_row hr1 (b:=b0) (off:=off0) (cap:=cap0) (cur:=cur') (ty:=ct) (fz:=fz) (by rw [hlen];exact hent.1) (by rw [hlen];exact h2) h3 (by rw [hcs];exact h4) g2 (by rw [hcs];exact h6) hget
    have hob:obss.flatten=[]:=by
     have hb:=(horow.nil (R':=entR w0 G w' A.t A.bor) (fun y c b hh=>entR_flat hf hh))
     rw [List.flatten_eq_nil_iff]
     intro l hl
     obtain ⟨i,hi⟩:=List.getElem?_of_mem hl
     have hlt:=(List.getElem?_eq_some_iff.1 hi).1
     obtain ⟨c,_,hh,_⟩:=horow.get i _ l (getD_of_lt A.xs i A.t.dflt (by rw [← horow.len.2.1];exact hlt)) hi
     revert hh
     unfold entR
     cases A.bor with
     | true=>exact fun hh=>hh.2
     | false=>exact fun hh=>(hh.flat (w':=w) (G:=fun _=>True) hf).2
    have e7:own r=[b0]:=by rw [h7,hob]
    rw [hr2,hlen, ← h1, ← e7] at hent'
    refine ⟨w',?_,hR.turn hA hbown g4 ⟨rfl,hlen,fun l hl=>by rw [hls] at hl;cases hl⟩ hent' (fun l hl=>by cases hl) (fun q hq=>by cases hq)⟩
    have hzc:Builtin.zeroCells (valOf A.t (dcells A.t)).cells k=zs.toArray:=by
     have hzl2:=zeros_list A.t k (dcells A.t).toArray (fun _=>rfl)
     rw [dcells_cells, ← hzl2]
     simp only [Builtin.zeroCells,List.size_toArray,hdl]
    rw [hv]
    obtain ⟨k',hk'⟩:∃ k',k=k'+1:=⟨k - 1,by omega⟩
    show (Builtin.clear_ #[T] ty #[.slice (some ⟨b0,off0+rgLo rg*A.t.size,none⟩) k c]).run P w=_
    rw [hk'] at hzc ⊢
    simp only [Builtin.clear_]
    simp [run_underlying hu,he.zero_run,hzc,g1]
   ·cases h
  ·cases h
 ·cases h
end
end Go.Am
namespace Go.Am
set_option linter.unusedVariables false
set_option linter.unusedSimpArgs false
def fcells:(t:Ty)→t.den→List Value
 | .int k,n=>[.int k n]
 | .bool,b=>[.bool b]
 | .fn,f=>[fnV f]
 | .str,s=>[.string s]
 | .sl _,_=>[]
 | .unit,_=>[]
 | .cons a b,x=>fcells a x.1++fcells b x.2
theorem own_fcells {w:World}:∀ {t:Ty} {x:t.den} {cs:List Value} {bs:List Nat},t.flat=true→OwnC w t x cs bs→cs=fcells t x
 | .int _,_,_,_,_,h=>h.1
 | .bool,_,_,_,_,h=>h.1
 | .fn,_,_,_,_,h=>h.1
 | .str,_,_,_,_,h=>h.1
 | .unit,_,_,_,_,h=>h.1
 | .cons _ _,_,_,_,hf,⟨c1,c2,b1,b2,h,_,h1,h2⟩=>by
  simp only [Ty.flat,Bool.and_eq_true] at hf
  rw [h,own_fcells hf.1 h1,own_fcells hf.2 h2]
  rfl
def scals:List Dyn→Option (List (Atom×Value))
 | []=>some []
 | d :: r=>match d.t.flat,scals r with
  | true,some s=>some ((toAtom d.t d.x,valOf d.t (fcells d.t d.x)) :: s)
  | _,_=>none
def callQ (ext:Ext) (L:Heap) (f:FuncId) (ps:List PV):Option (List Prop×PV) :=
 match ext with
 | []=>none
 | (g,S) :: r=>match Nat.beq f g with
  | true=>match decArgs L S.sig ps with
   | some (x,os,us)=>match os.flatten,ownK S.kds,scals (S.res x) with
    | [],true,some vs=>some ([S.pre x],packA (vs.map Prod.fst))
    | _,_,_=>callQ r L f ps
   | none=>callQ r L f ps
  | false=>callQ r L f ps
def calleeA (E:Env) (f:Operand) (args:List Operand):Option (FuncId×List PV) :=
 match opnd E f with
 | .fn g caps=>some (g,args.map (opnd E)++caps.map PV.a)
 | .a (.val v)=>match unfn v with
  | some (some g)=>some (g,args.map (opnd E))
  | _=>none
 | _=>none
def opQ (tab:List TI) (ext:Ext) (wr:Bool) (E:Env) (L:Heap):Op→Option (List Prop×PV)
 | .call { callee := .value f,args,argTypes }=>match calleeA E f args.toList with
  | some (g,ps)=>callQ ext L g ps
  | none=>none
 | .convert s d x=>match b2sA tab L s d (opnd E x) with
  | some r=>some ([],.a (.val (.string r)))
  | none=>absQ tab wr E L (.convert s d x)
 | op=>absQ tab wr E L op
def opM (tab:List TI) (ext:Ext) (wr:Bool) (E:Env) (L:Heap):Op→Option (List Prop×PV×Env×Heap)
 | .box T x=>match boxA tab T (opnd E x) with
  | some A=>some ([],.a (ptrOf L.length A),E,L++[some A])
  | none=>none
 | .alloc T=>match allocA tab T with
  | some A=>some ([],.a (ptrOf L.length A),E,L++[some A])
  | none=>none
 | .buildSlice T n parts=>match sliceLitA tab T n (parts.toList.map fun p=>(p.1,opnd E p.2)) with
  | some A=>some ([],.a (.osl L.length none),E,L++[some A])
  | none=>none
 | .makeSlice T l c=>match makeA tab T (opnd E l) (opnd E c) with
  | some (cs,A)=>some (cs,.a (.osl L.length none),E,L++[some A])
  | none=>none
 | .store T x y=>match storeA tab L T (opnd E x) (opnd E y) with
  | some L'=>some ([],.a .junk,E,L')
  | none=>none
 | .call { callee := .value f,args,argTypes }=>match calleeA E f args.toList with
  | some (g,ps)=>callA ext E L g ps
  | none=>none
 | .call { callee := .builtin .append,args,argTypes }=>match args.toList,argTypes.toList with
  | [s,x],[T,T2]=>appA tab E L T T2 (opnd E s) (opnd E x)
  | _,_=>none
 | .call { callee := .builtin .clear,args,argTypes }=>match args.toList,argTypes.toList with
  | [x],[T]=>match clearA tab L T (opnd E x) with
   | some L'=>some ([],.a .junk,E,L')
   | none=>none
  | _,_=>none
 | .convert s d x=>match s2bA tab s d (opnd E x) with
  | some A=>some ([],.a (.osl L.length none),E,L++[some A])
  | none=>match opQ tab ext wr E L (.convert s d x) with
   | some (cs,pv)=>some (cs,pv,E,L)
   | none=>none
 | op=>match opQ tab ext wr E L op with
  | some (cs,pv)=>some (cs,pv,E,L)
  | none=>none
section
variable {P:Program} {n:Nat} {K:Ctx} {G:Nat→Prop} {w0 w:World} {a:Act} {E:Env} {L:Heap} {V:Nat→Value} {own:Nat→List Nat}
theorem callFunc_run {g:FuncId} (h:Callable P g) (args:Array Value) (w:World):(callFunc g args).run P w = .ok (.enter g args) w:=by
 obtain ⟨fn,h1,h2,h3⟩:=h
 unfold callFunc
 simp only [Sem.run_bind,run_program,Result.andThen_ok,h1,h2,h3,Bool.false_eq_true,if_false,Sem.run_pure]
theorem call_run {g:FuncId} (h:Callable P g) {ρ:Operand→Value} {o:Oper} {f:Operand} {args:Array Operand} {ts:Array TypeId} (ho:o.op = .call { callee := .value f,args,argTypes:=ts }) {vs:List Value} (hf:ρ f = .func (.func g) #[] vs.toArray) (w:World) :
  (execOp ρ o).run P w = .ok (.enter g ((args.toList.map ρ)++vs).toArray) w:=by
 simp only [execOp,ho,resolve,Sem.run_bind,hf,Deferred.ofValue,Sem.run_pure,Result.andThen_ok,invoke]
 rw [callFunc_run h]
 congr 2
 apply Array.toList_inj.1
 simp
theorem calleeA_spec (hR:RelV n K w0 G w a E L V own) {f:Operand} {args:List Operand} {g:FuncId} {ps:List PV} (h:calleeA E f args=some (g,ps)) :
  ∃ vs,a.eval f = .func (.func g) #[] vs.toArray∧RepPs w0 G L V ps (args.map a.eval++vs):=by
 unfold calleeA at h
 split at h
 ·rename_i g' caps hf
  cases h
  have hx:=hR.opnd f
  rw [hf] at hx
  obtain ⟨vs,hv,hr⟩:=hx
  exact ⟨vs,hv,repPs_append (hR.opnds args) (repPs_atoms hr)⟩
 ·rename_i v hf
  split at h
  ·rename_i g' hu
   cases h
   have hx:=hR.valEq hf
   refine ⟨[],by rw [hx.1,unfn_eq hu];rfl,?_⟩
   rw [List.append_nil]
   exact hR.opnds args
  ·cases h
 ·cases h
theorem scals_spec {Gc F:Nat→Prop}:∀ {ks:List RK} {ds:List Dyn} {vs:List (Atom×Value)} {rs:List Value} {rbs:List (List Nat)} {w:World},ownK ks=true→scals ds=some vs→ResK w Gc F ks ds rs rbs→rs=vs.map Prod.snd∧RepAs w0 G L V (vs.map Prod.fst) rs
 | ks,[],vs,rs,rbs,w,hk,h,hr=>by
  have hr':rs=[]:=by cases ks <;> exact hr.1
  cases h;exact ⟨hr',hr'⟩
 | ks,d :: r,vs,rs,rbs,w,hk,h,hr=>by
  have hr':∃ v s b bs,rs=v :: s∧rbs=b :: bs∧ResOne w Gc F (RK.hd ks) d v b∧ResK w Gc F ks.tail r s bs:=by cases ks <;> exact hr
  obtain ⟨v,s,b,bs,h1,h2,h34,h5⟩:=hr'
  have hk1:RK.hd ks = .own:=by
   cases ks with
   | nil=>rfl
   | cons k ks=>cases k <;> first | rfl | cases hk
  have hk2:ownK ks.tail=true:=by
   cases ks with
   | nil=>rfl
   | cons k ks=>cases k <;> first | exact hk | cases hk
  rw [hk1] at h34
  obtain ⟨cs,h3,h4⟩:=h34
  simp only [scals] at h
  split at h
  ·rename_i s' hf hs
   cases h
   obtain ⟨e1,e2⟩:=scals_spec hk2 hs h5
   subst h1
   have hc:=own_fcells hf h3
   have hv:v=valOf d.t (fcells d.t d.x):=by
    rw [← hc]
    obtain ⟨t,x⟩:=d
    cases t <;> simp only [IsVal] at h4 <;> subst h4 <;> rfl
   obtain ⟨ha,_⟩:=own_toAtom (w0:=w0) (L:=L) (V:=V) hf h3 h4 G
   exact ⟨by rw [List.map_cons, ← e1, ← hv],⟨v,s,rfl,ha,e2⟩⟩
  ·cases h
theorem ownOf_nil {own:Nat→List Nat} {os:List (List Nat)} (h:os.flatten=[]):(ownOf own os).flatten=[]:=by
 rw [ownOf_flatten,h];rfl
theorem callQ_spec:∀ {ext:Ext} (hX:ExtOk P ext) (hR:RelV n K w0 G w a E L V own) {f:FuncId} {ps:List PV} {vs:List Value} {cs:List Prop} {pv:PV}
  (hps:RepPs w0 G L V ps vs) (h:callQ ext L f ps=some (cs,pv)) (hc:All cs),
  Callable P f∧∃ v,RepP w0 G L V pv v∧∀ w',Kept [] w w'→Calls P f vs.toArray w' fun e w''=>e = .returned v∧Kept [] w' w''
 | [],_,_,_,_,_,_,_,_,h,_=>by cases h
 | (g,S) :: r,hX,hR,f,ps,vs,cs,pv,hps,h,hc=>by
  obtain ⟨⟨hcall,hcon⟩,hX'⟩:=hX
  simp only [callQ] at h
  split at h
  ·rename_i hfg
   obtain rfl:=Nat.eq_of_beq_eq_true hfg
   split at h
   ·rename_i x os us hd
    split at h
    ·rename_i vals hos hok hsc
     cases h
     simp only [All] at hc
     obtain ⟨l1,_⟩:=decArgs_live hR hps hd
     have hall:∀ w',Kept [] w w'→Calls P f vs.toArray w' fun e w''=>e = .returned (packV (vals.map Prod.snd))∧Kept [] w' w''∧RepAs w0 G L V (vals.map Prod.fst) (vals.map Prod.snd):=by
      intro w' k
      have hargs:=decArgs_rep (q:=smArgs L S.sig ps) hR k (G':=LendG G own us) (fun b hb => .inl hb) hps hd (fun h=>h) (fun r hr b hb => .inr ⟨r,hr,hb⟩)
      refine (hcon w' (LendG G own us) (SmG K G (smArgs L S.sig ps)) x _ _ (hR.gok k (by rw [ownOf_nil hos];simp)) (fun b hb => ?_) (fun b hb => .inl ?_) hc.1 hargs (by rw [ownOf_nil hos];exact List.nodup_nil)).mono ?_
      ·rw [ownOf_nil hos]
       refine ⟨Nat.lt_of_lt_of_le ?_ k.size,by simp⟩
       rcases hb with hb | ⟨r,hr,hb⟩
       ·exact hR.glt b hb
       ·obtain ⟨A,hA⟩:=l1 r hr
        exact hR.own_lt hA b hb
      ·unfold SmG at hb
       split at hb
       ·exact hR.gsub b hb
       ·exact hb
      ·rintro e w'' ⟨rs,ubs,rbs,F,rfl,hk,hrr,_⟩
       obtain ⟨rfl,ho⟩:=scals_spec (w0:=w0) (G:=G) (L:=L) (V:=V) hok hsc hrr
       rw [ownOf_nil hos] at hk
       exact ⟨rfl,hk,ho⟩
     obtain ⟨_,_,_,⟨_,_,hokk⟩,_⟩:=hall w (Kept.refl _ _) []
     exact ⟨hcall,packV (vals.map Prod.snd),packV_rep hokk,fun w' k=>(hall w' k).mono fun e w'' hh=>⟨hh.1,hh.2.1⟩⟩
    ·exact callQ_spec hX' hR hps h hc
   ·exact callQ_spec hX' hR hps h hc
  ·exact callQ_spec hX' hR hps h hc
theorem bytesStr_size (xs:List Int):(bytesStr xs).size=xs.length:=by
 have key:∀ (xs:List Int) (s:ByteArray),(xs.foldl (fun r n=>r.push (UInt8.ofNat n.toNat)) s).size=s.size+xs.length:=by
  intro xs
  induction xs with
  | nil=>intro s;rfl
  | cons x r ih=>intro s;simp only [List.foldl_cons,ih,ByteArray.size_push,List.length_cons];omega
 simpa [bytesStr] using key xs ByteArray.empty
theorem b2s_spec {tab:List TI} (hT:TabOk P tab) (hR:RelV n K w0 G w a E L V own) {s d:TypeId} {x:Operand} {r:ByteArray} (h:b2sA tab L s d (opnd E x)=some r) :
  OkV (.string r)∧∀ w',Kept [] w w'→(convert s d (a.eval x)).run P w' = .ok (.string r) w':=by
 unfold b2sA at h
 split at h
 ·rename_i A hA
  split at h
  ·rename_i e b xs hs hd hdec
   cases h
   have hS:=hT s;rw [hs] at hS
   have hD:=hT d;rw [hd] at hD
   have hrep:=fun w' k=>decV_rep hR (w':=w') k (G':=fun _=>True) (fun _ _=>trivial) (hR.atom hA) hdec (fun _ _ _ _=>trivial)
   have hlen:=(hrep w (Kept.refl _ _)).1
   refine ⟨?_,fun w' k => ?_⟩
   ·show (bytesStr xs).size≤maxLen
    rw [bytesStr_size];exact hlen
   ·have hr:=hrep w' k
    rcases hr.2 with ⟨ad,e1,e2⟩ | ⟨b',off,cap,e1,e2,e3,e4,e5⟩
    ·have:xs=[]:=e2
     subst this
     rw [e1,run_convert_bytes_string w' s d e ad 0 0 hS.2.1 hS.2.2.1.int_und hD.str_und]
     cases ad with
     | none=>rfl
     | some ad =>
      refine run_bytesToString w' _ _ _ [] ?_
      have:=run_loadCells_list (P:=P) w' ad [] (fun j v hj=>by simp at hj)
      simpa using this
    ·rw [e1,run_convert_bytes_string w' s d e _ _ _ hS.2.1 hS.2.2.1.int_und hD.str_und]
     refine run_bytesToString w' _ _ _ xs ?_
     have:=run_loadCells_list (P:=P) w' ⟨b',off,none⟩ (xs.map (Value.int .u8)) (fun j v hj=>by
      rw [List.getElem?_map] at hj
      cases hx:xs[j]? with
      | none=>rw [hx] at hj;cases hj
      | some y =>
       rw [hx] at hj
       cases hj
       obtain ⟨cs,g1,g2,g3⟩:=e5 j y hx
       obtain ⟨g3,_⟩:=g3
       subst g3
       have:=g2 0 _ rfl
       rw [Addr.add_lit]
       simpa [Ty.size] using this)
     simp only [List.length_map] at this
     exact this
  ·cases h
 ·cases h
theorem opQ_spec {tab:List TI} {ext:Ext} (hT:TabOk P tab) (hX:ExtOk P ext) (hR:RelV n K w0 G w a E L V own) {wr:Bool} {o:Oper} {cs:List Prop} {pv:PV}
  (h:opQ tab ext wr E L o.op=some (cs,pv)) (hc:All cs) :
  ∃ v,RepP w0 G L V pv v∧∀ w',Kept [] w w'→o.quietAt P a (Kept [] w') w' v:=by
 have plain:∀ {op:Op} (ho:o.op=op),absQ tab wr E L op=some (cs,pv)→∃ v,RepP w0 G L V pv v∧∀ w',Kept [] w w'→o.quietAt P a (Kept [] w') w' v:=by
  intro op ho h
  rw [← ho] at h
  obtain ⟨v,hv,hr⟩:=absQ_spec hT hR h hc
  refine ⟨v,hv,fun w' k => ?_⟩
  unfold Oper.quietAt
  rw [hr w' (fun _=>k)]
  exact ⟨rfl,rfl⟩
 unfold opQ at h
 split at h
 ·rename_i f args ts ho
  split at h
  ·rename_i g ps hg
   obtain ⟨vs,hv,hps⟩:=calleeA_spec hR hg
   obtain ⟨hcall,v,hrep,hcalls⟩:=callQ_spec hX hR hps h hc
   refine ⟨v,hrep,fun w' k => ?_⟩
   unfold Oper.quietAt
   rw [call_run hcall ho hv]
   exact ⟨rfl,hcalls w' k⟩
  ·cases h
 ·rename_i s d x ho
  split at h
  ·rename_i r hr
   cases h
   obtain ⟨h1,h2⟩:=b2s_spec hT hR hr
   refine ⟨_,⟨rfl,h1⟩,fun w' k => ?_⟩
   unfold Oper.quietAt
   simp only [execOp,ho]
   rw [run_value _ _ _ _ (h2 w' k)]
   exact ⟨rfl,rfl⟩
  ·exact plain ho h
 ·exact plain rfl h
theorem s2b_spec {tab:List TI} (hT:TabOk P tab) (hR:RelV n K w0 G w a E L V own) {s d:TypeId} {x:Operand} {A:Arr} (h:s2bA tab s d (opnd E x)=some A) :
  ∃ v w' V' own',(convert s d (a.eval x)).run P w = .ok v w'∧RelN n K w0 G w w' a E L (L++[some A]) V V' own own'∧RepP w0 G (L++[some A]) V' (.a (.osl L.length none)) v:=by
 unfold s2bA at h
 split at h
 ·rename_i b hx
  split at h
  ·rename_i e by' hs hd
   cases h
   obtain ⟨e1,e2⟩:=hR.valEq hx
   have hS:=hT s;rw [hs] at hS
   have hD:=hT d;rw [hd] at hD
   have hcapg:=grownCap_ge w b.size 0 e
   have hcapm:=grownCap_le_maxLen w b.size 0 e e2
   have hrow:∀ (l:List UInt8) (w1:World) (bor:Bool),Row (entR w0 G w1 (.int .u8) bor) (Ty.int IntKind.u8).size (l.map fun b=>(b.toNat:Int)) (l.map fun b=>[.int .u8 (b.toNat:Int)]) (l.map fun _=>[]):=by
    intro l w1 bor
    induction l with
    | nil=>exact ⟨rfl,rfl⟩
    | cons b l ih =>
     refine ⟨_,_,_,_,rfl,rfl,rfl,?_,ih⟩
     refine repC_ent (w:=w1) (G:=fun _=>True) (t := .int .u8) (x:=(b.toNat:Int)) (cs:=[.int .u8 (b.toNat:Int)]) ⟨rfl,?_⟩ rfl bor _ _
     have hb:=b.toNat_lt
     simp [InR,IntKind.min,IntKind.max,IntKind.bits,IntKind.signed];omega
   let cells:Array Value:=(b.data.map fun x => .int .u8 x.toNat)++Array.replicate (grownCap w b.size 0 e - b.size) (.int .u8 0)
   have hcs:cells.size=grownCap w b.size 0 e:=by
    simp only [cells,Array.size_append,Array.size_map,Array.size_replicate]
    have:b.data.size=b.size:=rfl
    omega
   let w2:World:=(w.drew.alloc (.cells cells e)).freeze ⟨w.heap.size,cells.size,none⟩ 1
   have hk:Kept [] w w2:=by
    refine ⟨rfl,rfl,rfl,by simp [w2,World.freeze],fun k hk _ => ?_⟩
    have h1:(w.drew.alloc (.cells cells e)).heap[k]? = w.heap[k]? := Go.RowKit.Below.heap_alloc w.drew _ k hk
    simp only [w2,World.freeze,Nat.one_ne_zero,if_false,Array.getElem?_modify]
    rw [if_neg (by omega)]
    exact h1
   have hb2:w2.heap[w.heap.size]? = some (.cells cells e (cells.size,cells.size+1)):=by
    have h1:=heap_new w.drew (.cells cells e)
    have hsz:w.drew.heap.size=w.heap.size:=rfl
    rw [hsz] at h1
    have hlt:w.heap.size<(w.drew.alloc (.cells cells e)).heap.size:=by simp [World.alloc,hsz]
    have h2:(w.drew.alloc (.cells cells e)).heap[w.heap.size] = .cells cells e:=by
     rw [Array.getElem?_eq_getElem hlt] at h1;exact Option.some.inj h1
    simp only [w2,World.freeze,Nat.one_ne_zero,if_false,Array.getElem?_modify,if_pos,h1]
    simp
   have hent:=ownSl_of_row (hrow b.data.toList w2 false) (b:=w.heap.size) (off:=0) (cap:=grownCap w b.size 0 e) (cur:=cells) (ty:=e) (fz:=(cells.size,cells.size+1)) (by rw [List.length_map];exact e2) (by rw [List.length_map];exact hcapg) hcapm (by rw [hcs,Nat.zero_add,show (Ty.int IntKind.u8).size=1 from rfl,Nat.mul_one];exact Nat.le_refl _) hb2 ⟨free_of _,.inl rfl⟩ (fun j c hj=>by
    have hfl:∀ l:List UInt8,(l.map fun b=>[Value.int .u8 (b.toNat:Int)]).flatten=l.map fun b=>Value.int .u8 (b.toNat:Int):=by
     intro l
     induction l with
     | nil=>rfl
     | cons x l ih=>simp only [List.map_cons,List.flatten_cons,ih];rfl
    rw [hfl] at hj
    have hlt:=(List.getElem?_eq_some_iff.1 hj).1
    rw [Nat.zero_add, ← Array.getElem?_toList]
    simp only [cells,Array.toList_append,Array.toList_map]
    rw [List.getElem?_append_left hlt]
    exact hj)
   have hnil:((b.data.toList.map fun _=>([]:List Nat))).flatten=[]:=by simp
   rw [hnil] at hent
   have hent':EntC w0 G w2 ⟨.int .u8,bytesOf b,false,none,none⟩ (.slice (some ⟨w.heap.size,0,none⟩) (bytesOf b).length (grownCap w b.size 0 e)) [w.heap.size]:=hent
   refine ⟨_,_,_,_,?_,hR.freshN hk hent' (by simp) (by simp),repA_new (w0:=w0) (G:=G) (u:=w0) (G':=G) hent'⟩
   have hlen:(bytesOf b).length=b.size:=by simp [bytesOf]
   rw [e1,hlen]
   have hsz:w.drew.heap.size=w.heap.size:=rfl
   have hsh:(w.drew.alloc (.cells cells e)).shape? w.heap.size=some (e,cells.size):=by
    have h1:=heap_new w.drew (.cells cells e)
    rw [hsz] at h1
    simp only [World.shape?, h1]
   have hforced:(Question.appendCap b.size 0 e).forced=false:=rfl
   have hgc:(Question.appendCap b.size 0 e).cut (w.tape w.drawn (.appendCap b.size 0 e))=grownCap w b.size 0 e:=rfl
   have hdr:({ w with drawn:=w.drawn+1 }:World)=w.drew:=rfl
   unfold convert
   simp only [Sem.run_bind,run_underlying hS.str_und,run_underlying hD.2.1,Result.andThen_ok,run_underlying hD.2.2.1.int_und]
   unfold Conv.stringToBytes
   simp only [Sem.run_bind,run_choose,hforced,Bool.false_eq_true,if_false,Result.andThen_ok,hgc,hdr,newRow,run_newObj,Sem.run_pure]
   show ((markStringish ⟨w.drew.heap.size,0,none⟩).run P (w.drew.alloc (.cells cells e))).andThen _=_
   unfold markStringish
   rw [hsz]
   simp only [Sem.run_bind,run_shape,hsh,Result.andThen_ok,run_freeze]
   rfl
  ·cases h
 ·cases h
end
end Go.Am
namespace Go.Am
set_option linter.unusedVariables false
set_option linter.unusedSimpArgs false
def frzLeaf (r:Nat) (A:Arr):Leaf→Leaf
 | .osl s rg=>match Nat.beq s r with
  | true => .sl A.t (rgL rg A.xs)
  | false => .osl s rg
 | l=>l
def frzLs (r:Nat) (A:Arr) (ls:List Leaf):List Leaf:=ls.map (frzLeaf r A)
def frzAtom (r:Nat) (A:Arr):Atom→Atom
 | .osl s rg=>match Nat.beq s r with
  | true => .sl A.t (rgL rg A.xs)
  | false => .osl s rg
 | .optr s i p=>match Nat.beq s r with
  | true=>match pathD p ⟨A.t,A.xs.getD i A.t.dflt⟩ with
   | some d => .ptr d.t d.x
   | none => .junk
  | false => .optr s i p
 | .rcd t ls=>match t.agg,treeLs t (frzLs r A ls) with
  | true,some x => .st t x
  | _,_ => .rcd t (frzLs r A ls)
 | .bptr s o t=>match Nat.beq s r with
  | true => .junk
  | false => .bptr s o t
 | X=>X
def frzP (r:Nat) (A:Arr):PV→PV
 | .a X => .a (frzAtom r A X)
 | .tup xs => .tup (xs.map (frzAtom r A))
 | .fn f xs => .fn f (xs.map (frzAtom r A))
def frzE (r:Nat) (A:Arr) (E:Env):Env:=E.map fun q=>(q.1,frzP r A q.2)
def frzR (r:Nat) (A:Arr) (B:Arr):Arr:=match B.ls with
 | some ls=>⟨B.t,B.xs,B.bor,some (frzLs r A ls),B.sm⟩
 | none=>B
def frzH (r:Nat) (A:Arr) (L:Heap):Heap:=L.map fun o=>match o with | some B=>some (frzR r A B) | none=>none
def frz1 (r:Nat) (EL:Env×Heap):Env×Heap :=
 match hget EL.2 r with
 | some A=>match A.ls with
  | none=>(frzE r A EL.1,frzH r A (hset EL.2 r none))
  | some _=>EL
 | none=>EL
def frzAll:List Nat→Env×Heap→Env×Heap
 | [],EL=>EL
 | r :: s,EL=>frzAll s (frz1 r EL)
def refsO (E:Env) (x:Operand):List Nat :=
 match opnd E x with
 | .a (.osl r _)=>[r]
 | .a (.rcd _ ls)=>refLs ls
 | _=>[]
def refsOs (E:Env):List Operand→List Nat
 | []=>[]
 | x :: r=>refsO E x++refsOs E r
def refsOp (E:Env):Op→List Nat
 | .build T parts=>refsOs E (parts.toList.map Prod.snd)
 | .buildSlice T n parts=>refsOs E (parts.toList.map Prod.snd)
 | .store T x y=>refsO E y
 | .call { callee := .value f,args,argTypes }=>refsOs E args.toList
 | _=>[]
def stAtom:Atom→Atom
 | .rcd t ls=>match t.agg,treeLs t ls with
  | true,some x => .st t x
  | _,_ => .rcd t ls
 | X=>X
def stP:PV→PV
 | .a X => .a (stAtom X)
 | p=>p
def stE (E:Env):Env:=E.map fun q=>(q.1,stP q.2)
def stEL (EL:Env×Heap):Env×Heap:=(stE EL.1,EL.2)
def frzOp (op:Op) (EL:Env×Heap):Env×Heap:=stEL (frzAll (refsOp EL.1 op) EL)
section
variable {P:Program} {n:Nat} {K:Ctx} {G:Nat→Prop} {w0 w:World} {a:Act} {E:Env} {L:Heap} {V:Nat→Value} {own:Nat→List Nat}
theorem get_frzE (r:Nat) (A:Arr):∀ (E:Env) (i:Nat),(frzE r A E).get i=frzP r A (E.get i)
 | [],i=>rfl
 | (j,p) :: s,i=>by
  simp only [frzE,List.map_cons,Env.get]
  cases h:Nat.beq j i with
  | true=>rfl
  | false=>exact get_frzE r A s i
theorem hget_frzH (r:Nat) (A:Arr):∀ (L:Heap) (s:Nat),hget (frzH r A L) s=(hget L s).map (frzR r A)
 | [],_=>rfl
 | some B :: L,0=>rfl
 | none :: L,0=>rfl
 | _ :: L,s+1=>by simp only [frzH,List.map_cons,hget];exact hget_frzH r A L s
theorem frzR_t (r:Nat) (A B:Arr):(frzR r A B).t=B.t:=by unfold frzR;split <;> rfl
theorem frzR_sm (r:Nat) (A B:Arr):(frzR r A B).sm=B.sm:=by unfold frzR;split <;> rfl
theorem frzR_bor (r:Nat) (A B:Arr):(frzR r A B).bor=B.bor:=by unfold frzR;split <;> rfl
theorem frzR_len (r:Nat) (A B:Arr):(frzR r A B).xs.length=B.xs.length:=by unfold frzR;split <;> rfl
theorem frzR_ent {w0 w:World} {G:Nat→Prop} {r:Nat} {A B:Arr} {v:Value} {bs:List Nat}:EntC w0 G w (frzR r A B) v bs↔EntC w0 G w B v bs:=by
 unfold frzR
 split
 ·exact Iff.rfl
 ·exact Iff.rfl
theorem frzR_ls {r:Nat} {A B:Arr}:(∀ ls,B.ls=some ls→(frzR r A B).ls=some (frzLs r A ls))∧∀ ls',(frzR r A B).ls=some ls'→∃ ls,B.ls=some ls∧ls'=frzLs r A ls:=by
 unfold frzR
 split
 ·rename_i ls h
  refine ⟨fun l hl => ?_,fun l hl => ?_⟩
  ·rw [h] at hl;cases hl;rfl
  ·cases hl;exact ⟨ls,h,rfl⟩
 ·rename_i h
  refine ⟨fun l hl => ?_,fun l hl => ?_⟩
  ·rw [h] at hl;cases hl
  ·rw [h] at hl;cases hl
theorem RelV.freeze (hR:RelV n K w0 G w a E L V own) {r:Nat} {A:Arr} (hA:hget L r=some A) (hls:A.ls=none) :
  ∃ w0' G',RelV n K w0' G' w a (frzE r A E) (frzH r A (hset L r none)) V own:=by
 let G':Nat→Prop:=fun b=>G b∨b∈own r
 have hG:∀ b,G b→G' b:=fun b hb => .inl hb
 have hread:SlAt w G' (RepC w G' A.t) A.t.size A.xs (V r):=hR.lend (Kept.refl _ _) hG hA (fun b hb => .inr hb)
 have hback:∀ s B,hget (frzH r A (hset L r none)) s=some B→s≠r∧∃ C,hget L s=some C∧B=frzR r A C:=by
  intro s B hs
  rw [hget_frzH] at hs
  by_cases hsr:s=r
  ·subst hsr;rw [hget_hset_same hA] at hs;cases hs
  ·rw [hget_hset_other (Ne.symm hsr)] at hs
   cases hC:hget L s with
   | none=>rw [hC] at hs;cases hs
   | some C=>rw [hC] at hs;cases hs;exact ⟨hsr,C,rfl,rfl⟩
 have hag:∀ s,s≠r→Agree L V (frzH r A (hset L r none)) V s:=fun s hs=>by
  refine ⟨rfl,fun B hB=>⟨frzR r A B,?_,frzR_t r A B,frzR_len r A B,fun ls h=>⟨_,frzR_ls.1 ls h⟩⟩⟩
  rw [hget_frzH,hget_hset_other (Ne.symm hs),hB];rfl
 have hsub:∀ {rg:Option (Nat×Nat)} {v:Value},RepO L V r rg v→SlAt w G' (RepC w G' A.t) A.t.size (rgL rg A.xs) v:=by
  rintro rg v ⟨B,hB,_,hs⟩
  rw [hA] at hB;cases hB
  cases rg with
  | none=>exact hread.whole hs
  | some q=>obtain ⟨lo,hi⟩:=q;exact hread.sub (nn:=0) hs
 have leaf:∀ {l:Leaf} {v:Value},RepL w0 G L V l v→RepL w G' (frzH r A (hset L r none)) V (frzLeaf r A l) v:=by
  intro l v h
  cases l with
  | val u=>exact h
  | sl t xs=>exact SlAt.keep (fun _ _=>RepC.keep hG hR.gref) hG hR.gref h
  | osl s rg =>
   simp only [frzLeaf]
   cases hb:Nat.beq s r with
   | true =>
    obtain rfl:=Nat.eq_of_beq_eq_true hb
    exact hsub h
   | false=>exact repO_agree h (hag s fun e=>by subst e;simp at hb)
  | junk=>exact h
 have leafs:∀ {ls:List Leaf} {cs:List Value},RepLs w0 G L V ls cs→RepLs w G' (frzH r A (hset L r none)) V (frzLs r A ls) cs:=by
  intro ls
  induction ls with
  | nil=>intro cs h;exact h
  | cons l s ih=>rintro cs ⟨v,t,h1,h2,h3⟩;exact ⟨v,t,h1,leaf h2,ih h3⟩
 have atom:∀ {X:Atom} {v:Value},RepA w0 G L V X v→RepA w G' (frzH r A (hset L r none)) V (frzAtom r A X) v:=by
  intro X v h
  cases X with
  | val u=>exact h
  | sl t xs=>exact repB_keep (A := .sl t xs) hG hR.gref h
  | ptr t x=>exact repB_keep (A := .ptr t x) hG hR.gref h
  | st t x=>exact repB_keep (A := .st t x) hG hR.gref h
  | junk=>exact h
  | osl s rg =>
   simp only [frzAtom]
   cases hb:Nat.beq s r with
   | true =>
    obtain rfl:=Nat.eq_of_beq_eq_true hb
    exact hsub h
   | false=>exact repO_agree h (hag s fun e=>by subst e;simp at hb)
  | optr s i p =>
   simp only [frzAtom]
   cases hb:Nat.beq s r with
   | true =>
    obtain rfl:=Nat.eq_of_beq_eq_true hb
    cases hd:pathD p ⟨A.t,A.xs.getD i A.t.dflt⟩ with
    | none=>trivial
    | some d=>exact decP_rep hR (Kept.refl _ _) (G':=G') hG (A := .optr s i p) (t:=d.t) (x:=d.x) h (by unfold decP;simp only [hA,hd];simp [castT]) (fun u hu b hb'=>by simp only [lendA,refA,List.mem_singleton] at hu;rw [hu] at hb';exact .inr hb')
   | false =>
    refine repA_agree (A := .optr s i p) (w0:=w) (G:=G') h fun u hu => ?_
    simp only [refA,List.mem_singleton] at hu
    rw [hu]
    exact hag s fun e=>by subst e;simp at hb
  | rcd t ls =>
   obtain ⟨cs,h1,h2,h3⟩:=h
   have h4:=leafs h3
   simp only [frzAtom]
   split
   ·rename_i x ha hx
    exact ⟨cs,h1,treeLs_rep h4 hx⟩
   ·exact ⟨cs,h1,by simpa [frzLs] using h2,h4⟩
  | bptr s o t =>
   simp only [frzAtom]
   cases hb:Nat.beq s r with
   | true=>trivial
   | false =>
    refine repA_agree (A := .bptr s o t) (w0:=w) (G:=G') h fun u hu => ?_
    simp only [refA,List.mem_singleton] at hu
    rw [hu]
    exact hag s fun e=>by subst e;simp at hb
 have atoms:∀ {xs:List Atom} {vs:List Value},RepAs w0 G L V xs vs→RepAs w G' (frzH r A (hset L r none)) V (xs.map (frzAtom r A)) vs:=by
  intro xs
  induction xs with
  | nil=>intro vs h;exact h
  | cons X s ih=>rintro vs ⟨v,t,h1,h2,h3⟩;exact ⟨v,t,h1,atom h2,ih h3⟩
 refine ⟨w,G',hR.glob,hR.kept,hR.size,hR.defers,?_,fun _ _=>rfl,fun b hb => .inl (hR.gsub b hb),hR.gold,(fun b hb=>hb.elim (hR.gup b) fun h => .inr (hR.good r A hA b h).1),?_,?_,?_,?_,?_,?_,fun i => ?_⟩
 ·rintro b (hb | hb)
  ·exact hR.glt b hb
  ·exact hR.own_lt hA b hb
 ·intro s B hs
  obtain ⟨_,C,h2,rfl⟩:=hback s B hs
  exact frzR_ent.2 ((hR.heap s C h2).keepG hG hR.gref (fun _ _=>rfl))
 ·intro s B hs b hb
  obtain ⟨h1,C,h2,rfl⟩:=hback s B hs
  obtain ⟨g1,g2⟩:=hR.good s C h2 b hb
  exact ⟨g1,fun h=>h.elim g2 (hR.apart s r C A h2 hA h1 b hb)⟩
 ·intro s B hs
  obtain ⟨_,C,h2,rfl⟩:=hback s B hs
  exact hR.nodup s C h2
 ·intro s u B D hs hu hsu
  obtain ⟨_,C,h2,rfl⟩:=hback s B hs
  obtain ⟨_,F,h4,rfl⟩:=hback u D hu
  exact hR.apart s u C F h2 h4 hsu
 ·intro s B ls hs hl
  obtain ⟨_,C,h2,rfl⟩:=hback s B hs
  obtain ⟨l0,h0,rfl⟩:=frzR_ls.2 ls hl
  obtain ⟨b,off,cs,k1,k3,k4,k5,k6⟩:=hR.boxs s C l0 h2 h0
  rw [frzR_t]
  exact ⟨b,off,cs,k1,k3,by simpa [frzLs] using k4,k5,leafs k6⟩
 ·intro s B q hs hq
  obtain ⟨_,C,h2,rfl⟩:=hback s B hs
  rw [frzR_sm] at hq
  obtain ⟨g1,g2⟩:=hR.small s C q h2 hq
  exact ⟨g1,fun e=>⟨by rw [frzR_bor];exact (g2 e).1,frzR_ent.2 ((g2 e).2.keepG (fun _ h=>h) (fun b hb=>hR.gref b (hR.gsub b hb)) (fun _ _=>rfl))⟩⟩
 ·rw [get_frzE]
  have hi:=hR.env i
  generalize E.get i=p at hi
  cases p with
  | a X=>exact atom hi
  | tup xs=>obtain ⟨vs,hv,hr⟩:=hi;exact ⟨vs,hv,atoms hr⟩
  | fn f xs=>obtain ⟨vs,hv,hr⟩:=hi;exact ⟨vs,hv,atoms hr⟩
theorem frzAll_spec:∀ {rs:List Nat} {E:Env} {L:Heap} {w0:World} {G:Nat→Prop},RelV n K w0 G w a E L V own→∃ w0' G',RelV n K w0' G' w a (frzAll rs (E,L)).1 (frzAll rs (E,L)).2 V own
 | [],E,L,w0,G,hR=>⟨w0,G,hR⟩
 | r :: s,E,L,w0,G,hR=>by
  show ∃ w0' G',RelV n K w0' G' w a (frzAll s (frz1 r (E,L))).1 (frzAll s (frz1 r (E,L))).2 V own
  have h1:∃ w0' G',RelV n K w0' G' w a (frz1 r (E,L)).1 (frz1 r (E,L)).2 V own:=by
   unfold frz1
   split
   ·rename_i A hA
    split
    ·rename_i hls
     exact hR.freeze hA hls
    ·exact ⟨w0,G,hR⟩
   ·exact ⟨w0,G,hR⟩
  obtain ⟨w1,G1,h1⟩:=h1
  generalize frz1 r (E,L)=EL at h1
  obtain ⟨E1,L1⟩:=EL
  exact frzAll_spec h1
theorem stAtom_rep {A:Atom} {v:Value} (h:RepA w0 G L V A v):RepA w0 G L V (stAtom A) v:=by
 cases A with
 | rcd t ls =>
  simp only [stAtom]
  split
  ·rename_i x ha hx
   obtain ⟨cs,h1,h2,h3⟩:=h
   exact ⟨cs,h1,treeLs_rep h3 hx⟩
  ·exact h
 | _=>exact h
theorem get_stE:∀ (E:Env) (i:Nat),(stE E).get i=stP (E.get i)
 | [],i=>rfl
 | (j,p) :: s,i=>by
  simp only [stE,List.map_cons,Env.get]
  cases h:Nat.beq j i with
  | true=>rfl
  | false=>exact get_stE s i
theorem RelV.stE (hR:RelV n K w0 G w a E L V own):RelV n K w0 G w a (Am.stE E) L V own :=
 ⟨hR.glob,hR.kept,hR.size,hR.defers,hR.glt,hR.gref,hR.gsub,hR.gold,hR.gup,hR.heap,hR.good,hR.nodup,hR.apart,hR.boxs,hR.small,fun i=>by
  rw [get_stE]
  have hi:=hR.env i
  generalize E.get i=p at hi
  cases p with
  | a X=>exact stAtom_rep hi
  | tup xs=>exact hi
  | fn f xs=>exact hi⟩
theorem frzOp_spec (hR:RelV n K w0 G w a E L V own) (op:Op):∃ w0' G',RelV n K w0' G' w a (frzOp op (E,L)).1 (frzOp op (E,L)).2 V own:=by
 obtain ⟨w1,G1,h⟩:=frzAll_spec (rs:=refsOp E op) hR
 exact ⟨w1,G1,h.stE⟩
end
end Go.Am
namespace Go.Am
set_option linter.unusedVariables false
set_option linter.unusedSimpArgs false
section
variable {P:Program} {n:Nat} {K:Ctx} {G:Nat→Prop} {w0 w:World} {a:Act} {E:Env} {L:Heap} {V:Nat→Value} {own:Nat→List Nat}
theorem wp_of_value {o:Oper} {next:Act→World→Prop} {Q:Exit→Act→World→Prop} {v:Value} {w w':World} (h:(execOp a.eval o).run P w = .ok (.value v) w') (hn:next (a.put o.dst v) w'):o.wp P a w next Q:=by
 unfold Oper.wp
 rw [h]
 exact hn
theorem wp_of_quietAt (hR:RelV n K w0 G w a E L V own) {o:Oper} {next:Act→World→Prop} {Q:Exit→Act→World→Prop} {v:Value} (h:o.quietAt P a (Kept [] w) w v)
  (hn:∀ w',RelV n K w0 G w' a E L V own→next (a.put o.dst v) w'):o.wp P a w next Q:=by
 unfold Oper.quietAt at h
 unfold Oper.wp
 generalize (execOp a.eval o).run P w=r at *
 cases r with
 | ok nx w' =>
  cases nx <;> simp only [Oper.quietUpon] at h <;> simp only [Oper.upon]
  case value u=>obtain ⟨rfl,rfl⟩:=h;exact hn _ hR
  case skip=>obtain ⟨rfl,rfl⟩:=h;exact hn _ hR
  case enter f args =>
   obtain ⟨rfl,hc⟩:=h
   refine hc.mono ?_
   rintro e w'' ⟨rfl,hk⟩
   exact hn _ (hR.ext hk)
 | halt x w'=>simp only [Oper.quietUpon] at h
theorem opM_spec {tab:List TI} {ext:Ext} (hT:TabOk P tab) (hX:ExtOk P ext) (hR:RelV n K w0 G w a E L V own) {wr:Bool} {o:Oper} {cs:List Prop} {pv:PV} {E':Env} {L':Heap}
  (h:opM tab ext wr E L o.op=some (cs,pv,E',L')) (hc:All cs) {next:Act→World→Prop} {Q:Exit→Act→World→Prop}
  (hn:∀ v w0' G' w' V' own',RelV n K w0' G' w' a E' L' V' own'→RepP w0' G' L' V' pv v→next (a.put o.dst v) w'):o.wp P a w next Q:=by
 have quiet:∀ {op:Op} (ho:o.op=op) {r:Option (List Prop×PV×Env×Heap)},(match opQ tab ext wr E L op with | some (cs,pv)=>some (cs,pv,E,L) | none=>none)=some (cs,pv,E',L')→o.wp P a w next Q:=by
  intro op ho r h
  split at h
  ·rename_i cs1 pv1 hq
   cases h
   rw [← ho] at hq
   obtain ⟨v,hv,hqa⟩:=opQ_spec hT hX hR hq hc
   exact wp_of_quietAt hR (hqa w (Kept.refl _ _)) fun w' hR'=>hn v w0 G w' V own hR' hv
  ·cases h
 unfold opM at h
 split at h
 ·rename_i T x ho
  split at h
  ·rename_i A hA
   cases h
   obtain ⟨v,w',V',own',h1,h2,h3⟩:=box_spec hT hR hA
   exact wp_of_value (w':=w') (by simp only [execOp,ho];exact run_value _ _ _ _ h1) (hn _ _ _ _ _ _ h2.1 h3)
  ·cases h
 ·rename_i T ho
  split at h
  ·rename_i A hA
   cases h
   obtain ⟨v,w',V',own',h1,h2,h3⟩:=alloc_spec hT hR hA
   exact wp_of_value (w':=w') (by simp only [execOp,ho];exact run_value _ _ _ _ h1) (hn _ _ _ _ _ _ h2.1 h3)
  ·cases h
 ·rename_i T k parts ho
  split at h
  ·rename_i A hA
   cases h
   obtain ⟨v,w',V',own',h1,h2,h3⟩:=sliceLit_spec hT hR hA
   exact wp_of_value (w':=w') (by simp only [execOp,ho];exact run_value _ _ _ _ h1) (hn _ _ _ _ _ _ h2.1 h3)
  ·cases h
 ·rename_i T l c ho
  split at h
  ·rename_i cs1 A hA
   cases h
   obtain ⟨v,w',V',own',h1,h2,h3⟩:=make_spec hT hR hA hc
   exact wp_of_value (w':=w') (by simp only [execOp,ho];exact run_value _ _ _ _ h1) (hn _ _ _ _ _ _ h2.1 h3)
  ·cases h
 ·rename_i T x y ho
  split at h
  ·rename_i L1 hL
   cases h
   obtain ⟨w',h1,h2,_⟩:=store_spec hT hR hL
   unfold Oper.wp
   have:(execOp a.eval o).run P w = .ok .skip w':=by simp [execOp,ho,h1]
   rw [this]
   exact hn _ _ _ _ _ _ h2 trivial
  ·cases h
 ·rename_i f args ts ho
  split at h
  ·rename_i g ps hg
   obtain ⟨vs,hv,hps⟩:=calleeA_spec hR hg
   obtain ⟨hcall,hcalls⟩:=callA_spec hX hR hps h hc
   unfold Oper.wp
   rw [call_run hcall ho hv]
   refine hcalls.mono ?_
   rintro e w' ⟨v,w0',G',V',own',rfl,h1,h2⟩
   exact hn _ _ _ _ _ _ h1 h2
  ·cases h
 ·rename_i args ts ho
  split at h
  ·rename_i s x T T2 hargs hts
   obtain ⟨v,w',V',own',h1,h2,h3⟩:=append_spec (ty:=o.type) hT hR h hc
   refine wp_of_value (w':=w') ?_ (hn _ _ _ _ _ _ h2 h3)
   have ea:args = #[s,x]:=by cases args;simp_all
   have et:ts = #[T,T2]:=by cases ts;simp_all
   subst ea et
   simp only [execOp,ho,resolve,Sem.run_bind,Sem.run_pure,Result.andThen_ok,invoke]
   have:(builtin .append #[T,T2] o.type (#[s,x].map fun | .const _=>true | _=>false) (#[s,x].map a.eval)).run P w = .ok (.value v) w':=by
    simp only [builtin]
    refine run_value _ _ _ _ ?_
    simpa using h1
   exact this
  ·cases h
 ·rename_i args ts ho
  split at h
  ·rename_i x T hargs hts
   split at h
   ·rename_i L1 hL
    cases h
    obtain ⟨w',h1,h2⟩:=clear_spec (ty:=o.type) hT hR hL
    refine wp_of_value (v := .tuple #[]) (w':=w') ?_ (hn _ _ _ _ _ _ h2 trivial)
    have ea:args = #[x]:=by cases args;simp_all
    have et:ts = #[T]:=by cases ts;simp_all
    subst ea et
    simp only [execOp,ho,resolve,Sem.run_bind,Sem.run_pure,Result.andThen_ok,invoke]
    have:(builtin .clear #[T] o.type (#[x].map fun | .const _=>true | _=>false) (#[x].map a.eval)).run P w = .ok (.value (.tuple #[])) w':=by
     simp only [builtin]
     refine run_value _ _ _ _ ?_
     simpa using h1
    exact this
   ·cases h
  ·cases h
 ·rename_i s d x ho
  split at h
  ·rename_i A hA
   cases h
   obtain ⟨v,w',V',own',h1,h2,h3⟩:=s2b_spec hT hR hA
   exact wp_of_value (w':=w') (by simp only [execOp,ho];exact run_value _ _ _ _ h1) (hn _ _ _ _ _ _ h2.1 h3)
  ·exact quiet (r:=none) ho h
 ·exact quiet (r:=none) rfl h
theorem opMF_spec {tab:List TI} {ext:Ext} (hT:TabOk P tab) (hX:ExtOk P ext) (hR:RelV n K w0 G w a E L V own) {wr:Bool} {o:Oper} {cs:List Prop} {pv:PV} {E':Env} {L':Heap}
  (h:(match opM tab ext wr E L o.op with | some r=>some r | none=>opM tab ext wr (frzOp o.op (E,L)).1 (frzOp o.op (E,L)).2 o.op)=some (cs,pv,E',L')) (hc:All cs) {next:Act→World→Prop} {Q:Exit→Act→World→Prop}
  (hn:∀ v w0' G' w' V' own',RelV n K w0' G' w' a E' L' V' own'→RepP w0' G' L' V' pv v→next (a.put o.dst v) w'):o.wp P a w next Q:=by
 split at h
 ·rename_i r hr
  cases h
  exact opM_spec hT hX hR hr hc hn
 ·obtain ⟨w1,G1,h1⟩:=frzOp_spec hR o.op
  exact opM_spec hT hX h1 h hc hn
end
structure St where
 path:List Bool
 dec:List (Nat×Bool)
 E:Env
 L:Heap
 cs:List Prop
 pins:List Nat
def nthO:List Oper→Nat→Option Oper
 | [],_=>none
 | o :: _,0=>some o
 | _ :: r,n+1=>nthO r n
def lookB:List (Nat×Bool)→Nat→Option Bool
 | [],_=>none
 | (t,d) :: r,n=>match Nat.beq t n with | true=>some d | false=>lookB r n
def dropB (t:Nat):List (Nat×Bool)→List (Nat×Bool)
 | []=>[]
 | (s,d) :: r=>match Nat.beq s t with | true=>dropB t r | false=>(s,d) :: dropB t r
def eqBB:Bool→Bool→Bool
 | true,b=>b
 | false,b => !b
def decideS (S:St) (t:Nat):Option (Bool×St) :=
 match lookB S.dec t with
 | some d=>some (d,S)
 | none=>match S.E.get t,S.path with
  | .a (.val (.bool b)),d :: p=>some (d,⟨p,(t,d) :: S.dec,S.E,S.L,S.cs++[b=d],S.pins⟩)
  | _,_=>none
def guardS (all:List Oper) (S:St):Option (Nat×Bool)→Option (Bool×St)
 | none=>some (true,S)
 | some (j,want)=>match nthO all j with
  | some o=>match o.dst with
   | some t=>match S.E.get t with
    | .a (.val (.tuple _))=>some (false,S)
    | _=>match decideS S t with
     | some (d,S')=>some (eqBB d want,S')
     | none=>none
   | none=>none
  | none=>none
def putS (n:Nat) (S:St) (E:Env) (L:Heap) (cs:List Prop):Option Nat→PV→Option St
 | none,_=>some ⟨S.path,S.dec,E,L,S.cs++cs,S.pins⟩
 | some d,pv=>match Nat.blt d n && !memB d S.pins with
  | true=>some ⟨S.path,dropB d S.dec,E.set d pv,L,S.cs++cs,S.pins⟩
  | false=>none
def stepO (tab:List TI) (ext:Ext) (wr:Bool) (n:Nat) (quiet:Bool) (all:List Oper) (S:St) (o:Oper):Option St :=
 match guardS all S o.guard with
 | none=>none
 | some (false,S)=>putS n S S.E S.L [] o.dst (.a (.val undef))
 | some (true,S)=>match o.op with
  | .pick (.tmp c) x y=>match decideS S c with
   | some (d,S)=>putS n S S.E S.L [] o.dst (cond d (opnd S.E x) (opnd S.E y))
   | none=>none
  | op=>match quiet with
   | true=>match opQ tab ext wr S.E S.L op with
    | some (cs,pv)=>putS n S S.E S.L cs o.dst pv
    | none=>none
   | false=>match (match opM tab ext wr S.E S.L op with | some r=>some r | none=>opM tab ext wr (frzOp op (S.E,S.L)).1 (frzOp op (S.E,S.L)).2 op) with
    | some (cs,pv,E,L)=>putS n S E L cs o.dst pv
    | none=>none
def stepsO (tab:List TI) (ext:Ext) (wr:Bool) (n:Nat) (quiet:Bool) (all:List Oper):List Oper→St→Option St
 | [],S=>some S
 | o :: r,S=>match stepO tab ext wr n quiet all S o with
  | some S'=>stepsO tab ext wr n quiet all r S'
  | none=>none
section
variable {P:Program} {n:Nat} {K:Ctx} {G:Nat→Prop} {w0 w:World} {a:Act} {E:Env} {L:Heap} {V:Nat→Value} {own:Nat→List Nat}
theorem nthO_eq:∀ (l:List Oper) (j:Nat),nthO l j=l[j]?
 | [],j=>rfl
 | o :: r,0=>rfl
 | o :: r,j+1=>by simp [nthO,nthO_eq r j]
def DecOk (q:Nat→Value) (a:Act) (S:St):Prop:=(∀ t d,lookB S.dec t=some d→a.tmps.getD t undef = .bool d)∧∀ t∈S.pins,a.tmps.getD t undef=q t
theorem lookB_drop:∀ (dec:List (Nat×Bool)) (s t:Nat),lookB (dropB s dec) t=if s=t then none else lookB dec t
 | [],s,t=>by simp [dropB,lookB]
 | (u,d) :: r,s,t=>by
  simp only [dropB]
  cases h:Nat.beq u s with
  | true =>
   obtain rfl:=Nat.eq_of_beq_eq_true h
   rw [lookB_drop r u t]
   by_cases ht:u=t
   ·simp [ht]
   ·simp only [if_neg ht,lookB,nbeq_false ht]
  | false =>
   have hne:u≠s:=fun e=>by subst e;simp at h
   simp only [lookB,lookB_drop r s t]
   cases ht:Nat.beq u t with
   | true =>
    obtain rfl:=Nat.eq_of_beq_eq_true ht
    simp only [ht,if_neg (Ne.symm hne)]
   | false=>rfl
theorem DecOk.put {q:Nat→Value} {S S':St} (h:DecOk q a S) (d:Nat) (v:Value) (hp:d ∉ S.pins) (e1:S'.dec=dropB d S.dec) (e2:S'.pins=S.pins):DecOk q (a.put (some d) v) S':=by
 have other:∀ t,d≠t→(a.put (some d) v).tmps.getD t undef=a.tmps.getD t undef:=fun t hne=>by
  simp only [Act.put]
  simp [Array.getD_eq_getD_getElem?, Array.getElem?_setIfInBounds_ne hne]
 constructor
 ·intro t b hb
  rw [e1,lookB_drop] at hb
  split at hb
  ·cases hb
  ·rename_i hne
   rw [other t hne]
   exact h.1 t b hb
 ·intro t ht
  rw [e2] at ht
  rw [other t (fun e=>hp (by rw [e];exact ht))]
  exact h.2 t ht
theorem decideS_spec {q:Nat→Value} {S S':St} {t:Nat} {d:Bool} (hR:RelV n K w0 G w a S.E S.L V own) (hd:DecOk q a S) (h:decideS S t=some (d,S')) (hc:All S'.cs) :
  a.tmps.getD t undef = .bool d∧S'.E=S.E∧S'.L=S.L∧DecOk q a S'∧All S.cs:=by
 unfold decideS at h
 split at h
 ·rename_i d' hl
  cases h
  exact ⟨hd.1 _ _ hl,rfl,rfl,hd,hc⟩
 ·split at h
  ·rename_i b d' p hg hp
   cases h
   obtain ⟨h1,h2⟩:=All.append.1 hc
   have hv:=hR.valEq (x := .tmp t) (v := .bool b) (by simp only [opnd];rw [hg])
   have hb:b=d:=h2.1
   subst hb
   refine ⟨hv.1,rfl,rfl,⟨?_,hd.2⟩,h1⟩
   intro s c hs
   simp only [lookB] at hs
   split at hs
   ·rename_i hst
    obtain rfl:=Nat.eq_of_beq_eq_true hst
    cases hs
    exact hv.1
   ·exact hd.1 s c hs
  ·cases h
end
end Go.Am
namespace Go.Am
set_option linter.unusedVariables false
set_option linter.unusedSimpArgs false
def callK (ext:Ext) (L:Heap) (f:FuncId) (ps:List PV):Option (List Prop×PV×Heap) :=
 match ext with
 | []=>none
 | (g,S) :: r=>match Nat.beq f g with
  | true=>match decArgs L S.sig ps with
   | some (x,os,us)=>match os.flatten,ownK S.kds||us.isEmpty,planAll L (smArgs L S.sig ps) S.sig ps os (S.upd x) with
    | [],true,some (cs,[],[])=>match resA L.length S.kds (S.res x) with
     | (ats,es)=>some (S.pre x :: cs,packA ats,L++es)
    | _,_,_=>callK r L f ps
   | none=>callK r L f ps
  | false=>callK r L f ps
def opK (tab:List TI) (ext:Ext) (E:Env) (L:Heap):Op→Option (List Prop×PV×Heap)
 | .box T x=>match boxA tab T (opnd E x) with
  | some A=>some ([],.a (ptrOf L.length A),L++[some A])
  | none=>none
 | .alloc T=>match allocA tab T with
  | some A=>some ([],.a (ptrOf L.length A),L++[some A])
  | none=>none
 | .buildSlice T n parts=>match sliceLitA tab T n (parts.toList.map fun p=>(p.1,opnd E p.2)) with
  | some A=>some ([],.a (.osl L.length none),L++[some A])
  | none=>none
 | .makeSlice T l c=>match makeA tab T (opnd E l) (opnd E c) with
  | some (cs,A)=>some (cs,.a (.osl L.length none),L++[some A])
  | none=>none
 | .call { callee := .value f,args,argTypes }=>match calleeA E f args.toList with
  | some (g,ps)=>callK ext L g ps
  | none=>none
 | .convert s d x=>match s2bA tab s d (opnd E x) with
  | some A=>some ([],.a (.osl L.length none),L++[some A])
  | none=>none
 | _=>none
section
variable {P:Program} {n:Nat} {K:Ctx} {G:Nat→Prop} {w0 w:World} {a:Act} {E:Env} {L:Heap} {V:Nat→Value} {own:Nat→List Nat}
theorem callK_spec:∀ {ext:Ext} (hX:ExtOk P ext) (hR:RelV n K w0 G w a E L V own) {f:FuncId} {ps:List PV} {vs:List Value} {cs:List Prop} {pv:PV} {L':Heap}
  (hps:RepPs w0 G L V ps vs) (h:callK ext L f ps=some (cs,pv,L')) (hc:All cs),
  Callable P f∧Calls P f vs.toArray w fun e w'=>∃ v w0' G' V' own',e = .returned v∧Kept [] w w'∧RelV n K w0' G' w' a E L' V' own'∧RepP w0' G' L' V' pv v
 | [],_,_,_,_,_,_,_,_,_,h,_=>by cases h
 | (g,S) :: r,hX,hR,f,ps,vs,cs,pv,L',hps,h,hc=>by
  obtain ⟨⟨hcall,hcon⟩,hX'⟩:=hX
  simp only [callK] at h
  split at h
  ·rename_i hfg
   obtain rfl:=Nat.eq_of_beq_eq_true hfg
   split at h
   ·rename_i x os us hd
    split at h
    ·rename_i cd hos hko hpl
     cases h
     obtain ⟨hpre,hc⟩:=hc
     simp only [Bool.or_eq_true,List.isEmpty_iff] at hko
     obtain ⟨l1,_⟩:=decArgs_live hR hps hd
     have hon:=ownOf_nil (own:=own) hos
     have hargs:=decArgs_rep (q:=smArgs L S.sig ps) hR (Kept.refl [] w) (G':=LendG G own us) (fun b hb => .inl hb) hps hd (fun h=>h) (fun r hr b hb => .inr ⟨r,hr,hb⟩)
     refine ⟨hcall,(hcon w (LendG G own us) (SmG K G (smArgs L S.sig ps)) x _ _ (hR.gok (Kept.refl _ _) (by rw [hon];simp)) (fun b hb => ?_) (fun b hb => .inl ?_) hpre hargs (by rw [hon];exact List.nodup_nil)).mono ?_⟩
     ·rw [hon]
      refine ⟨?_,by simp⟩
      rcases hb with hb | ⟨r,hr,hb⟩
      ·exact hR.glt b hb
      ·obtain ⟨A,hA⟩:=l1 r hr
       exact hR.own_lt hA b hb
     ·unfold SmG at hb
      split at hb
      ·exact hR.gsub b hb
      ·exact hb
     ·intro e w' hpost
      obtain ⟨v,w0',G',V',own',h1,hk,h2,h3⟩:=call_back hR hps hd (by rw [hos];exact List.nodup_nil) hko hpl hc hpost
      rw [hon] at hk
      exact ⟨v,w0',G',V',own',h1,hk,h2,h3⟩
    ·exact callK_spec hX' hR hps h hc
   ·exact callK_spec hX' hR hps h hc
  ·exact callK_spec hX' hR hps h hc
theorem opK_spec {tab:List TI} {ext:Ext} (hT:TabOk P tab) (hX:ExtOk P ext) (hR:RelV n K w0 G w a E L V own) {o:Oper} {cs:List Prop} {pv:PV} {L':Heap}
  (h:opK tab ext E L o.op=some (cs,pv,L')) (hc:All cs) {next:Act→World→Prop} {Q:Exit→Act→World→Prop}
  (hn:∀ v w0' G' w' V' own',Kept [] w w'→RelV n K w0' G' w' a E L' V' own'→RepP w0' G' L' V' pv v→next (a.put o.dst v) w'):o.wp P a w next Q:=by
 unfold opK at h
 split at h
 ·rename_i T x ho
  split at h
  ·rename_i A hA
   cases h
   obtain ⟨v,w',V',own',h1,h2,h3⟩:=box_spec hT hR hA
   exact wp_of_value (w':=w') (by simp only [execOp,ho];exact run_value _ _ _ _ h1) (hn _ _ _ _ _ _ h2.2.kept h2.1 h3)
  ·cases h
 ·rename_i T ho
  split at h
  ·rename_i A hA
   cases h
   obtain ⟨v,w',V',own',h1,h2,h3⟩:=alloc_spec hT hR hA
   exact wp_of_value (w':=w') (by simp only [execOp,ho];exact run_value _ _ _ _ h1) (hn _ _ _ _ _ _ h2.2.kept h2.1 h3)
  ·cases h
 ·rename_i T k parts ho
  split at h
  ·rename_i A hA
   cases h
   obtain ⟨v,w',V',own',h1,h2,h3⟩:=sliceLit_spec hT hR hA
   exact wp_of_value (w':=w') (by simp only [execOp,ho];exact run_value _ _ _ _ h1) (hn _ _ _ _ _ _ h2.2.kept h2.1 h3)
  ·cases h
 ·rename_i T l c ho
  split at h
  ·rename_i cs1 A hA
   cases h
   obtain ⟨v,w',V',own',h1,h2,h3⟩:=make_spec hT hR hA hc
   exact wp_of_value (w':=w') (by simp only [execOp,ho];exact run_value _ _ _ _ h1) (hn _ _ _ _ _ _ h2.2.kept h2.1 h3)
  ·cases h
 ·rename_i f args ts ho
  split at h
  ·rename_i g ps hg
   obtain ⟨vs,hv,hps⟩:=calleeA_spec hR hg
   obtain ⟨hcall,hcalls⟩:=callK_spec hX hR hps h hc
   unfold Oper.wp
   rw [call_run hcall ho hv]
   refine hcalls.mono ?_
   rintro e w' ⟨v,w0',G',V',own',rfl,h0,h1,h2⟩
   exact hn _ _ _ _ _ _ h0 h1 h2
  ·cases h
 ·rename_i s d x ho
  split at h
  ·rename_i A hA
   cases h
   obtain ⟨v,w',V',own',h1,h2,h3⟩:=s2b_spec hT hR hA
   exact wp_of_value (w':=w') (by simp only [execOp,ho];exact run_value _ _ _ _ h1) (hn _ _ _ _ _ _ h2.2.kept h2.1 h3)
  ·cases h
 ·cases h
end
def onceN:List Nat→List Nat
 | []=>[]
 | x :: r=>match memB x r with
  | true=>onceN r
  | false=>x :: onceN r
theorem mem_onceN:∀ {l:List Nat} {k:Nat},k∈onceN l→k∈l
 | x :: r,k,h=>by
  simp only [onceN] at h
  split at h
  ·exact List.mem_cons_of_mem _ (mem_onceN h)
  ·rcases List.mem_cons.1 h with rfl | h
   ·exact List.mem_cons_self ..
   ·exact List.mem_cons_of_mem _ (mem_onceN h)
def preds (ops:Array Oper) (js:List Nat):List Nat:=js.flatMap fun j=>match ops[j]? with
 | some o=>(o.after.toList.filter fun e=>Region.binds .any e).map fun e=>e.on
 | none=>[]
def ancs (ops:Array Oper):Nat→List Nat→List Nat
 | 0,_=>[]
 | m+1,js=>match onceN (preds ops js) with
  | []=>[]
  | x :: r=>(x :: r)++ancs ops m (x :: r)
def barB (ops:Array Oper) (listed:Array Bool) (i:Nat):Bool :=
 (List.range ops.size).all fun k => !listed.getD k true||memB k (ancs ops ops.size [i])
def Down (ops:Array Oper) (listed:Array Bool):Prop :=
 ∀ k o,listed.getD k false=true→ops[k]? = some o→∀ e∈o.after,Region.binds .any e=true→listed.getD e.on false=true
section
variable {P:Program} {ops:Array Oper} {Q:Exit→Act→World→Prop}
theorem Down.start (ops:Array Oper) (m:Nat):Down ops (Array.replicate m false):=fun k o h=>by
 exfalso
 rw [Array.getD_eq_getD_getElem?, Array.getElem?_replicate] at h
 split at h <;> simp at h
theorem Down.set {listed:Array Bool} (h:Down ops listed) {i:Nat} (hi:i∈Region.ready .any ops listed):Down ops (listed.setIfInBounds i true):=by
 intro k o hk ho e he hb
 by_cases hki:i=k
 ·subst hki
  obtain ⟨_,o',ho',hall⟩:=mem_ready.1 hi
  rw [ho] at ho'
  cases ho'
  exact getD_set_true (hall e he hb)
 ·rw [getD_set_ne false hki] at hk
  exact getD_set_true (h k o hk ho e he hb)
theorem mem_ancs {listed:Array Bool} (hD:Down ops listed):∀ {m:Nat} {js:List Nat},(∀ j∈js,∀ o,ops[j]? = some o→∀ e∈o.after,Region.binds .any e=true→listed.getD e.on false=true) →
  ∀ k∈ancs ops m js,listed.getD k false=true
 | 0,_,_,k,hk=>by cases hk
 | m+1,js,h,k,hk=>by
  have hd:∀ k∈onceN (preds ops js),listed.getD k false=true:=by
   intro k hk
   obtain ⟨j,hj,hk⟩:=List.mem_flatMap.1 (mem_onceN hk)
   split at hk
   ·rename_i o ho
    obtain ⟨e,he,rfl⟩:=List.mem_map.1 hk
    obtain ⟨he,hb⟩:=List.mem_filter.1 he
    exact h j hj o ho e (by simpa using he) hb
   ·cases hk
  simp only [ancs] at hk
  split at hk
  ·cases hk
  ·rename_i x r hxr
   rw [hxr] at hd
   rcases List.mem_append.1 hk with hk | hk
   ·exact hd k hk
   ·exact mem_ancs hD (fun j hj o ho e he hb=>hD j o (hd j hj) ho e he hb) k hk
def wpAnyK (P:Program) (ops:Array Oper) (Q:Exit→Act→World→Prop) (F:List Nat):Nat→Array Bool→Act→World→Prop
 | 0,listed,a,w=>∀ w1,Kept [] w w1→Region.ready .any ops listed=[]∧Q .normal a w1
 | fuel+1,listed,a,w=>∀ w1,Kept [] w w1→(Region.ready .any ops listed=[]→Q .normal a w1) ∧
  ∀ i∈Region.ready .any ops listed,wpOp P ops Q i (fun a' w'=>(barB ops listed i=true∨Kept F w1 w')∧wpAnyK P ops Q F fuel (listed.setIfInBounds i true) a' w') a w1
theorem wpAnyK.up {F:List Nat}:∀ {fuel:Nat} {listed:Array Bool} {a:Act} {w w1:World},wpAnyK P ops Q F fuel listed a w→Kept [] w w1→wpAnyK P ops Q F fuel listed a w1
 | 0,_,_,_,_,h,k=>fun w2 k2=>h w2 (k.trans k2)
 | _+1,_,_,_,_,h,k=>fun w2 k2=>h w2 (k.trans k2)
theorem wpAny_of_K {F:List Nat}:∀ (fuel:Nat) (listed:Array Bool) (a:Act) (w:World),wpAnyK P ops Q F fuel listed a w→wpAny P .any ops Q fuel listed a w
 | 0,_,_,w,h=>h w (Kept.refl _ _)
 | fuel+1,_,_,w,h=>⟨(h w (Kept.refl _ _)).1,fun i hi=>wpOp_mono (fun a' w' h'=>wpAny_of_K fuel _ a' w' h'.2) ((h w (Kept.refl _ _)).2 i hi)⟩
def YieldsK (P:Program) (ops:Array Oper) (F:List Nat) (o:Oper) (v:Value) (a:Act) (w:World):Prop :=
 (Region.wanted o (yielded ops a.tmps)=true∧∀ w',Kept F w w'→o.quietAt P a (Kept [] w') w' v) ∨
 (Region.wanted o (yielded ops a.tmps)=false∧v=undef)
theorem YieldsK.up {F:List Nat} {o:Oper} {v:Value} {a:Act} {w w1:World} (h:YieldsK P ops F o v a w) (k:Kept F w w1):YieldsK P ops F o v a w1 :=
 h.imp (fun ⟨h1,h2⟩=>⟨h1,fun w' k'=>h2 w' (k.trans k')⟩) id
theorem YieldsK.of_same {F:List Nat} {o:Oper} {v:Value} {a a':Act} {w:World} (hy:YieldsK P ops F o v a w) (he:execOp a'.eval o=execOp a.eval o)
  (hw:Region.wanted o (yielded ops a'.tmps)=Region.wanted o (yielded ops a.tmps)):YieldsK P ops F o v a' w:=by
 unfold YieldsK Oper.quietAt at *
 rw [he,hw]
 exact hy
theorem YieldsK.wpOp {F:List Nat} {i:Nat} {o:Oper} {v:Value} {a:Act} {w:World} (hi:ops[i]? = some o) (hy:YieldsK P ops F o v a w)
  {K:Act→World→Prop} (h:∀ w',Kept [] w w'→K (a.put o.dst v) w'):wpOp P ops Q i K a w:=by
 unfold Go.wpOp
 simp only [hi]
 rcases hy with ⟨hw,hv⟩ | ⟨hw,rfl⟩
 ·simp only [hw,if_true]
  refine .inl (Oper.wp_of_quiet (C:=Kept [] w) (K:=fun a'=>a'=a.put o.dst v) (Kept.refl _ _) (fun a' w' k e=>by subst e;exact h w' k) ⟨v,fun w' k => ?_,rfl⟩)
  have:=hv w' k.of_nil
  unfold Oper.quietAt at this ⊢
  generalize (execOp a.eval o).run P w'=r at *
  cases r with
  | ok nx w2 =>
   cases nx <;> simp only [Oper.quietUpon] at this ⊢
   case value u=>exact this
   case skip=>exact this
   case enter f args=>exact ⟨this.1,this.2.mono fun e w3 hh=>⟨hh.1,k.trans hh.2⟩⟩
  | halt x w2=>simp only [Oper.quietUpon] at this
 ·simp only [hw,Bool.false_eq_true,if_false];exact h w (Kept.refl _ _)
theorem wpOp_putK {F:List Nat} {j:Nat} {oi oj:Oper} {v:Value} (hj:ops[j]? = some oj) (hap:oi.apart ops oj=true)
  (hsi:∀ cs b,oi.op ≠ .select cs b) (hsj:∀ cs b,oj.op ≠ .select cs b)
  (hQ:∀ c a w,¬ Q (.panic c) a w) {K:Act→World→Prop} {a:Act} {w wb:World}
  (hy:YieldsK P ops F oi v a wb) (h:wpOp P ops Q j K (a.put oi.dst v) w) :
  wpOp P ops Q j (fun a' w'=>YieldsK P ops F oi v a' wb∧K (a'.put oi.dst v) w') a w:=by
 obtain ⟨h1,h2,h3⟩:=Oper.apart_spec hap
 have keep:∀ (a:Act),YieldsK P ops F oi v a wb→∀ u,YieldsK P ops F oi v (a.put oj.dst u) wb:=fun a hy u =>
  hy.of_same (execOp_put oi hsi a oj.dst u h3) (wanted_put oi a oj.dst u h3)
 have keepD:∀ d,YieldsK P ops F oi v { a with defers:=d :: a.defers } wb:=fun d=>hy.of_same rfl rfl
 unfold wpOp at *
 simp only [hj] at *
 rw [wanted_put oj a oi.dst v h1] at h
 split
 ·rename_i hw
  simp only [hw,if_true] at h
  rcases h with h | ⟨hasks,hlets⟩
  case inr=>exact .inr ⟨by unfold Oper.asks at *;rw [execOp_put oj hsj a oi.dst v h1] at hasks;exact hasks,hlets⟩
  refine .inl ?_
  unfold Oper.wp at *
  rw [execOp_put oj hsj a oi.dst v h1] at h
  generalize (execOp a.eval oj).run P w=r at *
  cases r with
  | ok n w' =>
   cases n <;> simp only [Oper.upon] at h ⊢
   case value u=>exact ⟨keep a hy u,by rw [← Act.put_comm a v u h2];exact h⟩
   case skip=>exact ⟨keep a hy _,by rw [← Act.put_comm a v undef h2];exact h⟩
   case defer d =>
    refine ⟨keep _ (keepD d) _,?_⟩
    rw [← Act.put_comm _ v undef h2, ← Act.put_defers]
    exact h
   case enter f args =>
    refine Calls.mono h fun e w'' he => ?_
    cases e with
    | returned u=>exact ⟨keep a hy u,by rw [← Act.put_comm a v u h2];exact he⟩
    | panicked c=>exact absurd he (hQ _ _ _)
    | outgrown=>exact he
   case row row args=>exact Rows.mono h fun u w'' he=>⟨keep a hy u,by rw [← Act.put_comm a v u h2];exact he⟩
  | halt x w' =>
   cases x <;> simp only [Oper.upon] at h ⊢
   case panic u=>exact absurd h (hQ _ _ _)
 ·rename_i hw
  simp only [hw] at h
  exact ⟨keep a hy _,by rw [← Act.put_comm a v undef h2];exact h⟩
theorem barB_ready {listed:Array Bool} (hD:Down ops listed) {i j:Nat} (hi:i∈Region.ready .any ops listed) (hj:j∈Region.ready .any ops listed):barB ops (listed.setIfInBounds i true) j=false:=by
 obtain ⟨h0,oi,hoi,_⟩:=mem_ready.1 hi
 obtain ⟨_,oj,hoj,hallj⟩:=mem_ready.1 hj
 have hilt:i<ops.size:=(Array.getElem?_eq_some_iff.1 hoi).1
 have hlt:i<listed.size:=by
  rcases Nat.lt_or_ge i listed.size with h | h
  ·exact h
  ·rw [Array.getD_eq_getD_getElem?, Array.getElem?_eq_none h] at h0;simp at h0
 rw [Bool.eq_false_iff]
 intro hb
 simp only [barB,List.all_eq_true,List.mem_range] at hb
 have h1:=hb i hilt
 have h2:(listed.setIfInBounds i true).getD i true=true:=by simp [hlt]
 rw [h2] at h1
 simp only [Bool.not_true,Bool.false_or] at h1
 have h3:=mem_ancs hD (m:=ops.size) (js:=[j]) (fun k hk o ho e he hbd=>by
  rw [List.mem_singleton] at hk
  subst hk
  rw [hoj] at ho
  cases ho
  exact hallj e he hbd) i (memB_iff.1 h1)
 rw [Array.getD_eq_getD_getElem?, Array.getElem?_eq_getElem hlt] at h0 h3
 simp at h0 h3
 rw [h0] at h3
 cases h3
theorem wpAnyK_first {F:List Nat} {i:Nat} {oi:Oper} {v:Value} (hi:ops[i]? = some oi) (hsel:∀ (j:Nat) (o:Oper) cs b,ops[j]? = some o→o.op ≠ .select cs b)
  (hQ:∀ c a w,¬ Q (.panic c) a w) :
  ∀ (fuel:Nat) (listed:Array Bool) (a:Act) (w:World),Down ops listed →
   (∀ j oj,ops[j]? = some oj→j≠i→listed.getD j true=false→(∀ e∈oj.after,Region.binds .any e=true→e.on≠i)→oi.apart ops oj=true) →
   i∈Region.ready .any ops listed→YieldsK P ops F oi v a w →
   wpAnyK P ops Q F fuel (listed.setIfInBounds i true) (a.put oi.dst v) w→wpAnyK P ops Q F (fuel+1) listed a w:=by
 intro fuel
 induction fuel with
 | zero =>
  intro listed a w hD _ hr hy H w1 k
  refine ⟨fun h=>(by rw [h] at hr;cases hr),fun j hj => ?_⟩
  by_cases hji:j=i
  ·subst hji
   exact (hy.up k.of_nil).wpOp hi fun w' k'=>⟨.inr k'.of_nil,H.up (k.trans k')⟩
  ·have:=ready_mono hj hji
   rw [(H w1 k).1] at this
   cases this
 | succ fuel ih =>
  intro listed a w hD hfree hr hy H w1 k
  refine ⟨fun h=>(by rw [h] at hr;cases hr),fun j hj => ?_⟩
  by_cases hji:j=i
  ·subst hji
   exact (hy.up k.of_nil).wpOp hi fun w' k'=>⟨.inr k'.of_nil,H.up (k.trans k')⟩
  ·have h1:=(H w1 k).2 j (ready_mono hj hji)
   obtain ⟨hjun,oj,hoj,hall⟩:=mem_ready.1 hj
   have hnot:∀ e∈oj.after,Region.binds .any e=true→e.on≠i:=fun e he hb heq=>by
    have h1:=hall e he hb
    have h0:=(mem_ready.1 hr).1
    rw [heq] at h1
    rcases Nat.lt_or_ge i listed.size with h' | h'
    ·simp [h'] at h0 h1;rw [h0] at h1;cases h1
    ·simp [Array.getElem?_eq_none h'] at h1
   have hbar:=barB_ready hD hr hj
   have h2:=wpOp_putK hoj (hfree j oj hoj hji hjun hnot) (fun cs b=>hsel i oi cs b hi) (fun cs b=>hsel j oj cs b hoj) hQ (hy.up k.of_nil) h1
   have hfree':∀ k ok,ops[k]? = some ok→k≠i→(listed.setIfInBounds j true).getD k true=false →
     (∀ e∈ok.after,Region.binds .any e=true→e.on≠i)→oi.apart ops ok=true:=fun k ok hk hki hun hno=>by
    refine hfree k ok hk hki ?_ hno
    by_cases hjk:j=k
    ·subst hjk;exact hjun
    ·rw [getD_set_ne true hjk] at hun;exact hun
   refine wpOp_mono (fun a' w' h3 => ?_) h2
   obtain ⟨hy',hkk,H'⟩:=h3
   rw [hbar] at hkk
   have hkk:Kept F w1 w':=hkk.resolve_left (by simp)
   refine ⟨.inr hkk,ih (listed.setIfInBounds j true) a' w' (hD.set hj) hfree' (ready_mono hr (Ne.symm hji)) (hy'.up hkk) ?_⟩
   rw [Array.setIfInBounds_comm _ _ hji]
   exact H'
theorem wpAnyK.mono {F F':List Nat} (hF:∀ k∈F,k∈F'):∀ {fuel:Nat} {listed:Array Bool} {a:Act} {w:World},wpAnyK P ops Q F fuel listed a w→wpAnyK P ops Q F' fuel listed a w
 | 0,_,_,_,h=>h
 | fuel+1,_,_,_,h=>fun w1 k=>⟨(h w1 k).1,fun i hi=>wpOp_mono (fun a' w' h'=>⟨h'.1.imp id fun k'=>k'.mono hF,h'.2.mono hF⟩) ((h w1 k).2 i hi)⟩
end
end Go.Am
namespace Go.Am
set_option linter.unusedVariables false
set_option linter.unusedSimpArgs false
section
variable {P:Program} {n:Nat} {K:Ctx} {G:Nat→Prop} {w0 w w':World} {a:Act} {E:Env} {L:Heap} {V:Nat→Value} {own:Nat→List Nat}
theorem kill_rel (hR:RelV n K w0 G w a E L V own) {r:Nat} {A:Arr} (hA:hget L r=some A):RelV n K w0 G w a (killE r E) (killH r (hset L r none)) V own:=by
 have hp:Pend n K w0 G w a E L V own [r] (fun _=>False) :=
  ⟨hR.glob,hR.kept,hR.size,hR.defers,hR.glt,hR.gref,hR.gsub,hR.gold,hR.gup,fun s A h _=>hR.heap s A h,fun s A h _=>hR.good s A h,fun s A h _=>hR.nodup s A h,fun s t A B h1 h2 _ _=>hR.apart s t A B h1 h2,fun s A ls h _=>hR.boxs s A ls h,fun s A q h _=>hR.small s A q h,hR.env,fun s hs=>by (rw [List.mem_singleton] at hs;subst hs;exact ⟨A,hA⟩),fun _ _ _ _ _ _ h=>h⟩
 exact (hp.drop (by simp)).done
theorem kill_back {r:Nat} {A0:Arr} (hA:hget L r=some A0) {s:Nat} {A:Arr} (hs:hget (killH r (hset L r none)) s=some A):s≠r∧∃ B,hget L s=some B∧A=killR r B:=by
 rw [hget_killH] at hs
 by_cases hsr:s=r
 ·subst hsr;rw [hget_hset_same hA] at hs;cases hs
 ·rw [hget_hset_other (Ne.symm hsr)] at hs
  cases hB:hget L s with
  | none=>rw [hB] at hs;cases hs
  | some B=>rw [hB] at hs;cases hs;exact ⟨hsr,B,rfl,rfl⟩
theorem unkill {r:Nat} {A0:Arr} (hA:hget L r=some A0) {pv:PV} {v:Value} (h:RepP w0 G (killH r (hset L r none)) V pv v):RepP w0 G L V pv v :=
 repP_agree h fun s _=>⟨rfl,fun A hs=>by
  obtain ⟨_,B,hB,rfl⟩:=kill_back hA hs
  refine ⟨B,hB,(killR_t r B).symm,(killR_len r B).symm,fun ls hls => ?_⟩
  obtain ⟨l0,h0,_⟩:=killR_ls.2 ls hls
  exact ⟨l0,h0⟩⟩
theorem RelV.extF {F:List Nat} (h:RelV n K w0 G w a E L V own) (k:Kept F w w') (hF:∀ b∈F,Out K G b) (hF2:∀ s A,hget L s=some A→∀ b∈own s,b ∉ F):RelV n K w0 G w' a E L V own where
 glob:=h.glob
 kept:=⟨k.os.trans h.kept.os,k.tape.trans h.kept.tape,k.output.trans h.kept.output,Nat.le_trans h.kept.size k.size,fun b hb ho=>(k.block b (Nat.lt_of_lt_of_le hb h.kept.size) fun hm=>(hF b hm).1 ⟨hb,ho⟩).trans (h.kept.block b hb ho)⟩
 size:=h.size
 defers:=h.defers
 glt:=fun b hb=>Nat.lt_of_lt_of_le (h.glt b hb) k.size
 gref:=fun b hb=>(k.block b (h.glt b hb) fun hm=>(hF b hm).2 hb).trans (h.gref b hb)
 gsub:=h.gsub
 gold:=h.gold
 gup:=h.gup
 heap:=fun r A hr=>(h.heap r A hr).keep fun b hb=>k.block b (h.own_lt hr b hb) (hF2 r A hr b hb)
 good:=h.good
 nodup:=h.nodup
 apart:=h.apart
 boxs:=fun r A ls hr hl=>(h.boxs r A ls hr hl).keepB fun b off hv=>k.block b (h.own_lt hr b ((h.heap r A hr).block hv (Nat.le_refl _))) (hF2 r A hr b ((h.heap r A hr).block hv (Nat.le_refl _)))
 small:=fun r A q hr hs=>⟨(h.small r A q hr hs).1,fun e=>⟨((h.small r A q hr hs).2 e).1,((h.small r A q hr hs).2 e).2.keep fun b hb=>k.block b (h.own_lt hr b hb) (hF2 r A hr b hb)⟩⟩
 env:=h.env
def detA:Atom→Bool
 | .val _=>true
 | .optr _ _ _=>true
 | .osl _ none=>true
 | .st t _=>t.flat
 | .bptr _ _ _=>true
 | _=>false
def detP:PV→Bool
 | .a A=>detA A
 | _=>false
theorem det_uniq {pv:PV} (hd:detP pv=true) {v v':Value} (h:RepP w0 G L V pv v) (h':RepP w0 G L V pv v'):v=v':=by
 cases pv with
 | tup _=>cases hd
 | fn _ _=>cases hd
 | a A =>
  cases A with
  | val u=>exact h.1.trans h'.1.symm
  | optr r i p =>
   obtain ⟨A,hA,_,b,off,m,cap,po,t',e1,e2,e3⟩:=h
   obtain ⟨A',hA',_,b',off',m',cap',po',t'',f1,f2,f3⟩:=h'
   rw [hA] at hA'
   cases hA'
   rw [e1] at f1
   rw [e2] at f2
   cases f1
   cases f2
   rw [e3,f3]
  | bptr r o t =>
   obtain ⟨A,ls,b,off,hA,_,e1,e2,_⟩:=h
   obtain ⟨A',ls',b',off',hA',_,f1,f2,_⟩:=h'
   rw [e1] at f1
   cases f1
   rw [e2,f2]
  | osl r rg =>
   cases rg with
   | some _=>cases hd
   | none =>
    obtain ⟨_,_,e,_⟩:=h
    obtain ⟨_,_,e',_⟩:=h'
    rw [e rfl,e' rfl]
  | st t x =>
   obtain ⟨cs,e1,e2⟩:=h
   obtain ⟨cs',f1,f2⟩:=h'
   have hd:t.flat=true:=hd
   rw [e1,f1,own_fcells hd (e2.own (w':=w0) hd),own_fcells hd (f2.own (w':=w0) hd)]
  | _=>cases hd
def noMem:Op→Bool
 | .move _=>true
 | .assign _=>true
 | .nilCheck _=>true
 | _=>false
theorem noMem_spec {tab:List TI} (hR:RelV n K w0 G w a E L V own) {wr:Bool} {o:Oper} {cs:List Prop} {pv:PV} (hn:noMem o.op=true)
  (h:absQ tab wr E L o.op=some (cs,pv)):∃ v,RepP w0 G L V pv v∧∀ w',(execOp a.eval o).run P w' = .ok (.value v) w':=by
 unfold absQ at h
 split at h
 ·rename_i x ho
  cases h
  exact ⟨_,hR.opnd x,fun w'=>by simp [execOp,ho]⟩
 ·rename_i x ho
  cases h
  exact ⟨_,hR.opnd x,fun w'=>by simp [execOp,ho]⟩
 ·rename_i x ho
  have hx:=hR.opnd x
  split at h
  ·rename_i t y hp
   cases h
   rw [hp] at hx
   refine ⟨_,hx,fun w' => ?_⟩
   obtain ⟨b,off,cs,he,_⟩:=hx
   simp [execOp,ho,he]
  ·rename_i r i p hp
   cases h
   rw [hp] at hx
   refine ⟨_,hx,fun w' => ?_⟩
   obtain ⟨_,_,_,b,off,m,cap,po,t',_,_,he⟩:=hx
   simp [execOp,ho,he]
  ·rename_i r o t hp
   cases h
   rw [hp] at hx
   refine ⟨_,hx,fun w' => ?_⟩
   obtain ⟨_,_,b,off,_,_,_,he,_⟩:=hx
   simp [execOp,ho,he]
  ·rename_i f cs hp
   cases h
   rw [hp] at hx
   refine ⟨_,hx,fun w' => ?_⟩
   obtain ⟨vs,he,_⟩:=hx
   simp [execOp,ho,he]
  ·cases h
 all_goals first | (rename_i ho;rw [ho] at hn;cases hn;done) | (cases h;done)
theorem opQ_specF {tab:List TI} {ext:Ext} (hT:TabOk P tab) (hX:ExtOk P ext) (hR:RelV n K w0 G w a E L V own) {r:Nat} {A:Arr} (hA:hget L r=some A) {wr:Bool} {o:Oper} {cs:List Prop} {pv:PV}
  (h:opQ tab ext wr (killE r E) (killH r (hset L r none)) o.op=some (cs,pv)) (hdet:detP pv=true) (hc:All cs) :
  ∃ v,RepP w0 G L V pv v∧∀ w',Kept (own r) w w'→o.quietAt P a (Kept [] w') w' v:=by
 have hR1:=kill_rel hR hA
 obtain ⟨v,hv,_⟩:=opQ_spec hT hX hR1 h hc
 refine ⟨v,unkill hA hv,fun w' k => ?_⟩
 have hR2:RelV n K w0 G w' a (killE r E) (killH r (hset L r none)) V own:=hR1.extF k (fun b hb=>hR.good r A hA b hb) fun s B hs b hb hm=>by
  obtain ⟨hsr,C,hC,rfl⟩:=kill_back hA hs
  exact hR.apart s r C A hC hA hsr b hb hm
 obtain ⟨v',hv',hq⟩:=opQ_spec hT hX hR2 h hc
 rw [det_uniq hdet hv hv']
 exact hq w' (Kept.refl [] w')
def callF (ext:Ext) (r0:Nat) (E:Env) (L:Heap) (f:FuncId) (ps:List PV):Option (List Prop×PV×Env×Heap) :=
 match ext with
 | []=>none
 | (g,S) :: r=>match Nat.beq f g with
  | true=>match decArgs L S.sig ps with
   | some (x,os,us)=>match disjB os.flatten us&&nodupB os.flatten&&(ownK S.kds||us.isEmpty)&&os.flatten.all (Nat.beq r0),planAll L (smArgs L S.sig ps) S.sig ps os (S.upd x) with
    | true,some (cs,acts,ex)=>match actsA acts (E,L) with
     | (E',L1)=>match expA ex L1 with
      | L2=>match resA L2.length S.kds (S.res x) with
       | (ats,es)=>some (S.pre x :: cs,packA ats,E',L2++es)
    | _,_=>callF r r0 E L f ps
   | none=>callF r r0 E L f ps
  | false=>callF r r0 E L f ps
theorem callF_spec {r0:Nat}:∀ {ext:Ext} (hX:ExtOk P ext) (hR:RelV n K w0 G w a E L V own) {f:FuncId} {ps:List PV} {vs:List Value} {cs:List Prop} {pv:PV} {E':Env} {L':Heap}
  (hps:RepPs w0 G L V ps vs) (h:callF ext r0 E L f ps=some (cs,pv,E',L')) (hc:All cs),
  Callable P f∧Calls P f vs.toArray w fun e w'=>∃ v w0' G' V' own',e = .returned v∧Kept (own r0) w w'∧RelV n K w0' G' w' a E' L' V' own'∧RepP w0' G' L' V' pv v
 | [],_,_,_,_,_,_,_,_,_,_,h,_=>by cases h
 | (g,S) :: r,hX,hR,f,ps,vs,cs,pv,E',L',hps,h,hc=>by
  obtain ⟨⟨hcall,hcon⟩,hX'⟩:=hX
  simp only [callF] at h
  split at h
  ·rename_i hfg
   obtain rfl:=Nat.eq_of_beq_eq_true hfg
   split at h
   ·rename_i x os us hd
    split at h
    ·rename_i cd acts ex hdis hpl
     cases h
     obtain ⟨hpre,hc⟩:=hc
     simp only [Bool.and_eq_true,Bool.or_eq_true,List.isEmpty_iff] at hdis
     obtain ⟨⟨⟨hdj,hnb⟩,hko⟩,hall⟩:=hdis
     have hnd:=nodupB_spec hnb
     obtain ⟨l1,l2⟩:=decArgs_live hR hps hd
     have hH:∀ b∈(ownOf own os).flatten,∃ r∈os.flatten,b∈own r:=fun b hb=>by
      rw [ownOf_flatten] at hb
      obtain ⟨l,hl,hbl⟩:=List.mem_flatten.1 hb
      obtain ⟨r,hr,rfl⟩:=List.mem_map.1 hl
      exact ⟨r,hr,hbl⟩
     have hH0:∀ b∈(ownOf own os).flatten,b∈own r0:=fun b hb=>by
      obtain ⟨r,hr,hbr⟩:=hH b hb
      have:=Nat.eq_of_beq_eq_true (List.all_eq_true.1 hall r hr)
      rw [this]
      exact hbr
     have hg:∀ b∈(ownOf own os).flatten,Out K G b:=fun b hb=>by
      obtain ⟨r,hr,hbr⟩:=hH b hb
      obtain ⟨A,hA⟩:=l2 r hr
      exact hR.good r A hA b hbr
     have hGood:∀ b,LendG G own us b→Good w (ownOf own os).flatten b:=by
      rintro b (hb | ⟨r,hr,hb⟩)
      ·exact ⟨hR.glt b hb,fun hm=>(hg b hm).2 hb⟩
      ·obtain ⟨A,hA⟩:=l1 r hr
       refine ⟨hR.own_lt hA b hb,fun hm => ?_⟩
       obtain ⟨s,hs,hbs⟩:=hH b hm
       obtain ⟨B,hB⟩:=l2 s hs
       have hrs:r≠s:=fun e=>disjB_spec hdj s hs (e ▸ hr)
       exact hR.apart r s A B hA hB hrs b hb hbs
     have hargs:=decArgs_rep (q:=smArgs L S.sig ps) hR (Kept.refl [] w) (G':=LendG G own us) (fun b hb => .inl hb) hps hd (fun h=>h) (fun r hr b hb => .inr ⟨r,hr,hb⟩)
     have hnd':(ownOf own os).flatten.Nodup:=by rw [ownOf_flatten];exact own_nodup hR hnd l2
     refine ⟨hcall,(hcon w (LendG G own us) (SmG K G (smArgs L S.sig ps)) x _ _ (hR.gok (Kept.refl _ _) hg) hGood (fun b hb => .inl ?_) hpre hargs hnd').mono ?_⟩
     ·unfold SmG at hb
      split at hb
      ·exact hR.gsub b hb
      ·exact hb
     ·intro e w' hpost
      obtain ⟨v,w0',G',V',own',h1,hk,h2,h3⟩:=call_back hR hps hd hnd hko hpl hc hpost
      exact ⟨v,w0',G',V',own',h1,hk.mono hH0,h2,h3⟩
    ·exact callF_spec hX' hR hps h hc
   ·exact callF_spec hX' hR hps h hc
  ·exact callF_spec hX' hR hps h hc
def stepF (tab:List TI) (ext:Ext) (wr:Bool) (n r0:Nat) (all:List Oper) (S:St) (o:Oper):Option St :=
 match guardS all S o.guard with
 | none=>none
 | some (false,S)=>putS n S S.E S.L [] o.dst (.a (.val undef))
 | some (true,S)=>match o.op with
  | .pick (.tmp c) x y=>match decideS S c with
   | some (d,S)=>putS n S S.E S.L [] o.dst (cond d (opnd S.E x) (opnd S.E y))
   | none=>none
  | op=>match noMem op with
   | true=>match absQ tab wr S.E S.L op with
    | some (cs,pv)=>putS n S S.E S.L cs o.dst pv
    | none=>none
   | false=>match opQ tab ext wr (killE r0 S.E) (killH r0 (hset S.L r0 none)) op with
    | some (cs,pv)=>match detP pv with
     | true=>putS n S S.E S.L cs o.dst pv
     | false=>none
    | none=>none
def stepL (tab:List TI) (ext:Ext) (n r0:Nat) (all:List Oper) (S:St) (o:Oper):Option St :=
 match guardS all S o.guard with
 | some (true,S)=>match o.op with
  | .call { callee := .value f,args,argTypes }=>match calleeA S.E f args.toList with
   | some (g,ps)=>match callF ext r0 S.E S.L g ps with
    | some (cs,pv,E,L)=>putS n S E L cs o.dst pv
    | none=>none
   | none=>none
  | .store T x y=>match tgt (opnd S.E x),storeA tab S.L T (opnd S.E x) (opnd S.E y) with
   | some r,some L'=>match Nat.beq r r0 with
    | true=>putS n S S.E L' [] o.dst (.a .junk)
    | false=>none
   | _,_=>none
  | _=>none
 | _=>none
end
end Go.Am
namespace Go.Am
set_option linter.unusedVariables false
set_option linter.unusedSimpArgs false
section
variable {P:Program} {ops:Array Oper} {Q:Exit→Act→World→Prop}
def YieldsT (P:Program) (ops:Array Oper) (o:Oper) (v:Value) (a:Act):Prop :=
 (Region.wanted o (yielded ops a.tmps)=true∧∀ w,(execOp a.eval o).run P w = .ok (.value v) w)∨(Region.wanted o (yielded ops a.tmps)=false∧v=undef)
theorem YieldsT.of_same {o:Oper} {v:Value} {a a':Act} (hy:YieldsT P ops o v a) (he:execOp a'.eval o=execOp a.eval o)
  (hw:Region.wanted o (yielded ops a'.tmps)=Region.wanted o (yielded ops a.tmps)):YieldsT P ops o v a':=by
 unfold YieldsT at *
 rw [he,hw]
 exact hy
theorem YieldsT.wpOp {i:Nat} {o:Oper} {v:Value} {a:Act} {w:World} (hi:ops[i]? = some o) (hy:YieldsT P ops o v a) {K:Act→World→Prop} (h:K (a.put o.dst v) w):wpOp P ops Q i K a w:=by
 unfold Go.wpOp
 simp only [hi]
 rcases hy with ⟨hw,hv⟩ | ⟨hw,rfl⟩
 ·simp only [hw,if_true]
  refine .inl ?_
  unfold Oper.wp
  rw [hv w]
  exact h
 ·simp only [hw,Bool.false_eq_true,if_false]
  exact h
theorem wpOp_putT {j:Nat} {oi oj:Oper} {v:Value} (hj:ops[j]? = some oj) (hap:oi.apart ops oj=true)
  (hsi:∀ cs b,oi.op ≠ .select cs b) (hsj:∀ cs b,oj.op ≠ .select cs b)
  (hQ:∀ c a w,¬ Q (.panic c) a w) {K:Act→World→Prop} {a:Act} {w:World}
  (hy:YieldsT P ops oi v a) (h:wpOp P ops Q j K (a.put oi.dst v) w) :
  wpOp P ops Q j (fun a' w'=>YieldsT P ops oi v a'∧K (a'.put oi.dst v) w') a w:=by
 obtain ⟨h1,h2,h3⟩:=Oper.apart_spec hap
 have keep:∀ (a:Act),YieldsT P ops oi v a→∀ u,YieldsT P ops oi v (a.put oj.dst u):=fun a hy u =>
  hy.of_same (execOp_put oi hsi a oj.dst u h3) (wanted_put oi a oj.dst u h3)
 have keepD:∀ d,YieldsT P ops oi v { a with defers:=d :: a.defers }:=fun d=>hy.of_same rfl rfl
 unfold wpOp at *
 simp only [hj] at *
 rw [wanted_put oj a oi.dst v h1] at h
 split
 ·rename_i hw
  simp only [hw,if_true] at h
  rcases h with h | ⟨hasks,hlets⟩
  case inr=>exact .inr ⟨by unfold Oper.asks at *;rw [execOp_put oj hsj a oi.dst v h1] at hasks;exact hasks,hlets⟩
  refine .inl ?_
  unfold Oper.wp at *
  rw [execOp_put oj hsj a oi.dst v h1] at h
  generalize (execOp a.eval oj).run P w=r at *
  cases r with
  | ok n w' =>
   cases n <;> simp only [Oper.upon] at h ⊢
   case value u=>exact ⟨keep a hy u,by rw [← Act.put_comm a v u h2];exact h⟩
   case skip=>exact ⟨keep a hy _,by rw [← Act.put_comm a v undef h2];exact h⟩
   case defer d =>
    refine ⟨keep _ (keepD d) _,?_⟩
    rw [← Act.put_comm _ v undef h2, ← Act.put_defers]
    exact h
   case enter f args =>
    refine Calls.mono h fun e w'' he => ?_
    cases e with
    | returned u=>exact ⟨keep a hy u,by rw [← Act.put_comm a v u h2];exact he⟩
    | panicked c=>exact absurd he (hQ _ _ _)
    | outgrown=>exact he
   case row row args=>exact Rows.mono h fun u w'' he=>⟨keep a hy u,by rw [← Act.put_comm a v u h2];exact he⟩
  | halt x w' =>
   cases x <;> simp only [Oper.upon] at h ⊢
   case panic u=>exact absurd h (hQ _ _ _)
 ·rename_i hw
  simp only [hw] at h
  exact ⟨keep a hy _,by rw [← Act.put_comm a v undef h2];exact h⟩
theorem wpAny_firstT {i:Nat} {oi:Oper} {v:Value} (hi:ops[i]? = some oi) (hsel:∀ (j:Nat) (o:Oper) cs b,ops[j]? = some o→o.op ≠ .select cs b)
  (hQ:∀ c a w,¬ Q (.panic c) a w) :
  ∀ (fuel:Nat) (listed:Array Bool) (a:Act) (w:World),Down ops listed →
   (∀ j oj,ops[j]? = some oj→j≠i→listed.getD j true=false→(∀ e∈oj.after,Region.binds .any e=true→e.on≠i)→oi.apart ops oj=true) →
   i∈Region.ready .any ops listed→YieldsT P ops oi v a →
   wpAny P .any ops Q fuel (listed.setIfInBounds i true) (a.put oi.dst v) w→wpAny P .any ops Q (fuel+1) listed a w:=by
 intro fuel
 induction fuel with
 | zero =>
  intro listed a w hD _ hr hy H
  refine ⟨fun h=>(by rw [h] at hr;cases hr),fun j hj => ?_⟩
  by_cases hji:j=i
  ·subst hji
   exact hy.wpOp hi H
  ·have:=ready_mono hj hji
   rw [H.1] at this
   cases this
 | succ fuel ih =>
  intro listed a w hD hfree hr hy H
  refine ⟨fun h=>(by rw [h] at hr;cases hr),fun j hj => ?_⟩
  by_cases hji:j=i
  ·subst hji
   exact hy.wpOp hi H
  ·have h1:=H.2 j (ready_mono hj hji)
   obtain ⟨hjun,oj,hoj,hall⟩:=mem_ready.1 hj
   have hnot:∀ e∈oj.after,Region.binds .any e=true→e.on≠i:=fun e he hb heq=>by
    have h1:=hall e he hb
    have h0:=(mem_ready.1 hr).1
    rw [heq] at h1
    rcases Nat.lt_or_ge i listed.size with h' | h'
    ·simp [h'] at h0 h1;rw [h0] at h1;cases h1
    ·simp [Array.getElem?_eq_none h'] at h1
   have h2:=wpOp_putT hoj (hfree j oj hoj hji hjun hnot) (fun cs b=>hsel i oi cs b hi) (fun cs b=>hsel j oj cs b hoj) hQ hy h1
   have hfree':∀ k ok,ops[k]? = some ok→k≠i→(listed.setIfInBounds j true).getD k true=false →
     (∀ e∈ok.after,Region.binds .any e=true→e.on≠i)→oi.apart ops ok=true:=fun k ok hk hki hun hno=>by
    refine hfree k ok hk hki ?_ hno
    by_cases hjk:j=k
    ·subst hjk;exact hjun
    ·rw [getD_set_ne true hjk] at hun;exact hun
   refine wpOp_mono (fun a' w' h3 => ?_) h2
   obtain ⟨hy',H'⟩:=h3
   refine ih (listed.setIfInBounds j true) a' w' (hD.set hj) hfree' (ready_mono hr (Ne.symm hji)) hy' ?_
   rw [Array.setIfInBounds_comm _ _ hji]
   exact H'
end
def stepT (tab:List TI) (wr:Bool) (n:Nat) (all:List Oper) (S:St) (o:Oper):Option St :=
 match guardS all S o.guard with
 | none=>none
 | some (false,S)=>putS n S S.E S.L [] o.dst (.a (.val undef))
 | some (true,S)=>match o.op with
  | .pick (.tmp c) x y=>match decideS S c with
   | some (d,S)=>putS n S S.E S.L [] o.dst (cond d (opnd S.E x) (opnd S.E y))
   | none=>none
  | op=>match isLoad op with
   | true=>none
   | false=>match absQ tab wr S.E S.L op with
    | some (cs,pv)=>putS n S S.E S.L cs o.dst pv
    | none=>none
end Go.Am
namespace Go.Am
set_option linter.unusedVariables false
set_option linter.unusedSimpArgs false
def keepE (E:Env):List Nat→Env
 | []=>[]
 | i :: r=>(i,E.get i) :: keepE E r
theorem get_keepE (E:Env):∀ (ks:List Nat) (i:Nat),(keepE E ks).get i=if memB i ks=true then E.get i else .a .junk
 | [],i=>rfl
 | j :: r,i=>by
  simp only [keepE,Env.get,memB]
  cases h:Nat.beq j i with
  | true =>
   obtain rfl:=Nat.eq_of_beq_eq_true h
   simp
  | false =>
   have:Nat.beq i j=false:=nbeq_false (fun e=>by subst e;simp at h)
   simp [this,get_keepE E r i]
section
variable {P:Program} {n:Nat} {q:Nat→Value} {K:Ctx} {G:Nat→Prop} {w0 w:World} {a:Act} {V:Nat→Value} {own:Nat→List Nat} {f:FuncId} {R:Ending→World→Prop} {E:Env} {L:Heap}
theorem RelV.keepE (hR:RelV n K w0 G w a E L V own) (ks:List Nat):RelV n K w0 G w a (Am.keepE E ks) L V own :=
 ⟨hR.glob,hR.kept,hR.size,hR.defers,hR.glt,hR.gref,hR.gsub,hR.gold,hR.gup,hR.heap,hR.good,hR.nodup,hR.apart,hR.boxs,hR.small,fun i=>by
  rw [get_keepE]
  split
  ·exact hR.env i
  ·trivial⟩
def idxN (r:Nat):List Nat→Nat
 | []=>0
 | x :: l=>cond (Nat.beq x r) 0 (idxN r l+1)
def getN:List Nat→Nat→Nat
 | [],_=>0
 | x :: _,0=>x
 | _ :: l,n+1=>getN l n
def renF (rs:List Nat):Leaf→Leaf
 | .osl r rg => .osl (idxN r rs) rg
 | l=>l
def renA (rs:List Nat):Atom→Atom
 | .osl r rg => .osl (idxN r rs) rg
 | .optr r i p => .optr (idxN r rs) i p
 | .rcd t ls => .rcd t (ls.map (renF rs))
 | .bptr r o t => .bptr (idxN r rs) o t
 | A=>A
def renR (rs:List Nat) (A:Arr):Arr:=match A.ls with
 | some ls=>⟨A.t,A.xs,A.bor,some (ls.map (renF rs)),A.sm⟩
 | none=>A
def renP (rs:List Nat):PV→PV
 | .a A => .a (renA rs A)
 | .tup xs => .tup (xs.map (renA rs))
 | .fn f xs => .fn f (xs.map (renA rs))
def renE (rs:List Nat) (E:Env):Env:=E.map fun q=>(q.1,renP rs q.2)
def pickL (rs:List Nat) (L:Heap):Heap:=rs.map fun r=>match hget L r with | some A=>some (renR rs A) | none=>none
def inAll (rs:List Nat):List Nat→Bool
 | []=>true
 | r :: s=>memB r rs&&inAll rs s
def envIn (rs:List Nat):Env→Bool
 | []=>true
 | (_,p) :: r=>inAll rs (refsP p)&&envIn rs r
def heapIn (rs:List Nat) (L:Heap):List Nat→Bool
 | []=>true
 | r :: s=>(match hget L r with
  | some A=>match A.ls with
   | some ls=>inAll rs (refLs ls)
   | none=>true
  | none=>true)&&heapIn rs L s
theorem hget_pickL_aux (rs0:List Nat):∀ (rs:List Nat) (L:Heap) (s:Nat) {A:Arr},hget (rs.map fun r=>match hget L r with | some A=>some (renR rs0 A) | none=>none) s=some A→s<rs.length∧∃ B,hget L (getN rs s)=some B∧A=renR rs0 B
 | [],L,s,A,h=>by cases s <;> cases h
 | r :: rs,L,0,A,h=>by
  simp only [List.map_cons,hget] at h
  cases hB:hget L r with
  | none=>rw [hB] at h;cases h
  | some B=>rw [hB] at h;cases h;exact ⟨by simp,B,hB,rfl⟩
 | r :: rs,L,s+1,A,h=>by
  obtain ⟨h1,h2⟩:=hget_pickL_aux rs0 rs L s h
  exact ⟨by simp;omega,h2⟩
theorem hget_pickL (rs:List Nat) (L:Heap) (s:Nat) {A:Arr} (h:hget (pickL rs L) s=some A):s<rs.length∧∃ B,hget L (getN rs s)=some B∧A=renR rs B:=hget_pickL_aux rs rs L s h
theorem pick_idx_aux (rs0:List Nat):∀ (rs:List Nat) (L:Heap) (r:Nat),memB r rs=true→hget (rs.map fun r=>match hget L r with | some A=>some (renR rs0 A) | none=>none) (idxN r rs)=(hget L r).map (renR rs0)∧getN rs (idxN r rs)=r
 | [],L,r,h=>by cases h
 | x :: rs,L,r,h=>by
  simp only [memB,Bool.or_eq_true] at h
  simp only [idxN]
  cases hb:Nat.beq x r with
  | true =>
   obtain rfl:=Nat.eq_of_beq_eq_true hb
   refine ⟨?_,rfl⟩
   simp only [List.map_cons,cond_true,hget]
   cases hget L x <;> rfl
  | false =>
   have:memB r rs=true:=by
    rcases h with h | h
    ·have:=Nat.eq_of_beq_eq_true h
     subst this
     simp at hb
    ·exact h
   exact pick_idx_aux rs0 rs L r this
theorem pick_idx (rs:List Nat) (L:Heap) (r:Nat) (h:memB r rs=true):hget (pickL rs L) (idxN r rs)=(hget L r).map (renR rs)∧getN rs (idxN r rs)=r:=pick_idx_aux rs rs L r h
theorem renR_t (rs:List Nat) (A:Arr):(renR rs A).t=A.t:=by unfold renR;split <;> rfl
theorem renR_sm (rs:List Nat) (A:Arr):(renR rs A).sm=A.sm:=by unfold renR;split <;> rfl
theorem renR_bor (rs:List Nat) (A:Arr):(renR rs A).bor=A.bor:=by unfold renR;split <;> rfl
theorem renR_len (rs:List Nat) (A:Arr):(renR rs A).xs.length=A.xs.length:=by unfold renR;split <;> rfl
theorem renR_ent {w0 w:World} {G:Nat→Prop} {rs:List Nat} {A:Arr} {v:Value} {bs:List Nat}:EntC w0 G w (renR rs A) v bs↔EntC w0 G w A v bs:=by
 unfold renR
 split
 ·exact Iff.rfl
 ·exact Iff.rfl
theorem renR_ls {rs:List Nat} {A:Arr}:(∀ ls,A.ls=some ls→(renR rs A).ls=some (ls.map (renF rs)))∧∀ ls',(renR rs A).ls=some ls'→∃ ls,A.ls=some ls∧ls'=ls.map (renF rs):=by
 unfold renR
 split
 ·rename_i ls h
  refine ⟨fun l hl => ?_,fun l hl => ?_⟩
  ·rw [h] at hl;cases hl;rfl
  ·cases hl;exact ⟨ls,h,rfl⟩
 ·rename_i h
  refine ⟨fun l hl => ?_,fun l hl => ?_⟩
  ·rw [h] at hl;cases hl
  ·rw [h] at hl;cases hl
theorem heapIn_spec {rs:List Nat} {L:Heap}:∀ {l:List Nat},heapIn rs L l=true→∀ r∈l,∀ A ls,hget L r=some A→A.ls=some ls→inAll rs (refLs ls)=true
 | [],_,r,hr,_,_,_,_=>by cases hr
 | x :: l,h,r,hr,A,ls,hA,hls=>by
  simp only [heapIn,Bool.and_eq_true] at h
  rcases List.mem_cons.1 hr with rfl | hr
  ·have:=h.1
   rw [hA] at this
   simp only [hls] at this
   exact this
  ·exact heapIn_spec h.2 r hr A ls hA hls
theorem getN_mem:∀ (rs:List Nat) (s:Nat),s<rs.length→getN rs s∈rs
 | [],s,h=>by simp at h
 | x :: rs,0,_=>by simp [getN]
 | x :: rs,s+1,h=>List.mem_cons_of_mem _ (getN_mem rs s (by simpa using h))
theorem getN_inj:∀ (rs:List Nat),nodupB rs=true→∀ s u,s<rs.length→u<rs.length→getN rs s=getN rs u→s=u
 | [],_,s,u,h,_,_=>by simp at h
 | x :: rs,hn,s,u,h1,h2,he=>by
  simp only [nodupB,Bool.and_eq_true,Bool.not_eq_true'] at hn
  have hx:∀ s,s<rs.length→getN rs s≠x:=fun s hs e=>by
   have:=getN_mem rs s hs
   rw [e] at this
   have:=memB_iff.2 this
   rw [hn.1] at this
   cases this
  cases s with
  | zero =>
   cases u with
   | zero=>rfl
   | succ u=>exact absurd he.symm (hx u (by simpa using h2))
  | succ s =>
   cases u with
   | zero=>exact absurd he (hx s (by simpa using h1))
   | succ u=>rw [getN_inj rs hn.2 s u (by simpa using h1) (by simpa using h2) he]
theorem inAll_spec {rs:List Nat}:∀ {l:List Nat},inAll rs l=true→∀ r∈l,memB r rs=true
 | [],_,r,h=>by cases h
 | a :: s,h,r,hr=>by
  simp only [inAll,Bool.and_eq_true] at h
  rcases List.mem_cons.1 hr with rfl | hr
  ·exact h.1
  ·exact inAll_spec h.2 r hr
theorem envIn_spec {rs:List Nat}:∀ {E:Env},envIn rs E=true→∀ i,∀ r∈refsP (E.get i),memB r rs=true
 | [],_,i,r,h=>by simp [Env.get,refsP,refA] at h
 | (j,p) :: E,h,i,r,hr=>by
  simp only [envIn,Bool.and_eq_true] at h
  simp only [Env.get] at hr
  cases hj:Nat.beq j i with
  | true=>rw [hj] at hr;exact inAll_spec h.1 r hr
  | false=>rw [hj] at hr;exact envIn_spec h.2 i r hr
theorem get_renE (rs:List Nat):∀ (E:Env) (i:Nat),(renE rs E).get i=renP rs (E.get i)
 | [],i=>rfl
 | (j,p) :: s,i=>by
  simp only [renE,List.map_cons,Env.get]
  cases h:Nat.beq j i with
  | true=>rfl
  | false=>exact get_renE rs s i
theorem renO_rep {rs:List Nat} {r:Nat} {rg:Option (Nat×Nat)} {v:Value} (h:RepO L V r rg v) (hm:memB r rs=true):RepO (pickL rs L) (fun s=>V (getN rs s)) (idxN r rs) rg v:=by
 obtain ⟨B,hB,h1,h2⟩:=h
 obtain ⟨e1,e2⟩:=pick_idx rs L r hm
 refine ⟨renR rs B,by rw [e1,hB];rfl,fun hr=>by show v=V (getN rs (idxN r rs));rw [e2];exact h1 hr,?_⟩
 show SubSl _ _ (V (getN rs (idxN r rs))) _ _ _
 rw [e2,renR_len,renR_t]
 exact h2
theorem renLs_rep {w0:World} {G:Nat→Prop} {rs:List Nat}:∀ {ls:List Leaf} {cs:List Value},RepLs w0 G L V ls cs→(∀ r∈refLs ls,memB r rs=true)→RepLs w0 G (pickL rs L) (fun s=>V (getN rs s)) (ls.map (renF rs)) cs
 | [],_,h,_=>h
 | l :: ls,_,⟨v,s,h,h1,h2⟩,hm=>by
  refine ⟨v,s,h,?_,renLs_rep h2 fun r hr=>hm r (by simp [refLs,hr])⟩
  cases l with
  | osl r rg=>exact renO_rep h1 (hm r (by simp [refLs,refL]))
  | _=>exact h1
theorem renA_rep {w0:World} {G:Nat→Prop} {rs:List Nat} {A:Atom} {v:Value} (h:RepA w0 G L V A v) (hm:∀ r∈refA A,memB r rs=true):RepA w0 G (pickL rs L) (fun s=>V (getN rs s)) (renA rs A) v:=by
 cases A with
 | osl r rg=>exact renO_rep h (hm r (by simp [refA]))
 | optr r i p =>
  obtain ⟨B,hB,h2⟩:=h
  obtain ⟨e1,e2⟩:=pick_idx rs L r (hm r (by simp [refA]))
  refine ⟨renR rs B,by rw [e1,hB];rfl,?_⟩
  show SubPt _ _ (V (getN rs (idxN r rs))) _ _ _
  rw [e2,renR_len,renR_t]
  exact h2
 | rcd t ls =>
  obtain ⟨cs,h1,h2,h3⟩:=h
  exact ⟨cs,h1,by simpa using h2,renLs_rep h3 hm⟩
 | bptr r o t =>
  obtain ⟨B,ls,b,off,hB,h1,h2,h3,h4⟩:=h
  obtain ⟨e1,e2⟩:=pick_idx rs L r (hm r (by simp [refA]))
  refine ⟨renR rs B,ls.map (renF rs),b,off,by rw [e1,hB];rfl,renR_ls.1 ls h1,?_,h3,by rw [renR_t];exact h4⟩
  show V (getN rs (idxN r rs))=_
  rw [e2]
  exact h2
 | _=>exact h
theorem renAs_rep {w0:World} {G:Nat→Prop} {rs:List Nat}:∀ {ats:List Atom} {vs:List Value},RepAs w0 G L V ats vs→(∀ r∈ats.flatMap refA,memB r rs=true)→RepAs w0 G (pickL rs L) (fun s=>V (getN rs s)) (ats.map (renA rs)) vs
 | [],_,h,_=>h
 | A :: s,vs,⟨v,r,h,h1,h2⟩,ha=>⟨v,r,h,renA_rep h1 (fun r hr=>ha r (by simp [hr])),renAs_rep h2 (fun r hr=>ha r (by simp only [List.flatMap_cons,List.mem_append];exact .inr hr))⟩
theorem RelV.renum (hR:RelV n K w0 G w a E L V own) {rs:List Nat} (hn:nodupB rs=true) (h:envIn rs E=true) (hh:heapIn rs L rs=true):RelV n K w0 G w a (renE rs E) (pickL rs L) (fun s=>V (getN rs s)) (fun s=>own (getN rs s)) where
 glob:=hR.glob
 kept:=hR.kept
 size:=hR.size
 defers:=hR.defers
 glt:=hR.glt
 gref:=hR.gref
 gsub:=hR.gsub
 gold:=hR.gold
 gup:=hR.gup
 heap:=fun r A hr=>by
  obtain ⟨_,B,hB,rfl⟩:=hget_pickL rs L r hr
  exact renR_ent.2 (hR.heap _ B hB)
 good:=fun r A hr=>by
  obtain ⟨_,B,hB,rfl⟩:=hget_pickL rs L r hr
  exact hR.good _ B hB
 nodup:=fun r A hr=>by
  obtain ⟨_,B,hB,rfl⟩:=hget_pickL rs L r hr
  exact hR.nodup _ B hB
 apart:=fun r s A B hr hs hrs=>by
  obtain ⟨l1,A',g1,rfl⟩:=hget_pickL rs L r hr
  obtain ⟨l2,B',g2,rfl⟩:=hget_pickL rs L s hs
  exact hR.apart _ _ A' B' g1 g2 fun e=>hrs (getN_inj rs hn r s l1 l2 e)
 boxs:=fun r A ls hr hls=>by
  obtain ⟨l1,B,hB,rfl⟩:=hget_pickL rs L r hr
  obtain ⟨l0,h0,rfl⟩:=renR_ls.2 ls hls
  obtain ⟨b,off,cs,k1,k3,k4,k5,k6⟩:=hR.boxs _ B l0 hB h0
  rw [renR_t]
  exact ⟨b,off,cs,k1,k3,by simpa using k4,k5,renLs_rep k6 fun u hu=>inAll_spec (heapIn_spec hh _ (getN_mem rs r l1) B l0 hB h0) u hu⟩
 small:=fun r A q hr hq=>by
  obtain ⟨_,B,hB,rfl⟩:=hget_pickL rs L r hr
  rw [renR_sm] at hq
  obtain ⟨g1,g2⟩:=hR.small _ B q hB hq
  exact ⟨g1,fun e=>⟨by rw [renR_bor];exact (g2 e).1,renR_ent.2 (g2 e).2⟩⟩
 env:=fun i=>by
  rw [get_renE]
  have hi:=hR.env i
  have hm:=envIn_spec h i
  generalize E.get i=p at hi hm
  cases p with
  | a A=>exact renA_rep hi hm
  | tup xs=>obtain ⟨vs,hv,hr⟩:=hi;exact ⟨vs,hv,renAs_rep hr hm⟩
  | fn f xs=>obtain ⟨vs,hv,hr⟩:=hi;exact ⟨vs,hv,renAs_rep hr hm⟩
end
end Go.Am
namespace Go.Am
set_option linter.unusedVariables false
set_option linter.unusedSimpArgs false
section
variable {P:Program} {n:Nat} {q:Nat→Value} {K:Ctx} {G:Nat→Prop} {w0 w:World} {a:Act} {V:Nat→Value} {own:Nat→List Nat}
theorem getD_some {tm:Array Value} {t:Nat} {v:Value} (h:tm.getD t undef=v) (hv:v≠undef):tm[t]? = some v:=by
 rw [Array.getD_eq_getD_getElem?] at h
 cases h1:tm[t]? with
 | none=>rw [h1] at h;exact absurd h.symm hv
 | some u=>rw [h1] at h;simpa using h
theorem yield_bool {ops:Array Oper} {j:Nat} {o:Oper} {t:Nat} {d:Bool} (ho:ops[j]? = some o) (hd:o.dst=some t) (ht:a.tmps.getD t undef = .bool d):yielded ops a.tmps j=some d:=by
 unfold yielded
 have:=getD_some ht (by intro h;cases h)
 simp [ho,hd,this]
theorem yield_none {ops:Array Oper} {j:Nat} {o:Oper} {t:Nat} {x:Array Value} (ho:ops[j]? = some o) (hd:o.dst=some t) (ht:a.tmps.getD t undef = .tuple x):yielded ops a.tmps j=none:=by
 unfold yielded
 rw [Array.getD_eq_getD_getElem?] at ht
 cases h1:a.tmps[t]? with
 | none=>simp [ho,hd,h1]
 | some u=>rw [h1] at ht;simp at ht;subst ht;simp [ho,hd,h1]
theorem guardS_spec {ops:Array Oper} {S S':St} {o:Oper} {b:Bool} (hR:RelV n K w0 G w a S.E S.L V own) (hd:DecOk q a S) (h:guardS ops.toList S o.guard=some (b,S')) (hc:All S'.cs) :
  Region.wanted o (yielded ops a.tmps)=b∧S'.E=S.E∧S'.L=S.L∧DecOk q a S'∧All S.cs:=by
 unfold guardS at h
 split at h
 ·rename_i hg
  cases h
  exact ⟨by simp [Region.wanted,hg],rfl,rfl,hd,hc⟩
 ·rename_i j want hg
  split at h
  ·rename_i p hp
   rw [nthO_eq] at hp
   have hp':ops[j]? = some p:=by simpa using hp
   split at h
   ·rename_i t ht
    split at h
    ·rename_i x hx
     cases h
     have hv:=hR.valEq (x := .tmp t) (v := .tuple x) (by simp only [opnd];rw [hx])
     refine ⟨?_,rfl,rfl,hd,hc⟩
     simp [Region.wanted,hg,yield_none hp' ht hv.1]
    ·split at h
     ·rename_i d S1 hdec
      cases h
      obtain ⟨h1,h2,h3,h4,h5⟩:=decideS_spec hR hd hdec hc
      refine ⟨?_,h2,h3,h4,h5⟩
      simp only [Region.wanted,hg,yield_bool hp' ht h1]
      cases d <;> cases want <;> rfl
     ·cases h
   ·cases h
  ·cases h
theorem putS_spec {S S':St} {E:Env} {L:Heap} {cs:List Prop} {d:Option Nat} {pv:PV} {v:Value} {w':World} {V':Nat→Value} {own':Nat→List Nat}
  (h:putS n S E L cs d pv=some S') (hR:RelV n K w0 G w' a E L V' own') (hd:DecOk q a S) (hv:RepP w0 G L V' pv v) :
  RelV n K w0 G w' (a.put d v) S'.E S'.L V' own'∧DecOk q (a.put d v) S'∧S'.cs=S.cs++cs:=by
 cases d with
 | none =>
  cases h
  exact ⟨hR,hd,rfl⟩
 | some d =>
  simp only [putS] at h
  split at h
  ·rename_i hlt
   cases h
   simp only [Bool.and_eq_true,Bool.not_eq_true'] at hlt
   exact ⟨hR.put (Nat.le_of_ble_eq_true hlt.1) hv,hd.put d v (fun hm=>by rw [memB_iff.2 hm] at hlt;cases hlt.2) rfl rfl,rfl⟩
  ·cases h
theorem putS_cs {S S':St} {E:Env} {L:Heap} {cs:List Prop} {d:Option Nat} {pv:PV} (h:putS n S E L cs d pv=some S'):S'.cs=S.cs++cs:=by
 cases d with
 | none=>cases h;rfl
 | some d =>
  simp only [putS] at h
  split at h
  ·cases h;rfl
  ·cases h
theorem decideS_cs {S S':St} {t:Nat} {d:Bool} (h:decideS S t=some (d,S')) (hc:All S'.cs):All S.cs:=by
 unfold decideS at h
 split at h
 ·cases h;exact hc
 ·split at h
  ·cases h;exact (All.append.1 hc).1
  ·cases h
theorem guardS_cs {all:List Oper} {S S':St} {g:Option (Nat×Bool)} {b:Bool} (h:guardS all S g=some (b,S')) (hc:All S'.cs):All S.cs:=by
 unfold guardS at h
 split at h
 ·cases h;exact hc
 ·split at h
  ·split at h
   ·split at h
    ·cases h;exact hc
    ·split at h
     ·rename_i hdec;cases h;exact decideS_cs hdec hc
     ·cases h
   ·cases h
  ·cases h
theorem stepO_cs {tab:List TI} {ext:Ext} {wr q:Bool} {all:List Oper} {S S':St} {o:Oper} (h:stepO tab ext wr n q all S o=some S') (hc:All S'.cs):All S.cs:=by
 unfold stepO at h
 split at h
 ·cases h
 ·rename_i S1 hg
  have:=putS_cs h
  rw [this] at hc
  exact guardS_cs hg (All.append.1 hc).1
 ·rename_i S1 hg
  refine guardS_cs hg ?_
  split at h
  ·split at h
   ·rename_i d S2 hdec
    have:=putS_cs h
    rw [this] at hc
    exact decideS_cs hdec (All.append.1 hc).1
   ·cases h
  ·split at h
   ·split at h
    ·have:=putS_cs h
     rw [this] at hc
     exact (All.append.1 hc).1
    ·cases h
   ·split at h
    ·have:=putS_cs h
     rw [this] at hc
     exact (All.append.1 hc).1
    ·cases h
theorem stepsO_cs {tab:List TI} {ext:Ext} {wr q:Bool} {all:List Oper}:∀ {l:List Oper} {S S':St} (h:stepsO tab ext wr n q all l S=some S') (hc:All S'.cs),All S.cs
 | [],S,S',h,hc=>by cases h;exact hc
 | o :: r,S,S',h,hc=>by
  simp only [stepsO] at h
  split at h
  ·rename_i S1 h1
   exact stepO_cs h1 (stepsO_cs h hc)
  ·cases h
theorem pick_run {ρ:Operand→Value} {o:Oper} {c x y:Operand} {d:Bool} (ho:o.op = .pick c x y) (hc:ρ c = .bool d) (w:World):(execOp ρ o).run P w = .ok (.value (if d then ρ x else ρ y)) w:=by
 simp only [execOp,ho,hc]
 simp [asBool]
theorem cond_rep {L:Heap} {p q:PV} {u v:Value} {d:Bool} (hp:RepP w0 G L V p u) (hq:RepP w0 G L V q v):RepP w0 G L V (cond d p q) (if d then u else v):=by
 cases d
 ·exact hq
 ·exact hp
theorem stepO_wp {tab:List TI} {ext:Ext} (hT:TabOk P tab) (hX:ExtOk P ext) {wr:Bool} {ops:Array Oper} {S S':St} {o:Oper} (hR:RelV n K w0 G w a S.E S.L V own) (hd:DecOk q a S)
  (h:stepO tab ext wr n false ops.toList S o=some S') (hc:All S'.cs) {Kt:Act→World→Prop} {Q:Exit→Act→World→Prop}
  (hK:∀ a' w0' G' w' V' own',RelV n K w0' G' w' a' S'.E S'.L V' own'→DecOk q a' S'→Kt a' w') :
  if Region.wanted o (yielded ops a.tmps) then o.wp P a w Kt Q else Kt (a.put o.dst undef) w:=by
 unfold stepO at h
 split at h
 ·cases h
 ·rename_i S1 hg
  have hcs:=putS_cs h
  rw [hcs] at hc
  obtain ⟨h1,h2,h3,h4,h5⟩:=guardS_spec hR hd hg (All.append.1 hc).1
  rw [h1,if_neg (by simp)]
  have hR1:RelV n K w0 G w a S1.E S1.L V own:=by rw [h2,h3];exact hR
  obtain ⟨g1,g2,_⟩:=putS_spec (v:=undef) h hR1 h4 ⟨rfl,trivial⟩
  exact hK _ _ _ _ _ _ g1 g2
 ·rename_i S1 hg
  have hc1:All S1.cs:=by
   split at h
   ·split at h
    ·rename_i d S2 hdec
     have hcs:=putS_cs h
     rw [hcs] at hc
     exact decideS_cs hdec (All.append.1 hc).1
    ·cases h
   ·dsimp only at h
    split at h
    ·have hcs:=putS_cs h
     rw [hcs] at hc
     exact (All.append.1 hc).1
    ·cases h
  obtain ⟨h1,h2,h3,h4,h5⟩:=guardS_spec hR hd hg hc1
  rw [h1,if_pos rfl]
  have hR1:RelV n K w0 G w a S1.E S1.L V own:=by rw [h2,h3];exact hR
  split at h
  ·rename_i c x y ho
   split at h
   ·rename_i d S2 hdec
    have hcs:=putS_cs h
    rw [hcs] at hc
    obtain ⟨k1,k2,k3,k4,k5⟩:=decideS_spec hR1 h4 hdec (All.append.1 hc).1
    have hR2:RelV n K w0 G w a S2.E S2.L V own:=by rw [k2,k3];exact hR1
    obtain ⟨g1,g2,_⟩:=putS_spec h hR2 k4 (cond_rep (d:=d) (hR2.opnd x) (hR2.opnd y))
    exact wp_of_value (w':=w) (pick_run ho k1 w) (hK _ _ _ _ _ _ g1 g2)
   ·cases h
  ·dsimp only at h
   split at h
   ·rename_i cs pv E L hop
    have hcs:=putS_cs h
    rw [hcs] at hc
    refine opMF_spec hT hX hR1 hop (All.append.1 hc).2 fun v w0' G' w' V' own' hR' hv => ?_
    obtain ⟨g1,g2,_⟩:=putS_spec h hR' h4 hv
    exact hK _ _ _ _ _ _ g1 g2
   ·cases h
theorem stepsO_wp {tab:List TI} {ext:Ext} (hT:TabOk P tab) (hX:ExtOk P ext) {wr:Bool} {ops:Array Oper} {Q:Exit→Act→World→Prop}:∀ {w0:World} {G:Nat→Prop} {l:List Oper} {S S':St} {a:Act} {w:World} {V:Nat→Value} {own:Nat→List Nat} (hR:RelV n K w0 G w a S.E S.L V own) (hd:DecOk q a S)
  (h:stepsO tab ext wr n false ops.toList l S=some S') (hc:All S'.cs) (hK:∀ a' w0' G' w' V' own',RelV n K w0' G' w' a' S'.E S'.L V' own'→DecOk q a' S'→Q .normal a' w'),wpList P ops Q l a w
 | w0,G,[],S,S',a,w,V,own,hR,hd,h,hc,hK=>by
  cases h
  exact hK _ _ _ _ _ _ hR hd
 | w0,G,o :: r,S,S',a,w,V,own,hR,hd,h,hc,hK=>by
  simp only [stepsO] at h
  split at h
  ·rename_i S1 h1
   refine wpList_step fun K hKK => ?_
   exact stepO_wp hT hX hR hd h1 (stepsO_cs h hc) fun a' w0' G' w' V' own' hR' hd'=>hKK _ _ (stepsO_wp hT hX hR' hd' h hc hK)
  ·cases h
theorem stepO_quiet {tab:List TI} {ext:Ext} (hT:TabOk P tab) (hX:ExtOk P ext) {wr:Bool} {ops:Array Oper} {S S':St} {o:Oper} (hR:RelV n K w0 G w a S.E S.L V own) (hd:DecOk q a S)
  (h:stepO tab ext wr n true ops.toList S o=some S') (hc:All S'.cs) :
  ∃ v,YieldsK P ops [] o v a w∧RelV n K w0 G w (a.put o.dst v) S'.E S'.L V own∧DecOk q (a.put o.dst v) S':=by
 unfold stepO at h
 split at h
 ·cases h
 ·rename_i S1 hg
  have hcs:=putS_cs h
  rw [hcs] at hc
  obtain ⟨h1,h2,h3,h4,h5⟩:=guardS_spec hR hd hg (All.append.1 hc).1
  have hR1:RelV n K w0 G w a S1.E S1.L V own:=by rw [h2,h3];exact hR
  obtain ⟨g1,g2,_⟩:=putS_spec (v:=undef) h hR1 h4 ⟨rfl,trivial⟩
  exact ⟨undef,.inr ⟨h1,rfl⟩,g1,g2⟩
 ·rename_i S1 hg
  have hc1:All S1.cs:=by
   split at h
   ·split at h
    ·rename_i d S2 hdec
     have hcs:=putS_cs h
     rw [hcs] at hc
     exact decideS_cs hdec (All.append.1 hc).1
    ·cases h
   ·dsimp only at h
    split at h
    ·have hcs:=putS_cs h
     rw [hcs] at hc
     exact (All.append.1 hc).1
    ·cases h
  obtain ⟨h1,h2,h3,h4,h5⟩:=guardS_spec hR hd hg hc1
  have hR1:RelV n K w0 G w a S1.E S1.L V own:=by rw [h2,h3];exact hR
  split at h
  ·rename_i c x y ho
   split at h
   ·rename_i d S2 hdec
    have hcs:=putS_cs h
    rw [hcs] at hc
    obtain ⟨k1,k2,k3,k4,k5⟩:=decideS_spec hR1 h4 hdec (All.append.1 hc).1
    have hR2:RelV n K w0 G w a S2.E S2.L V own:=by rw [k2,k3];exact hR1
    obtain ⟨g1,g2,_⟩:=putS_spec h hR2 k4 (cond_rep (d:=d) (hR2.opnd x) (hR2.opnd y))
    refine ⟨_,.inl ⟨h1,fun w' k => ?_⟩,g1,g2⟩
    unfold Oper.quietAt
    rw [pick_run ho k1 w']
    exact ⟨rfl,rfl⟩
   ·cases h
  ·dsimp only at h
   split at h
   ·rename_i cs pv hop
    have hcs:=putS_cs h
    rw [hcs] at hc
    obtain ⟨v,hv,hq⟩:=opQ_spec hT hX hR1 hop (All.append.1 hc).2
    obtain ⟨g1,g2,_⟩:=putS_spec h hR1 h4 hv
    exact ⟨v,.inl ⟨h1,hq⟩,g1,g2⟩
   ·cases h
def decO1 (all:List Oper) (S:St) (o:Oper):Option St :=
 match guardS all S o.guard with
 | none=>none
 | some (false,S)=>some S
 | some (true,S)=>match o.op with
  | .pick (.tmp c) _ _=>match decideS S c with
   | some (_,S)=>some S
   | none=>none
  | _=>some S
def decOs (all:List Oper):List Nat→St→Option St
 | [],S=>some S
 | i :: r,S=>match nthO all i with
  | some o=>match decO1 all S o with
   | some S=>decOs all r S
   | none=>none
  | none=>none
def firstQ (tab:List TI) (ext:Ext) (wr:Bool) (n:Nat) (ops:Array Oper) (listed:Array Bool) (S:St):List Nat→Option (Nat×St)
 | []=>none
 | i :: r=>match nthO ops.toList i,Region.free .any ops listed i with
  | some o,true=>match stepO tab ext wr n true ops.toList S o with
   | some S'=>some (i,S')
   | none=>firstQ tab ext wr n ops listed S r
  | _,_=>firstQ tab ext wr n ops listed S r
def stepK (tab:List TI) (ext:Ext) (n:Nat) (all:List Oper) (S:St) (o:Oper):Option St :=
 match guardS all S o.guard with
 | some (true,S)=>match opK tab ext S.E S.L o.op with
  | some (cs,pv,L)=>putS n S S.E L cs o.dst pv
  | none=>none
 | _=>none
def frzS (S:St) (op:Op):St:=⟨S.path,S.dec,(frzOp op (S.E,S.L)).1,(frzOp op (S.E,S.L)).2,S.cs,S.pins⟩
def stepB (tab:List TI) (ext:Ext) (wr:Bool) (n:Nat) (ops:Array Oper) (listed:Array Bool) (i:Nat) (S:St) (o:Oper):Option St :=
 match stepK tab ext n ops.toList S o with
 | some S'=>some S'
 | none=>match barB ops listed i with
  | true=>stepO tab ext wr n false ops.toList S o
  | false=>match stepO tab ext wr n true ops.toList (frzS S o.op) o with
   | some S'=>some S'
   | none=>stepK tab ext n ops.toList (frzS S o.op) o
def SameS (E:Env) (L:Heap) (E':Env) (L':Heap):Prop:=(E,L)=(E',L')
def tabE (E:Env):Nat→Env→Env
 | 0,acc=>acc
 | k+1,acc=>tabE E k (match E.get k with
  | .a .junk=>acc
  | p=>(k,p) :: acc)
def joinS (n:Nat) (A B:St):St:=⟨A.path,[],tabE A.E n [],A.L,A.cs++(B.cs++[SameS (tabE A.E n []) A.L (tabE B.E n []) B.L]),A.pins⟩
theorem tabE_high (E:Env) (i:Nat):∀ (k:Nat) (acc:Env),k≤i→(tabE E k acc).get i=acc.get i
 | 0,acc,_=>rfl
 | k+1,acc,h=>by
  unfold tabE
  rw [tabE_high E i k _ (by omega)]
  split
  ·rfl
  ·show cond (Nat.beq k i) (E.get k) (Env.get acc i)=Env.get acc i
   cases hb:Nat.beq k i with
   | true=>have:=Nat.eq_of_beq_eq_true hb;omega
   | false=>rfl
theorem tabE_low (E:Env) (i:Nat):∀ (k:Nat) (acc:Env),i<k→(tabE E k acc).get i=E.get i∨(E.get i = .a .junk∧(tabE E k acc).get i=acc.get i)
 | 0,acc,h=>absurd h (Nat.not_lt_zero _)
 | k+1,acc,h=>by
  unfold tabE
  by_cases hk:i<k
  ·rcases tabE_low E i k (match E.get k with
    | .a .junk=>acc
    | p=>(k,p) :: acc) hk with h1 | ⟨h1,h2⟩
   ·exact .inl h1
   ·refine .inr ⟨h1,h2.trans ?_⟩
    split
    ·rfl
    ·show cond (Nat.beq k i) (E.get k) (Env.get acc i)=Env.get acc i
     cases hb:Nat.beq k i with
     | true=>have:=Nat.eq_of_beq_eq_true hb;omega
     | false=>rfl
  ·have hik:i=k:=by omega
   subst hik
   rw [tabE_high E i i _ (Nat.le_refl _)]
   split
   ·rename_i hj
    exact .inr ⟨hj,rfl⟩
   ·refine .inl ?_
    show cond (Nat.beq i i) (E.get i) (Env.get acc i)=E.get i
    cases hb:Nat.beq i i with
    | true=>rfl
    | false=>rw [show Nat.beq i i=true from Nat.beq_refl i] at hb;cases hb
theorem RelV.tab {n:Nat} {K:Ctx} {G:Nat→Prop} {w0 w:World} {a:Act} {E:Env} {L:Heap} {V:Nat→Value} {own:Nat→List Nat} (h:RelV n K w0 G w a E L V own):RelV n K w0 G w a (tabE E n []) L V own:=by
 have he:∀ i,RepP w0 G L V ((tabE E n []).get i) (a.tmps.getD i undef):=fun i=>by
  by_cases hi:i<n
  ·rcases tabE_low E i n [] hi with e | ⟨e1,e2⟩
   ·rw [e]
    exact h.env i
   ·have:=h.env i
    rw [e1] at this
    rw [e2]
    exact this
  ·rw [tabE_high E i n [] (by omega)]
   have hs:=h.size
   have:a.tmps.getD i undef=undef:=by
    rw [Array.getD_eq_getD_getElem?, Array.getElem?_eq_none (by omega)]
    rfl
   rw [this]
   exact trivial
 exact { h with env:=he }
def refP1:PV→Option Nat
 | .a (.osl r _)=>some r
 | .a (.optr r _ _)=>some r
 | .a (.bptr r _ _)=>some r
 | _=>none
def needSw (A B:Env):Nat→Bool
 | 0=>false
 | k+1=>match refP1 (A.get k),refP1 (B.get k) with
  | some r,some s=>match Nat.beq r s with
   | true=>needSw A B k
   | false=>true
  | _,_=>needSw A B k
def swL (m:Nat):Nat→List Nat→List Nat
 | 0,acc=>acc
 | k+1,acc=>swL m k ((match Nat.beq k m with
  | true=>m+1
  | false=>match Nat.beq k (m+1) with
   | true=>m
   | false=>k) :: acc)
def idL:Nat→List Nat→List Nat
 | 0,acc=>acc
 | k+1,acc=>idL k (k :: acc)
def prmL (A B:Env):Nat→List Nat→List Nat
 | 0,acc=>acc
 | k+1,acc=>match refP1 (A.get k),refP1 (B.get k) with
  | some r,some s=>prmL A B k (acc.set r s)
  | _,_=>prmL A B k acc
def rsL (n m:Nat) (A B:Env) (len:Nat):List Nat:=match nodupB (prmL A B n (idL len [])) with
 | true=>prmL A B n (idL len [])
 | false=>swL m len []
def normB (n m:Nat) (A B:St):Option St:=match needSw A.E B.E n with
 | false=>some B
 | true=>match nodupB (rsL n m A.E B.E B.L.length)&&(envIn (rsL n m A.E B.E B.L.length) B.E&&heapIn (rsL n m A.E B.E B.L.length) B.L (rsL n m A.E B.E B.L.length)) with
  | true=>some ⟨B.path,B.dec,renE (rsL n m A.E B.E B.L.length) B.E,pickL (rsL n m A.E B.E B.L.length) B.L,B.cs,B.pins⟩
  | false=>none
theorem normB_spec {n m:Nat} {A B B':St} (h:normB n m A B=some B'):B'.cs=B.cs∧B'.pins=B.pins∧∀ {k:Nat} {K:Ctx} {G:Nat→Prop} {w0 w:World} {a:Act} {V:Nat→Value} {own:Nat→List Nat},RelV k K w0 G w a B.E B.L V own→∃ V' own',RelV k K w0 G w a B'.E B'.L V' own':=by
 unfold normB at h
 split at h
 ·cases h
  exact ⟨rfl,rfl,fun hr=>⟨_,_,hr⟩⟩
 ·split at h
  ·rename_i hc
   simp only [Bool.and_eq_true] at hc
   cases h
   exact ⟨rfl,rfl,fun hr=>⟨_,_,hr.renum hc.1 hc.2.1 hc.2.2⟩⟩
  ·cases h
def eqNs:List Nat→List Nat→Bool
 | [],[]=>true
 | a :: r,b :: s=>match Nat.beq a b with
  | true=>eqNs r s
  | false=>false
 | _,_=>false
theorem eqNs_spec:∀ {l m:List Nat},eqNs l m=true→l=m
 | [],[],_=>rfl
 | [],_ :: _,h=>by cases h
 | _ :: _,[],h=>by cases h
 | a :: r,b :: s,h=>by
  unfold eqNs at h
  split at h
  ·rename_i e
   rw [Nat.eq_of_beq_eq_true e,eqNs_spec h]
  ·cases h
def schedS (tab:List TI) (ext:Ext) (wr:Bool) (n:Nat) (ops:Array Oper):Nat→Array Bool→St→Option St
 | 0,listed,S=>match Region.ready .any ops listed with
  | []=>some S
  | _=>none
 | m+1,listed,S=>match Region.ready .any ops listed with
  | []=>some S
  | i :: r=>match decOs ops.toList (i :: r) S with
   | none=>none
   | some S=>match firstQ tab ext wr n ops listed S (i :: r) with
    | some (j,S')=>schedS tab ext wr n ops m (listed.setIfInBounds j true) S'
    | none=>match r,nthO ops.toList i with
     | [],some o=>match stepB tab ext wr n ops listed i S o with
      | some S'=>schedS tab ext wr n ops m (listed.setIfInBounds i true) S'
      | none=>none
     | [j],some o=>match nthO ops.toList j with
      | some p=>match stepB tab ext wr n ops listed i S o,stepB tab ext wr n ops listed j ⟨S.path,S.dec,S.E,S.L,[],S.pins⟩ p with
       | some S1,some S2=>match schedS tab ext wr n ops m (listed.setIfInBounds i true) S1,schedS tab ext wr n ops m (listed.setIfInBounds j true) S2 with
        | some A,some B=>match normB n S.L.length A B with
         | some B'=>match eqNs A.pins B'.pins with
          | true=>some (joinS n A B')
          | false=>none
         | none=>none
        | _,_=>none
       | _,_=>none
      | none=>none
     | _,_=>none
theorem decO1_cs {all:List Oper} {S S':St} {o:Oper} (h:decO1 all S o=some S') (hc:All S'.cs):All S.cs:=by
 unfold decO1 at h
 split at h
 ·cases h
 ·rename_i hg;cases h;exact guardS_cs hg hc
 ·rename_i hg
  refine guardS_cs hg ?_
  split at h
  ·split at h
   ·rename_i hd;cases h;exact decideS_cs hd hc
   ·cases h
  ·cases h;exact hc
theorem decO1_spec {ops:Array Oper} {S S':St} {o:Oper} (hR:RelV n K w0 G w a S.E S.L V own) (hd:DecOk q a S) (h:decO1 ops.toList S o=some S') (hc:All S'.cs) :
  S'.E=S.E∧S'.L=S.L∧DecOk q a S':=by
 unfold decO1 at h
 split at h
 ·cases h
 ·rename_i S1 hg
  cases h
  obtain ⟨_,h2,h3,h4,_⟩:=guardS_spec hR hd hg hc
  exact ⟨h2,h3,h4⟩
 ·rename_i S1 hg
  split at h
  ·split at h
   ·rename_i hdec
    cases h
    obtain ⟨_,h2,h3,h4,_⟩:=guardS_spec hR hd hg (decideS_cs hdec hc)
    have hR1:RelV n K w0 G w a S1.E S1.L V own:=by rw [h2,h3];exact hR
    obtain ⟨_,k2,k3,k4,_⟩:=decideS_spec hR1 h4 hdec hc
    exact ⟨k2.trans h2,k3.trans h3,k4⟩
   ·cases h
  ·cases h
   obtain ⟨_,h2,h3,h4,_⟩:=guardS_spec hR hd hg hc
   exact ⟨h2,h3,h4⟩
theorem decOs_cs {all:List Oper}:∀ {is:List Nat} {S S':St},decOs all is S=some S'→All S'.cs→All S.cs
 | [],_,_,h,hc=>by cases h;exact hc
 | i :: r,S,S',h,hc=>by
  simp only [decOs] at h
  split at h
  ·split at h
   ·rename_i h1
    exact decO1_cs h1 (decOs_cs h hc)
   ·cases h
  ·cases h
theorem decOs_spec {ops:Array Oper}:∀ {is:List Nat} {S S':St},RelV n K w0 G w a S.E S.L V own→DecOk q a S→decOs ops.toList is S=some S'→All S'.cs→S'.E=S.E∧S'.L=S.L∧DecOk q a S'
 | [],_,_,_,hd,h,hc=>by cases h;exact ⟨rfl,rfl,hd⟩
 | i :: r,S,S',hR,hd,h,hc=>by
  simp only [decOs] at h
  split at h
  ·split at h
   ·rename_i S1 h1
    obtain ⟨e1,e2,e3⟩:=decO1_spec hR hd h1 (decOs_cs h hc)
    obtain ⟨f1,f2,f3⟩:=decOs_spec (S:=S1) (by rw [e1,e2];exact hR) e3 h hc
    exact ⟨f1.trans e1,f2.trans e2,f3⟩
   ·cases h
  ·cases h
theorem firstQ_spec {tab:List TI} {ext:Ext} {wr:Bool} {ops:Array Oper} {listed:Array Bool} {S:St} {j:Nat} {S':St}:∀ {rs:List Nat},firstQ tab ext wr n ops listed S rs=some (j,S') →
  j∈rs∧∃ o,ops[j]? = some o∧Region.free .any ops listed j=true∧stepO tab ext wr n true ops.toList S o=some S'
 | [],h=>by cases h
 | i :: r,h=>by
  simp only [firstQ] at h
  have rest:firstQ tab ext wr n ops listed S r=some (j,S')→j∈i :: r∧∃ o,ops[j]? = some o∧Region.free .any ops listed j=true∧stepO tab ext wr n true ops.toList S o=some S':=fun h=>by
   obtain ⟨h1,h2⟩:=firstQ_spec h
   exact ⟨List.mem_cons_of_mem _ h1,h2⟩
  split at h
  ·rename_i o ho hf
   split at h
   ·rename_i S1 h1
    cases h
    rw [nthO_eq] at ho
    exact ⟨List.mem_cons_self .., o,by simpa using ho,hf,h1⟩
   ·exact rest h
  ·exact rest h
theorem stepK_cs {tab:List TI} {ext:Ext} {all:List Oper} {S S':St} {o:Oper} (h:stepK tab ext n all S o=some S') (hc:All S'.cs):All S.cs:=by
 unfold stepK at h
 split at h
 ·rename_i hg
  split at h
  ·have:=putS_cs h
   rw [this] at hc
   exact guardS_cs hg (All.append.1 hc).1
  ·cases h
 ·cases h
theorem stepB_cs {tab:List TI} {ext:Ext} {wr:Bool} {ops:Array Oper} {listed:Array Bool} {i:Nat} {S S':St} {o:Oper} (h:stepB tab ext wr n ops listed i S o=some S') (hc:All S'.cs):All S.cs:=by
 unfold stepB at h
 split at h
 ·rename_i h1;cases h;exact stepK_cs h1 hc
 ·split at h
  ·exact stepO_cs h hc
  ·split at h
   ·rename_i h1
    cases h
    have:=stepO_cs h1 hc
    exact this
   ·have:=stepK_cs h hc
    exact this
theorem stepK_wp {tab:List TI} {ext:Ext} (hT:TabOk P tab) (hX:ExtOk P ext) {ops:Array Oper} {S S':St} {o:Oper} (hR:RelV n K w0 G w a S.E S.L V own) (hd:DecOk q a S)
  (h:stepK tab ext n ops.toList S o=some S') (hc:All S'.cs) {Kt:Act→World→Prop} {Q:Exit→Act→World→Prop}
  (hK:∀ a' w0' G' w' V' own',Kept [] w w'→RelV n K w0' G' w' a' S'.E S'.L V' own'→DecOk q a' S'→Kt a' w') :
  if Region.wanted o (yielded ops a.tmps) then o.wp P a w Kt Q else Kt (a.put o.dst undef) w:=by
 unfold stepK at h
 split at h
 ·rename_i S1 hg
  split at h
  ·rename_i cs pv L hop
   have hcs:=putS_cs h
   rw [hcs] at hc
   obtain ⟨h1,h2,h3,h4,h5⟩:=guardS_spec hR hd hg (All.append.1 hc).1
   rw [h1,if_pos rfl]
   have hR1:RelV n K w0 G w a S1.E S1.L V own:=by rw [h2,h3];exact hR
   refine opK_spec hT hX hR1 hop (All.append.1 hc).2 fun v w0' G' w' V' own' k hR' hv => ?_
   obtain ⟨g1,g2,_⟩:=putS_spec h hR' h4 hv
   exact hK _ _ _ _ _ _ k g1 g2
  ·cases h
 ·cases h
theorem stepB_wp {tab:List TI} {ext:Ext} (hT:TabOk P tab) (hX:ExtOk P ext) {wr:Bool} {ops:Array Oper} {listed:Array Bool} {i:Nat} {S S':St} {o:Oper} (hR:RelV n K w0 G w a S.E S.L V own) (hd:DecOk q a S)
  (h:stepB tab ext wr n ops listed i S o=some S') (hc:All S'.cs) {Kt:Act→World→Prop} {Q:Exit→Act→World→Prop}
  (hK:∀ a' w0' G' w' V' own',(barB ops listed i=true∨Kept [] w w')→RelV n K w0' G' w' a' S'.E S'.L V' own'→DecOk q a' S'→Kt a' w') :
  if Region.wanted o (yielded ops a.tmps) then o.wp P a w Kt Q else Kt (a.put o.dst undef) w:=by
 unfold stepB at h
 split at h
 ·rename_i h1
  cases h
  exact stepK_wp hT hX hR hd h1 hc fun a' w0' G' w' V' own' k=>hK a' w0' G' w' V' own' (.inr k)
 ·split at h
  ·rename_i hb
   exact stepO_wp hT hX hR hd h hc fun a' w0' G' w' V' own'=>hK a' w0' G' w' V' own' (.inl hb)
  ·obtain ⟨w1,G1,hR1⟩:=frzOp_spec hR o.op
   have hR1:RelV n K w1 G1 w a (frzS S o.op).E (frzS S o.op).L V own:=hR1
   have hd1:DecOk q a (frzS S o.op):=hd
   split at h
   ·rename_i h1
    cases h
    obtain ⟨v,hy,g1,g2⟩:=stepO_quiet hT hX hR1 hd1 h1 hc
    rcases hy with ⟨hw,hv⟩ | ⟨hw,rfl⟩
    ·rw [hw,if_pos rfl]
     refine Oper.wp_of_quiet (C:=Kept [] w) (K:=fun a'=>a'=a.put o.dst v) (Kept.refl _ _) (fun a' w' k e=>by subst e;exact hK _ _ _ _ _ _ (.inr k) (g1.ext k) g2) ⟨v,fun w' k => ?_,rfl⟩
     have:=hv w' k
     unfold Oper.quietAt at this ⊢
     generalize (execOp a.eval o).run P w'=r at *
     cases r with
     | ok nx w2 =>
      cases nx <;> simp only [Oper.quietUpon] at this ⊢
      case value u=>exact this
      case skip=>exact this
      case enter f args=>exact ⟨this.1,this.2.mono fun e w3 hh=>⟨hh.1,k.trans hh.2⟩⟩
     | halt x w2=>simp only [Oper.quietUpon] at this
    ·rw [hw]
     exact hK _ _ _ _ _ _ (.inr (Kept.refl _ _)) g1 g2
   ·exact stepK_wp hT hX hR1 hd1 h hc fun a' w0' G' w' V' own' k=>hK a' w0' G' w' V' own' (.inr k)
theorem schedS_cs {tab:List TI} {ext:Ext} {wr:Bool} {ops:Array Oper} {S':St}:∀ {m:Nat} {listed:Array Bool} {S:St},schedS tab ext wr n ops m listed S=some S'→All S'.cs→All S.cs
 | 0,listed,S,h,hc=>by
  simp only [schedS] at h
  split at h
  ·cases h;exact hc
  ·cases h
 | m+1,listed,S,h,hc=>by
  simp only [schedS] at h
  split at h
  ·cases h;exact hc
  ·split at h
   ·cases h
   ·rename_i S1 hdec
    refine decOs_cs hdec ?_
    split at h
    ·rename_i j S2 hq
     obtain ⟨_,o,_,_,hst⟩:=firstQ_spec hq
     exact stepO_cs hst (schedS_cs h hc)
    ·split at h
     ·split at h
      ·rename_i S2 hB
       exact stepB_cs hB (schedS_cs h hc)
      ·cases h
     ·split at h
      ·split at h
       ·rename_i S2 S3 hA hB
        split at h
        ·rename_i A B hA2 hB2
         split at h
         ·split at h
          ·cases h
           exact stepB_cs hA (schedS_cs hA2 (All.append.1 hc).1)
          ·cases h
         ·cases h
        ·cases h
       ·cases h
      ·cases h
     ·cases h
theorem schedS_spec {tab:List TI} {ext:Ext} (hT:TabOk P tab) (hX:ExtOk P ext) {wr:Bool} {ops:Array Oper} {Q:Exit→Act→World→Prop} (hs:Region.noSelect ops=true) (hQ:∀ c a w,¬ Q (.panic c) a w) {S':St}
  (hc:All S'.cs) (hK:∀ a' w0' G' w' V' own',RelV n K w0' G' w' a' S'.E S'.L V' own'→DecOk q a' S'→Q .normal a' w'):∀ {w0:World} {G:Nat→Prop} {m:Nat} {listed:Array Bool} {S:St} {a:Act} {w:World} {V:Nat→Value} {own:Nat→List Nat},
  RelV n K w0 G w a S.E S.L V own→DecOk q a S→Down ops listed→schedS tab ext wr n ops m listed S=some S'→wpAnyK P ops Q [] m listed a w
 | w0,G,0,listed,S,a,w,V,own,hR,hd,hD,h=>by
  simp only [schedS] at h
  split at h
  ·rename_i hr
   cases h
   exact fun w1 k=>⟨hr,hK _ _ _ _ _ _ (hR.ext k) hd⟩
  ·cases h
 | w0,G,m+1,listed,S,a,w,V,own,hR,hd,hD,h=>by
  simp only [schedS] at h
  split at h
  ·rename_i hr
   cases h
   exact fun w1 k=>⟨fun _=>hK _ _ _ _ _ _ (hR.ext k) hd,by rw [hr];simp⟩
  ·rename_i i r hr
   split at h
   ·cases h
   ·rename_i S1 hdec
    split at h
    ·rename_i j S2 hq
     obtain ⟨hjr,o,ho,hf,hst⟩:=firstQ_spec hq
     rw [← hr] at hjr
     have hc2:All S2.cs:=schedS_cs h hc
     have hc1:All S1.cs:=stepO_cs hst hc2
     obtain ⟨e1,e2,e3⟩:=decOs_spec hR hd hdec hc1
     have hR1:RelV n K w0 G w a S1.E S1.L V own:=by rw [e1,e2];exact hR
     obtain ⟨v,hy,g1,g2⟩:=stepO_quiet hT hX hR1 e3 hst hc2
     refine wpAnyK_first ho (Region.noSelect_spec hs) hQ m listed a w hD (Region.free_spec ho hf) hjr hy ?_
     exact schedS_spec hT hX hs hQ hc hK g1 g2 (hD.set hjr) h
    ·split at h
     ·rename_i o hno _
      rw [nthO_eq] at hno
      have ho:ops[i]? = some o:=by simpa using hno
      split at h
      ·rename_i S2 hB
       have hc2:All S2.cs:=schedS_cs h hc
       have hc1:All S1.cs:=stepB_cs hB hc2
       obtain ⟨e1,e2,e3⟩:=decOs_spec hR hd hdec hc1
       have hir:i∈Region.ready .any ops listed:=by rw [hr];simp
       refine fun w1 k=>⟨fun h0=>by (rw [hr] at h0;cases h0),fun j hj => ?_⟩
       have hji:j=i:=by rw [hr] at hj;simpa using hj
       subst hji
       have hR1:RelV n K w0 G w1 a S1.E S1.L V own:=by rw [e1,e2];exact hR.ext k
       unfold wpOp
       simp only [ho]
       have:=stepB_wp (Kt:=fun a' w'=>(barB ops listed j=true∨Kept [] w1 w')∧wpAnyK P ops Q [] m (listed.setIfInBounds j true) a' w') (Q:=Q) hT hX hR1 e3 hB hc2 (fun a' w0' G' w' V' own' hb hR' hd'=>⟨hb,schedS_spec hT hX hs hQ hc hK hR' hd' (hD.set hir) h⟩)
       split
       ·rename_i hw;rw [if_pos hw] at this;exact .inl this
       ·rename_i hw;rw [if_neg hw] at this;exact this
      ·cases h
     ·rename_i j o hno _
      split at h
      ·rename_i p hnp
       rw [nthO_eq] at hno hnp
       have ho:ops[i]? = some o:=by simpa using hno
       have hp:ops[j]? = some p:=by simpa using hnp
       split at h
       ·rename_i S2 S3 hA hB
        split at h
        ·rename_i A B hA2 hB2
         split at h
         case h_2=>cases h
         rename_i B' hnB
         obtain ⟨nb1,nb2,nb3⟩:=normB_spec hnB
         split at h
         case h_2=>cases h
         rename_i hpn
         have hpn:=eqNs_spec hpn
         cases h
         have hcA:All A.cs:=(All.append.1 hc).1
         have hcB:All B.cs:=by rw [← nb1];exact (All.append.1 (All.append.1 hc).2).1
         have heq:(tabE A.E n [],A.L)=(tabE B'.E n [],B'.L):=(All.append.1 (All.append.1 hc).2).2.1
         have hc2:All S2.cs:=schedS_cs hA2 hcA
         have hc3:All S3.cs:=schedS_cs hB2 hcB
         have hc1:All S1.cs:=stepB_cs hA hc2
         obtain ⟨e1,e2,e3⟩:=decOs_spec hR hd hdec hc1
         have hKA:∀ a' w0' G' w' V' own',RelV n K w0' G' w' a' A.E A.L V' own'→DecOk q a' A→Q .normal a' w':=fun a' w0' G' w' V' own' hr' hd' =>
          hK a' w0' G' w' V' own' hr'.tab ⟨fun t d hl=>(by cases hl),hd'.2⟩
         have hKB:∀ a' w0' G' w' V' own',RelV n K w0' G' w' a' B.E B.L V' own'→DecOk q a' B→Q .normal a' w':=fun a' w0' G' w' V' own' hr' hd'=>by
          obtain ⟨V2,own2,hr2⟩:=nb3 hr'
          refine hK a' w0' G' w' V2 own2 ?_ ⟨fun t d hl=>(by cases hl),?_⟩
          ·have k1:tabE A.E n []=tabE B'.E n []:=congrArg Prod.fst heq
           have k2:A.L=B'.L:=congrArg Prod.snd heq
           show RelV n K w0' G' w' a' (tabE A.E n []) A.L V2 own2
           rw [k1,k2];exact hr2.tab
          ·show ∀ t∈A.pins,a'.tmps.getD t undef=q t
           rw [hpn,nb2];exact hd'.2
         have hir:i∈Region.ready .any ops listed:=by rw [hr];simp
         have hjr:j∈Region.ready .any ops listed:=by rw [hr];simp
         refine fun w1 k=>⟨fun h0=>by (rw [hr] at h0;cases h0),fun c hk => ?_⟩
         have hkk:c=i∨c=j:=by rw [hr] at hk;simpa using hk
         have hR1:RelV n K w0 G w1 a S1.E S1.L V own:=by rw [e1,e2];exact hR.ext k
         rcases hkk with rfl | rfl
         ·unfold wpOp
          simp only [ho]
          have:=stepB_wp (Kt:=fun a' w'=>(barB ops listed c=true∨Kept [] w1 w')∧wpAnyK P ops Q [] m (listed.setIfInBounds c true) a' w') (Q:=Q) hT hX hR1 e3 hA hc2 (fun a' w0' G' w' V' own' hb hR' hd'=>⟨hb,schedS_spec hT hX hs hQ hcA hKA hR' hd' (hD.set hir) hA2⟩)
          split
          ·rename_i hw;rw [if_pos hw] at this;exact .inl this
          ·rename_i hw;rw [if_neg hw] at this;exact this
         ·unfold wpOp
          simp only [hp]
          have:=stepB_wp (Kt:=fun a' w'=>(barB ops listed c=true∨Kept [] w1 w')∧wpAnyK P ops Q [] m (listed.setIfInBounds c true) a' w') (Q:=Q) (S:=⟨S1.path,S1.dec,S1.E,S1.L,[],S1.pins⟩) hT hX hR1 e3 hB hc3 (fun a' w0' G' w' V' own' hb hR' hd'=>⟨hb,schedS_spec hT hX hs hQ hcB hKB hR' hd' (hD.set hjr) hB2⟩)
          split
          ·rename_i hw;rw [if_pos hw] at this;exact .inl this
          ·rename_i hw;rw [if_neg hw] at this;exact this
        ·cases h
       ·cases h
      ·cases h
     ·cases h
def bitsL:List Nat→Nat
 | []=>0
 | d :: r=>Nat.lor (Nat.shiftLeft 1 d) (bitsL r)
theorem one_shl_bit (x d:Nat):(1 <<< x).testBit d=decide (x=d):=by
 rw [Nat.one_shiftLeft,Nat.testBit_two_pow]
theorem bitsL_mem:∀ (l:List Nat) (d:Nat),(bitsL l).testBit d=decide (d∈l)
 | [],d=>by simp [bitsL]
 | x :: r,d=>by
  have e:bitsL (x :: r)=(1 <<< x) ||| bitsL r:=rfl
  rw [e,Nat.testBit_or,bitsL_mem r d,one_shl_bit]
  by_cases hx:x=d
  ·subst hx;simp
  ·have:¬ d=x:=fun h=>hx h.symm
   simp [hx,this]
structure OpI where
 looks:Nat
 dst:Nat
 pre:Nat
 loud:Bool
def loudOp:Op→Bool
 | .call { callee := .builtin .len,.. }=>false
 | .call _=>true
 | .box _ _=>true
 | .alloc _=>true
 | .buildSlice _ _ _=>true
 | .makeSlice _ _ _=>true
 | .store _ _ _=>true
 | .convert _ _ _=>true
 | _=>false
def dstL (o:Oper):List Nat:=match o.dst with | some d=>[d] | none=>[]
def preL (o:Oper):List Nat:=(o.after.toList.filter fun e=>Region.binds .any e).map fun e=>e.on
def opI (ops:Array Oper) (o:Oper):OpI:=⟨bitsL (o.looksAt ops),bitsL (dstL o),bitsL (preL o),loudOp o.op⟩
def pairsB (y:OpI) (j:Nat):Nat→List OpI→Bool
 | _,[]=>true
 | k,x :: r=>match Nat.beq k j with
  | true=>true
  | false=>match Nat.beq (Nat.land y.pre (Nat.shiftLeft 1 k)) 0 with
   | false=>pairsB y j (k+1) r
   | true=>Nat.beq (Nat.land (Nat.lor y.looks y.dst) x.dst) 0&&(Nat.beq (Nat.land x.looks y.dst) 0&&pairsB y j (k+1) r)
def onlyB (j:Nat):List OpI→Bool
 | []=>true
 | x :: r => !Nat.beq (Nat.shiftRight x.pre j) 0&&onlyB j r
def seqB (all:List OpI):Nat→List OpI→Bool
 | _,[]=>true
 | j,y :: r=>Nat.beq (Nat.shiftRight y.pre j) 0&&(pairsB y j 0 all&&((match y.loud with | true=>onlyB j r | false=>true)&&seqB all (j+1) r))
def seqOk (ops:Array Oper):Bool:=match ops.toList.map (opI ops) with
 | all=>seqB all 0 all
def seqS (tab:List TI) (ext:Ext) (wr:Bool) (n:Nat) (ops:Array Oper):Nat→Array Bool→List Oper→St→Option St
 | _,_,[],S=>some S
 | j,listed,o :: r,S=>match loudOp o.op with
  | false=>match stepO tab ext wr n true ops.toList S o with
   | some S'=>seqS tab ext wr n ops (j+1) (listed.setIfInBounds j true) r S'
   | none=>none
  | true=>match stepO tab ext wr n true ops.toList S o with
   | some S'=>seqS tab ext wr n ops (j+1) (listed.setIfInBounds j true) r S'
   | none=>match stepB tab ext wr n ops listed j S o with
    | some S'=>seqS tab ext wr n ops (j+1) (listed.setIfInBounds j true) r S'
    | none=>none
theorem seqS_cs {tab:List TI} {ext:Ext} {wr:Bool} {ops:Array Oper} {S':St}:∀ {l:List Oper} {j:Nat} {listed:Array Bool} {S:St},seqS tab ext wr n ops j listed l S=some S'→All S'.cs→All S.cs
 | [],j,listed,S,h,hc=>by cases h;exact hc
 | o :: r,j,listed,S,h,hc=>by
  simp only [seqS] at h
  split at h
  ·split at h
   ·rename_i h1;exact stepO_cs h1 (seqS_cs h hc)
   ·cases h
  ·split at h
   ·rename_i h1;exact stepO_cs h1 (seqS_cs h hc)
   ·split at h
    ·rename_i h1;exact stepB_cs h1 (seqS_cs h hc)
    ·cases h
theorem pairsB_spec {ops:Array Oper} {y:Oper} {j:Nat}:∀ {l:List Oper} {k:Nat},pairsB (opI ops y) j k (l.map (opI ops))=true→∀ (i:Nat) (x:Oper),l[i]? = some x→k+i<j →
  (∃ e∈y.after,Region.binds .any e=true∧e.on=k+i)∨x.apart ops y=true
 | [],k,_,i,x,hx,_=>by simp at hx
 | z :: r,k,h,i,x,hx,hi=>by
  simp only [List.map_cons,pairsB] at h
  have hkj:Nat.beq k j=false:=nbeq_false (by omega)
  rw [hkj] at h
  simp only at h
  have rest:pairsB (opI ops y) j (k+1) (r.map (opI ops))=true→∀ i',i=i'+1→(∃ e∈y.after,Region.binds .any e=true∧e.on=k+i)∨x.apart ops y=true:=by
   rintro h i' rfl
   have:=pairsB_spec h i' x (by simpa using hx) (by omega)
   rw [show k+(i'+1)=k+1+i' by omega]
   exact this
  split at h
  ·rename_i hb
   cases i with
   | zero =>
    left
    have hb2:(bitsL (preL y)).testBit k=true:=by
     cases ht:(bitsL (preL y)).testBit k with
     | true=>rfl
     | false =>
      exfalso
      have h0:Nat.beq (Nat.land (bitsL (preL y)) (Nat.shiftLeft 1 k)) 0=true:=by
       have:(bitsL (preL y)) &&& (1 <<< k)=0:=by
        apply Nat.eq_of_testBit_eq
        intro m
        rw [Nat.testBit_and,one_shl_bit]
        by_cases hm:k=m
        ·subst hm;simp [ht]
        ·simp [hm]
       have h1:Nat.land (bitsL (preL y)) (Nat.shiftLeft 1 k)=0:=this
       rw [h1];rfl
      have h2:Nat.beq (Nat.land (opI ops y).pre (Nat.shiftLeft 1 k)) 0=true:=h0
      rw [h2] at hb
      cases hb
    rw [bitsL_mem] at hb2
    have:=of_decide_eq_true hb2
    obtain ⟨e,he,rfl⟩:=List.mem_map.1 this
    obtain ⟨he,hbe⟩:=List.mem_filter.1 he
    exact ⟨e,by simpa using he,hbe,by simp⟩
   | succ i'=>exact rest h i' rfl
  ·simp only [Bool.and_eq_true] at h
   obtain ⟨h1,h2,h3⟩:=h
   cases i with
   | zero =>
    right
    simp at hx
    subst hx
    have land0:∀ {a b d:Nat},Nat.beq (Nat.land a b) 0=true→b.testBit d=true→a.testBit d=false:=by
     intro a b d h hb
     have h:=Nat.eq_of_beq_eq_true h
     have h':a &&& b=0:=h
     have h3:(a &&& b).testBit d=false:=by rw [h'];simp
     rw [Nat.testBit_and,hb] at h3
     simpa using h3
    have hdst:∀ (o:Oper) d,o.dst=some d→(opI ops o).dst.testBit d=true:=by
     intro o d hd
     show (bitsL (dstL o)).testBit d=true
     rw [bitsL_mem]
     simp [dstL,hd]
    unfold Oper.apart
    rw [Bool.and_eq_true]
    constructor
    ·split
     ·rename_i d hd
      have h4:=land0 h1 (hdst _ d hd)
      have h4':((bitsL (y.looksAt ops)) ||| (bitsL (dstL y))).testBit d=false:=h4
      rw [Nat.testBit_or,bitsL_mem,bitsL_mem,Bool.or_eq_false_iff] at h4'
      obtain ⟨g1,g2⟩:=h4'
      have g1:=of_decide_eq_false g1
      have g2:=of_decide_eq_false g2
      rw [Bool.and_eq_true]
      refine ⟨by simpa using g1,?_⟩
      simp only [bne_iff_ne,ne_eq]
      intro hy
      exact g2 (by simp [dstL,hy])
     ·rfl
    ·split
     ·rename_i d hd
      have h4:=land0 h2 (hdst _ d hd)
      have h4':(bitsL (z.looksAt ops)).testBit d=false:=h4
      rw [bitsL_mem] at h4'
      have g1:=of_decide_eq_false h4'
      simpa using g1
     ·rfl
   | succ i'=>exact rest h3 i' rfl
def FirstJ (ops:Array Oper) (listed:Array Bool) (j:Nat):Prop:=listed.size=ops.size∧∀ k,k<ops.size→listed.getD k true=decide (k<j)
theorem FirstJ.false {ops:Array Oper} {listed:Array Bool} {j:Nat} (h:FirstJ ops listed j) {k:Nat}:listed.getD k false=decide (k<j∧k<ops.size):=by
 by_cases hk:k<ops.size
 ·have:=h.2 k hk
  rw [Array.getD_eq_getD_getElem?] at this ⊢
  rw [Array.getElem?_eq_getElem (by rw [h.1];exact hk)] at this ⊢
  simp only [Option.getD_some] at this ⊢
  rw [this]
  simp [hk]
 ·rw [Array.getD_eq_getD_getElem?, Array.getElem?_eq_none (by rw [h.1];omega)]
  simp [hk]
theorem FirstJ.set {ops:Array Oper} {listed:Array Bool} {j:Nat} (h:FirstJ ops listed j):FirstJ ops (listed.setIfInBounds j true) (j+1):=by
 refine ⟨by simpa using h.1,fun k hk => ?_⟩
 by_cases hkj:j=k
 ·subst hkj
  rw [Array.getD_eq_getD_getElem?, Array.getElem?_setIfInBounds_self_of_lt (by rw [h.1];exact hk)]
  simp
 ·rw [getD_set_ne true hkj,h.2 k hk]
  simp only [decide_eq_decide]
  omega
theorem pre_lt {ops:Array Oper} {o:Oper} {j:Nat} (h:Nat.beq (Nat.shiftRight (opI ops o).pre j) 0=true):∀ e∈o.after,Region.binds .any e=true→e.on<j:=by
 intro e he hb
 rcases Nat.lt_or_ge e.on j with h1 | h1
 ·exact h1
 ·exfalso
  have h:=Nat.eq_of_beq_eq_true h
  have h':(bitsL (preL o)) >>> j=0:=h
  have h2:((bitsL (preL o)) >>> j).testBit (e.on - j)=true:=by
   rw [Nat.testBit_shiftRight,bitsL_mem,show j+(e.on - j)=e.on by omega]
   refine decide_eq_true (List.mem_map.2 ⟨e,List.mem_filter.2 ⟨by simpa using he,hb⟩,rfl⟩)
  rw [h'] at h2
  simp at h2
theorem pre_ge {ops:Array Oper} {o:Oper} {j:Nat} (h:Nat.beq (Nat.shiftRight (opI ops o).pre j) 0=false):∃ e∈o.after,Region.binds .any e=true∧j≤e.on:=by
 apply Classical.byContradiction
 intro hn
 have h':(bitsL (preL o)) >>> j=0:=by
  apply Nat.eq_of_testBit_eq
  intro m
  rw [Nat.testBit_shiftRight,bitsL_mem,Nat.zero_testBit]
  refine decide_eq_false fun hm=>hn ?_
  obtain ⟨e,he,h1⟩:=List.mem_map.1 hm
  obtain ⟨he,hb⟩:=List.mem_filter.1 he
  exact ⟨e,by simpa using he,hb,by omega⟩
 have h2:Nat.shiftRight (opI ops o).pre j=0:=h'
 rw [h2] at h
 cases h
theorem onlyB_spec {ops:Array Oper} {j:Nat}:∀ (l:List Oper),onlyB j (l.map (opI ops))=true→∀ x∈l,∃ e∈x.after,Region.binds .any e=true∧j≤e.on:=by
 intro l
 induction l with
 | nil=>intro _ x hx;cases hx
 | cons x r ih =>
  intro h y hy
  rw [List.map_cons,onlyB,Bool.and_eq_true,Bool.not_eq_true'] at h
  rcases List.mem_cons.1 hy with rfl | hy
  ·exact pre_ge h.1
  ·exact ih h.2 y hy
theorem seqB_tail {all:List OpI}:∀ {l:List OpI} {j:Nat},seqB all j l=true→∀ i y,l[i]? = some y→Nat.beq (Nat.shiftRight y.pre (j+i)) 0=true∧pairsB y (j+i) 0 all=true
 | x :: r,j,h,i,y,hy=>by
  simp only [seqB,Bool.and_eq_true] at h
  obtain ⟨h1,h2,_,h4⟩:=h
  cases i with
  | zero=>simp at hy;subst hy;exact ⟨h1,h2⟩
  | succ i =>
   have:=seqB_tail h4 i y (by simpa using hy)
   rw [show j+(i+1)=j+1+i by omega]
   exact this
theorem seqS_spec {tab:List TI} {ext:Ext} (hT:TabOk P tab) (hX:ExtOk P ext) {wr:Bool} {ops:Array Oper} {Q:Exit→Act→World→Prop} (hs:Region.noSelect ops=true) (hQ:∀ c a w,¬ Q (.panic c) a w) {S':St}
  (hc:All S'.cs) (hK:∀ a' w0' G' w' V' own',RelV n K w0' G' w' a' S'.E S'.L V' own'→DecOk q a' S'→Q .normal a' w')
  (hall:seqB (ops.toList.map (opI ops)) 0 (ops.toList.map (opI ops))=true):∀ {l:List Oper} {w0:World} {G:Nat→Prop} {j:Nat} {listed:Array Bool} {S:St} {a:Act} {w:World} {V:Nat→Value} {own:Nat→List Nat},
  RelV n K w0 G w a S.E S.L V own→DecOk q a S→Down ops listed→FirstJ ops listed j→ops.toList.drop j=l→seqB (ops.toList.map (opI ops)) j (l.map (opI ops))=true→seqS tab ext wr n ops j listed l S=some S'→wpAnyK P ops Q [] l.length listed a w
 | [],w0,G,j,listed,S,a,w,V,own,hR,hd,hD,hF,hl,_,h=>by
  cases h
  have hge:ops.size≤j:=by
   have:=congrArg List.length hl
   simp at this
   omega
  refine fun w1 k=>⟨?_,hK _ _ _ _ _ _ (hR.ext k) hd⟩
  apply List.eq_nil_iff_forall_not_mem.2
  intro i hi
  obtain ⟨h1,o,ho,_⟩:=mem_ready.1 hi
  have hlt:=(Array.getElem?_eq_some_iff.1 ho).1
  rw [hF.2 i hlt] at h1
  have:=of_decide_eq_false h1
  omega
 | o :: r,w0,G,j,listed,S,a,w,V,own,hR,hd,hD,hF,hl,hB,h=>by
  have hlen:=congrArg List.length hl
  simp only [List.length_drop,Array.length_toList,List.length_cons] at hlen
  have hj:j<ops.size:=by omega
  have ho:ops[j]? = some o:=by
   have:=congrArg (fun l=>l[0]?) hl
   simpa using this
  have hr:ops.toList.drop (j+1)=r:=by
   have:=congrArg List.tail hl
   simpa using this
  simp only [List.map_cons,seqB,Bool.and_eq_true] at hB
  obtain ⟨b1,b2,b3,b4⟩:=hB
  have hready:j∈Region.ready .any ops listed:=by
   refine mem_ready.2 ⟨by rw [hF.2 j hj];simp,o,ho,fun e he hb => ?_⟩
   have:=pre_lt b1 e he hb
   rw [hF.false]
   exact decide_eq_true ⟨this,by omega⟩
  have hfree:∀ i oi,ops[i]? = some oi→i≠j→listed.getD i true=false→(∀ e∈oi.after,Region.binds .any e=true→e.on≠j)→o.apart ops oi=true:=by
   intro i oi hi hij hun hno
   have hlt:=(Array.getElem?_eq_some_iff.1 hi).1
   rw [hF.2 i hlt] at hun
   have hge:=of_decide_eq_false hun
   have hy:(ops.toList.map (opI ops))[i]? = some (opI ops oi):=by simp [hi]
   obtain ⟨_,hp⟩:=seqB_tail hall i _ hy
   rw [Nat.zero_add] at hp
   rcases pairsB_spec hp j o (by simpa using ho) (by omega) with ⟨e,he,hb,he2⟩ | hap
   ·exact absurd (by rw [he2];simp) (hno e he hb)
   ·exact hap
  have quiet:∀ {S2:St},stepO tab ext wr n true ops.toList S o=some S2→seqS tab ext wr n ops (j+1) (listed.setIfInBounds j true) r S2=some S'→wpAnyK P ops Q [] (o :: r).length listed a w:=by
   intro S2 hst h
   obtain ⟨v,hy,g1,g2⟩:=stepO_quiet hT hX hR hd hst (seqS_cs h hc)
   exact wpAnyK_first ho (Region.noSelect_spec hs) hQ r.length listed a w hD hfree hready hy (seqS_spec hT hX hs hQ hc hK hall g1 g2 (hD.set hready) hF.set hr b4 h)
  simp only [seqS] at h
  split at h
  ·split at h
   ·rename_i S2 hst;exact quiet hst h
   ·cases h
  ·rename_i hloud
   split at h
   ·rename_i S2 hst;exact quiet hst h
   ·split at h
    ·rename_i S2 hB
     have hlo:(opI ops o).loud=true:=hloud
     rw [hlo] at b3
     simp only at b3
     have hc2:All S2.cs:=seqS_cs h hc
     refine fun w1 k=>⟨fun h0=>by (rw [h0] at hready;cases hready),fun i hi => ?_⟩
     have hji:i=j:=by
      obtain ⟨h1,oi,hoi,hai⟩:=mem_ready.1 hi
      have hlt:=(Array.getElem?_eq_some_iff.1 hoi).1
      rw [hF.2 i hlt] at h1
      have hge:=of_decide_eq_false h1
      apply Classical.byContradiction
      intro hne
      have hmem:oi∈r:=by
       rw [← hr]
       refine List.mem_of_getElem? (i:=i - (j+1)) ?_
       rw [List.getElem?_drop,show j+1+(i - (j+1))=i by omega]
       simpa using hoi
      obtain ⟨e,he,hb,hle⟩:=onlyB_spec _ b3 oi hmem
      have:=hai e he hb
      rw [hF.false] at this
      have:=(of_decide_eq_true this).1
      omega
     subst hji
     have hR1:RelV n K w0 G w1 a S.E S.L V own:=hR.ext k
     unfold wpOp
     simp only [ho]
     have:=stepB_wp (Kt:=fun a' w'=>(barB ops listed i=true∨Kept [] w1 w')∧wpAnyK P ops Q [] r.length (listed.setIfInBounds i true) a' w') (Q:=Q) hT hX hR1 hd hB hc2 (fun a' w0' G' w' V' own' hb hR' hd'=>⟨hb,seqS_spec hT hX hs hQ hc hK hall hR' hd' (hD.set hready) hF.set hr b4 h⟩)
     split
     ·rename_i hw;rw [if_pos hw] at this;exact .inl this
     ·rename_i hw;rw [if_neg hw] at this;exact this
    ·cases h
theorem stepF_cs {tab:List TI} {ext:Ext} {wr:Bool} {r0:Nat} {all:List Oper} {S S':St} {o:Oper} (h:stepF tab ext wr n r0 all S o=some S') (hc:All S'.cs):All S.cs:=by
 unfold stepF at h
 split at h
 ·cases h
 ·rename_i S1 hg
  have:=putS_cs h
  rw [this] at hc
  exact guardS_cs hg (All.append.1 hc).1
 ·rename_i S1 hg
  refine guardS_cs hg ?_
  split at h
  ·split at h
   ·rename_i d S2 hdec
    have:=putS_cs h
    rw [this] at hc
    exact decideS_cs hdec (All.append.1 hc).1
   ·cases h
  ·split at h
   ·split at h
    ·have:=putS_cs h
     rw [this] at hc
     exact (All.append.1 hc).1
    ·cases h
   ·split at h
    ·split at h
     ·have:=putS_cs h
      rw [this] at hc
      exact (All.append.1 hc).1
     ·cases h
    ·cases h
theorem stepL_cs {tab:List TI} {ext:Ext} {r0:Nat} {all:List Oper} {S S':St} {o:Oper} (h:stepL tab ext n r0 all S o=some S') (hc:All S'.cs):All S.cs:=by
 unfold stepL at h
 split at h
 ·rename_i S1 hg
  split at h
  ·split at h
   ·split at h
    ·have:=putS_cs h
     rw [this] at hc
     exact guardS_cs hg (All.append.1 hc).1
    ·cases h
   ·cases h
  ·split at h
   ·split at h
    ·have:=putS_cs h
     rw [this] at hc
     exact guardS_cs hg (All.append.1 hc).1
    ·cases h
   ·cases h
  ·cases h
 ·cases h
theorem stepF_quiet {tab:List TI} {ext:Ext} (hT:TabOk P tab) (hX:ExtOk P ext) {wr:Bool} {r0:Nat} {A:Arr} {ops:Array Oper} {S S':St} {o:Oper} (hR:RelV n K w0 G w a S.E S.L V own) (hA:hget S.L r0=some A) (hd:DecOk q a S)
  (h:stepF tab ext wr n r0 ops.toList S o=some S') (hc:All S'.cs) :
  ∃ v,YieldsK P ops (own r0) o v a w∧RelV n K w0 G w (a.put o.dst v) S'.E S'.L V own∧DecOk q (a.put o.dst v) S':=by
 unfold stepF at h
 split at h
 ·cases h
 ·rename_i S1 hg
  have hcs:=putS_cs h
  rw [hcs] at hc
  obtain ⟨h1,h2,h3,h4,h5⟩:=guardS_spec hR hd hg (All.append.1 hc).1
  have hR1:RelV n K w0 G w a S1.E S1.L V own:=by rw [h2,h3];exact hR
  obtain ⟨g1,g2,_⟩:=putS_spec (v:=undef) h hR1 h4 ⟨rfl,trivial⟩
  exact ⟨undef,.inr ⟨h1,rfl⟩,g1,g2⟩
 ·rename_i S1 hg
  have hc1:All S1.cs:=by
   split at h
   ·split at h
    ·rename_i d S2 hdec
     have hcs:=putS_cs h
     rw [hcs] at hc
     exact decideS_cs hdec (All.append.1 hc).1
    ·cases h
   ·split at h
    ·split at h
     ·have hcs:=putS_cs h
      rw [hcs] at hc
      exact (All.append.1 hc).1
     ·cases h
    ·split at h
     ·split at h
      ·have hcs:=putS_cs h
       rw [hcs] at hc
       exact (All.append.1 hc).1
      ·cases h
     ·cases h
  obtain ⟨h1,h2,h3,h4,h5⟩:=guardS_spec hR hd hg hc1
  have hR1:RelV n K w0 G w a S1.E S1.L V own:=by rw [h2,h3];exact hR
  have hA1:hget S1.L r0=some A:=by rw [h3];exact hA
  split at h
  ·rename_i c x y ho
   split at h
   ·rename_i d S2 hdec
    have hcs:=putS_cs h
    rw [hcs] at hc
    obtain ⟨k1,k2,k3,k4,k5⟩:=decideS_spec hR1 h4 hdec (All.append.1 hc).1
    have hR2:RelV n K w0 G w a S2.E S2.L V own:=by rw [k2,k3];exact hR1
    obtain ⟨g1,g2,_⟩:=putS_spec h hR2 k4 (cond_rep (d:=d) (hR2.opnd x) (hR2.opnd y))
    refine ⟨_,.inl ⟨h1,fun w' k => ?_⟩,g1,g2⟩
    unfold Oper.quietAt
    rw [pick_run ho k1 w']
    exact ⟨rfl,rfl⟩
   ·cases h
  ·split at h
   ·rename_i hnm
    split at h
    ·rename_i cs pv hop
     have hcs:=putS_cs h
     rw [hcs] at hc
     obtain ⟨v,hv,hq⟩:=noMem_spec (P:=P) hR1 hnm hop
     obtain ⟨g1,g2,_⟩:=putS_spec h hR1 h4 hv
     refine ⟨v,.inl ⟨h1,fun w' k => ?_⟩,g1,g2⟩
     unfold Oper.quietAt
     rw [hq w']
     exact ⟨rfl,rfl⟩
    ·cases h
   ·split at h
    ·rename_i cs pv hop
     split at h
     ·rename_i hdet
      have hcs:=putS_cs h
      rw [hcs] at hc
      obtain ⟨v,hv,hq⟩:=opQ_specF hT hX hR1 hA1 hop hdet (All.append.1 hc).2
      obtain ⟨g1,g2,_⟩:=putS_spec h hR1 h4 hv
      exact ⟨v,.inl ⟨h1,hq⟩,g1,g2⟩
     ·cases h
    ·cases h
theorem stepL_wp {tab:List TI} (hT:TabOk P tab) {ext:Ext} (hX:ExtOk P ext) {r0:Nat} {ops:Array Oper} {S S':St} {o:Oper} (hR:RelV n K w0 G w a S.E S.L V own) (hd:DecOk q a S)
  (h:stepL tab ext n r0 ops.toList S o=some S') (hc:All S'.cs) {Kt:Act→World→Prop} {Q:Exit→Act→World→Prop}
  (hK:∀ a' w0' G' w' V' own',Kept (own r0) w w'→RelV n K w0' G' w' a' S'.E S'.L V' own'→DecOk q a' S'→Kt a' w') :
  if Region.wanted o (yielded ops a.tmps) then o.wp P a w Kt Q else Kt (a.put o.dst undef) w:=by
 unfold stepL at h
 split at h
 ·rename_i S1 hg
  split at h
  ·rename_i f args ts ho
   split at h
   ·rename_i g ps hgp
    split at h
    ·rename_i cs pv E L hop
     have hcs:=putS_cs h
     rw [hcs] at hc
     obtain ⟨h1,h2,h3,h4,h5⟩:=guardS_spec hR hd hg (All.append.1 hc).1
     rw [h1,if_pos rfl]
     have hR1:RelV n K w0 G w a S1.E S1.L V own:=by rw [h2,h3];exact hR
     obtain ⟨vs,hv,hps⟩:=calleeA_spec hR1 hgp
     obtain ⟨hcall,hcalls⟩:=callF_spec hX hR1 hps hop (All.append.1 hc).2
     unfold Oper.wp
     rw [call_run hcall ho hv]
     refine hcalls.mono ?_
     rintro e w' ⟨v,w0',G',V',own',rfl,hk,hR',hv'⟩
     obtain ⟨g1,g2,_⟩:=putS_spec h hR' h4 hv'
     exact hK _ _ _ _ _ _ hk g1 g2
    ·cases h
   ·cases h
  ·rename_i T x y ho
   split at h
   ·rename_i r L1 ht hL
    split at h
    ·rename_i hr
     have hcs:=putS_cs h
     rw [hcs] at hc
     obtain ⟨h1,h2,h3,h4,h5⟩:=guardS_spec hR hd hg (All.append.1 hc).1
     rw [h1,if_pos rfl]
     have hR1:RelV n K w0 G w a S1.E S1.L V own:=by rw [h2,h3];exact hR
     obtain ⟨w1,hrun,hR2,r2,ht2,hk⟩:=store_spec hT hR1 hL
     rw [ht] at ht2;cases ht2
     obtain rfl:=Nat.eq_of_beq_eq_true hr
     unfold Oper.wp
     have:(execOp a.eval o).run P w = .ok .skip w1:=by simp [execOp,ho,hrun]
     rw [this]
     obtain ⟨g1,g2,_⟩:=putS_spec h hR2 h4 (v:=undef) trivial
     exact hK _ _ _ _ _ _ hk g1 g2
    ·cases h
   ·cases h
  ·cases h
 ·cases h
def srcOf:Nat→Heap→Option Nat
 | _,[]=>none
 | k,some A :: l=>match A.sm with
  | some true=>some k
  | _=>srcOf (k+1) l
 | k,none :: l=>srcOf (k+1) l
def firstF (tab:List TI) (ext:Ext) (wr:Bool) (n r0:Nat) (ops:Array Oper) (listed:Array Bool) (S:St):List Nat→Option (Nat×St)
 | []=>none
 | i :: r=>match nthO ops.toList i,Region.free .any ops listed i with
  | some o,true=>match stepF tab ext wr n r0 ops.toList S o with
   | some S'=>some (i,S')
   | none=>firstF tab ext wr n r0 ops listed S r
  | _,_=>firstF tab ext wr n r0 ops listed S r
def schedF (tab:List TI) (ext:Ext) (wr:Bool) (n r0:Nat) (ops:Array Oper):Nat→Array Bool→St→Option St
 | 0,_,_=>none
 | m+1,listed,S=>match Region.ready .any ops listed with
  | []=>none
  | i :: r=>match decOs ops.toList (i :: r) S with
   | none=>none
   | some S=>match hget S.L r0 with
    | none=>none
    | some _=>match firstF tab ext wr n r0 ops listed S (i :: r) with
     | some (j,S')=>schedF tab ext wr n r0 ops m (listed.setIfInBounds j true) S'
     | none=>match r,nthO ops.toList i with
      | [],some o=>match stepL tab ext n r0 ops.toList S o with
       | some S'=>schedS tab ext wr n ops m (listed.setIfInBounds i true) S'
       | none=>none
      | _,_=>none
theorem firstF_spec {tab:List TI} {ext:Ext} {wr:Bool} {r0:Nat} {ops:Array Oper} {listed:Array Bool} {S:St} {j:Nat} {S':St}:∀ {rs:List Nat},firstF tab ext wr n r0 ops listed S rs=some (j,S') →
  j∈rs∧∃ o,ops[j]? = some o∧Region.free .any ops listed j=true∧stepF tab ext wr n r0 ops.toList S o=some S'
 | [],h=>by cases h
 | i :: r,h=>by
  simp only [firstF] at h
  have rest:firstF tab ext wr n r0 ops listed S r=some (j,S')→j∈i :: r∧∃ o,ops[j]? = some o∧Region.free .any ops listed j=true∧stepF tab ext wr n r0 ops.toList S o=some S':=fun h=>by
   obtain ⟨h1,h2⟩:=firstF_spec h
   exact ⟨List.mem_cons_of_mem _ h1,h2⟩
  split at h
  ·rename_i o ho hf
   split at h
   ·rename_i S1 h1
    cases h
    rw [nthO_eq] at ho
    exact ⟨List.mem_cons_self .., o,by simpa using ho,hf,h1⟩
   ·exact rest h
  ·exact rest h
theorem schedF_cs {tab:List TI} {ext:Ext} {wr:Bool} {r0:Nat} {ops:Array Oper} {S':St}:∀ {m:Nat} {listed:Array Bool} {S:St},schedF tab ext wr n r0 ops m listed S=some S'→All S'.cs→All S.cs
 | 0,listed,S,h,hc=>by
  simp only [schedF] at h
  cases h
 | m+1,listed,S,h,hc=>by
  simp only [schedF] at h
  split at h
  ·cases h
  ·split at h
   ·cases h
   ·rename_i S1 hdec
    refine decOs_cs hdec ?_
    split at h
    ·cases h
    ·split at h
     ·rename_i j S2 hq
      obtain ⟨_,o,_,_,hst⟩:=firstF_spec hq
      exact stepF_cs hst (schedF_cs h hc)
     ·split at h
      ·split at h
       ·rename_i S2 hB
        exact stepL_cs hB (schedS_cs h hc)
       ·cases h
      ·cases h
theorem schedF_spec {tab:List TI} {ext:Ext} (hT:TabOk P tab) (hX:ExtOk P ext) {wr:Bool} {ops:Array Oper} {Q:Exit→Act→World→Prop} (hs:Region.noSelect ops=true) (hQ:∀ c a w,¬ Q (.panic c) a w) {S':St}
  (hc:All S'.cs) (hK:∀ a' w0' G' w' V' own',RelV n K w0' G' w' a' S'.E S'.L V' own'→DecOk q a' S'→Q .normal a' w') {r0:Nat}:∀ {m:Nat} {listed:Array Bool} {S:St} {a:Act} {w:World},
  RelV n K w0 G w a S.E S.L V own→DecOk q a S→Down ops listed→schedF tab ext wr n r0 ops m listed S=some S'→wpAnyK P ops Q (own r0) m listed a w
 | 0,listed,S,a,w,hR,hd,hD,h=>by
  simp only [schedF] at h
  cases h
 | m+1,listed,S,a,w,hR,hd,hD,h=>by
  simp only [schedF] at h
  split at h
  ·cases h
  ·rename_i i r hr
   split at h
   ·cases h
   ·rename_i S1 hdec
    split at h
    ·cases h
    ·rename_i A0 hA0
     split at h
     ·rename_i j S2 hq
      obtain ⟨hjr,o,ho,hf,hst⟩:=firstF_spec hq
      rw [← hr] at hjr
      have hc2:All S2.cs:=schedF_cs h hc
      have hc1:All S1.cs:=stepF_cs hst hc2
      obtain ⟨e1,e2,e3⟩:=decOs_spec hR hd hdec hc1
      have hR1:RelV n K w0 G w a S1.E S1.L V own:=by rw [e1,e2];exact hR
      obtain ⟨v,hy,g1,g2⟩:=stepF_quiet (ops:=ops) hT hX hR1 hA0 e3 hst hc2
      refine wpAnyK_first ho (Region.noSelect_spec hs) hQ m listed a w hD (Region.free_spec ho hf) hjr hy ?_
      exact schedF_spec hT hX hs hQ hc hK g1 g2 (hD.set hjr) h
     ·split at h
      ·rename_i o hno _
       rw [nthO_eq] at hno
       have ho:ops[i]? = some o:=by simpa using hno
       split at h
       ·rename_i S2 hB
        have hc2:All S2.cs:=schedS_cs h hc
        have hc1:All S1.cs:=stepL_cs hB hc2
        obtain ⟨e1,e2,e3⟩:=decOs_spec hR hd hdec hc1
        have hir:i∈Region.ready .any ops listed:=by rw [hr];simp
        refine fun w1 k=>⟨fun h0=>by (rw [hr] at h0;cases h0),fun j hj => ?_⟩
        have hji:j=i:=by rw [hr] at hj;simpa using hj
        subst hji
        have hR1:RelV n K w0 G w1 a S1.E S1.L V own:=by rw [e1,e2];exact hR.ext k
        unfold wpOp
        simp only [ho]
        have:=stepL_wp (Kt:=fun a' w'=>(barB ops listed j=true∨Kept (own r0) w1 w')∧wpAnyK P ops Q (own r0) m (listed.setIfInBounds j true) a' w') (Q:=Q) hT hX hR1 e3 hB hc2 (fun a' w0' G' w' V' own' hb hR' hd'=>⟨.inr hb,(schedS_spec hT hX hs hQ hc hK hR' hd' (hD.set hir) h).mono (by simp)⟩)
        split
        ·rename_i hw;rw [if_pos hw] at this;exact .inl this
        ·rename_i hw;rw [if_neg hw] at this;exact this
       ·cases h
      ·cases h
def firstT (tab:List TI) (wr:Bool) (n:Nat) (ops:Array Oper) (listed:Array Bool) (S:St):List Nat→Option (Nat×St)
 | []=>none
 | i :: r=>match nthO ops.toList i,Region.free .any ops listed i with
  | some o,true=>match stepT tab wr n ops.toList S o with
   | some S'=>some (i,S')
   | none=>firstT tab wr n ops listed S r
  | _,_=>firstT tab wr n ops listed S r
def schedT (tab:List TI) (ext:Ext) (wr:Bool) (n:Nat) (ops:Array Oper):Nat→Array Bool→St→Option St
 | 0,listed,S=>match Region.ready .any ops listed with
  | []=>some S
  | _=>none
 | m+1,listed,S=>match Region.ready .any ops listed with
  | []=>some S
  | i :: r=>match decOs ops.toList (i :: r) S with
   | none=>none
   | some S=>match firstT tab wr n ops listed S (i :: r) with
    | some (j,S')=>schedT tab ext wr n ops m (listed.setIfInBounds j true) S'
    | none=>match r,nthO ops.toList i with
     | [],some o=>match stepO tab ext wr n false ops.toList S o with
      | some S'=>schedT tab ext wr n ops m (listed.setIfInBounds i true) S'
      | none=>none
     | [j],some o=>match nthO ops.toList j with
      | some p=>match stepO tab ext wr n false ops.toList S o,stepO tab ext wr n false ops.toList ⟨S.path,S.dec,S.E,S.L,[],S.pins⟩ p with
       | some S1,some S2=>match schedT tab ext wr n ops m (listed.setIfInBounds i true) S1,schedT tab ext wr n ops m (listed.setIfInBounds j true) S2 with
        | some A,some B=>match normB n S.L.length A B with
         | some B'=>match eqNs A.pins B'.pins with
          | true=>some (joinS n A B')
          | false=>none
         | none=>none
        | _,_=>none
       | _,_=>none
      | none=>none
     | _,_=>none
theorem firstT_spec {tab:List TI} {wr:Bool} {ops:Array Oper} {listed:Array Bool} {S:St} {j:Nat} {S':St}:∀ {rs:List Nat},firstT tab wr n ops listed S rs=some (j,S') →
  j∈rs∧∃ o,ops[j]? = some o∧Region.free .any ops listed j=true∧stepT tab wr n ops.toList S o=some S'
 | [],h=>by cases h
 | i :: r,h=>by
  simp only [firstT] at h
  have rest:firstT tab wr n ops listed S r=some (j,S')→j∈i :: r∧∃ o,ops[j]? = some o∧Region.free .any ops listed j=true∧stepT tab wr n ops.toList S o=some S':=fun h=>by
   obtain ⟨h1,h2⟩:=firstT_spec h
   exact ⟨List.mem_cons_of_mem _ h1,h2⟩
  split at h
  ·rename_i o ho hf
   split at h
   ·rename_i S1 h1
    cases h
    rw [nthO_eq] at ho
    exact ⟨List.mem_cons_self .., o,by simpa using ho,hf,h1⟩
   ·exact rest h
  ·exact rest h
theorem stepT_cs {tab:List TI} {wr:Bool} {all:List Oper} {S S':St} {o:Oper} (h:stepT tab wr n all S o=some S') (hc:All S'.cs):All S.cs:=by
 unfold stepT at h
 split at h
 ·cases h
 ·rename_i S1 hg
  have hcs:=putS_cs h
  rw [hcs] at hc
  exact guardS_cs hg (All.append.1 hc).1
 ·rename_i S1 hg
  refine guardS_cs hg ?_
  split at h
  ·split at h
   ·rename_i d S2 hdec
    have hcs:=putS_cs h
    rw [hcs] at hc
    exact decideS_cs hdec (All.append.1 hc).1
   ·cases h
  ·split at h
   ·cases h
   ·split at h
    ·have hcs:=putS_cs h
     rw [hcs] at hc
     exact (All.append.1 hc).1
    ·cases h
theorem stepT_quiet {tab:List TI} (hT:TabOk P tab) {wr:Bool} {ops:Array Oper} {S S':St} {o:Oper} (hR:RelV n K w0 G w a S.E S.L V own) (hd:DecOk q a S)
  (h:stepT tab wr n ops.toList S o=some S') (hc:All S'.cs) :
  ∃ v,YieldsT P ops o v a∧RelV n K w0 G w (a.put o.dst v) S'.E S'.L V own∧DecOk q (a.put o.dst v) S':=by
 have hc0:=stepT_cs h hc
 unfold stepT at h
 split at h
 ·cases h
 ·rename_i S1 hg
  have hcs:=putS_cs h
  rw [hcs] at hc
  obtain ⟨h1,h2,h3,h4,h5⟩:=guardS_spec hR hd hg (All.append.1 hc).1
  have hR1:RelV n K w0 G w a S1.E S1.L V own:=by rw [h2,h3];exact hR
  obtain ⟨g1,g2,_⟩:=putS_spec (v:=undef) h hR1 h4 ⟨rfl,trivial⟩
  exact ⟨undef,.inr ⟨h1,rfl⟩,g1,g2⟩
 ·rename_i S1 hg
  have hc1:All S1.cs:=by
   split at h
   ·split at h
    ·rename_i d S2 hdec
     have hcs:=putS_cs h
     rw [hcs] at hc
     exact decideS_cs hdec (All.append.1 hc).1
    ·cases h
   ·split at h
    ·cases h
    ·split at h
     ·have hcs:=putS_cs h
      rw [hcs] at hc
      exact (All.append.1 hc).1
     ·cases h
  obtain ⟨h1,h2,h3,h4,h5⟩:=guardS_spec hR hd hg hc1
  have hR1:RelV n K w0 G w a S1.E S1.L V own:=by rw [h2,h3];exact hR
  split at h
  ·rename_i c x y ho
   split at h
   ·rename_i d S2 hdec
    have hcs:=putS_cs h
    rw [hcs] at hc
    obtain ⟨k1,k2,k3,k4,k5⟩:=decideS_spec hR1 h4 hdec (All.append.1 hc).1
    have hR2:RelV n K w0 G w a S2.E S2.L V own:=by rw [k2,k3];exact hR1
    have hv:RepP w0 G S2.L V (cond d (opnd S2.E x) (opnd S2.E y)) (if d then a.eval x else a.eval y):=by
     cases d
     ·exact hR2.opnd y
     ·exact hR2.opnd x
    obtain ⟨g1,g2,_⟩:=putS_spec h hR2 k4 hv
    exact ⟨_,.inl ⟨h1,fun w'=>pick_run ho k1 w'⟩,g1,g2⟩
   ·cases h
  ·split at h
   ·cases h
   ·rename_i hnl
    split at h
    ·rename_i cs pv hop
     have hcs:=putS_cs h
     rw [hcs] at hc
     obtain ⟨v,hv,hq⟩:=absQ_spec hT hR1 hop (All.append.1 hc).2
     obtain ⟨g1,g2,_⟩:=putS_spec h hR1 h4 hv
     exact ⟨v,.inl ⟨h1,fun w'=>hq w' fun hl=>by rw [hnl] at hl;cases hl⟩,g1,g2⟩
    ·cases h
theorem schedT_cs {tab:List TI} {ext:Ext} {wr:Bool} {ops:Array Oper} {S':St}:∀ {m:Nat} {listed:Array Bool} {S:St},schedT tab ext wr n ops m listed S=some S'→All S'.cs→All S.cs
 | 0,listed,S,h,hc=>by
  simp only [schedT] at h
  split at h
  ·cases h;exact hc
  ·cases h
 | m+1,listed,S,h,hc=>by
  simp only [schedT] at h
  split at h
  ·cases h;exact hc
  ·split at h
   ·cases h
   ·rename_i S1 hdec
    refine decOs_cs hdec ?_
    split at h
    ·rename_i j S2 hq
     obtain ⟨_,o,_,_,hst⟩:=firstT_spec hq
     exact stepT_cs hst (schedT_cs h hc)
    ·split at h
     ·split at h
      ·rename_i S2 hB
       exact stepO_cs hB (schedT_cs h hc)
      ·cases h
     ·split at h
      ·split at h
       ·rename_i S2 S3 hA hB
        split at h
        ·rename_i A B hA2 hB2
         split at h
         ·split at h
          ·cases h
           exact stepO_cs hA (schedT_cs hA2 (All.append.1 hc).1)
          ·cases h
         ·cases h
        ·cases h
       ·cases h
      ·cases h
     ·cases h
theorem schedT_spec {tab:List TI} {ext:Ext} (hT:TabOk P tab) (hX:ExtOk P ext) {wr:Bool} {ops:Array Oper} {Q:Exit→Act→World→Prop} (hs:Region.noSelect ops=true) (hQ:∀ c a w,¬ Q (.panic c) a w) {S':St}
  (hc:All S'.cs) (hK:∀ a' w0' G' w' V' own',RelV n K w0' G' w' a' S'.E S'.L V' own'→DecOk q a' S'→Q .normal a' w'):∀ {w0:World} {G:Nat→Prop} {m:Nat} {listed:Array Bool} {S:St} {a:Act} {w:World} {V:Nat→Value} {own:Nat→List Nat},
  RelV n K w0 G w a S.E S.L V own→DecOk q a S→Down ops listed→schedT tab ext wr n ops m listed S=some S'→wpAny P .any ops Q m listed a w
 | w0,G,0,listed,S,a,w,V,own,hR,hd,hD,h=>by
  simp only [schedT] at h
  split at h
  ·rename_i hr
   cases h
   exact ⟨hr,hK _ _ _ _ _ _ hR hd⟩
  ·cases h
 | w0,G,m+1,listed,S,a,w,V,own,hR,hd,hD,h=>by
  simp only [schedT] at h
  split at h
  ·rename_i hr
   cases h
   exact ⟨fun _=>hK _ _ _ _ _ _ hR hd,fun i hi=>by rw [hr] at hi;cases hi⟩
  ·rename_i i r hr
   split at h
   ·cases h
   ·rename_i S1 hdec
    split at h
    ·rename_i j S2 hq
     obtain ⟨hjr,o,ho,hf,hst⟩:=firstT_spec hq
     rw [← hr] at hjr
     have hc2:All S2.cs:=schedT_cs h hc
     have hc1:All S1.cs:=stepT_cs hst hc2
     obtain ⟨e1,e2,e3⟩:=decOs_spec hR hd hdec hc1
     have hR1:RelV n K w0 G w a S1.E S1.L V own:=by rw [e1,e2];exact hR
     obtain ⟨v,hy,g1,g2⟩:=stepT_quiet (ops:=ops) hT hR1 e3 hst hc2
     refine wpAny_firstT ho (Region.noSelect_spec hs) hQ m listed a w hD (Region.free_spec ho hf) hjr hy ?_
     exact schedT_spec hT hX hs hQ hc hK g1 g2 (hD.set hjr) h
    ·split at h
     ·rename_i o hno _
      rw [nthO_eq] at hno
      have ho:ops[i]? = some o:=by simpa using hno
      split at h
      ·rename_i S2 hB
       have hc2:All S2.cs:=schedT_cs h hc
       have hc1:All S1.cs:=stepO_cs hB hc2
       obtain ⟨e1,e2,e3⟩:=decOs_spec hR hd hdec hc1
       have hir:i∈Region.ready .any ops listed:=by rw [hr];simp
       refine ⟨fun h0=>by (rw [hr] at h0;cases h0),fun j hj => ?_⟩
       have hji:j=i:=by rw [hr] at hj;simpa using hj
       subst hji
       have hR1:RelV n K w0 G w a S1.E S1.L V own:=by rw [e1,e2];exact hR
       unfold wpOp
       simp only [ho]
       have:=stepO_wp (Kt:=wpAny P .any ops Q m (listed.setIfInBounds j true)) (Q:=Q) hT hX hR1 e3 hB hc2 (fun a' w0' G' w' V' own' hR' hd'=>schedT_spec hT hX hs hQ hc hK hR' hd' (hD.set hir) h)
       split
       ·rename_i hw;rw [if_pos hw] at this;exact .inl this
       ·rename_i hw;rw [if_neg hw] at this;exact this
      ·cases h
     ·rename_i j o hno _
      split at h
      ·rename_i p hnp
       rw [nthO_eq] at hno hnp
       have ho:ops[i]? = some o:=by simpa using hno
       have hp:ops[j]? = some p:=by simpa using hnp
       split at h
       ·rename_i S2 S3 hA hB
        split at h
        ·rename_i A B hA2 hB2
         split at h
         case h_2=>cases h
         rename_i B' hnB
         obtain ⟨nb1,nb2,nb3⟩:=normB_spec hnB
         split at h
         case h_2=>cases h
         rename_i hpn
         have hpn:=eqNs_spec hpn
         cases h
         have hcA:All A.cs:=(All.append.1 hc).1
         have hcB:All B.cs:=by rw [← nb1];exact (All.append.1 (All.append.1 hc).2).1
         have heq:(tabE A.E n [],A.L)=(tabE B'.E n [],B'.L):=(All.append.1 (All.append.1 hc).2).2.1
         have hc2:All S2.cs:=schedT_cs hA2 hcA
         have hc3:All S3.cs:=schedT_cs hB2 hcB
         have hc1:All S1.cs:=stepO_cs hA hc2
         obtain ⟨e1,e2,e3⟩:=decOs_spec hR hd hdec hc1
         have hR1:RelV n K w0 G w a S1.E S1.L V own:=by rw [e1,e2];exact hR
         have hKA:∀ a' w0' G' w' V' own',RelV n K w0' G' w' a' A.E A.L V' own'→DecOk q a' A→Q .normal a' w':=fun a' w0' G' w' V' own' hr' hd' =>
          hK a' w0' G' w' V' own' hr'.tab ⟨fun t d hl=>(by cases hl),hd'.2⟩
         have hKB:∀ a' w0' G' w' V' own',RelV n K w0' G' w' a' B.E B.L V' own'→DecOk q a' B→Q .normal a' w':=fun a' w0' G' w' V' own' hr' hd'=>by
          obtain ⟨V2,own2,hr2⟩:=nb3 hr'
          refine hK a' w0' G' w' V2 own2 ?_ ⟨fun t d hl=>(by cases hl),?_⟩
          ·have k1:tabE A.E n []=tabE B'.E n []:=congrArg Prod.fst heq
           have k2:A.L=B'.L:=congrArg Prod.snd heq
           show RelV n K w0' G' w' a' (tabE A.E n []) A.L V2 own2
           rw [k1,k2];exact hr2.tab
          ·show ∀ t∈A.pins,a'.tmps.getD t undef=q t
           rw [hpn,nb2];exact hd'.2
         have hir:i∈Region.ready .any ops listed:=by rw [hr];simp
         have hjr:j∈Region.ready .any ops listed:=by rw [hr];simp
         refine ⟨fun h0=>by (rw [hr] at h0;cases h0),fun k hk => ?_⟩
         have hkk:k=i∨k=j:=by rw [hr] at hk;simpa using hk
         rcases hkk with rfl | rfl
         ·unfold wpOp
          simp only [ho]
          have:=stepO_wp (Kt:=wpAny P .any ops Q m (listed.setIfInBounds k true)) (Q:=Q) hT hX hR1 e3 hA hc2 (fun a' w0' G' w' V' own' hR' hd'=>schedT_spec hT hX hs hQ hcA hKA hR' hd' (hD.set hir) hA2)
          split
          ·rename_i hw;rw [if_pos hw] at this;exact .inl this
          ·rename_i hw;rw [if_neg hw] at this;exact this
         ·unfold wpOp
          simp only [hp]
          have:=stepO_wp (Kt:=wpAny P .any ops Q m (listed.setIfInBounds k true)) (Q:=Q) (S:=⟨S1.path,S1.dec,S1.E,S1.L,[],S1.pins⟩) hT hX hR1 e3 hB hc3 (fun a' w0' G' w' V' own' hR' hd'=>schedT_spec hT hX hs hQ hcB hKB hR' hd' (hD.set hjr) hB2)
          split
          ·rename_i hw;rw [if_pos hw] at this;exact .inl this
          ·rename_i hw;rw [if_neg hw] at this;exact this
        ·cases h
       ·cases h
      ·cases h
     ·cases h
def storeOf (E:Env):List Oper→Option Nat
 | []=>none
 | o :: r=>match o.op with
  | .store _ x _=>match tgt (opnd E x) with
   | some k=>some k
   | none=>storeOf E r
  | _=>storeOf E r
def fO (tab:List TI) (ext:Ext) (wr:Bool) (n:Nat) (ops:Array Oper) (S:St):Option Nat→Option St
 | some r0=>schedF tab ext wr n r0 ops ops.size (Array.replicate ops.size false) S
 | none=>none
def regionS (tab:List TI) (ext:Ext) (wr:Bool) (n:Nat) (ops:Array Oper) (draw:Bool) (S:St):Option St :=
 match draw with
 | false=>stepsO tab ext wr n false ops.toList ops.toList S
 | true=>match Region.noSelect ops with
  | true=>match (match seqOk ops with
   | true=>seqS tab ext wr n ops 0 (Array.replicate ops.size false) ops.toList S
   | false=>schedS tab ext wr n ops ops.size (Array.replicate ops.size false) S) with
   | some S'=>some S'
   | none=>match fO tab ext wr n ops S (srcOf 0 S.L) with
    | some S'=>some S'
    | none=>match fO tab ext wr n ops S (storeOf S.E ops.toList) with
     | some S'=>some S'
     | none=>schedT tab ext wr n ops ops.size (Array.replicate ops.size false) S
  | false=>none
theorem fO_cs {tab:List TI} {ext:Ext} {wr:Bool} {ops:Array Oper} {S S':St} {o:Option Nat} (h:fO tab ext wr n ops S o=some S') (hc:All S'.cs):All S.cs:=by
 cases o with
 | none=>cases h
 | some r0=>exact schedF_cs h hc
theorem regionS_cs {tab:List TI} {ext:Ext} {wr:Bool} {ops:Array Oper} {draw:Bool} {S S':St} (h:regionS tab ext wr n ops draw S=some S') (hc:All S'.cs):All S.cs:=by
 unfold regionS at h
 split at h
 ·exact stepsO_cs h hc
 ·split at h
  ·split at h
   ·rename_i S1 h1
    cases h
    split at h1
    ·exact seqS_cs h1 hc
    ·exact schedS_cs h1 hc
   ·split at h
    ·rename_i h1
     cases h
     exact fO_cs h1 hc
    ·split at h
     ·rename_i h1
      cases h
      exact fO_cs h1 hc
     ·exact schedT_cs h hc
  ·cases h
theorem regionS_wp {tab:List TI} {ext:Ext} (hT:TabOk P tab) (hX:ExtOk P ext) (hm:P.follows .mixedOrders=true) {wr:Bool} {id:Nat} {ops:Array Oper} {draw:Bool} {Q:Exit→Act→World→Prop} (hQ:∀ c a w,¬ Q (.panic c) a w) {S S':St}
  (hR:RelV n K w0 G w a S.E S.L V own) (hd:DecOk q a S)
  (h:regionS tab ext wr n ops draw S=some S') (hc:All S'.cs) (hK:∀ a' w0' G' w' V' own',RelV n K w0' G' w' a' S'.E S'.L V' own'→DecOk q a' S'→Q .normal a' w'):(Code.region id ops draw).wp P Q a w:=by
 unfold regionS at h
 split at h
 ·exact wp_region_list (stepsO_wp hT hX hR hd h hc hK)
 ·split at h
  ·rename_i hs
   split at h
   ·rename_i S1 h1
    cases h
    refine wp_region_any hm (wpAny_of_K (F:=[]) _ _ _ _ ?_)
    split at h1
    ·rename_i hok
     have:=seqS_spec hT hX hs hQ hc hK hok (hR.ext (Kept.refl _ _).drew) hd (Down.start ops ops.size) ⟨by simp,fun k hk=>by rw [Array.getD_eq_getD_getElem?];simp [hk]⟩ (by simp) hok h1
     simpa using this
    ·exact schedS_spec hT hX hs hQ hc hK (hR.ext (Kept.refl _ _).drew) hd (Down.start ops _) h1
   ·have key:∀ o S1,fO tab ext wr n ops S o=some S1→S1=S'→(Code.region id ops true).wp P Q a w:=by
     intro o S1 h1 e
     subst e
     cases o with
     | none=>cases h1
     | some r0 =>
      refine wp_region_any hm (wpAny_of_K (F:=own r0) _ _ _ _ ?_)
      exact schedF_spec hT hX hs hQ hc hK (hR.ext (Kept.refl _ _).drew) hd (Down.start ops _) h1
    split at h
    ·rename_i h1
     cases h
     exact key _ _ h1 rfl
    ·split at h
     ·rename_i h1
      cases h
      exact key _ _ h1 rfl
     ·refine wp_region_any hm ?_
      exact schedT_spec hT hX hs hQ hc hK (hR.ext (Kept.refl _ _).drew) hd (Down.start ops _) h
  ·cases h
end
end Go.Am
namespace Go.Am
set_option linter.unusedVariables false
set_option linter.unusedSimpArgs false
def RunK (P:Program) (f:FuncId) (R:Ending→World→Prop) (k:List Item) (a:Act) (w:World):Prop :=
 ∀ (b:Frame) cs,b.fn=f→b.kind = .normal→∃ e w' fr,R e w'∧Comes P (lone (b.at a k) cs w) (lone fr cs w') e∧fr.fn=f∧fr.leaving P w' e
section
variable {P:Program} {f:FuncId} {R:Ending→World→Prop} {k k':List Item} {a a':Act} {w w':World}
theorem RunK.step (h:∀ (b:Frame) cs,step P (lone (b.at a k) cs w) = .next (lone (b.at a' k') cs w')) (hr:RunK P f R k' a' w'):RunK P f R k a w:=fun b cs hb hk=>by
 obtain ⟨e,w2,fr,h1,h2,h3,h4⟩:=hr b cs hb hk
 exact ⟨e,w2,fr,h1,Comes.of_steps (.one (h b cs)) h2,h3,h4⟩
theorem RunK.of_wp {c:Code} (h:c.wp P (fun e a' w'=>e = .normal∧RunK P f R k a' w') a w):RunK P f R (.code c :: k) a w:=fun b cs hb hk=>by
 obtain ⟨e,a',w',⟨rfl,hr⟩,harr⟩:=h b k cs
 obtain ⟨e,w2,fr,h1,h2,h3,h4⟩:=hr b cs hb hk
 exact ⟨e,w2,fr,h1,Comes.of_steps harr h2,h3,h4⟩
def FinK (P:Program) (f:FuncId) (R:Ending→World→Prop) (a:Act) (w:World):Prop :=
 a.defers=[]∧∃ fn v,P.funcs[f]? = some fn∧(results fn a.tmps).run P w = .ok v w∧R (.returned v) w
theorem RunK.nil (h:FinK P f R a w):RunK P f R [] a w:=fun b cs hb hk=>by
 obtain ⟨hd,fn,v,hf,hr,hR⟩:=h
 exact ⟨.returned v,w,_,hR,Steps.one step_end,hb,rfl,hd,hk,fn,by rw [show (b.at a []).fn=f from hb];exact hf,hr⟩
theorem RunK.ret (h:FinK P f R a w):RunK P f R (.code .ret :: k) a w:=fun b cs hb hk=>by
 obtain ⟨hd,fn,v,hf,hr,hR⟩:=h
 exact ⟨.returned v,w,_,hR,Steps.one step_ret,hb,rfl,hd,hk,fn,by rw [show (b.at a (.code .ret :: k)).fn=f from hb];exact hf,hr⟩
theorem calls_of_run {fn:Func} {c:Code} {args:Array Value} (hf:P.funcs[f]? = some fn) (hb:fn.body=some c)
  (h:RunK P f R [.code c] { tmps:=args++Array.replicate (fn.ntmps - args.size) undef,defers:=[] } w):Calls P f args w R:=by
 intro cs
 let b:Frame:={ (default:Frame) with fn:=f,kind := .normal }
 have henter:Frame.enter P f args .normal =
   b.at { tmps:=args++Array.replicate (fn.ntmps - args.size) undef,defers:=[] } [.code c]:=by
  simp [Frame.enter,Frame.at,hf,hb,b]
 rw [henter]
 exact h b cs rfl rfl
end
inductive OutS where
 | stop (k:List Item) (S:St)
 | fin (S:St)
def OutS.st:OutS→St
 | .stop _ S=>S
 | .fin S=>S
def decideO (S:St):Operand→Option (Bool×St)
 | .tmp t=>decideS S t
 | .const (.bool b)=>some (b,S)
 | _=>none
def runA (tab:List TI) (ext:Ext) (wr:Bool) (n:Nat) (stops:List Nat):Nat→Bool→List Item→St→Option OutS
 | 0,_,_,_=>none
 | _+1,_,[],S=>some (.fin S)
 | m+1,first,.inBlock _ :: k,S=>runA tab ext wr n stops m first k S
 | m+1,first,.inLoop c :: k,S=>match memB 1000007 stops with
  | true=>runA tab ext wr n stops m first (.code c :: .inLoop c :: k) S
  | false=>some (.stop (.code c :: .inLoop c :: k) S)
 | m+1,first,.code c :: k,S=>match c with
  | .skip=>runA tab ext wr n stops m first k S
  | .label _=>runA tab ext wr n stops m first k S
  | .seq x y=>runA tab ext wr n stops m first (.code x :: .code y :: k) S
  | .block id c=>runA tab ext wr n stops m first (.code c :: .inBlock id :: k) S
  | .loop c=>match memB 1000007 stops with
   | true=>runA tab ext wr n stops m first (.code c :: .inLoop c :: k) S
   | false=>some (.stop (.code c :: .inLoop c :: k) S)
  | .exit id=>match exitTo id k with
   | some k'=>runA tab ext wr n stops m first k' S
   | none=>none
  | .ret=>some (.fin S)
  | .cond c x y=>match decideO S c with
   | some (d,S')=>runA tab ext wr n stops m false (.code (cond d x y) :: k) S'
   | none=>none
  | .region id ops draw=>match !first&&memB id stops with
   | true=>some (.stop (.code (.region id ops draw) :: k) S)
   | false=>match regionS tab ext wr n ops draw S with
    | some S'=>runA tab ext wr n stops m false k S'
    | none=>none
  | _=>none
 | _+1,_,_,_=>none
section
variable {P:Program} {n:Nat} {q:Nat→Value} {K:Ctx} {G:Nat→Prop} {w0 w:World} {a:Act} {V:Nat→Value} {own:Nat→List Nat} {f:FuncId} {R:Ending→World→Prop}
def AtV (P:Program) (f:FuncId) (R:Ending→World→Prop) (n:Nat) (K:Ctx) (q:Nat→Value) (ps:List Nat) (k:List Item) (E:Env) (L:Heap):Prop :=
 ∀ a w w0 G V own,RelV n K w0 G w a E L V own→(∀ t∈ps,a.tmps.getD t undef=q t)→RunK P f R k a w
def FinV (P:Program) (f:FuncId) (R:Ending→World→Prop) (n:Nat) (K:Ctx) (q:Nat→Value) (ps:List Nat) (E:Env) (L:Heap):Prop :=
 ∀ a w w0 G V own,RelV n K w0 G w a E L V own→(∀ t∈ps,a.tmps.getD t undef=q t)→FinK P f R a w
def OutOk (P:Program) (f:FuncId) (R:Ending→World→Prop) (n:Nat) (K:Ctx) (q:Nat→Value):OutS→Prop
 | .stop k S=>AtV P f R n K q S.pins k S.E S.L
 | .fin S=>FinV P f R n K q S.pins S.E S.L
theorem decideO_spec {S S':St} {x:Operand} {d:Bool} (hR:RelV n K w0 G w a S.E S.L V own) (hd:DecOk q a S) (h:decideO S x=some (d,S')) (hc:All S'.cs) :
  a.eval x = .bool d∧S'.E=S.E∧S'.L=S.L∧DecOk q a S'∧All S.cs:=by
 unfold decideO at h
 split at h
 ·exact decideS_spec hR hd h hc
 ·cases h;exact ⟨rfl,rfl,rfl,hd,hc⟩
 ·cases h
theorem decideO_cs {S S':St} {x:Operand} {d:Bool} (h:decideO S x=some (d,S')) (hc:All S'.cs):All S.cs:=by
 unfold decideO at h
 split at h
 ·exact decideS_cs h hc
 ·cases h;exact hc
 ·cases h
theorem runA_cs {tab:List TI} {ext:Ext} {wr:Bool} {stops:List Nat}:∀ {m:Nat} {first:Bool} {k:List Item} {S:St} {out:OutS},runA tab ext wr n stops m first k S=some out→All out.st.cs→All S.cs:=by
 intro m
 induction m with
 | zero=>intro first k S out h;cases h
 | succ m ih =>
  intro first k S out h hc
  match k,h with
  | [],h=>cases h;exact hc
  | .inBlock _ :: k,h=>simp only [runA] at h;exact ih h hc
  | .inLoop c :: k,h =>
   simp only [runA] at h
   split at h
   ·exact ih h hc
   ·cases h;exact hc
  | .code c :: k,h =>
   cases c with
   | skip=>simp only [runA] at h;exact ih h hc
   | label _=>simp only [runA] at h;exact ih h hc
   | seq x y=>simp only [runA] at h;exact ih h hc
   | block id c=>simp only [runA] at h;exact ih h hc
   | loop c =>
    simp only [runA] at h
    split at h
    ·exact ih h hc
    ·cases h;exact hc
   | exit id =>
    simp only [runA] at h
    split at h
    ·exact ih h hc
    ·cases h
   | ret=>cases h;exact hc
   | cond c x y =>
    simp only [runA] at h
    split at h
    ·rename_i hd;exact decideO_cs hd (ih h hc)
    ·cases h
   | region id ops draw =>
    simp only [runA] at h
    split at h
    ·cases h;exact hc
    ·split at h
     ·rename_i hr;exact regionS_cs hr (ih h hc)
     ·cases h
   | _=>cases h
theorem runA_run {tab:List TI} {ext:Ext} (hT:TabOk P tab) (hX:ExtOk P ext) (hm:P.follows .mixedOrders=true) {wr:Bool} {stops:List Nat}:∀ {w0:World} {G:Nat→Prop} {m:Nat} {first:Bool} {k:List Item} {S:St} {out:OutS} {a:Act} {w:World} {V:Nat→Value} {own:Nat→List Nat},
  runA tab ext wr n stops m first k S=some out→All out.st.cs→RelV n K w0 G w a S.E S.L V own→DecOk q a S→OutOk P f R n K q out→RunK P f R k a w:=by
 intro w0 G m
 induction m generalizing w0 G with
 | zero=>intro first k S out a w V own h;cases h
 | succ m ih =>
  intro first k S out a w V own h hc hR hd ho
  match k,h with
  | [],h=>cases h;exact RunK.nil (ho _ _ _ _ _ _ hR hd.2)
  | .inBlock _ :: k,h=>simp only [runA] at h;exact RunK.step (fun b cs=>step_inBlock) (ih h hc hR hd ho)
  | .inLoop c :: k,h =>
   simp only [runA] at h
   split at h
   ·exact RunK.step (fun b cs=>step_inLoop) (ih h hc hR hd ho)
   ·cases h;exact RunK.step (fun b cs=>step_inLoop) (ho _ _ _ _ _ _ hR hd.2)
  | .code c :: k,h =>
   cases c with
   | skip=>simp only [runA] at h;exact RunK.step (fun b cs=>step_skip) (ih h hc hR hd ho)
   | label _=>simp only [runA] at h;exact RunK.step (fun b cs=>step_label) (ih h hc hR hd ho)
   | seq x y=>simp only [runA] at h;exact RunK.step (fun b cs=>step_seq) (ih h hc hR hd ho)
   | block id c=>simp only [runA] at h;exact RunK.step (fun b cs=>step_block) (ih h hc hR hd ho)
   | loop c =>
    simp only [runA] at h
    split at h
    ·exact RunK.step (fun b cs=>step_loop) (ih h hc hR hd ho)
    ·cases h;exact RunK.step (fun b cs=>step_loop) (ho _ _ _ _ _ _ hR hd.2)
   | exit id =>
    simp only [runA] at h
    split at h
    ·rename_i k' he;exact RunK.step (fun b cs=>step_exit he) (ih h hc hR hd ho)
    ·cases h
   | ret=>cases h;exact RunK.ret (ho _ _ _ _ _ _ hR hd.2)
   | cond c x y =>
    simp only [runA] at h
    split at h
    ·rename_i d S' hdec
     obtain ⟨h1,h2,h3,h4,h5⟩:=decideO_spec hR hd hdec (runA_cs h hc)
     refine RunK.step (fun b cs=>step_cond h1) ?_
     have:=ih h hc (by rw [h2,h3];exact hR) h4 ho
     cases d <;> exact this
    ·cases h
   | region id ops draw =>
    simp only [runA] at h
    split at h
    ·cases h;exact ho _ _ _ _ _ _ hR hd.2
    ·split at h
     ·rename_i S' hr
      refine RunK.of_wp (regionS_wp hT hX hm (fun c a w hh=>by cases hh.1) hR hd hr (runA_cs h hc) fun a' w0' G' w' V' own' hR' hd'=>⟨rfl,ih h hc hR' hd' ho⟩)
     ·cases h
   | _=>cases h
end
end Go.Am
