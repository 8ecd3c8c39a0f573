/- Several texts in one: the functions that this law reaches, and their laws. -/
import Derived.Test.YtmfkgabclbbdhaaGreatDoorZ3A
import Derived.Test.YtmfkgabclbbdhaaGreatDoorZ3B
import Derived.Test.YtmfkgabclbbdhaaGreatDoorZ3C
import Derived.Test.YtmfkgabclbbdhaaGreatDoorZ3D
import Derived.Test.YtmfkgabclbbdhaaGreatDoorZ3E
set_option linter.unusedVariables false
set_option linter.unusedSimpArgs false
set_option maxRecDepth 100000
namespace Go.Proofs.YtmfkgabclbbdhaaGreatDoor
open Go Go.Am Go.Proofs
noncomputable section
def ext124:Ext:=[]
theorem ext124Ok:ExtOk Tryz.prog ext124:=trivial
def b124:Code:=bodyOf Tryz.f124
theorem hb124:Tryz.f124.body=some b124:=by kernel_rfl
def sig124:List AT:=[AT.v YA9,AT.v YA9]
def tys124:List Ty:=[.bool]
def kds124:List RK:=[]
def oks124:List AT:=owns sig124
def P124 (x0:Int×Int×Unit) (x1:Int×Int×Unit):Prop:=True
def g124_0 (x0:Int×Int×Unit) (x1:Int×Int×Unit):Bool:=(if (x0.1 != x1.1)=true then false else (if (x0.2.1 != x1.2.1)=true then false else true))
theorem at124 (x0:Int×Int×Unit) (x1:Int×Int×Unit) (h:P124 x0 x1) (K:Ctx) (q:Nat→Value):AtV Tryz.prog 124 (PostR kds124 oks124 [⟨.bool,g124_0 x0 x1⟩] [] [] q K) 15 K q [] [.code b124] (entE 0 0 sig124 (x0,x1,())) (entL sig124 (x0,x1,())):=by
 unfold P124 at h
 unfold g124_0
 by_cases b0:(x0.1 != x1.1)=true
 ·try simp only [if_pos b0] at h ⊢
  exact AtV.ret Tryz.func124 tabOk ext124Ok mixed false [] tys124 [true] (a1 b0 trivial) (by kernel_rfl)
 ·try simp only [if_neg b0] at h ⊢
  replace b0:=bf_ b0
  by_cases b1:(x0.2.1 != x1.2.1)=true
  ·try simp only [if_pos b1] at h ⊢
   exact AtV.ret Tryz.func124 tabOk ext124Ok mixed false [] tys124 [false,true] (a1 b0 (a1 b1 trivial)) (by kernel_rfl)
  ·try simp only [if_neg b1] at h ⊢
   replace b1:=bf_ b1
   exact AtV.ret Tryz.func124 tabOk ext124Ok mixed false [] tys124 [false,false] (a1 b0 (a1 b1 trivial)) (by kernel_rfl)
def S124:Am.Spec:={ sig:=sig124,pre:=fun ⟨x0,x1,_⟩=>P124 x0 x1,res:=fun ⟨x0,x1,_⟩=>[⟨.bool,g124_0 x0 x1⟩],kds:=kds124 }
theorem con124:Contract Tryz.prog 124 S124:=contract_of Tryz.func124 hb124 (bl_ (by kernel_rfl)) (fun ⟨x0,x1,_⟩ h _ K q=>at124 x0 x1 h K q)
theorem eqd124 (x y:TyB4):g124_0 x y=true↔x=y:=by
 obtain ⟨a,b,u⟩:=x
 obtain ⟨a',b',u'⟩:=y
 unfold g124_0
 simp only [Bool.not_eq_true',bytes_ne,bne_iff_ne,ne_eq,ite_not]
 by_cases h0:a=a'
 ·by_cases h1:b=b'
  ·simp [h0,h1]
  ·simp [h0,h1]
 ·simp [h0]
end
noncomputable section
def ext78:Ext:=[(124,S124)]
theorem ext78Ok:ExtOk Tryz.prog ext78:=⟨⟨ca124,con124⟩,trivial⟩
def b78:Code:=bodyOf Tryz.f78
theorem hb78:Tryz.f78.body=some b78:=by kernel_rfl
def sig78:List AT:=[AT.v (.sl YA9),AT.v (.sl YA9)]
def tys78:List Ty:=[.bool]
def kds78:List RK:=[]
def oks78:List AT:=owns sig78
def E78_4 (v5:Int) (x0:List TyB4) (x1:List TyB4):Env:=[(0,.a (.sl YA9 x0)),(1,.a (.sl YA9 x1)),(5,.a (.val (.int .i64 v5)))]
def L78_4 (v5:Int) (x0:List TyB4) (x1:List TyB4):Heap:=[]
mutual
def R78:Nat→List TyB4→List TyB4→List Dyn→Prop
 | 0,_,_,_=>False
 | n+1,x0,x1,ds=>(if ((x0.length:Int) != (x1.length:Int))=true then (ds=[Dyn.mk .bool false]) else (R78_4 n (0) (x0) (x1) ds))
def R78_4:Nat→Int→List TyB4→List TyB4→List Dyn→Prop
 | 0,_,_,_,_=>False
 | n+1,v5,x0,x1,ds=>(if (decide (v5<(x0.length:Int)))=true then ((0≤v5)∧(v5<(x0.length:Int))∧((0≤v5)∧(v5<(x1.length:Int))∧(if (!g124_0 (List.getD x0 (Int.toNat v5) (0,0,())) (List.getD x1 (Int.toNat v5) (0,0,())))=true then (ds=[Dyn.mk .bool false]) else ((InR .i64 (v5+1))∧(R78_4 n (v5+1) (x0) (x1) ds))))) else (ds=[Dyn.mk .bool true]))
end
theorem snd78:∀ n,(∀ (x0:List TyB4) (x1:List TyB4) ds,R78 n x0 x1 ds→∀ K q,AtV Tryz.prog 78 (PostR kds78 oks78 ds [] [] q K) 27 K q [] [.code b78] (entE 0 0 sig78 (x0,x1,())) (entL sig78 (x0,x1,())))∧(∀ (v5:Int) (x0:List TyB4) (x1:List TyB4) ds,R78_4 n v5 x0 x1 ds→∀ K q,AtV Tryz.prog 78 (PostR kds78 oks78 ds [] [] q K) 27 K q [] (cutAt b78 4) (E78_4 v5 x0 x1) (L78_4 v5 x0 x1)):=by
 intro n
 induction n with
 | zero=>exact ⟨fun _ _ _ h=>by simp only [R78] at h,fun _ _ _ _ h=>by simp only [R78_4] at h⟩
 | succ n ih =>
 obtain ⟨ih,ih4⟩:=ih
 refine ⟨?_,?_⟩
 ·intro x0 x1 ds h K q
  rw [R78] at h
  by_cases b0:((x0.length:Int) != (x1.length:Int))=true
  ·rw [if_pos b0] at h
   subst h
   exact AtV.ret Tryz.func78 tabOk ext78Ok mixed false [] tys78 [true] (a1 b0 trivial) (by kernel_rfl)
  ·rw [if_neg b0] at h
   replace b0:=bf_ b0
   exact AtV.go tabOk ext78Ok mixed false [] [] [0,1,5] [] [false] (a1 b0 trivial) (ih4 _ _ _ _ h K q) (by kernel_rfl)
 ·intro v5 x0 x1 ds h K q
  rw [R78_4] at h
  by_cases b0:(decide (v5<(x0.length:Int)))=true
  ·rw [if_pos b0] at h
   obtain ⟨s0,s1,h⟩:=h
   obtain ⟨s2,s3,h⟩:=h
   by_cases b1:(!g124_0 (List.getD x0 (Int.toNat v5) (0,0,())) (List.getD x1 (Int.toNat v5) (0,0,())))=true
   ·rw [if_pos b1] at h
    subst h
    exact AtV.ret Tryz.func78 tabOk ext78Ok mixed false [] tys78 [true,true] (a1 b0 (a1 s0 (a1 s1 (a1 s2 (a1 s3 (a1 trivial (a1 b1 trivial))))))) (by kernel_rfl)
   ·rw [if_neg b1] at h
    replace b1:=bf_ b1
    obtain ⟨s4,h⟩:=h
    exact AtV.go tabOk ext78Ok mixed false [] [] [0,1,5] [] [true,false] (a1 b0 (a1 s0 (a1 s1 (a1 s2 (a1 s3 (a1 trivial (a1 b1 (a1 s4 trivial)))))))) (ih4 _ _ _ _ h K q) (by kernel_rfl)
  ·rw [if_neg b0] at h
   replace b0:=bf_ b0
   subst h
   exact AtV.ret Tryz.func78 tabOk ext78Ok mixed false [] tys78 [false] (a1 b0 trivial) (by kernel_rfl)
theorem eq78 (x0 x1:List TyB4) (hl:x0.length=x1.length) (hm:x0.length≤maxLen):∀ k i:Nat,i+k=x0.length→R78_4 (k+1) (i:Int) x0 x1 [⟨.bool,decide (x0.drop i=x1.drop i)⟩]:=by
 intro k
 induction k with
 | zero =>
  intro i hi
  have h1:¬ (i:Int)<(x0.length:Int):=by omega
  rw [R78_4,if_neg (by simpa using h1),drop_end x0 i (by omega),drop_end x1 i (by omega)]
  simp
 | succ k ih =>
  intro i hi
  have h1:(i:Int)<(x0.length:Int):=by omega
  rw [R78_4,if_pos (by simpa using h1)]
  refine ⟨by omega,h1,by omega,by omega,?_⟩
  simp only [Int.toNat_natCast]
  rw [drop_get x0 i ((0:Int),(0:Int),()) (by omega),drop_get x1 i ((0:Int),(0:Int),()) (by omega)]
  by_cases he:x0.getD i ((0:Int),(0:Int),())=x1.getD i ((0:Int),(0:Int),())
  ·have hd:=(eqd124 _ _).2 he
   rw [if_neg (by rw [hd];simp)]
   refine ⟨inR_up hm (by omega),?_⟩
   have:=ih (i+1) (by omega)
   simp only [he,List.cons.injEq,true_and]
   exact this
  ·have hd:g124_0 (x0.getD i ((0:Int),(0:Int),())) (x1.getD i ((0:Int),(0:Int),()))=false :=
    bf_ fun h=>he ((eqd124 _ _).1 h)
   rw [if_pos (by rw [hd];rfl)]
   simp only [he,List.cons.injEq,false_and,decide_false]
def g78_0 (x0 x1:List TyB4):Bool:=decide (x0=x1)
def P78 (x0 x1:List TyB4):Prop:=True
def S78:Am.Spec:={ sig:=sig78,pre:=fun ⟨x0,x1,_⟩=>P78 x0 x1,res:=fun ⟨x0,x1,_⟩=>[⟨.bool,g78_0 x0 x1⟩] }
theorem con78:Contract Tryz.prog 78 S78:=contract_of Tryz.func78 hb78 (bl_ (by kernel_rfl)) (fun ⟨x0,x1,_⟩ h hwf K q=>by
 refine (snd78 (x0.length+2)).1 x0 x1 _ ?_ K q
 show R78 (x0.length+1+1) x0 x1 [⟨.bool,decide (x0=x1)⟩]
 rw [R78]
 by_cases hl:x0.length=x1.length
 ·rw [if_neg (by simp [hl])]
  have:=eq78 x0 x1 hl hwf.1.1 x0.length 0 (by omega)
  simpa using this
 ·rw [if_pos (by simp;omega)]
  have:x0≠x1:=fun h=>hl (by rw [h])
  simp [this])
end
noncomputable section
def ext33:Ext:=[(78,S78)]
theorem ext33Ok:ExtOk Tryz.prog ext33:=⟨⟨ca78,con78⟩,trivial⟩
def b33:Code:=bodyOf Tryz.f33
theorem hb33:Tryz.f33.body=some b33:=by kernel_rfl
def sig33:List AT:=[AT.v YA2,AT.v YA2]
def tys33:List Ty:=[.bool]
def kds33:List RK:=[]
def oks33:List AT:=owns sig33
def P33 (x0:List TyB4×Int×Int×Unit) (x1:List TyB4×Int×Int×Unit):Prop:=True
def g33_0 (x0:List TyB4×Int×Int×Unit) (x1:List TyB4×Int×Int×Unit):Bool:=(if (!g78_0 x0.1 x1.1)=true then false else (if (x0.2.1 != x1.2.1)=true then false else (if (x0.2.2.1 != x1.2.2.1)=true then false else true)))
theorem at33 (x0:List TyB4×Int×Int×Unit) (x1:List TyB4×Int×Int×Unit) (h:P33 x0 x1) (K:Ctx) (q:Nat→Value):AtV Tryz.prog 33 (PostR kds33 oks33 [⟨.bool,g33_0 x0 x1⟩] [] [] q K) 21 K q [] [.code b33] (entE 0 0 sig33 (x0,x1,())) (entL sig33 (x0,x1,())):=by
 unfold P33 at h
 unfold g33_0
 by_cases b0:(!g78_0 x0.1 x1.1)=true
 ·try simp only [if_pos b0] at h ⊢
  exact AtV.ret Tryz.func33 tabOk ext33Ok mixed false [] tys33 [true] (a1 trivial (a1 b0 trivial)) (by kernel_rfl)
 ·try simp only [if_neg b0] at h ⊢
  replace b0:=bf_ b0
  by_cases b1:(x0.2.1 != x1.2.1)=true
  ·try simp only [if_pos b1] at h ⊢
   exact AtV.ret Tryz.func33 tabOk ext33Ok mixed false [] tys33 [false,true] (a1 trivial (a1 b0 (a1 b1 trivial))) (by kernel_rfl)
  ·try simp only [if_neg b1] at h ⊢
   replace b1:=bf_ b1
   by_cases b2:(x0.2.2.1 != x1.2.2.1)=true
   ·try simp only [if_pos b2] at h ⊢
    exact AtV.ret Tryz.func33 tabOk ext33Ok mixed false [] tys33 [false,false,true] (a1 trivial (a1 b0 (a1 b1 (a1 b2 trivial)))) (by kernel_rfl)
   ·try simp only [if_neg b2] at h ⊢
    replace b2:=bf_ b2
    exact AtV.ret Tryz.func33 tabOk ext33Ok mixed false [] tys33 [false,false,false] (a1 trivial (a1 b0 (a1 b1 (a1 b2 trivial)))) (by kernel_rfl)
def S33:Am.Spec:={ sig:=sig33,pre:=fun ⟨x0,x1,_⟩=>P33 x0 x1,res:=fun ⟨x0,x1,_⟩=>[⟨.bool,g33_0 x0 x1⟩],kds:=kds33 }
theorem con33:Contract Tryz.prog 33 S33:=contract_of Tryz.func33 hb33 (bl_ (by kernel_rfl)) (fun ⟨x0,x1,_⟩ h _ K q=>at33 x0 x1 h K q)
end
noncomputable section
def ext34:Ext:=[]
theorem ext34Ok:ExtOk Tryz.prog ext34:=trivial
def b34:Code:=bodyOf Tryz.f34
theorem hb34:Tryz.f34.body=some b34:=by kernel_rfl
def sig34:List AT:=[AT.v YA9,AT.v YA9]
def tys34:List Ty:=[.bool]
def kds34:List RK:=[]
def oks34:List AT:=owns sig34
def P34 (x0:Int×Int×Unit) (x1:Int×Int×Unit):Prop:=True
def g34_0 (x0:Int×Int×Unit) (x1:Int×Int×Unit):Bool:=(if (x0.1 != x1.1)=true then false else (if (x0.2.1 != x1.2.1)=true then false else true))
theorem at34 (x0:Int×Int×Unit) (x1:Int×Int×Unit) (h:P34 x0 x1) (K:Ctx) (q:Nat→Value):AtV Tryz.prog 34 (PostR kds34 oks34 [⟨.bool,g34_0 x0 x1⟩] [] [] q K) 15 K q [] [.code b34] (entE 0 0 sig34 (x0,x1,())) (entL sig34 (x0,x1,())):=by
 unfold P34 at h
 unfold g34_0
 by_cases b0:(x0.1 != x1.1)=true
 ·try simp only [if_pos b0] at h ⊢
  exact AtV.ret Tryz.func34 tabOk ext34Ok mixed false [] tys34 [true] (a1 b0 trivial) (by kernel_rfl)
 ·try simp only [if_neg b0] at h ⊢
  replace b0:=bf_ b0
  by_cases b1:(x0.2.1 != x1.2.1)=true
  ·try simp only [if_pos b1] at h ⊢
   exact AtV.ret Tryz.func34 tabOk ext34Ok mixed false [] tys34 [false,true] (a1 b0 (a1 b1 trivial)) (by kernel_rfl)
  ·try simp only [if_neg b1] at h ⊢
   replace b1:=bf_ b1
   exact AtV.ret Tryz.func34 tabOk ext34Ok mixed false [] tys34 [false,false] (a1 b0 (a1 b1 trivial)) (by kernel_rfl)
def S34:Am.Spec:={ sig:=sig34,pre:=fun ⟨x0,x1,_⟩=>P34 x0 x1,res:=fun ⟨x0,x1,_⟩=>[⟨.bool,g34_0 x0 x1⟩],kds:=kds34 }
theorem con34:Contract Tryz.prog 34 S34:=contract_of Tryz.func34 hb34 (bl_ (by kernel_rfl)) (fun ⟨x0,x1,_⟩ h _ K q=>at34 x0 x1 h K q)
end
noncomputable section
def ext35:Ext:=[]
theorem ext35Ok:ExtOk Tryz.prog ext35:=trivial
def b35:Code:=bodyOf Tryz.f35
theorem hb35:Tryz.f35.body=some b35:=by kernel_rfl
def sig35:List AT:=[AT.v YA4,AT.v YA4]
def tys35:List Ty:=[.bool]
def kds35:List RK:=[]
def oks35:List AT:=owns sig35
def P35 (x0:Int×Int×Int×Int×Unit) (x1:Int×Int×Int×Int×Unit):Prop:=True
def g35_0 (x0:Int×Int×Int×Int×Unit) (x1:Int×Int×Int×Int×Unit):Bool:=(if (x0.1 != x1.1)=true then false else (if (x0.2.1 != x1.2.1)=true then false else (if (x0.2.2.1 != x1.2.2.1)=true then false else (if (x0.2.2.2.1 != x1.2.2.2.1)=true then false else true))))
theorem at35 (x0:Int×Int×Int×Int×Unit) (x1:Int×Int×Int×Int×Unit) (h:P35 x0 x1) (K:Ctx) (q:Nat→Value):AtV Tryz.prog 35 (PostR kds35 oks35 [⟨.bool,g35_0 x0 x1⟩] [] [] q K) 25 K q [] [.code b35] (entE 0 0 sig35 (x0,x1,())) (entL sig35 (x0,x1,())):=by
 unfold P35 at h
 unfold g35_0
 by_cases b0:(x0.1 != x1.1)=true
 ·try simp only [if_pos b0] at h ⊢
  exact AtV.ret Tryz.func35 tabOk ext35Ok mixed false [] tys35 [true] (a1 b0 trivial) (by kernel_rfl)
 ·try simp only [if_neg b0] at h ⊢
  replace b0:=bf_ b0
  by_cases b1:(x0.2.1 != x1.2.1)=true
  ·try simp only [if_pos b1] at h ⊢
   exact AtV.ret Tryz.func35 tabOk ext35Ok mixed false [] tys35 [false,true] (a1 b0 (a1 b1 trivial)) (by kernel_rfl)
  ·try simp only [if_neg b1] at h ⊢
   replace b1:=bf_ b1
   by_cases b2:(x0.2.2.1 != x1.2.2.1)=true
   ·try simp only [if_pos b2] at h ⊢
    exact AtV.ret Tryz.func35 tabOk ext35Ok mixed false [] tys35 [false,false,true] (a1 b0 (a1 b1 (a1 b2 trivial))) (by kernel_rfl)
   ·try simp only [if_neg b2] at h ⊢
    replace b2:=bf_ b2
    by_cases b3:(x0.2.2.2.1 != x1.2.2.2.1)=true
    ·try simp only [if_pos b3] at h ⊢
     exact AtV.ret Tryz.func35 tabOk ext35Ok mixed false [] tys35 [false,false,false,true] (a1 b0 (a1 b1 (a1 b2 (a1 b3 trivial)))) (by kernel_rfl)
    ·try simp only [if_neg b3] at h ⊢
     replace b3:=bf_ b3
     exact AtV.ret Tryz.func35 tabOk ext35Ok mixed false [] tys35 [false,false,false,false] (a1 b0 (a1 b1 (a1 b2 (a1 b3 trivial)))) (by kernel_rfl)
def S35:Am.Spec:={ sig:=sig35,pre:=fun ⟨x0,x1,_⟩=>P35 x0 x1,res:=fun ⟨x0,x1,_⟩=>[⟨.bool,g35_0 x0 x1⟩],kds:=kds35 }
theorem con35:Contract Tryz.prog 35 S35:=contract_of Tryz.func35 hb35 (bl_ (by kernel_rfl)) (fun ⟨x0,x1,_⟩ h _ K q=>at35 x0 x1 h K q)
end
noncomputable section
def ext79:Ext:=[]
theorem ext79Ok:ExtOk Tryz.prog ext79:=trivial
def b79:Code:=bodyOf Tryz.f79
theorem hb79:Tryz.f79.body=some b79:=by kernel_rfl
def sig79:List AT:=[AT.v YA5,AT.v YA5]
def tys79:List Ty:=[.bool]
def kds79:List RK:=[]
def oks79:List AT:=owns sig79
def P79 (x0:ByteArray×Int×Int×Int×Unit) (x1:ByteArray×Int×Int×Int×Unit):Prop:=True
def g79_0 (x0:ByteArray×Int×Int×Int×Unit) (x1:ByteArray×Int×Int×Int×Unit):Bool:=(if (!ByteArray.toList x0.1==ByteArray.toList x1.1)=true then false else (if (x0.2.1 != x1.2.1)=true then false else (if (x0.2.2.1 != x1.2.2.1)=true then false else (if (x0.2.2.2.1 != x1.2.2.2.1)=true then false else true))))
theorem at79 (x0:ByteArray×Int×Int×Int×Unit) (x1:ByteArray×Int×Int×Int×Unit) (h:P79 x0 x1) (K:Ctx) (q:Nat→Value):AtV Tryz.prog 79 (PostR kds79 oks79 [⟨.bool,g79_0 x0 x1⟩] [] [] q K) 25 K q [] [.code b79] (entE 0 0 sig79 (x0,x1,())) (entL sig79 (x0,x1,())):=by
 unfold P79 at h
 unfold g79_0
 by_cases b0:(!ByteArray.toList x0.1==ByteArray.toList x1.1)=true
 ·try simp only [if_pos b0] at h ⊢
  exact AtV.ret Tryz.func79 tabOk ext79Ok mixed false [] tys79 [true] (a1 b0 trivial) (by kernel_rfl)
 ·try simp only [if_neg b0] at h ⊢
  replace b0:=bf_ b0
  by_cases b1:(x0.2.1 != x1.2.1)=true
  ·try simp only [if_pos b1] at h ⊢
   exact AtV.ret Tryz.func79 tabOk ext79Ok mixed false [] tys79 [false,true] (a1 b0 (a1 b1 trivial)) (by kernel_rfl)
  ·try simp only [if_neg b1] at h ⊢
   replace b1:=bf_ b1
   by_cases b2:(x0.2.2.1 != x1.2.2.1)=true
   ·try simp only [if_pos b2] at h ⊢
    exact AtV.ret Tryz.func79 tabOk ext79Ok mixed false [] tys79 [false,false,true] (a1 b0 (a1 b1 (a1 b2 trivial))) (by kernel_rfl)
   ·try simp only [if_neg b2] at h ⊢
    replace b2:=bf_ b2
    by_cases b3:(x0.2.2.2.1 != x1.2.2.2.1)=true
    ·try simp only [if_pos b3] at h ⊢
     exact AtV.ret Tryz.func79 tabOk ext79Ok mixed false [] tys79 [false,false,false,true] (a1 b0 (a1 b1 (a1 b2 (a1 b3 trivial)))) (by kernel_rfl)
    ·try simp only [if_neg b3] at h ⊢
     replace b3:=bf_ b3
     exact AtV.ret Tryz.func79 tabOk ext79Ok mixed false [] tys79 [false,false,false,false] (a1 b0 (a1 b1 (a1 b2 (a1 b3 trivial)))) (by kernel_rfl)
def S79:Am.Spec:={ sig:=sig79,pre:=fun ⟨x0,x1,_⟩=>P79 x0 x1,res:=fun ⟨x0,x1,_⟩=>[⟨.bool,g79_0 x0 x1⟩],kds:=kds79 }
theorem con79:Contract Tryz.prog 79 S79:=contract_of Tryz.func79 hb79 (bl_ (by kernel_rfl)) (fun ⟨x0,x1,_⟩ h _ K q=>at79 x0 x1 h K q)
theorem eqd79 (x y:TyB1):g79_0 x y=true↔x=y:=by
 obtain ⟨a,b,c,d,u⟩:=x
 obtain ⟨a',b',c',d',u'⟩:=y
 unfold g79_0
 simp only [Bool.not_eq_true',bytes_ne,bne_iff_ne,ne_eq,ite_not]
 by_cases h0:a=a'
 ·by_cases h1:b=b'
  ·by_cases h2:c=c'
   ·by_cases h3:d=d'
    ·simp [h0,h1,h2,h3]
    ·simp [h0,h1,h2,h3]
   ·simp [h0,h1,h2]
  ·simp [h0,h1]
 ·simp [h0]
end
noncomputable section
def ext36:Ext:=[(79,S79)]
theorem ext36Ok:ExtOk Tryz.prog ext36:=⟨⟨ca79,con79⟩,trivial⟩
def b36:Code:=bodyOf Tryz.f36
theorem hb36:Tryz.f36.body=some b36:=by kernel_rfl
def sig36:List AT:=[AT.v (.sl YA5),AT.v (.sl YA5)]
def tys36:List Ty:=[.bool]
def kds36:List RK:=[]
def oks36:List AT:=owns sig36
def E36_4 (v5:Int) (x0:List TyB1) (x1:List TyB1):Env:=[(0,.a (.sl YA5 x0)),(1,.a (.sl YA5 x1)),(5,.a (.val (.int .i64 v5)))]
def L36_4 (v5:Int) (x0:List TyB1) (x1:List TyB1):Heap:=[]
mutual
def R36:Nat→List TyB1→List TyB1→List Dyn→Prop
 | 0,_,_,_=>False
 | n+1,x0,x1,ds=>(if ((x0.length:Int) != (x1.length:Int))=true then (ds=[Dyn.mk .bool false]) else (R36_4 n (0) (x0) (x1) ds))
def R36_4:Nat→Int→List TyB1→List TyB1→List Dyn→Prop
 | 0,_,_,_,_=>False
 | n+1,v5,x0,x1,ds=>(if (decide (v5<(x0.length:Int)))=true then ((0≤v5)∧(v5<(x0.length:Int))∧((0≤v5)∧(v5<(x1.length:Int))∧(if (!g79_0 (List.getD x0 (Int.toNat v5) (ByteArray.empty,0,0,0,())) (List.getD x1 (Int.toNat v5) (ByteArray.empty,0,0,0,())))=true then (ds=[Dyn.mk .bool false]) else ((InR .i64 (v5+1))∧(R36_4 n (v5+1) (x0) (x1) ds))))) else (ds=[Dyn.mk .bool true]))
end
theorem snd36:∀ n,(∀ (x0:List TyB1) (x1:List TyB1) ds,R36 n x0 x1 ds→∀ K q,AtV Tryz.prog 36 (PostR kds36 oks36 ds [] [] q K) 27 K q [] [.code b36] (entE 0 0 sig36 (x0,x1,())) (entL sig36 (x0,x1,())))∧(∀ (v5:Int) (x0:List TyB1) (x1:List TyB1) ds,R36_4 n v5 x0 x1 ds→∀ K q,AtV Tryz.prog 36 (PostR kds36 oks36 ds [] [] q K) 27 K q [] (cutAt b36 4) (E36_4 v5 x0 x1) (L36_4 v5 x0 x1)):=by
 intro n
 induction n with
 | zero=>exact ⟨fun _ _ _ h=>by simp only [R36] at h,fun _ _ _ _ h=>by simp only [R36_4] at h⟩
 | succ n ih =>
 obtain ⟨ih,ih4⟩:=ih
 refine ⟨?_,?_⟩
 ·intro x0 x1 ds h K q
  rw [R36] at h
  by_cases b0:((x0.length:Int) != (x1.length:Int))=true
  ·rw [if_pos b0] at h
   subst h
   exact AtV.ret Tryz.func36 tabOk ext36Ok mixed false [] tys36 [true] (a1 b0 trivial) (by kernel_rfl)
  ·rw [if_neg b0] at h
   replace b0:=bf_ b0
   exact AtV.go tabOk ext36Ok mixed false [] [] [0,1,5] [] [false] (a1 b0 trivial) (ih4 _ _ _ _ h K q) (by kernel_rfl)
 ·intro v5 x0 x1 ds h K q
  rw [R36_4] at h
  by_cases b0:(decide (v5<(x0.length:Int)))=true
  ·rw [if_pos b0] at h
   obtain ⟨s0,s1,h⟩:=h
   obtain ⟨s2,s3,h⟩:=h
   by_cases b1:(!g79_0 (List.getD x0 (Int.toNat v5) (ByteArray.empty,0,0,0,())) (List.getD x1 (Int.toNat v5) (ByteArray.empty,0,0,0,())))=true
   ·rw [if_pos b1] at h
    subst h
    exact AtV.ret Tryz.func36 tabOk ext36Ok mixed false [] tys36 [true,true] (a1 b0 (a1 s0 (a1 s1 (a1 s2 (a1 s3 (a1 trivial (a1 b1 trivial))))))) (by kernel_rfl)
   ·rw [if_neg b1] at h
    replace b1:=bf_ b1
    obtain ⟨s4,h⟩:=h
    exact AtV.go tabOk ext36Ok mixed false [] [] [0,1,5] [] [true,false] (a1 b0 (a1 s0 (a1 s1 (a1 s2 (a1 s3 (a1 trivial (a1 b1 (a1 s4 trivial)))))))) (ih4 _ _ _ _ h K q) (by kernel_rfl)
  ·rw [if_neg b0] at h
   replace b0:=bf_ b0
   subst h
   exact AtV.ret Tryz.func36 tabOk ext36Ok mixed false [] tys36 [false] (a1 b0 trivial) (by kernel_rfl)
theorem eq36 (x0 x1:List TyB1) (hl:x0.length=x1.length) (hm:x0.length≤maxLen):∀ k i:Nat,i+k=x0.length→R36_4 (k+1) (i:Int) x0 x1 [⟨.bool,decide (x0.drop i=x1.drop i)⟩]:=by
 intro k
 induction k with
 | zero =>
  intro i hi
  have h1:¬ (i:Int)<(x0.length:Int):=by omega
  rw [R36_4,if_neg (by simpa using h1),drop_end x0 i (by omega),drop_end x1 i (by omega)]
  simp
 | succ k ih =>
  intro i hi
  have h1:(i:Int)<(x0.length:Int):=by omega
  rw [R36_4,if_pos (by simpa using h1)]
  refine ⟨by omega,h1,by omega,by omega,?_⟩
  simp only [Int.toNat_natCast]
  rw [drop_get x0 i (ByteArray.empty,(0:Int),(0:Int),(0:Int),()) (by omega),drop_get x1 i (ByteArray.empty,(0:Int),(0:Int),(0:Int),()) (by omega)]
  by_cases he:x0.getD i (ByteArray.empty,(0:Int),(0:Int),(0:Int),())=x1.getD i (ByteArray.empty,(0:Int),(0:Int),(0:Int),())
  ·have hd:=(eqd79 _ _).2 he
   rw [if_neg (by rw [hd];simp)]
   refine ⟨inR_up hm (by omega),?_⟩
   have:=ih (i+1) (by omega)
   simp only [he,List.cons.injEq,true_and]
   exact this
  ·have hd:g79_0 (x0.getD i (ByteArray.empty,(0:Int),(0:Int),(0:Int),())) (x1.getD i (ByteArray.empty,(0:Int),(0:Int),(0:Int),()))=false :=
    bf_ fun h=>he ((eqd79 _ _).1 h)
   rw [if_pos (by rw [hd];rfl)]
   simp only [he,List.cons.injEq,false_and,decide_false]
def g36_0 (x0 x1:List TyB1):Bool:=decide (x0=x1)
def P36 (x0 x1:List TyB1):Prop:=True
def S36:Am.Spec:={ sig:=sig36,pre:=fun ⟨x0,x1,_⟩=>P36 x0 x1,res:=fun ⟨x0,x1,_⟩=>[⟨.bool,g36_0 x0 x1⟩] }
theorem con36:Contract Tryz.prog 36 S36:=contract_of Tryz.func36 hb36 (bl_ (by kernel_rfl)) (fun ⟨x0,x1,_⟩ h hwf K q=>by
 refine (snd36 (x0.length+2)).1 x0 x1 _ ?_ K q
 show R36 (x0.length+1+1) x0 x1 [⟨.bool,decide (x0=x1)⟩]
 rw [R36]
 by_cases hl:x0.length=x1.length
 ·rw [if_neg (by simp [hl])]
  have:=eq36 x0 x1 hl hwf.1.1 x0.length 0 (by omega)
  simpa using this
 ·rw [if_pos (by simp;omega)]
  have:x0≠x1:=fun h=>hl (by rw [h])
  simp [this])
end
noncomputable section
def ext37:Ext:=[]
theorem ext37Ok:ExtOk Tryz.prog ext37:=trivial
def b37:Code:=bodyOf Tryz.f37
theorem hb37:Tryz.f37.body=some b37:=by kernel_rfl
def sig37:List AT:=[AT.v YA7,AT.v YA7]
def tys37:List Ty:=[.bool]
def kds37:List RK:=[]
def oks37:List AT:=owns sig37
def P37 (x0:Int×Int×Int×Unit) (x1:Int×Int×Int×Unit):Prop:=True
def g37_0 (x0:Int×Int×Int×Unit) (x1:Int×Int×Int×Unit):Bool:=(if (x0.1 != x1.1)=true then false else (if (x0.2.1 != x1.2.1)=true then false else (if (x0.2.2.1 != x1.2.2.1)=true then false else true)))
theorem at37 (x0:Int×Int×Int×Unit) (x1:Int×Int×Int×Unit) (h:P37 x0 x1) (K:Ctx) (q:Nat→Value):AtV Tryz.prog 37 (PostR kds37 oks37 [⟨.bool,g37_0 x0 x1⟩] [] [] q K) 20 K q [] [.code b37] (entE 0 0 sig37 (x0,x1,())) (entL sig37 (x0,x1,())):=by
 unfold P37 at h
 unfold g37_0
 by_cases b0:(x0.1 != x1.1)=true
 ·try simp only [if_pos b0] at h ⊢
  exact AtV.ret Tryz.func37 tabOk ext37Ok mixed false [] tys37 [true] (a1 b0 trivial) (by kernel_rfl)
 ·try simp only [if_neg b0] at h ⊢
  replace b0:=bf_ b0
  by_cases b1:(x0.2.1 != x1.2.1)=true
  ·try simp only [if_pos b1] at h ⊢
   exact AtV.ret Tryz.func37 tabOk ext37Ok mixed false [] tys37 [false,true] (a1 b0 (a1 b1 trivial)) (by kernel_rfl)
  ·try simp only [if_neg b1] at h ⊢
   replace b1:=bf_ b1
   by_cases b2:(x0.2.2.1 != x1.2.2.1)=true
   ·try simp only [if_pos b2] at h ⊢
    exact AtV.ret Tryz.func37 tabOk ext37Ok mixed false [] tys37 [false,false,true] (a1 b0 (a1 b1 (a1 b2 trivial))) (by kernel_rfl)
   ·try simp only [if_neg b2] at h ⊢
    replace b2:=bf_ b2
    exact AtV.ret Tryz.func37 tabOk ext37Ok mixed false [] tys37 [false,false,false] (a1 b0 (a1 b1 (a1 b2 trivial))) (by kernel_rfl)
def S37:Am.Spec:={ sig:=sig37,pre:=fun ⟨x0,x1,_⟩=>P37 x0 x1,res:=fun ⟨x0,x1,_⟩=>[⟨.bool,g37_0 x0 x1⟩],kds:=kds37 }
theorem con37:Contract Tryz.prog 37 S37:=contract_of Tryz.func37 hb37 (bl_ (by kernel_rfl)) (fun ⟨x0,x1,_⟩ h _ K q=>at37 x0 x1 h K q)
end
noncomputable section
def ext80:Ext:=[]
theorem ext80Ok:ExtOk Tryz.prog ext80:=trivial
def b80:Code:=bodyOf Tryz.f80
theorem hb80:Tryz.f80.body=some b80:=by kernel_rfl
def sig80:List AT:=[AT.v YA3,AT.v YA3]
def tys80:List Ty:=[.bool]
def kds80:List RK:=[]
def oks80:List AT:=owns sig80
def P80 (x0:ByteArray×Int×Int×Int×Int×Unit) (x1:ByteArray×Int×Int×Int×Int×Unit):Prop:=True
def g80_0 (x0:ByteArray×Int×Int×Int×Int×Unit) (x1:ByteArray×Int×Int×Int×Int×Unit):Bool:=(if (!ByteArray.toList x0.1==ByteArray.toList x1.1)=true then false else (if (x0.2.1 != x1.2.1)=true then false else (if (x0.2.2.1 != x1.2.2.1)=true then false else (if (x0.2.2.2.1 != x1.2.2.2.1)=true then false else (if (x0.2.2.2.2.1 != x1.2.2.2.2.1)=true then false else true)))))
theorem at80 (x0:ByteArray×Int×Int×Int×Int×Unit) (x1:ByteArray×Int×Int×Int×Int×Unit) (h:P80 x0 x1) (K:Ctx) (q:Nat→Value):AtV Tryz.prog 80 (PostR kds80 oks80 [⟨.bool,g80_0 x0 x1⟩] [] [] q K) 30 K q [] [.code b80] (entE 0 0 sig80 (x0,x1,())) (entL sig80 (x0,x1,())):=by
 unfold P80 at h
 unfold g80_0
 by_cases b0:(!ByteArray.toList x0.1==ByteArray.toList x1.1)=true
 ·try simp only [if_pos b0] at h ⊢
  exact AtV.ret Tryz.func80 tabOk ext80Ok mixed false [] tys80 [true] (a1 b0 trivial) (by kernel_rfl)
 ·try simp only [if_neg b0] at h ⊢
  replace b0:=bf_ b0
  by_cases b1:(x0.2.1 != x1.2.1)=true
  ·try simp only [if_pos b1] at h ⊢
   exact AtV.ret Tryz.func80 tabOk ext80Ok mixed false [] tys80 [false,true] (a1 b0 (a1 b1 trivial)) (by kernel_rfl)
  ·try simp only [if_neg b1] at h ⊢
   replace b1:=bf_ b1
   by_cases b2:(x0.2.2.1 != x1.2.2.1)=true
   ·try simp only [if_pos b2] at h ⊢
    exact AtV.ret Tryz.func80 tabOk ext80Ok mixed false [] tys80 [false,false,true] (a1 b0 (a1 b1 (a1 b2 trivial))) (by kernel_rfl)
   ·try simp only [if_neg b2] at h ⊢
    replace b2:=bf_ b2
    by_cases b3:(x0.2.2.2.1 != x1.2.2.2.1)=true
    ·try simp only [if_pos b3] at h ⊢
     exact AtV.ret Tryz.func80 tabOk ext80Ok mixed false [] tys80 [false,false,false,true] (a1 b0 (a1 b1 (a1 b2 (a1 b3 trivial)))) (by kernel_rfl)
    ·try simp only [if_neg b3] at h ⊢
     replace b3:=bf_ b3
     by_cases b4:(x0.2.2.2.2.1 != x1.2.2.2.2.1)=true
     ·try simp only [if_pos b4] at h ⊢
      exact AtV.ret Tryz.func80 tabOk ext80Ok mixed false [] tys80 [false,false,false,false,true] (a1 b0 (a1 b1 (a1 b2 (a1 b3 (a1 b4 trivial))))) (by kernel_rfl)
     ·try simp only [if_neg b4] at h ⊢
      replace b4:=bf_ b4
      exact AtV.ret Tryz.func80 tabOk ext80Ok mixed false [] tys80 [false,false,false,false,false] (a1 b0 (a1 b1 (a1 b2 (a1 b3 (a1 b4 trivial))))) (by kernel_rfl)
def S80:Am.Spec:={ sig:=sig80,pre:=fun ⟨x0,x1,_⟩=>P80 x0 x1,res:=fun ⟨x0,x1,_⟩=>[⟨.bool,g80_0 x0 x1⟩],kds:=kds80 }
theorem con80:Contract Tryz.prog 80 S80:=contract_of Tryz.func80 hb80 (bl_ (by kernel_rfl)) (fun ⟨x0,x1,_⟩ h _ K q=>at80 x0 x1 h K q)
theorem eqd80 (x y:TyB0):g80_0 x y=true↔x=y:=by
 obtain ⟨a,b,c,d,e,u⟩:=x
 obtain ⟨a',b',c',d',e',u'⟩:=y
 unfold g80_0
 simp only [Bool.not_eq_true',bytes_ne,bne_iff_ne,ne_eq,ite_not]
 by_cases h0:a=a'
 ·by_cases h1:b=b'
  ·by_cases h2:c=c'
   ·by_cases h3:d=d'
    ·by_cases h4:e=e'
     ·simp [h0,h1,h2,h3,h4]
     ·simp [h0,h1,h2,h3,h4]
    ·simp [h0,h1,h2,h3]
   ·simp [h0,h1,h2]
  ·simp [h0,h1]
 ·simp [h0]
end
noncomputable section
def ext38:Ext:=[(80,S80)]
theorem ext38Ok:ExtOk Tryz.prog ext38:=⟨⟨ca80,con80⟩,trivial⟩
def b38:Code:=bodyOf Tryz.f38
theorem hb38:Tryz.f38.body=some b38:=by kernel_rfl
def sig38:List AT:=[AT.v (.sl YA3),AT.v (.sl YA3)]
def tys38:List Ty:=[.bool]
def kds38:List RK:=[]
def oks38:List AT:=owns sig38
def E38_4 (v5:Int) (x0:List TyB0) (x1:List TyB0):Env:=[(0,.a (.sl YA3 x0)),(1,.a (.sl YA3 x1)),(5,.a (.val (.int .i64 v5)))]
def L38_4 (v5:Int) (x0:List TyB0) (x1:List TyB0):Heap:=[]
mutual
def R38:Nat→List TyB0→List TyB0→List Dyn→Prop
 | 0,_,_,_=>False
 | n+1,x0,x1,ds=>(if ((x0.length:Int) != (x1.length:Int))=true then (ds=[Dyn.mk .bool false]) else (R38_4 n (0) (x0) (x1) ds))
def R38_4:Nat→Int→List TyB0→List TyB0→List Dyn→Prop
 | 0,_,_,_,_=>False
 | n+1,v5,x0,x1,ds=>(if (decide (v5<(x0.length:Int)))=true then ((0≤v5)∧(v5<(x0.length:Int))∧((0≤v5)∧(v5<(x1.length:Int))∧(if (!g80_0 (List.getD x0 (Int.toNat v5) (ByteArray.empty,0,0,0,0,())) (List.getD x1 (Int.toNat v5) (ByteArray.empty,0,0,0,0,())))=true then (ds=[Dyn.mk .bool false]) else ((InR .i64 (v5+1))∧(R38_4 n (v5+1) (x0) (x1) ds))))) else (ds=[Dyn.mk .bool true]))
end
theorem snd38:∀ n,(∀ (x0:List TyB0) (x1:List TyB0) ds,R38 n x0 x1 ds→∀ K q,AtV Tryz.prog 38 (PostR kds38 oks38 ds [] [] q K) 27 K q [] [.code b38] (entE 0 0 sig38 (x0,x1,())) (entL sig38 (x0,x1,())))∧(∀ (v5:Int) (x0:List TyB0) (x1:List TyB0) ds,R38_4 n v5 x0 x1 ds→∀ K q,AtV Tryz.prog 38 (PostR kds38 oks38 ds [] [] q K) 27 K q [] (cutAt b38 4) (E38_4 v5 x0 x1) (L38_4 v5 x0 x1)):=by
 intro n
 induction n with
 | zero=>exact ⟨fun _ _ _ h=>by simp only [R38] at h,fun _ _ _ _ h=>by simp only [R38_4] at h⟩
 | succ n ih =>
 obtain ⟨ih,ih4⟩:=ih
 refine ⟨?_,?_⟩
 ·intro x0 x1 ds h K q
  rw [R38] at h
  by_cases b0:((x0.length:Int) != (x1.length:Int))=true
  ·rw [if_pos b0] at h
   subst h
   exact AtV.ret Tryz.func38 tabOk ext38Ok mixed false [] tys38 [true] (a1 b0 trivial) (by kernel_rfl)
  ·rw [if_neg b0] at h
   replace b0:=bf_ b0
   exact AtV.go tabOk ext38Ok mixed false [] [] [0,1,5] [] [false] (a1 b0 trivial) (ih4 _ _ _ _ h K q) (by kernel_rfl)
 ·intro v5 x0 x1 ds h K q
  rw [R38_4] at h
  by_cases b0:(decide (v5<(x0.length:Int)))=true
  ·rw [if_pos b0] at h
   obtain ⟨s0,s1,h⟩:=h
   obtain ⟨s2,s3,h⟩:=h
   by_cases b1:(!g80_0 (List.getD x0 (Int.toNat v5) (ByteArray.empty,0,0,0,0,())) (List.getD x1 (Int.toNat v5) (ByteArray.empty,0,0,0,0,())))=true
   ·rw [if_pos b1] at h
    subst h
    exact AtV.ret Tryz.func38 tabOk ext38Ok mixed false [] tys38 [true,true] (a1 b0 (a1 s0 (a1 s1 (a1 s2 (a1 s3 (a1 trivial (a1 b1 trivial))))))) (by kernel_rfl)
   ·rw [if_neg b1] at h
    replace b1:=bf_ b1
    obtain ⟨s4,h⟩:=h
    exact AtV.go tabOk ext38Ok mixed false [] [] [0,1,5] [] [true,false] (a1 b0 (a1 s0 (a1 s1 (a1 s2 (a1 s3 (a1 trivial (a1 b1 (a1 s4 trivial)))))))) (ih4 _ _ _ _ h K q) (by kernel_rfl)
  ·rw [if_neg b0] at h
   replace b0:=bf_ b0
   subst h
   exact AtV.ret Tryz.func38 tabOk ext38Ok mixed false [] tys38 [false] (a1 b0 trivial) (by kernel_rfl)
theorem eq38 (x0 x1:List TyB0) (hl:x0.length=x1.length) (hm:x0.length≤maxLen):∀ k i:Nat,i+k=x0.length→R38_4 (k+1) (i:Int) x0 x1 [⟨.bool,decide (x0.drop i=x1.drop i)⟩]:=by
 intro k
 induction k with
 | zero =>
  intro i hi
  have h1:¬ (i:Int)<(x0.length:Int):=by omega
  rw [R38_4,if_neg (by simpa using h1),drop_end x0 i (by omega),drop_end x1 i (by omega)]
  simp
 | succ k ih =>
  intro i hi
  have h1:(i:Int)<(x0.length:Int):=by omega
  rw [R38_4,if_pos (by simpa using h1)]
  refine ⟨by omega,h1,by omega,by omega,?_⟩
  simp only [Int.toNat_natCast]
  rw [drop_get x0 i (ByteArray.empty,(0:Int),(0:Int),(0:Int),(0:Int),()) (by omega),drop_get x1 i (ByteArray.empty,(0:Int),(0:Int),(0:Int),(0:Int),()) (by omega)]
  by_cases he:x0.getD i (ByteArray.empty,(0:Int),(0:Int),(0:Int),(0:Int),())=x1.getD i (ByteArray.empty,(0:Int),(0:Int),(0:Int),(0:Int),())
  ·have hd:=(eqd80 _ _).2 he
   rw [if_neg (by rw [hd];simp)]
   refine ⟨inR_up hm (by omega),?_⟩
   have:=ih (i+1) (by omega)
   simp only [he,List.cons.injEq,true_and]
   exact this
  ·have hd:g80_0 (x0.getD i (ByteArray.empty,(0:Int),(0:Int),(0:Int),(0:Int),())) (x1.getD i (ByteArray.empty,(0:Int),(0:Int),(0:Int),(0:Int),()))=false :=
    bf_ fun h=>he ((eqd80 _ _).1 h)
   rw [if_pos (by rw [hd];rfl)]
   simp only [he,List.cons.injEq,false_and,decide_false]
def g38_0 (x0 x1:List TyB0):Bool:=decide (x0=x1)
def P38 (x0 x1:List TyB0):Prop:=True
def S38:Am.Spec:={ sig:=sig38,pre:=fun ⟨x0,x1,_⟩=>P38 x0 x1,res:=fun ⟨x0,x1,_⟩=>[⟨.bool,g38_0 x0 x1⟩] }
theorem con38:Contract Tryz.prog 38 S38:=contract_of Tryz.func38 hb38 (bl_ (by kernel_rfl)) (fun ⟨x0,x1,_⟩ h hwf K q=>by
 refine (snd38 (x0.length+2)).1 x0 x1 _ ?_ K q
 show R38 (x0.length+1+1) x0 x1 [⟨.bool,decide (x0=x1)⟩]
 rw [R38]
 by_cases hl:x0.length=x1.length
 ·rw [if_neg (by simp [hl])]
  have:=eq38 x0 x1 hl hwf.1.1 x0.length 0 (by omega)
  simpa using this
 ·rw [if_pos (by simp;omega)]
  have:x0≠x1:=fun h=>hl (by rw [h])
  simp [this])
end
noncomputable section
def ext81:Ext:=[]
theorem ext81Ok:ExtOk Tryz.prog ext81:=trivial
def b81:Code:=bodyOf Tryz.f81
theorem hb81:Tryz.f81.body=some b81:=by kernel_rfl
def sig81:List AT:=[AT.v YA9,AT.v YA9]
def tys81:List Ty:=[.bool]
def kds81:List RK:=[]
def oks81:List AT:=owns sig81
def P81 (x0:Int×Int×Unit) (x1:Int×Int×Unit):Prop:=True
def g81_0 (x0:Int×Int×Unit) (x1:Int×Int×Unit):Bool:=(if (x0.1 != x1.1)=true then false else (if (x0.2.1 != x1.2.1)=true then false else true))
theorem at81 (x0:Int×Int×Unit) (x1:Int×Int×Unit) (h:P81 x0 x1) (K:Ctx) (q:Nat→Value):AtV Tryz.prog 81 (PostR kds81 oks81 [⟨.bool,g81_0 x0 x1⟩] [] [] q K) 15 K q [] [.code b81] (entE 0 0 sig81 (x0,x1,())) (entL sig81 (x0,x1,())):=by
 unfold P81 at h
 unfold g81_0
 by_cases b0:(x0.1 != x1.1)=true
 ·try simp only [if_pos b0] at h ⊢
  exact AtV.ret Tryz.func81 tabOk ext81Ok mixed false [] tys81 [true] (a1 b0 trivial) (by kernel_rfl)
 ·try simp only [if_neg b0] at h ⊢
  replace b0:=bf_ b0
  by_cases b1:(x0.2.1 != x1.2.1)=true
  ·try simp only [if_pos b1] at h ⊢
   exact AtV.ret Tryz.func81 tabOk ext81Ok mixed false [] tys81 [false,true] (a1 b0 (a1 b1 trivial)) (by kernel_rfl)
  ·try simp only [if_neg b1] at h ⊢
   replace b1:=bf_ b1
   exact AtV.ret Tryz.func81 tabOk ext81Ok mixed false [] tys81 [false,false] (a1 b0 (a1 b1 trivial)) (by kernel_rfl)
def S81:Am.Spec:={ sig:=sig81,pre:=fun ⟨x0,x1,_⟩=>P81 x0 x1,res:=fun ⟨x0,x1,_⟩=>[⟨.bool,g81_0 x0 x1⟩],kds:=kds81 }
theorem con81:Contract Tryz.prog 81 S81:=contract_of Tryz.func81 hb81 (bl_ (by kernel_rfl)) (fun ⟨x0,x1,_⟩ h _ K q=>at81 x0 x1 h K q)
theorem eqd81 (x y:TyB4):g81_0 x y=true↔x=y:=by
 obtain ⟨a,b,u⟩:=x
 obtain ⟨a',b',u'⟩:=y
 unfold g81_0
 simp only [Bool.not_eq_true',bytes_ne,bne_iff_ne,ne_eq,ite_not]
 by_cases h0:a=a'
 ·by_cases h1:b=b'
  ·simp [h0,h1]
  ·simp [h0,h1]
 ·simp [h0]
end
noncomputable section
def ext39:Ext:=[(81,S81)]
theorem ext39Ok:ExtOk Tryz.prog ext39:=⟨⟨ca81,con81⟩,trivial⟩
def b39:Code:=bodyOf Tryz.f39
theorem hb39:Tryz.f39.body=some b39:=by kernel_rfl
def sig39:List AT:=[AT.v (.sl YA9),AT.v (.sl YA9)]
def tys39:List Ty:=[.bool]
def kds39:List RK:=[]
def oks39:List AT:=owns sig39
def E39_4 (v5:Int) (x0:List TyB4) (x1:List TyB4):Env:=[(0,.a (.sl YA9 x0)),(1,.a (.sl YA9 x1)),(5,.a (.val (.int .i64 v5)))]
def L39_4 (v5:Int) (x0:List TyB4) (x1:List TyB4):Heap:=[]
mutual
def R39:Nat→List TyB4→List TyB4→List Dyn→Prop
 | 0,_,_,_=>False
 | n+1,x0,x1,ds=>(if ((x0.length:Int) != (x1.length:Int))=true then (ds=[Dyn.mk .bool false]) else (R39_4 n (0) (x0) (x1) ds))
def R39_4:Nat→Int→List TyB4→List TyB4→List Dyn→Prop
 | 0,_,_,_,_=>False
 | n+1,v5,x0,x1,ds=>(if (decide (v5<(x0.length:Int)))=true then ((0≤v5)∧(v5<(x0.length:Int))∧((0≤v5)∧(v5<(x1.length:Int))∧(if (!g81_0 (List.getD x0 (Int.toNat v5) (0,0,())) (List.getD x1 (Int.toNat v5) (0,0,())))=true then (ds=[Dyn.mk .bool false]) else ((InR .i64 (v5+1))∧(R39_4 n (v5+1) (x0) (x1) ds))))) else (ds=[Dyn.mk .bool true]))
end
theorem snd39:∀ n,(∀ (x0:List TyB4) (x1:List TyB4) ds,R39 n x0 x1 ds→∀ K q,AtV Tryz.prog 39 (PostR kds39 oks39 ds [] [] q K) 27 K q [] [.code b39] (entE 0 0 sig39 (x0,x1,())) (entL sig39 (x0,x1,())))∧(∀ (v5:Int) (x0:List TyB4) (x1:List TyB4) ds,R39_4 n v5 x0 x1 ds→∀ K q,AtV Tryz.prog 39 (PostR kds39 oks39 ds [] [] q K) 27 K q [] (cutAt b39 4) (E39_4 v5 x0 x1) (L39_4 v5 x0 x1)):=by
 intro n
 induction n with
 | zero=>exact ⟨fun _ _ _ h=>by simp only [R39] at h,fun _ _ _ _ h=>by simp only [R39_4] at h⟩
 | succ n ih =>
 obtain ⟨ih,ih4⟩:=ih
 refine ⟨?_,?_⟩
 ·intro x0 x1 ds h K q
  rw [R39] at h
  by_cases b0:((x0.length:Int) != (x1.length:Int))=true
  ·rw [if_pos b0] at h
   subst h
   exact AtV.ret Tryz.func39 tabOk ext39Ok mixed false [] tys39 [true] (a1 b0 trivial) (by kernel_rfl)
  ·rw [if_neg b0] at h
   replace b0:=bf_ b0
   exact AtV.go tabOk ext39Ok mixed false [] [] [0,1,5] [] [false] (a1 b0 trivial) (ih4 _ _ _ _ h K q) (by kernel_rfl)
 ·intro v5 x0 x1 ds h K q
  rw [R39_4] at h
  by_cases b0:(decide (v5<(x0.length:Int)))=true
  ·rw [if_pos b0] at h
   obtain ⟨s0,s1,h⟩:=h
   obtain ⟨s2,s3,h⟩:=h
   by_cases b1:(!g81_0 (List.getD x0 (Int.toNat v5) (0,0,())) (List.getD x1 (Int.toNat v5) (0,0,())))=true
   ·rw [if_pos b1] at h
    subst h
    exact AtV.ret Tryz.func39 tabOk ext39Ok mixed false [] tys39 [true,true] (a1 b0 (a1 s0 (a1 s1 (a1 s2 (a1 s3 (a1 trivial (a1 b1 trivial))))))) (by kernel_rfl)
   ·rw [if_neg b1] at h
    replace b1:=bf_ b1
    obtain ⟨s4,h⟩:=h
    exact AtV.go tabOk ext39Ok mixed false [] [] [0,1,5] [] [true,false] (a1 b0 (a1 s0 (a1 s1 (a1 s2 (a1 s3 (a1 trivial (a1 b1 (a1 s4 trivial)))))))) (ih4 _ _ _ _ h K q) (by kernel_rfl)
  ·rw [if_neg b0] at h
   replace b0:=bf_ b0
   subst h
   exact AtV.ret Tryz.func39 tabOk ext39Ok mixed false [] tys39 [false] (a1 b0 trivial) (by kernel_rfl)
theorem eq39 (x0 x1:List TyB4) (hl:x0.length=x1.length) (hm:x0.length≤maxLen):∀ k i:Nat,i+k=x0.length→R39_4 (k+1) (i:Int) x0 x1 [⟨.bool,decide (x0.drop i=x1.drop i)⟩]:=by
 intro k
 induction k with
 | zero =>
  intro i hi
  have h1:¬ (i:Int)<(x0.length:Int):=by omega
  rw [R39_4,if_neg (by simpa using h1),drop_end x0 i (by omega),drop_end x1 i (by omega)]
  simp
 | succ k ih =>
  intro i hi
  have h1:(i:Int)<(x0.length:Int):=by omega
  rw [R39_4,if_pos (by simpa using h1)]
  refine ⟨by omega,h1,by omega,by omega,?_⟩
  simp only [Int.toNat_natCast]
  rw [drop_get x0 i ((0:Int),(0:Int),()) (by omega),drop_get x1 i ((0:Int),(0:Int),()) (by omega)]
  by_cases he:x0.getD i ((0:Int),(0:Int),())=x1.getD i ((0:Int),(0:Int),())
  ·have hd:=(eqd81 _ _).2 he
   rw [if_neg (by rw [hd];simp)]
   refine ⟨inR_up hm (by omega),?_⟩
   have:=ih (i+1) (by omega)
   simp only [he,List.cons.injEq,true_and]
   exact this
  ·have hd:g81_0 (x0.getD i ((0:Int),(0:Int),())) (x1.getD i ((0:Int),(0:Int),()))=false :=
    bf_ fun h=>he ((eqd81 _ _).1 h)
   rw [if_pos (by rw [hd];rfl)]
   simp only [he,List.cons.injEq,false_and,decide_false]
def g39_0 (x0 x1:List TyB4):Bool:=decide (x0=x1)
def P39 (x0 x1:List TyB4):Prop:=True
def S39:Am.Spec:={ sig:=sig39,pre:=fun ⟨x0,x1,_⟩=>P39 x0 x1,res:=fun ⟨x0,x1,_⟩=>[⟨.bool,g39_0 x0 x1⟩] }
theorem con39:Contract Tryz.prog 39 S39:=contract_of Tryz.func39 hb39 (bl_ (by kernel_rfl)) (fun ⟨x0,x1,_⟩ h hwf K q=>by
 refine (snd39 (x0.length+2)).1 x0 x1 _ ?_ K q
 show R39 (x0.length+1+1) x0 x1 [⟨.bool,decide (x0=x1)⟩]
 rw [R39]
 by_cases hl:x0.length=x1.length
 ·rw [if_neg (by simp [hl])]
  have:=eq39 x0 x1 hl hwf.1.1 x0.length 0 (by omega)
  simpa using this
 ·rw [if_pos (by simp;omega)]
  have:x0≠x1:=fun h=>hl (by rw [h])
  simp [this])
end
noncomputable section
def ext82:Ext:=[]
theorem ext82Ok:ExtOk Tryz.prog ext82:=trivial
def b82:Code:=bodyOf Tryz.f82
theorem hb82:Tryz.f82.body=some b82:=by kernel_rfl
def sig82:List AT:=[AT.v YA6,AT.v YA6]
def tys82:List Ty:=[.bool]
def kds82:List RK:=[]
def oks82:List AT:=owns sig82
def P82 (x0:Int×Int×ByteArray×Int×Unit) (x1:Int×Int×ByteArray×Int×Unit):Prop:=True
def g82_0 (x0:Int×Int×ByteArray×Int×Unit) (x1:Int×Int×ByteArray×Int×Unit):Bool:=(if (x0.1 != x1.1)=true then false else (if (x0.2.1 != x1.2.1)=true then false else (if (!ByteArray.toList x0.2.2.1==ByteArray.toList x1.2.2.1)=true then false else (if (x0.2.2.2.1 != x1.2.2.2.1)=true then false else true))))
theorem at82 (x0:Int×Int×ByteArray×Int×Unit) (x1:Int×Int×ByteArray×Int×Unit) (h:P82 x0 x1) (K:Ctx) (q:Nat→Value):AtV Tryz.prog 82 (PostR kds82 oks82 [⟨.bool,g82_0 x0 x1⟩] [] [] q K) 25 K q [] [.code b82] (entE 0 0 sig82 (x0,x1,())) (entL sig82 (x0,x1,())):=by
 unfold P82 at h
 unfold g82_0
 by_cases b0:(x0.1 != x1.1)=true
 ·try simp only [if_pos b0] at h ⊢
  exact AtV.ret Tryz.func82 tabOk ext82Ok mixed false [] tys82 [true] (a1 b0 trivial) (by kernel_rfl)
 ·try simp only [if_neg b0] at h ⊢
  replace b0:=bf_ b0
  by_cases b1:(x0.2.1 != x1.2.1)=true
  ·try simp only [if_pos b1] at h ⊢
   exact AtV.ret Tryz.func82 tabOk ext82Ok mixed false [] tys82 [false,true] (a1 b0 (a1 b1 trivial)) (by kernel_rfl)
  ·try simp only [if_neg b1] at h ⊢
   replace b1:=bf_ b1
   by_cases b2:(!ByteArray.toList x0.2.2.1==ByteArray.toList x1.2.2.1)=true
   ·try simp only [if_pos b2] at h ⊢
    exact AtV.ret Tryz.func82 tabOk ext82Ok mixed false [] tys82 [false,false,true] (a1 b0 (a1 b1 (a1 b2 trivial))) (by kernel_rfl)
   ·try simp only [if_neg b2] at h ⊢
    replace b2:=bf_ b2
    by_cases b3:(x0.2.2.2.1 != x1.2.2.2.1)=true
    ·try simp only [if_pos b3] at h ⊢
     exact AtV.ret Tryz.func82 tabOk ext82Ok mixed false [] tys82 [false,false,false,true] (a1 b0 (a1 b1 (a1 b2 (a1 b3 trivial)))) (by kernel_rfl)
    ·try simp only [if_neg b3] at h ⊢
     replace b3:=bf_ b3
     exact AtV.ret Tryz.func82 tabOk ext82Ok mixed false [] tys82 [false,false,false,false] (a1 b0 (a1 b1 (a1 b2 (a1 b3 trivial)))) (by kernel_rfl)
def S82:Am.Spec:={ sig:=sig82,pre:=fun ⟨x0,x1,_⟩=>P82 x0 x1,res:=fun ⟨x0,x1,_⟩=>[⟨.bool,g82_0 x0 x1⟩],kds:=kds82 }
theorem con82:Contract Tryz.prog 82 S82:=contract_of Tryz.func82 hb82 (bl_ (by kernel_rfl)) (fun ⟨x0,x1,_⟩ h _ K q=>at82 x0 x1 h K q)
theorem eqd82 (x y:TyB2):g82_0 x y=true↔x=y:=by
 obtain ⟨a,b,c,d,u⟩:=x
 obtain ⟨a',b',c',d',u'⟩:=y
 unfold g82_0
 simp only [Bool.not_eq_true',bytes_ne,bne_iff_ne,ne_eq,ite_not]
 by_cases h0:a=a'
 ·by_cases h1:b=b'
  ·by_cases h2:c=c'
   ·by_cases h3:d=d'
    ·simp [h0,h1,h2,h3]
    ·simp [h0,h1,h2,h3]
   ·simp [h0,h1,h2]
  ·simp [h0,h1]
 ·simp [h0]
end
noncomputable section
def ext40:Ext:=[(82,S82)]
theorem ext40Ok:ExtOk Tryz.prog ext40:=⟨⟨ca82,con82⟩,trivial⟩
def b40:Code:=bodyOf Tryz.f40
theorem hb40:Tryz.f40.body=some b40:=by kernel_rfl
def sig40:List AT:=[AT.v (.sl YA6),AT.v (.sl YA6)]
def tys40:List Ty:=[.bool]
def kds40:List RK:=[]
def oks40:List AT:=owns sig40
def E40_4 (v5:Int) (x0:List TyB2) (x1:List TyB2):Env:=[(0,.a (.sl YA6 x0)),(1,.a (.sl YA6 x1)),(5,.a (.val (.int .i64 v5)))]
def L40_4 (v5:Int) (x0:List TyB2) (x1:List TyB2):Heap:=[]
mutual
def R40:Nat→List TyB2→List TyB2→List Dyn→Prop
 | 0,_,_,_=>False
 | n+1,x0,x1,ds=>(if ((x0.length:Int) != (x1.length:Int))=true then (ds=[Dyn.mk .bool false]) else (R40_4 n (0) (x0) (x1) ds))
def R40_4:Nat→Int→List TyB2→List TyB2→List Dyn→Prop
 | 0,_,_,_,_=>False
 | n+1,v5,x0,x1,ds=>(if (decide (v5<(x0.length:Int)))=true then ((0≤v5)∧(v5<(x0.length:Int))∧((0≤v5)∧(v5<(x1.length:Int))∧(if (!g82_0 (List.getD x0 (Int.toNat v5) (0,0,ByteArray.empty,0,())) (List.getD x1 (Int.toNat v5) (0,0,ByteArray.empty,0,())))=true then (ds=[Dyn.mk .bool false]) else ((InR .i64 (v5+1))∧(R40_4 n (v5+1) (x0) (x1) ds))))) else (ds=[Dyn.mk .bool true]))
end
theorem snd40:∀ n,(∀ (x0:List TyB2) (x1:List TyB2) ds,R40 n x0 x1 ds→∀ K q,AtV Tryz.prog 40 (PostR kds40 oks40 ds [] [] q K) 27 K q [] [.code b40] (entE 0 0 sig40 (x0,x1,())) (entL sig40 (x0,x1,())))∧(∀ (v5:Int) (x0:List TyB2) (x1:List TyB2) ds,R40_4 n v5 x0 x1 ds→∀ K q,AtV Tryz.prog 40 (PostR kds40 oks40 ds [] [] q K) 27 K q [] (cutAt b40 4) (E40_4 v5 x0 x1) (L40_4 v5 x0 x1)):=by
 intro n
 induction n with
 | zero=>exact ⟨fun _ _ _ h=>by simp only [R40] at h,fun _ _ _ _ h=>by simp only [R40_4] at h⟩
 | succ n ih =>
 obtain ⟨ih,ih4⟩:=ih
 refine ⟨?_,?_⟩
 ·intro x0 x1 ds h K q
  rw [R40] at h
  by_cases b0:((x0.length:Int) != (x1.length:Int))=true
  ·rw [if_pos b0] at h
   subst h
   exact AtV.ret Tryz.func40 tabOk ext40Ok mixed false [] tys40 [true] (a1 b0 trivial) (by kernel_rfl)
  ·rw [if_neg b0] at h
   replace b0:=bf_ b0
   exact AtV.go tabOk ext40Ok mixed false [] [] [0,1,5] [] [false] (a1 b0 trivial) (ih4 _ _ _ _ h K q) (by kernel_rfl)
 ·intro v5 x0 x1 ds h K q
  rw [R40_4] at h
  by_cases b0:(decide (v5<(x0.length:Int)))=true
  ·rw [if_pos b0] at h
   obtain ⟨s0,s1,h⟩:=h
   obtain ⟨s2,s3,h⟩:=h
   by_cases b1:(!g82_0 (List.getD x0 (Int.toNat v5) (0,0,ByteArray.empty,0,())) (List.getD x1 (Int.toNat v5) (0,0,ByteArray.empty,0,())))=true
   ·rw [if_pos b1] at h
    subst h
    exact AtV.ret Tryz.func40 tabOk ext40Ok mixed false [] tys40 [true,true] (a1 b0 (a1 s0 (a1 s1 (a1 s2 (a1 s3 (a1 trivial (a1 b1 trivial))))))) (by kernel_rfl)
   ·rw [if_neg b1] at h
    replace b1:=bf_ b1
    obtain ⟨s4,h⟩:=h
    exact AtV.go tabOk ext40Ok mixed false [] [] [0,1,5] [] [true,false] (a1 b0 (a1 s0 (a1 s1 (a1 s2 (a1 s3 (a1 trivial (a1 b1 (a1 s4 trivial)))))))) (ih4 _ _ _ _ h K q) (by kernel_rfl)
  ·rw [if_neg b0] at h
   replace b0:=bf_ b0
   subst h
   exact AtV.ret Tryz.func40 tabOk ext40Ok mixed false [] tys40 [false] (a1 b0 trivial) (by kernel_rfl)
theorem eq40 (x0 x1:List TyB2) (hl:x0.length=x1.length) (hm:x0.length≤maxLen):∀ k i:Nat,i+k=x0.length→R40_4 (k+1) (i:Int) x0 x1 [⟨.bool,decide (x0.drop i=x1.drop i)⟩]:=by
 intro k
 induction k with
 | zero =>
  intro i hi
  have h1:¬ (i:Int)<(x0.length:Int):=by omega
  rw [R40_4,if_neg (by simpa using h1),drop_end x0 i (by omega),drop_end x1 i (by omega)]
  simp
 | succ k ih =>
  intro i hi
  have h1:(i:Int)<(x0.length:Int):=by omega
  rw [R40_4,if_pos (by simpa using h1)]
  refine ⟨by omega,h1,by omega,by omega,?_⟩
  simp only [Int.toNat_natCast]
  rw [drop_get x0 i ((0:Int),(0:Int),ByteArray.empty,(0:Int),()) (by omega),drop_get x1 i ((0:Int),(0:Int),ByteArray.empty,(0:Int),()) (by omega)]
  by_cases he:x0.getD i ((0:Int),(0:Int),ByteArray.empty,(0:Int),())=x1.getD i ((0:Int),(0:Int),ByteArray.empty,(0:Int),())
  ·have hd:=(eqd82 _ _).2 he
   rw [if_neg (by rw [hd];simp)]
   refine ⟨inR_up hm (by omega),?_⟩
   have:=ih (i+1) (by omega)
   simp only [he,List.cons.injEq,true_and]
   exact this
  ·have hd:g82_0 (x0.getD i ((0:Int),(0:Int),ByteArray.empty,(0:Int),())) (x1.getD i ((0:Int),(0:Int),ByteArray.empty,(0:Int),()))=false :=
    bf_ fun h=>he ((eqd82 _ _).1 h)
   rw [if_pos (by rw [hd];rfl)]
   simp only [he,List.cons.injEq,false_and,decide_false]
def g40_0 (x0 x1:List TyB2):Bool:=decide (x0=x1)
def P40 (x0 x1:List TyB2):Prop:=True
def S40:Am.Spec:={ sig:=sig40,pre:=fun ⟨x0,x1,_⟩=>P40 x0 x1,res:=fun ⟨x0,x1,_⟩=>[⟨.bool,g40_0 x0 x1⟩] }
theorem con40:Contract Tryz.prog 40 S40:=contract_of Tryz.func40 hb40 (bl_ (by kernel_rfl)) (fun ⟨x0,x1,_⟩ h hwf K q=>by
 refine (snd40 (x0.length+2)).1 x0 x1 _ ?_ K q
 show R40 (x0.length+1+1) x0 x1 [⟨.bool,decide (x0=x1)⟩]
 rw [R40]
 by_cases hl:x0.length=x1.length
 ·rw [if_neg (by simp [hl])]
  have:=eq40 x0 x1 hl hwf.1.1 x0.length 0 (by omega)
  simpa using this
 ·rw [if_pos (by simp;omega)]
  have:x0≠x1:=fun h=>hl (by rw [h])
  simp [this])
end
noncomputable section
def ext9:Ext:=[(33,S33),(34,S34),(35,S35),(36,S36),(37,S37),(38,S38),(39,S39),(40,S40)]
theorem ext9Ok:ExtOk Tryz.prog ext9:=⟨⟨ca33,con33⟩,⟨ca34,con34⟩,⟨ca35,con35⟩,⟨ca36,con36⟩,⟨ca37,con37⟩,⟨ca38,con38⟩,⟨ca39,con39⟩,⟨ca40,con40⟩,trivial⟩
def b9:Code:=bodyOf Tryz.f9
theorem hb9:Tryz.f9.body=some b9:=by kernel_rfl
def sig9:List AT:=[AT.v YA0,AT.v YA0]
def tys9:List Ty:=[.bool]
def kds9:List RK:=[]
def oks9:List AT:=owns sig9
def P9 (x0:TyA0) (x1:TyA0):Prop:=True
def g9_0 (x0:TyA0) (x1:TyA0):Bool:=(if (!g33_0 x0.1 x1.1)=true then false else (if (x0.2.1 != x1.2.1)=true then false else (if (!g34_0 x0.2.2.1 x1.2.2.1)=true then false else (if (!g35_0 x0.2.2.2.1 x1.2.2.2.1)=true then false else (if (!g36_0 x0.2.2.2.2.1 x1.2.2.2.2.1)=true then false else (if (!g37_0 x0.2.2.2.2.2.1 x1.2.2.2.2.2.1)=true then false else (if (!g38_0 x0.2.2.2.2.2.2.1 x1.2.2.2.2.2.2.1)=true then false else (if (x0.2.2.2.2.2.2.2.1 != x1.2.2.2.2.2.2.2.1)=true then false else (if (x0.2.2.2.2.2.2.2.2.1 != x1.2.2.2.2.2.2.2.2.1)=true then false else (if (!g39_0 x0.2.2.2.2.2.2.2.2.2.1 x1.2.2.2.2.2.2.2.2.2.1)=true then false else (if (x0.2.2.2.2.2.2.2.2.2.2.1 != x1.2.2.2.2.2.2.2.2.2.2.1)=true then false else (if (!g40_0 x0.2.2.2.2.2.2.2.2.2.2.2.1 x1.2.2.2.2.2.2.2.2.2.2.2.1)=true then false else true))))))))))))
theorem at9 (x0:TyA0) (x1:TyA0) (h:P9 x0 x1) (K:Ctx) (q:Nat→Value):AtV Tryz.prog 9 (PostR kds9 oks9 [⟨.bool,g9_0 x0 x1⟩] [] [] q K) 73 K q [] [.code b9] (entE 0 0 sig9 (x0,x1,())) (entL sig9 (x0,x1,())):=by
 unfold P9 at h
 unfold g9_0
 by_cases b0:(!g33_0 x0.1 x1.1)=true
 ·try simp only [if_pos b0] at h ⊢
  exact AtV.ret Tryz.func9 tabOk ext9Ok mixed false [] tys9 [true] (a1 trivial (a1 b0 trivial)) (by kernel_rfl)
 ·try simp only [if_neg b0] at h ⊢
  replace b0:=bf_ b0
  by_cases b1:(x0.2.1 != x1.2.1)=true
  ·try simp only [if_pos b1] at h ⊢
   exact AtV.ret Tryz.func9 tabOk ext9Ok mixed false [] tys9 [false,true] (a1 trivial (a1 b0 (a1 b1 trivial))) (by kernel_rfl)
  ·try simp only [if_neg b1] at h ⊢
   replace b1:=bf_ b1
   by_cases b2:(!g34_0 x0.2.2.1 x1.2.2.1)=true
   ·try simp only [if_pos b2] at h ⊢
    exact AtV.ret Tryz.func9 tabOk ext9Ok mixed false [] tys9 [false,false,true] (a1 trivial (a1 b0 (a1 b1 (a1 trivial (a1 b2 trivial))))) (by kernel_rfl)
   ·try simp only [if_neg b2] at h ⊢
    replace b2:=bf_ b2
    by_cases b3:(!g35_0 x0.2.2.2.1 x1.2.2.2.1)=true
    ·try simp only [if_pos b3] at h ⊢
     exact AtV.ret Tryz.func9 tabOk ext9Ok mixed false [] tys9 [false,false,false,true] (a1 trivial (a1 b0 (a1 b1 (a1 trivial (a1 b2 (a1 trivial (a1 b3 trivial))))))) (by kernel_rfl)
    ·try simp only [if_neg b3] at h ⊢
     replace b3:=bf_ b3
     by_cases b4:(!g36_0 x0.2.2.2.2.1 x1.2.2.2.2.1)=true
     ·try simp only [if_pos b4] at h ⊢
      exact AtV.ret Tryz.func9 tabOk ext9Ok mixed false [] tys9 [false,false,false,false,true] (a1 trivial (a1 b0 (a1 b1 (a1 trivial (a1 b2 (a1 trivial (a1 b3 (a1 trivial (a1 b4 trivial))))))))) (by kernel_rfl)
     ·try simp only [if_neg b4] at h ⊢
      replace b4:=bf_ b4
      by_cases b5:(!g37_0 x0.2.2.2.2.2.1 x1.2.2.2.2.2.1)=true
      ·try simp only [if_pos b5] at h ⊢
       exact AtV.ret Tryz.func9 tabOk ext9Ok mixed false [] tys9 [false,false,false,false,false,true] (a1 trivial (a1 b0 (a1 b1 (a1 trivial (a1 b2 (a1 trivial (a1 b3 (a1 trivial (a1 b4 (a1 trivial (a1 b5 trivial))))))))))) (by kernel_rfl)
      ·try simp only [if_neg b5] at h ⊢
       replace b5:=bf_ b5
       by_cases b6:(!g38_0 x0.2.2.2.2.2.2.1 x1.2.2.2.2.2.2.1)=true
       ·try simp only [if_pos b6] at h ⊢
        exact AtV.ret Tryz.func9 tabOk ext9Ok mixed false [] tys9 [false,false,false,false,false,false,true] (a1 trivial (a1 b0 (a1 b1 (a1 trivial (a1 b2 (a1 trivial (a1 b3 (a1 trivial (a1 b4 (a1 trivial (a1 b5 (a1 trivial (a1 b6 trivial))))))))))))) (by kernel_rfl)
       ·try simp only [if_neg b6] at h ⊢
        replace b6:=bf_ b6
        by_cases b7:(x0.2.2.2.2.2.2.2.1 != x1.2.2.2.2.2.2.2.1)=true
        ·try simp only [if_pos b7] at h ⊢
         exact AtV.ret Tryz.func9 tabOk ext9Ok mixed false [] tys9 [false,false,false,false,false,false,false,true] (a1 trivial (a1 b0 (a1 b1 (a1 trivial (a1 b2 (a1 trivial (a1 b3 (a1 trivial (a1 b4 (a1 trivial (a1 b5 (a1 trivial (a1 b6 (a1 b7 trivial)))))))))))))) (by kernel_rfl)
        ·try simp only [if_neg b7] at h ⊢
         replace b7:=bf_ b7
         by_cases b8:(x0.2.2.2.2.2.2.2.2.1 != x1.2.2.2.2.2.2.2.2.1)=true
         ·try simp only [if_pos b8] at h ⊢
          exact AtV.ret Tryz.func9 tabOk ext9Ok mixed false [] tys9 [false,false,false,false,false,false,false,false,true] (a1 trivial (a1 b0 (a1 b1 (a1 trivial (a1 b2 (a1 trivial (a1 b3 (a1 trivial (a1 b4 (a1 trivial (a1 b5 (a1 trivial (a1 b6 (a1 b7 (a1 b8 trivial))))))))))))))) (by kernel_rfl)
         ·try simp only [if_neg b8] at h ⊢
          replace b8:=bf_ b8
          by_cases b9:(!g39_0 x0.2.2.2.2.2.2.2.2.2.1 x1.2.2.2.2.2.2.2.2.2.1)=true
          ·try simp only [if_pos b9] at h ⊢
           exact AtV.ret Tryz.func9 tabOk ext9Ok mixed false [] tys9 [false,false,false,false,false,false,false,false,false,true] (a1 trivial (a1 b0 (a1 b1 (a1 trivial (a1 b2 (a1 trivial (a1 b3 (a1 trivial (a1 b4 (a1 trivial (a1 b5 (a1 trivial (a1 b6 (a1 b7 (a1 b8 (a1 trivial (a1 b9 trivial))))))))))))))))) (by kernel_rfl)
          ·try simp only [if_neg b9] at h ⊢
           replace b9:=bf_ b9
           by_cases b10:(x0.2.2.2.2.2.2.2.2.2.2.1 != x1.2.2.2.2.2.2.2.2.2.2.1)=true
           ·try simp only [if_pos b10] at h ⊢
            exact AtV.ret Tryz.func9 tabOk ext9Ok mixed false [] tys9 [false,false,false,false,false,false,false,false,false,false,true] (a1 trivial (a1 b0 (a1 b1 (a1 trivial (a1 b2 (a1 trivial (a1 b3 (a1 trivial (a1 b4 (a1 trivial (a1 b5 (a1 trivial (a1 b6 (a1 b7 (a1 b8 (a1 trivial (a1 b9 (a1 b10 trivial)))))))))))))))))) (by kernel_rfl)
           ·try simp only [if_neg b10] at h ⊢
            replace b10:=bf_ b10
            by_cases b11:(!g40_0 x0.2.2.2.2.2.2.2.2.2.2.2.1 x1.2.2.2.2.2.2.2.2.2.2.2.1)=true
            ·try simp only [if_pos b11] at h ⊢
             exact AtV.ret Tryz.func9 tabOk ext9Ok mixed false [] tys9 [false,false,false,false,false,false,false,false,false,false,false,true] (a1 trivial (a1 b0 (a1 b1 (a1 trivial (a1 b2 (a1 trivial (a1 b3 (a1 trivial (a1 b4 (a1 trivial (a1 b5 (a1 trivial (a1 b6 (a1 b7 (a1 b8 (a1 trivial (a1 b9 (a1 b10 (a1 trivial (a1 b11 trivial)))))))))))))))))))) (by kernel_rfl)
            ·try simp only [if_neg b11] at h ⊢
             replace b11:=bf_ b11
             exact AtV.ret Tryz.func9 tabOk ext9Ok mixed false [] tys9 [false,false,false,false,false,false,false,false,false,false,false,false] (a1 trivial (a1 b0 (a1 b1 (a1 trivial (a1 b2 (a1 trivial (a1 b3 (a1 trivial (a1 b4 (a1 trivial (a1 b5 (a1 trivial (a1 b6 (a1 b7 (a1 b8 (a1 trivial (a1 b9 (a1 b10 (a1 trivial (a1 b11 trivial)))))))))))))))))))) (by kernel_rfl)
def S9:Am.Spec:={ sig:=sig9,pre:=fun ⟨x0,x1,_⟩=>P9 x0 x1,res:=fun ⟨x0,x1,_⟩=>[⟨.bool,g9_0 x0 x1⟩],kds:=kds9 }
theorem con9:Contract Tryz.prog 9 S9:=contract_of Tryz.func9 hb9 (bl_ (by kernel_rfl)) (fun ⟨x0,x1,_⟩ h _ K q=>at9 x0 x1 h K q)
end
noncomputable section
def ext83:Ext:=[]
theorem ext83Ok:ExtOk Tryz.prog ext83:=trivial
def b83:Code:=bodyOf Tryz.f83
theorem hb83:Tryz.f83.body=some b83:=by kernel_rfl
def sig83:List AT:=[AT.own YA9,AT.v (.int .i64)]
def tys83:List Ty:=[.int .i64]
def kds83:List RK:=[]
def oks83:List AT:=owns sig83
def E83_2 (v5:Int) (x1:Int) (x0:List TyB4):Env:=[(0,.a (.osl 0 Option.none)),(1,.a (.val (.int .i64 x1))),(5,.a (.val (.int .i64 v5)))]
def L83_2 (v5:Int) (x1:Int) (x0:List TyB4):Heap:=[Option.some (Arr.mk YA9 x0 false Option.none Option.none)]
mutual
def R83:Nat→List TyB4→Int→List Dyn→List (Option Lst)→Prop
 | 0,_,_,_,_=>False
 | n+1,x0,x1,ds,us=>(R83_2 n (0) (x1) (x0) ds us)
def R83_2:Nat→Int→Int→List TyB4→List Dyn→List (Option Lst)→Prop
 | 0,_,_,_,_,_=>False
 | n+1,v5,x1,x0,ds,us=>(if (decide (v5<(x0.length:Int)))=true then ((0≤v5)∧(v5<(x0.length:Int))∧((InR .i64 (x1+1))∧((0≤v5)∧(v5<(↑(List.length (List.set x0 (Int.toNat v5) (x1,(List.getD x0 (Int.toNat v5) (0,0,())).2))):Int))∧((InR .i64 (x1+1+1))∧((InR .i64 (v5+1))∧(R83_2 n (v5+1) (x1+1+1) (List.set (List.set x0 (Int.toNat v5) (x1,(List.getD x0 (Int.toNat v5) (0,0,())).2)) (Int.toNat v5) ((List.getD (List.set x0 (Int.toNat v5) (x1,(List.getD x0 (Int.toNat v5) (0,0,())).2)) (Int.toNat v5) (0,0,())).1,x1+1,(List.getD (List.set x0 (Int.toNat v5) (x1,(List.getD x0 (Int.toNat v5) (0,0,())).2)) (Int.toNat v5) (0,0,())).2.2)) ds us)))))) else (ds=[Dyn.mk (.int .i64) x1]∧us=[Option.some (Lst.mk YA9 x0)]))
end
theorem snd83:∀ n,(∀ (x0:List TyB4) (x1:Int) ds us,R83 n x0 x1 ds us→∀ K q,AtV Tryz.prog 83 (PostR kds83 oks83 ds us [0] q K) 27 K q [0] [.code b83] (entE 0 0 sig83 (x0,x1,())) (entL sig83 (x0,x1,())))∧(∀ (v5:Int) (x1:Int) (x0:List TyB4) ds us,R83_2 n v5 x1 x0 ds us→∀ K q,AtV Tryz.prog 83 (PostR kds83 oks83 ds us [0] q K) 27 K q [0] (cutAt b83 2) (E83_2 v5 x1 x0) (L83_2 v5 x1 x0)):=by
 intro n
 induction n with
 | zero=>exact ⟨fun _ _ _ _ h=>by simp only [R83] at h,fun _ _ _ _ _ h=>by simp only [R83_2] at h⟩
 | succ n ih =>
 obtain ⟨ih,ih2⟩:=ih
 refine ⟨?_,?_⟩
 ·intro x0 x1 ds us h K q
  rw [R83] at h
  exact AtV.go tabOk ext83Ok mixed false [] [] [0,1,5] [0] [] trivial (ih2 _ _ _ _ _ h K q) (by kernel_rfl)
 ·intro v5 x1 x0 ds us h K q
  rw [R83_2] at h
  by_cases b0:(decide (v5<(x0.length:Int)))=true
  ·rw [if_pos b0] at h
   obtain ⟨s0,s1,h⟩:=h
   obtain ⟨s2,h⟩:=h
   obtain ⟨s3,s4,h⟩:=h
   obtain ⟨s5,h⟩:=h
   obtain ⟨s6,h⟩:=h
   exact AtV.go tabOk ext83Ok mixed false [] [] [0,1,5] [0] [true] (a1 b0 (a1 s0 (a1 s1 (a1 s2 (a1 s3 (a1 s4 (a1 s5 (a1 s6 trivial)))))))) (ih2 _ _ _ _ _ h K q) (by kernel_rfl)
  ·rw [if_neg b0] at h
   replace b0:=bf_ b0
   obtain ⟨h,h'⟩:=h;subst h;subst h'
   exact AtV.ret Tryz.func83 tabOk ext83Ok mixed false [] tys83 [false] (a1 b0 trivial) (by kernel_rfl)
def M83 (x1:Int) (n:Nat):List TyB4:=(List.range n).map fun (j:Nat)=>((x1+2*(j:Int)),(x1+2*(j:Int)+1),())
theorem M83_len (x1:Int) (n:Nat):(M83 x1 n).length=n:=by simp [M83]
theorem M83_succ (x1:Int) (n:Nat):M83 x1 (n+1)=M83 x1 n++[((x1+2*(n:Int)),(x1+2*(n:Int)+1),())]:=by
 simp [M83,List.range_succ]
theorem run83 (x0:List TyB4) (x1:Int) (hm:x0.length≤maxLen) (h0:0≤x1) (h1:x1+2*x0.length≤9223372036854775807):∀ (k i:Nat),i+k=x0.length →
  R83_2 (k+1) (i:Int) (x1+2*(i:Int)) (M83 x1 i++x0.drop i) [⟨.int .i64,x1+2*(x0.length:Int)⟩] [some ⟨(.cons (.int .i64) (.cons (.int .i64) .unit)),M83 x1 x0.length⟩]:=by
 intro k
 induction k with
 | zero =>
  intro i hi
  have hl:(M83 x1 i++x0.drop i).length=x0.length:=by simp [M83_len];omega
  rw [R83_2,if_neg (by rw [hl];simp;omega),drop_end x0 i (by omega),List.append_nil]
  have:i=x0.length:=by omega
  subst this
  exact ⟨rfl,rfl⟩
 | succ k ih =>
  intro i hi
  have hl:(M83 x1 i++x0.drop i).length=x0.length:=by simp [M83_len];omega
  have hA:=M83_len x1 i
  rw [R83_2,if_pos (by rw [hl];simp;omega)]
  rw [drop_get x0 i ((0:Int),(0:Int),()) (by omega)] at hl ⊢
  simp only [Int.toNat_natCast,set_mid _ _ _ _ i hA,get_mid _ _ _ _ i hA]
  have hl':∀ y:TyB4,((M83 x1 i++y :: x0.drop (i+1)).length:Int)=x0.length:=fun y=>by rw [← hl];simp
  simp only [hl']
  refine ⟨by omega,by omega,by rw [i64_iff];omega,by omega,by omega,by rw [i64_iff];omega,inR_up hm (by omega),?_⟩
  have hx:x1+2*(i:Int)+1+1=x1+2*((i+1:Nat):Int):=by omega
  have:=ih (i+1) (by omega)
  rw [M83_succ,List.append_assoc] at this
  rw [hx]
  simpa using this
def P83 (x0:List TyB4) (x1:Int):Prop:=0≤x1∧x1+2*x0.length≤9223372036854775807
def g83_0 (x0:List TyB4) (x1:Int):Int:=x1+2*(x0.length:Int)
def u83_0 (x0:List TyB4) (x1:Int):List TyB4:=M83 x1 x0.length
theorem top83 (x0:List TyB4) (x1:Int) (hm:x0.length≤maxLen) (h:P83 x0 x1):R83 (x0.length+1+1) x0 x1 [⟨.int .i64,g83_0 x0 x1⟩] [some ⟨(.cons (.int .i64) (.cons (.int .i64) .unit)),u83_0 x0 x1⟩]:=by
 rw [R83]
 have:=run83 x0 x1 hm h.1 h.2 x0.length 0 (by omega)
 simpa [M83,g83_0,u83_0] using this
def S83:Am.Spec:={ sig:=sig83,pre:=fun ⟨x0,x1,_⟩=>P83 x0 x1,upd:=fun ⟨x0,x1,_⟩=>[some ⟨(.cons (.int .i64) (.cons (.int .i64) .unit)),u83_0 x0 x1⟩],res:=fun ⟨x0,x1,_⟩=>[⟨.int .i64,g83_0 x0 x1⟩] }
theorem con83:Contract Tryz.prog 83 S83:=contract_of Tryz.func83 hb83 (bl_ (by kernel_rfl)) (fun ⟨x0,x1,_⟩ h hwf K q =>
 (snd83 _).1 x0 x1 _ _ (top83 x0 x1 hwf.1.1 h) K q)
end
noncomputable section
def ext41:Ext:=[(83,S83)]
theorem ext41Ok:ExtOk Tryz.prog ext41:=⟨⟨ca83,con83⟩,trivial⟩
def b41:Code:=bodyOf Tryz.f41
theorem hb41:Tryz.f41.body=some b41:=by kernel_rfl
def sig41:List AT:=[AT.sv YA2,AT.v (.int .i64)]
def tys41:List Ty:=[.int .i64]
def kds41:List RK:=[]
def oks41:List AT:=owns sig41
def P41 (x0:List TyB4×Int×Int×Unit) (x1:Int):Prop:=((P83 x0.1 x1)∧(List.length (u83_0 x0.1 x1)=List.length x0.1)∧True)
def g41_0 (x0:List TyB4×Int×Int×Unit) (x1:Int):Int:=g83_0 x0.1 x1
def u41_0 (x0:List TyB4×Int×Int×Unit) (x1:Int):List TyB4×Int×Int×Unit:=(u83_0 x0.1 x1,x0.2.1,x0.2.2.1,())
theorem at41 (x0:List TyB4×Int×Int×Unit) (x1:Int) (h:P41 x0 x1) (K:Ctx) (q:Nat→Value):AtV Tryz.prog 41 (PostR kds41 oks41 [⟨.int .i64,g41_0 x0 x1⟩] [some ⟨.cons (.sl YA9) YA9,[u41_0 x0 x1]⟩] [0] q K) 10 K q [0] [.code b41] (entE 0 0 sig41 (x0,x1,())) (entL sig41 (x0,x1,())):=by
 unfold P41 at h
 unfold g41_0 u41_0
 obtain ⟨s0,s1,h⟩:=h
 exact AtV.weak (AtV.ret (us:=[Option.some (Lst.mk YA2 [(u83_0 x0.1 x1,x0.2.1,x0.2.2.1,())])]) Tryz.func41 tabOk ext41Ok mixed false [] tys41 [] (a1 s0 (a1 s1 trivial)) (by kernel_rfl)) ⟨.inl rfl,trivial⟩
def S41:Am.Spec:={ sig:=sig41,pre:=fun ⟨x0,x1,_⟩=>P41 x0 x1,upd:=fun ⟨x0,x1,_⟩=>[some ⟨.cons (.sl YA9) YA9,[u41_0 x0 x1]⟩],res:=fun ⟨x0,x1,_⟩=>[⟨.int .i64,g41_0 x0 x1⟩],kds:=kds41 }
theorem con41:Contract Tryz.prog 41 S41:=contract_of Tryz.func41 hb41 (bl_ (by kernel_rfl)) (fun ⟨x0,x1,_⟩ h _ K q=>at41 x0 x1 h K q)
end
noncomputable section
def ext46:Ext:=[]
theorem ext46Ok:ExtOk Tryz.prog ext46:=trivial
def b46:Code:=bodyOf Tryz.f46
theorem hb46:Tryz.f46.body=some b46:=by kernel_rfl
def sig46:List AT:=[AT.v (.int .i64)]
def tys46:List Ty:=[.str]
def kds46:List RK:=[]
def oks46:List AT:=owns sig46
def E46_4 (v3:ByteArray) (x0:Int):Env:=[(0,.a (.val (.int .i64 x0))),(3,.a (.val (.string v3)))]
def L46_4 (v3:ByteArray) (x0:Int):Heap:=[]
mutual
def R46:Nat→Int→List Dyn→Prop
 | 0,_,_=>False
 | n+1,x0,ds=>(if (decide (x0≤0))=true then (ds=[Dyn.mk .str (ByteArray.mk #[109,48])]) else (R46_4 n (ByteArray.mk #[]) (x0) ds))
def R46_4:Nat→ByteArray→Int→List Dyn→Prop
 | 0,_,_,_=>False
 | n+1,v3,x0,ds=>(if (decide (x0>0))=true then ((InR .i64 (Int.tmod x0 10))∧((InR .i64 (48+Int.tmod x0 10))∧((InR .u8 (48+Int.tmod x0 10))∧((ByteArray.size (bytesStr [48+Int.tmod x0 10])+ByteArray.size v3≤9223372036854775807)∧((InR .i64 (Int.tdiv x0 10))∧(R46_4 n (bytesStr [48+Int.tmod x0 10]++v3) (Int.tdiv x0 10) ds)))))) else ((1+ByteArray.size v3≤9223372036854775807)∧(ds=[Dyn.mk .str (ByteArray.mk #[109]++v3)])))
end
theorem snd46:∀ n,(∀ (x0:Int) ds,R46 n x0 ds→∀ K q,AtV Tryz.prog 46 (PostR kds46 oks46 ds [] [] q K) 20 K q [] [.code b46] (entE 0 0 sig46 (x0,())) (entL sig46 (x0,())))∧(∀ (v3:ByteArray) (x0:Int) ds,R46_4 n v3 x0 ds→∀ K q,AtV Tryz.prog 46 (PostR kds46 oks46 ds [] [] q K) 20 K q [] (cutAt b46 4) (E46_4 v3 x0) (L46_4 v3 x0)):=by
 intro n
 induction n with
 | zero=>exact ⟨fun _ _ h=>by simp only [R46] at h,fun _ _ _ h=>by simp only [R46_4] at h⟩
 | succ n ih =>
 obtain ⟨ih,ih4⟩:=ih
 refine ⟨?_,?_⟩
 ·intro x0 ds h K q
  rw [R46] at h
  by_cases b0:(decide (x0≤0))=true
  ·rw [if_pos b0] at h
   subst h
   exact AtV.ret Tryz.func46 tabOk ext46Ok mixed false [] tys46 [true] (a1 b0 trivial) (by kernel_rfl)
  ·rw [if_neg b0] at h
   replace b0:=bf_ b0
   exact AtV.go tabOk ext46Ok mixed false [] [] [0,3] [] [false] (a1 b0 trivial) (ih4 _ _ _ h K q) (by kernel_rfl)
 ·intro v3 x0 ds h K q
  rw [R46_4] at h
  by_cases b0:(decide (x0>0))=true
  ·rw [if_pos b0] at h
   obtain ⟨s0,h⟩:=h
   obtain ⟨s1,h⟩:=h
   obtain ⟨s2,h⟩:=h
   obtain ⟨s3,h⟩:=h
   obtain ⟨s4,h⟩:=h
   exact AtV.go tabOk ext46Ok mixed false [] [] [0,3] [] [true] (a1 b0 (a1 ((by decide):(10:Int)≠(0:Int)) (a1 s0 (a1 s1 (a1 s2 (a1 s3 (a1 ((by decide):(10:Int)≠(0:Int)) (a1 s4 trivial)))))))) (ih4 _ _ _ h K q) (by kernel_rfl)
  ·rw [if_neg b0] at h
   replace b0:=bf_ b0
   obtain ⟨s0,h⟩:=h
   subst h
   exact AtV.ret Tryz.func46 tabOk ext46Ok mixed false [] tys46 [false] (a1 b0 (a1 s0 trivial)) (by kernel_rfl)
def loop46:Nat→ByteArray→Int→ByteArray
 | 0,v,_=>v
 | n+1,v,x=>if 0<x then loop46 n (bytesStr [48+Int.tmod x 10]++v) (Int.tdiv x 10) else v
theorem run46:∀ (n:Nat) (v:ByteArray) (x:Int),x<10 ^ n→InR .i64 x→v.size+n≤1000→R46_4 (n+1) v x [⟨.str,ByteArray.mk #[109]++loop46 n v x⟩]:=by
 intro n
 induction n with
 | zero =>
  intro v x h1 _ h2
  rw [R46_4,if_neg (by simp at h1 ⊢;omega)]
  exact ⟨by omega,rfl⟩
 | succ n ih =>
  intro v x h1 hi h2
  rw [i64_iff] at hi
  rw [R46_4]
  by_cases hx:0<x
  ·rw [if_pos (by simpa using hx)]
   have e1:Int.tmod x 10=x % 10:=Int.tmod_eq_emod_of_nonneg (by omega)
   have e2:Int.tdiv x 10=x / 10:=Int.tdiv_eq_ediv_of_nonneg (by omega)
   have hs:(bytesStr [48+Int.tmod x 10]).size=1:=bytesStr_size _
   have hp:(10:Int) ^ (n+1)=10*10 ^ n:=by rw [Int.pow_succ,Int.mul_comm]
   refine ⟨by rw [i64_iff,e1];omega,by rw [i64_iff,e1];omega,by rw [u8_iff,e1];omega,by rw [hs];omega,by rw [i64_iff,e2];omega,?_⟩
   have:=ih (bytesStr [48+Int.tmod x 10]++v) (Int.tdiv x 10) (by rw [e2];omega) (by rw [i64_iff,e2];omega) (by rw [ByteArray.size_append,hs];omega)
   simp only [loop46,if_pos hx]
   exact this
  ·rw [if_neg (by simp;omega)]
   simp only [loop46,if_neg hx]
   exact ⟨by omega,trivial⟩
def g46_0 (x0:Int):ByteArray:=if x0≤0 then ByteArray.mk #[109,48] else ByteArray.mk #[109]++loop46 19 (ByteArray.mk #[]) x0
def P46 (x0:Int):Prop:=True
theorem top46 (x0:Int) (hi:InR .i64 x0):R46 21 x0 [⟨.str,g46_0 x0⟩]:=by
 rw [R46]
 unfold g46_0
 by_cases h:x0≤0
 ·rw [if_pos (by simpa using h),if_pos h]
 ·rw [if_neg (by simpa using h),if_neg h]
  have hi':=hi
  rw [i64_iff] at hi'
  exact run46 19 _ x0 (by omega) hi (by decide)
def S46:Am.Spec:={ sig:=sig46,pre:=fun ⟨x0,_⟩=>P46 x0,res:=fun ⟨x0,_⟩=>[⟨.str,g46_0 x0⟩] }
theorem con46:Contract Tryz.prog 46 S46:=contract_of Tryz.func46 hb46 (bl_ (by kernel_rfl)) (fun ⟨x0,_⟩ h hwf K q =>
 (snd46 _).1 x0 _ (top46 x0 hwf.1) K q)
end
noncomputable section
def ext42:Ext:=[(46,S46)]
theorem ext42Ok:ExtOk Tryz.prog ext42:=⟨⟨ca46,con46⟩,trivial⟩
def b42:Code:=bodyOf Tryz.f42
theorem hb42:Tryz.f42.body=some b42:=by kernel_rfl
def sig42:List AT:=[AT.own YA5,AT.v (.int .i64)]
def tys42:List Ty:=[.int .i64]
def kds42:List RK:=[]
def oks42:List AT:=owns sig42
def E42_2 (v5:Int) (x1:Int) (x0:List TyB1):Env:=[(0,.a (.osl 0 Option.none)),(1,.a (.val (.int .i64 x1))),(5,.a (.val (.int .i64 v5)))]
def L42_2 (v5:Int) (x1:Int) (x0:List TyB1):Heap:=[Option.some (Arr.mk YA5 x0 false Option.none Option.none)]
@[reducible] def q42_0 (v5:Int) (x1:Int) (x0:List TyB1):=List.set x0 (Int.toNat v5) (g46_0 x1,(List.getD x0 (Int.toNat v5) (ByteArray.empty,0,0,0,())).2)
@[reducible] def q42_1 (v5:Int) (x1:Int) (x0:List TyB1):=List.set (q42_0 v5 x1 x0) (Int.toNat v5) ((List.getD (q42_0 v5 x1 x0) (Int.toNat v5) (ByteArray.empty,0,0,0,())).1,x1+1,(List.getD (q42_0 v5 x1 x0) (Int.toNat v5) (ByteArray.empty,0,0,0,())).2.2)
@[reducible] def q42_2 (v5:Int) (x1:Int) (x0:List TyB1):=List.set (q42_1 v5 x1 x0) (Int.toNat v5) ((List.getD (q42_1 v5 x1 x0) (Int.toNat v5) (ByteArray.empty,0,0,0,())).1,(List.getD (q42_1 v5 x1 x0) (Int.toNat v5) (ByteArray.empty,0,0,0,())).2.1,x1+1+1,(List.getD (q42_1 v5 x1 x0) (Int.toNat v5) (ByteArray.empty,0,0,0,())).2.2.2)
mutual
def R42:Nat→List TyB1→Int→List Dyn→List (Option Lst)→Prop
 | 0,_,_,_,_=>False
 | n+1,x0,x1,ds,us=>(R42_2 n (0) (x1) (x0) ds us)
def R42_2:Nat→Int→Int→List TyB1→List Dyn→List (Option Lst)→Prop
 | 0,_,_,_,_,_=>False
 | n+1,v5,x1,x0,ds,us=>(if (decide (v5<(x0.length:Int)))=true then ((0≤v5)∧(v5<(x0.length:Int))∧((InR .i64 (x1+1))∧((0≤v5)∧(v5<(↑(List.length (q42_0 v5 x1 x0)):Int))∧((InR .i64 (x1+1+1))∧((0≤v5)∧(v5<(↑(List.length (q42_1 v5 x1 x0)):Int))∧((InR .i64 (x1+1+1+1))∧((0≤v5)∧(v5<(↑(List.length (q42_2 v5 x1 x0)):Int))∧((InR .i64 (x1+1+1+1+1))∧((InR .i64 (v5+1))∧(R42_2 n (v5+1) (x1+1+1+1+1) (List.set (q42_2 v5 x1 x0) (Int.toNat v5) ((List.getD (q42_2 v5 x1 x0) (Int.toNat v5) (ByteArray.empty,0,0,0,())).1,(List.getD (q42_2 v5 x1 x0) (Int.toNat v5) (ByteArray.empty,0,0,0,())).2.1,(List.getD (q42_2 v5 x1 x0) (Int.toNat v5) (ByteArray.empty,0,0,0,())).2.2.1,x1+1+1+1,(List.getD (q42_2 v5 x1 x0) (Int.toNat v5) (ByteArray.empty,0,0,0,())).2.2.2.2)) ds us)))))))))) else (ds=[Dyn.mk (.int .i64) x1]∧us=[Option.some (Lst.mk YA5 x0)]))
end
theorem snd42:∀ n,(∀ (x0:List TyB1) (x1:Int) ds us,R42 n x0 x1 ds us→∀ K q,AtV Tryz.prog 42 (PostR kds42 oks42 ds us [0] q K) 42 K q [0] [.code b42] (entE 0 0 sig42 (x0,x1,())) (entL sig42 (x0,x1,())))∧(∀ (v5:Int) (x1:Int) (x0:List TyB1) ds us,R42_2 n v5 x1 x0 ds us→∀ K q,AtV Tryz.prog 42 (PostR kds42 oks42 ds us [0] q K) 42 K q [0] (cutAt b42 2) (E42_2 v5 x1 x0) (L42_2 v5 x1 x0)):=by
 intro n
 induction n with
 | zero=>exact ⟨fun _ _ _ _ h=>by simp only [R42] at h,fun _ _ _ _ _ h=>by simp only [R42_2] at h⟩
 | succ n ih =>
 obtain ⟨ih,ih2⟩:=ih
 refine ⟨?_,?_⟩
 ·intro x0 x1 ds us h K q
  rw [R42] at h
  exact AtV.go tabOk ext42Ok mixed false [] [] [0,1,5] [0] [] trivial (ih2 _ _ _ _ _ h K q) (by kernel_rfl)
 ·intro v5 x1 x0 ds us h K q
  rw [R42_2] at h
  by_cases b0:(decide (v5<(x0.length:Int)))=true
  ·rw [if_pos b0] at h
   obtain ⟨s0,s1,h⟩:=h
   obtain ⟨s2,h⟩:=h
   obtain ⟨s3,s4,h⟩:=h
   obtain ⟨s5,h⟩:=h
   obtain ⟨s6,s7,h⟩:=h
   obtain ⟨s8,h⟩:=h
   obtain ⟨s9,s10,h⟩:=h
   obtain ⟨s11,h⟩:=h
   obtain ⟨s12,h⟩:=h
   exact AtV.go tabOk ext42Ok mixed false [] [] [0,1,5] [0] [true] (a1 b0 (a1 trivial (a1 s0 (a1 s1 (a1 s2 (a1 s3 (a1 s4 (a1 s5 (a1 s6 (a1 s7 (a1 s8 (a1 s9 (a1 s10 (a1 s11 (a1 s12 trivial))))))))))))))) (ih2 _ _ _ _ _ h K q) (by kernel_rfl)
  ·rw [if_neg b0] at h
   replace b0:=bf_ b0
   obtain ⟨h,h'⟩:=h;subst h;subst h'
   exact AtV.ret Tryz.func42 tabOk ext42Ok mixed false [] tys42 [false] (a1 b0 trivial) (by kernel_rfl)
def M42 (x1:Int) (n:Nat):List TyB1:=(List.range n).map fun (j:Nat)=>(g46_0 (x1+4*(j:Int)),(x1+4*(j:Int)+1),(x1+4*(j:Int)+1+1),(x1+4*(j:Int)+1+1+1),())
theorem M42_len (x1:Int) (n:Nat):(M42 x1 n).length=n:=by simp [M42]
theorem M42_succ (x1:Int) (n:Nat):M42 x1 (n+1)=M42 x1 n++[(g46_0 (x1+4*(n:Int)),(x1+4*(n:Int)+1),(x1+4*(n:Int)+1+1),(x1+4*(n:Int)+1+1+1),())]:=by
 simp [M42,List.range_succ]
theorem run42 (x0:List TyB1) (x1:Int) (hm:x0.length≤maxLen) (h0:0≤x1) (h1:x1+4*x0.length≤9223372036854775807):∀ (k i:Nat),i+k=x0.length →
  R42_2 (k+1) (i:Int) (x1+4*(i:Int)) (M42 x1 i++x0.drop i) [⟨.int .i64,x1+4*(x0.length:Int)⟩] [some ⟨(.cons .str (.cons (.int .i64) (.cons (.int .i64) (.cons (.int .i64) .unit)))),M42 x1 x0.length⟩]:=by
 intro k
 induction k with
 | zero =>
  intro i hi
  have hl:(M42 x1 i++x0.drop i).length=x0.length:=by simp [M42_len];omega
  rw [R42_2,if_neg (by rw [hl];simp;omega),drop_end x0 i (by omega),List.append_nil]
  have:i=x0.length:=by omega
  subst this
  exact ⟨rfl,rfl⟩
 | succ k ih =>
  intro i hi
  have hl:(M42 x1 i++x0.drop i).length=x0.length:=by simp [M42_len];omega
  have hA:=M42_len x1 i
  rw [R42_2,if_pos (by rw [hl];simp;omega)]
  rw [drop_get x0 i (ByteArray.empty,(0:Int),(0:Int),(0:Int),()) (by omega)] at hl ⊢
  simp only [Int.toNat_natCast,q42_0,q42_1,q42_2,set_mid _ _ _ _ i hA,get_mid _ _ _ _ i hA]
  have hl':∀ y:TyB1,((M42 x1 i++y :: x0.drop (i+1)).length:Int)=x0.length:=fun y=>by rw [← hl];simp
  simp only [hl']
  refine ⟨by omega,by omega,by rw [i64_iff];omega,by omega,by omega,by rw [i64_iff];omega,by omega,by omega,by rw [i64_iff];omega,by omega,by omega,by rw [i64_iff];omega,inR_up hm (by omega),?_⟩
  have hx:x1+4*(i:Int)+1+1+1+1=x1+4*((i+1:Nat):Int):=by omega
  have:=ih (i+1) (by omega)
  rw [M42_succ,List.append_assoc] at this
  rw [hx]
  simpa using this
def P42 (x0:List TyB1) (x1:Int):Prop:=0≤x1∧x1+4*x0.length≤9223372036854775807
def g42_0 (x0:List TyB1) (x1:Int):Int:=x1+4*(x0.length:Int)
def u42_0 (x0:List TyB1) (x1:Int):List TyB1:=M42 x1 x0.length
theorem top42 (x0:List TyB1) (x1:Int) (hm:x0.length≤maxLen) (h:P42 x0 x1):R42 (x0.length+1+1) x0 x1 [⟨.int .i64,g42_0 x0 x1⟩] [some ⟨(.cons .str (.cons (.int .i64) (.cons (.int .i64) (.cons (.int .i64) .unit)))),u42_0 x0 x1⟩]:=by
 rw [R42]
 have:=run42 x0 x1 hm h.1 h.2 x0.length 0 (by omega)
 simpa [M42,g42_0,u42_0] using this
def S42:Am.Spec:={ sig:=sig42,pre:=fun ⟨x0,x1,_⟩=>P42 x0 x1,upd:=fun ⟨x0,x1,_⟩=>[some ⟨(.cons .str (.cons (.int .i64) (.cons (.int .i64) (.cons (.int .i64) .unit)))),u42_0 x0 x1⟩],res:=fun ⟨x0,x1,_⟩=>[⟨.int .i64,g42_0 x0 x1⟩] }
theorem con42:Contract Tryz.prog 42 S42:=contract_of Tryz.func42 hb42 (bl_ (by kernel_rfl)) (fun ⟨x0,x1,_⟩ h hwf K q =>
 (snd42 _).1 x0 x1 _ _ (top42 x0 x1 hwf.1.1 h) K q)
end
noncomputable section
def ext43:Ext:=[(46,S46)]
theorem ext43Ok:ExtOk Tryz.prog ext43:=⟨⟨ca46,con46⟩,trivial⟩
def b43:Code:=bodyOf Tryz.f43
theorem hb43:Tryz.f43.body=some b43:=by kernel_rfl
def sig43:List AT:=[AT.own YA3,AT.v (.int .i64)]
def tys43:List Ty:=[.int .i64]
def kds43:List RK:=[]
def oks43:List AT:=owns sig43
def E43_2 (v5:Int) (x1:Int) (x0:List TyB0):Env:=[(0,.a (.osl 0 Option.none)),(1,.a (.val (.int .i64 x1))),(5,.a (.val (.int .i64 v5)))]
def L43_2 (v5:Int) (x1:Int) (x0:List TyB0):Heap:=[Option.some (Arr.mk YA3 x0 false Option.none Option.none)]
@[reducible] def q43_0 (v5:Int) (x1:Int) (x0:List TyB0):=List.set x0 (Int.toNat v5) (g46_0 x1,(List.getD x0 (Int.toNat v5) (ByteArray.empty,0,0,0,0,())).2)
@[reducible] def q43_1 (v5:Int) (x1:Int) (x0:List TyB0):=List.set (q43_0 v5 x1 x0) (Int.toNat v5) ((List.getD (q43_0 v5 x1 x0) (Int.toNat v5) (ByteArray.empty,0,0,0,0,())).1,x1+1,(List.getD (q43_0 v5 x1 x0) (Int.toNat v5) (ByteArray.empty,0,0,0,0,())).2.2)
@[reducible] def q43_2 (v5:Int) (x1:Int) (x0:List TyB0):=List.set (q43_1 v5 x1 x0) (Int.toNat v5) ((List.getD (q43_1 v5 x1 x0) (Int.toNat v5) (ByteArray.empty,0,0,0,0,())).1,(List.getD (q43_1 v5 x1 x0) (Int.toNat v5) (ByteArray.empty,0,0,0,0,())).2.1,x1+1+1,(List.getD (q43_1 v5 x1 x0) (Int.toNat v5) (ByteArray.empty,0,0,0,0,())).2.2.2)
@[reducible] def q43_3 (v5:Int) (x1:Int) (x0:List TyB0):=List.set (q43_2 v5 x1 x0) (Int.toNat v5) ((List.getD (q43_2 v5 x1 x0) (Int.toNat v5) (ByteArray.empty,0,0,0,0,())).1,(List.getD (q43_2 v5 x1 x0) (Int.toNat v5) (ByteArray.empty,0,0,0,0,())).2.1,(List.getD (q43_2 v5 x1 x0) (Int.toNat v5) (ByteArray.empty,0,0,0,0,())).2.2.1,x1+1+1+1,(List.getD (q43_2 v5 x1 x0) (Int.toNat v5) (ByteArray.empty,0,0,0,0,())).2.2.2.2)
mutual
def R43:Nat→List TyB0→Int→List Dyn→List (Option Lst)→Prop
 | 0,_,_,_,_=>False
 | n+1,x0,x1,ds,us=>(R43_2 n (0) (x1) (x0) ds us)
def R43_2:Nat→Int→Int→List TyB0→List Dyn→List (Option Lst)→Prop
 | 0,_,_,_,_,_=>False
 | n+1,v5,x1,x0,ds,us=>(if (decide (v5<(x0.length:Int)))=true then ((0≤v5)∧(v5<(x0.length:Int))∧((InR .i64 (x1+1))∧((0≤v5)∧(v5<(↑(List.length (q43_0 v5 x1 x0)):Int))∧((InR .i64 (x1+1+1))∧((0≤v5)∧(v5<(↑(List.length (q43_1 v5 x1 x0)):Int))∧((InR .i64 (x1+1+1+1))∧((0≤v5)∧(v5<(↑(List.length (q43_2 v5 x1 x0)):Int))∧((InR .i64 (x1+1+1+1+1))∧((0≤v5)∧(v5<(↑(List.length (q43_3 v5 x1 x0)):Int))∧((InR .i64 (x1+1+1+1+1+1))∧((InR .i64 (v5+1))∧(R43_2 n (v5+1) (x1+1+1+1+1+1) (List.set (q43_3 v5 x1 x0) (Int.toNat v5) ((List.getD (q43_3 v5 x1 x0) (Int.toNat v5) (ByteArray.empty,0,0,0,0,())).1,(List.getD (q43_3 v5 x1 x0) (Int.toNat v5) (ByteArray.empty,0,0,0,0,())).2.1,(List.getD (q43_3 v5 x1 x0) (Int.toNat v5) (ByteArray.empty,0,0,0,0,())).2.2.1,(List.getD (q43_3 v5 x1 x0) (Int.toNat v5) (ByteArray.empty,0,0,0,0,())).2.2.2.1,x1+1+1+1+1,(List.getD (q43_3 v5 x1 x0) (Int.toNat v5) (ByteArray.empty,0,0,0,0,())).2.2.2.2.2)) ds us)))))))))))) else (ds=[Dyn.mk (.int .i64) x1]∧us=[Option.some (Lst.mk YA3 x0)]))
end
theorem snd43:∀ n,(∀ (x0:List TyB0) (x1:Int) ds us,R43 n x0 x1 ds us→∀ K q,AtV Tryz.prog 43 (PostR kds43 oks43 ds us [0] q K) 49 K q [0] [.code b43] (entE 0 0 sig43 (x0,x1,())) (entL sig43 (x0,x1,())))∧(∀ (v5:Int) (x1:Int) (x0:List TyB0) ds us,R43_2 n v5 x1 x0 ds us→∀ K q,AtV Tryz.prog 43 (PostR kds43 oks43 ds us [0] q K) 49 K q [0] (cutAt b43 2) (E43_2 v5 x1 x0) (L43_2 v5 x1 x0)):=by
 intro n
 induction n with
 | zero=>exact ⟨fun _ _ _ _ h=>by simp only [R43] at h,fun _ _ _ _ _ h=>by simp only [R43_2] at h⟩
 | succ n ih =>
 obtain ⟨ih,ih2⟩:=ih
 refine ⟨?_,?_⟩
 ·intro x0 x1 ds us h K q
  rw [R43] at h
  exact AtV.go tabOk ext43Ok mixed false [] [] [0,1,5] [0] [] trivial (ih2 _ _ _ _ _ h K q) (by kernel_rfl)
 ·intro v5 x1 x0 ds us h K q
  rw [R43_2] at h
  by_cases b0:(decide (v5<(x0.length:Int)))=true
  ·rw [if_pos b0] at h
   obtain ⟨s0,s1,h⟩:=h
   obtain ⟨s2,h⟩:=h
   obtain ⟨s3,s4,h⟩:=h
   obtain ⟨s5,h⟩:=h
   obtain ⟨s6,s7,h⟩:=h
   obtain ⟨s8,h⟩:=h
   obtain ⟨s9,s10,h⟩:=h
   obtain ⟨s11,h⟩:=h
   obtain ⟨s12,s13,h⟩:=h
   obtain ⟨s14,h⟩:=h
   obtain ⟨s15,h⟩:=h
   exact AtV.go tabOk ext43Ok mixed false [] [] [0,1,5] [0] [true] (a1 b0 (a1 trivial (a1 s0 (a1 s1 (a1 s2 (a1 s3 (a1 s4 (a1 s5 (a1 s6 (a1 s7 (a1 s8 (a1 s9 (a1 s10 (a1 s11 (a1 s12 (a1 s13 (a1 s14 (a1 s15 trivial)))))))))))))))))) (ih2 _ _ _ _ _ h K q) (by kernel_rfl)
  ·rw [if_neg b0] at h
   replace b0:=bf_ b0
   obtain ⟨h,h'⟩:=h;subst h;subst h'
   exact AtV.ret Tryz.func43 tabOk ext43Ok mixed false [] tys43 [false] (a1 b0 trivial) (by kernel_rfl)
def M43 (x1:Int) (n:Nat):List TyB0:=(List.range n).map fun (j:Nat)=>(g46_0 (x1+5*(j:Int)),(x1+5*(j:Int)+1),(x1+5*(j:Int)+1+1),(x1+5*(j:Int)+1+1+1),(x1+5*(j:Int)+1+1+1+1),())
theorem M43_len (x1:Int) (n:Nat):(M43 x1 n).length=n:=by simp [M43]
theorem M43_succ (x1:Int) (n:Nat):M43 x1 (n+1)=M43 x1 n++[(g46_0 (x1+5*(n:Int)),(x1+5*(n:Int)+1),(x1+5*(n:Int)+1+1),(x1+5*(n:Int)+1+1+1),(x1+5*(n:Int)+1+1+1+1),())]:=by
 simp [M43,List.range_succ]
theorem run43 (x0:List TyB0) (x1:Int) (hm:x0.length≤maxLen) (h0:0≤x1) (h1:x1+5*x0.length≤9223372036854775807):∀ (k i:Nat),i+k=x0.length →
  R43_2 (k+1) (i:Int) (x1+5*(i:Int)) (M43 x1 i++x0.drop i) [⟨.int .i64,x1+5*(x0.length:Int)⟩] [some ⟨(.cons .str (.cons (.int .i64) (.cons (.int .i64) (.cons (.int .i64) (.cons (.int .i64) .unit))))),M43 x1 x0.length⟩]:=by
 intro k
 induction k with
 | zero =>
  intro i hi
  have hl:(M43 x1 i++x0.drop i).length=x0.length:=by simp [M43_len];omega
  rw [R43_2,if_neg (by rw [hl];simp;omega),drop_end x0 i (by omega),List.append_nil]
  have:i=x0.length:=by omega
  subst this
  exact ⟨rfl,rfl⟩
 | succ k ih =>
  intro i hi
  have hl:(M43 x1 i++x0.drop i).length=x0.length:=by simp [M43_len];omega
  have hA:=M43_len x1 i
  rw [R43_2,if_pos (by rw [hl];simp;omega)]
  rw [drop_get x0 i (ByteArray.empty,(0:Int),(0:Int),(0:Int),(0:Int),()) (by omega)] at hl ⊢
  simp only [Int.toNat_natCast,q43_0,q43_1,q43_2,q43_3,set_mid _ _ _ _ i hA,get_mid _ _ _ _ i hA]
  have hl':∀ y:TyB0,((M43 x1 i++y :: x0.drop (i+1)).length:Int)=x0.length:=fun y=>by rw [← hl];simp
  simp only [hl']
  refine ⟨by omega,by omega,by rw [i64_iff];omega,by omega,by omega,by rw [i64_iff];omega,by omega,by omega,by rw [i64_iff];omega,by omega,by omega,by rw [i64_iff];omega,by omega,by omega,by rw [i64_iff];omega,inR_up hm (by omega),?_⟩
  have hx:x1+5*(i:Int)+1+1+1+1+1=x1+5*((i+1:Nat):Int):=by omega
  have:=ih (i+1) (by omega)
  rw [M43_succ,List.append_assoc] at this
  rw [hx]
  simpa using this
def P43 (x0:List TyB0) (x1:Int):Prop:=0≤x1∧x1+5*x0.length≤9223372036854775807
def g43_0 (x0:List TyB0) (x1:Int):Int:=x1+5*(x0.length:Int)
def u43_0 (x0:List TyB0) (x1:Int):List TyB0:=M43 x1 x0.length
theorem top43 (x0:List TyB0) (x1:Int) (hm:x0.length≤maxLen) (h:P43 x0 x1):R43 (x0.length+1+1) x0 x1 [⟨.int .i64,g43_0 x0 x1⟩] [some ⟨(.cons .str (.cons (.int .i64) (.cons (.int .i64) (.cons (.int .i64) (.cons (.int .i64) .unit))))),u43_0 x0 x1⟩]:=by
 rw [R43]
 have:=run43 x0 x1 hm h.1 h.2 x0.length 0 (by omega)
 simpa [M43,g43_0,u43_0] using this
def S43:Am.Spec:={ sig:=sig43,pre:=fun ⟨x0,x1,_⟩=>P43 x0 x1,upd:=fun ⟨x0,x1,_⟩=>[some ⟨(.cons .str (.cons (.int .i64) (.cons (.int .i64) (.cons (.int .i64) (.cons (.int .i64) .unit))))),u43_0 x0 x1⟩],res:=fun ⟨x0,x1,_⟩=>[⟨.int .i64,g43_0 x0 x1⟩] }
theorem con43:Contract Tryz.prog 43 S43:=contract_of Tryz.func43 hb43 (bl_ (by kernel_rfl)) (fun ⟨x0,x1,_⟩ h hwf K q =>
 (snd43 _).1 x0 x1 _ _ (top43 x0 x1 hwf.1.1 h) K q)
end
noncomputable section
def ext44:Ext:=[]
theorem ext44Ok:ExtOk Tryz.prog ext44:=trivial
def b44:Code:=bodyOf Tryz.f44
theorem hb44:Tryz.f44.body=some b44:=by kernel_rfl
def sig44:List AT:=[AT.own YA9,AT.v (.int .i64)]
def tys44:List Ty:=[.int .i64]
def kds44:List RK:=[]
def oks44:List AT:=owns sig44
def E44_2 (v5:Int) (x1:Int) (x0:List TyB4):Env:=[(0,.a (.osl 0 Option.none)),(1,.a (.val (.int .i64 x1))),(5,.a (.val (.int .i64 v5)))]
def L44_2 (v5:Int) (x1:Int) (x0:List TyB4):Heap:=[Option.some (Arr.mk YA9 x0 false Option.none Option.none)]
mutual
def R44:Nat→List TyB4→Int→List Dyn→List (Option Lst)→Prop
 | 0,_,_,_,_=>False
 | n+1,x0,x1,ds,us=>(R44_2 n (0) (x1) (x0) ds us)
def R44_2:Nat→Int→Int→List TyB4→List Dyn→List (Option Lst)→Prop
 | 0,_,_,_,_,_=>False
 | n+1,v5,x1,x0,ds,us=>(if (decide (v5<(x0.length:Int)))=true then ((0≤v5)∧(v5<(x0.length:Int))∧((InR .i64 (x1+1))∧((0≤v5)∧(v5<(↑(List.length (List.set x0 (Int.toNat v5) (x1,(List.getD x0 (Int.toNat v5) (0,0,())).2))):Int))∧((InR .i64 (x1+1+1))∧((InR .i64 (v5+1))∧(R44_2 n (v5+1) (x1+1+1) (List.set (List.set x0 (Int.toNat v5) (x1,(List.getD x0 (Int.toNat v5) (0,0,())).2)) (Int.toNat v5) ((List.getD (List.set x0 (Int.toNat v5) (x1,(List.getD x0 (Int.toNat v5) (0,0,())).2)) (Int.toNat v5) (0,0,())).1,x1+1,(List.getD (List.set x0 (Int.toNat v5) (x1,(List.getD x0 (Int.toNat v5) (0,0,())).2)) (Int.toNat v5) (0,0,())).2.2)) ds us)))))) else (ds=[Dyn.mk (.int .i64) x1]∧us=[Option.some (Lst.mk YA9 x0)]))
end
theorem snd44:∀ n,(∀ (x0:List TyB4) (x1:Int) ds us,R44 n x0 x1 ds us→∀ K q,AtV Tryz.prog 44 (PostR kds44 oks44 ds us [0] q K) 27 K q [0] [.code b44] (entE 0 0 sig44 (x0,x1,())) (entL sig44 (x0,x1,())))∧(∀ (v5:Int) (x1:Int) (x0:List TyB4) ds us,R44_2 n v5 x1 x0 ds us→∀ K q,AtV Tryz.prog 44 (PostR kds44 oks44 ds us [0] q K) 27 K q [0] (cutAt b44 2) (E44_2 v5 x1 x0) (L44_2 v5 x1 x0)):=by
 intro n
 induction n with
 | zero=>exact ⟨fun _ _ _ _ h=>by simp only [R44] at h,fun _ _ _ _ _ h=>by simp only [R44_2] at h⟩
 | succ n ih =>
 obtain ⟨ih,ih2⟩:=ih
 refine ⟨?_,?_⟩
 ·intro x0 x1 ds us h K q
  rw [R44] at h
  exact AtV.go tabOk ext44Ok mixed false [] [] [0,1,5] [0] [] trivial (ih2 _ _ _ _ _ h K q) (by kernel_rfl)
 ·intro v5 x1 x0 ds us h K q
  rw [R44_2] at h
  by_cases b0:(decide (v5<(x0.length:Int)))=true
  ·rw [if_pos b0] at h
   obtain ⟨s0,s1,h⟩:=h
   obtain ⟨s2,h⟩:=h
   obtain ⟨s3,s4,h⟩:=h
   obtain ⟨s5,h⟩:=h
   obtain ⟨s6,h⟩:=h
   exact AtV.go tabOk ext44Ok mixed false [] [] [0,1,5] [0] [true] (a1 b0 (a1 s0 (a1 s1 (a1 s2 (a1 s3 (a1 s4 (a1 s5 (a1 s6 trivial)))))))) (ih2 _ _ _ _ _ h K q) (by kernel_rfl)
  ·rw [if_neg b0] at h
   replace b0:=bf_ b0
   obtain ⟨h,h'⟩:=h;subst h;subst h'
   exact AtV.ret Tryz.func44 tabOk ext44Ok mixed false [] tys44 [false] (a1 b0 trivial) (by kernel_rfl)
def M44 (x1:Int) (n:Nat):List TyB4:=(List.range n).map fun (j:Nat)=>((x1+2*(j:Int)),(x1+2*(j:Int)+1),())
theorem M44_len (x1:Int) (n:Nat):(M44 x1 n).length=n:=by simp [M44]
theorem M44_succ (x1:Int) (n:Nat):M44 x1 (n+1)=M44 x1 n++[((x1+2*(n:Int)),(x1+2*(n:Int)+1),())]:=by
 simp [M44,List.range_succ]
theorem run44 (x0:List TyB4) (x1:Int) (hm:x0.length≤maxLen) (h0:0≤x1) (h1:x1+2*x0.length≤9223372036854775807):∀ (k i:Nat),i+k=x0.length →
  R44_2 (k+1) (i:Int) (x1+2*(i:Int)) (M44 x1 i++x0.drop i) [⟨.int .i64,x1+2*(x0.length:Int)⟩] [some ⟨(.cons (.int .i64) (.cons (.int .i64) .unit)),M44 x1 x0.length⟩]:=by
 intro k
 induction k with
 | zero =>
  intro i hi
  have hl:(M44 x1 i++x0.drop i).length=x0.length:=by simp [M44_len];omega
  rw [R44_2,if_neg (by rw [hl];simp;omega),drop_end x0 i (by omega),List.append_nil]
  have:i=x0.length:=by omega
  subst this
  exact ⟨rfl,rfl⟩
 | succ k ih =>
  intro i hi
  have hl:(M44 x1 i++x0.drop i).length=x0.length:=by simp [M44_len];omega
  have hA:=M44_len x1 i
  rw [R44_2,if_pos (by rw [hl];simp;omega)]
  rw [drop_get x0 i ((0:Int),(0:Int),()) (by omega)] at hl ⊢
  simp only [Int.toNat_natCast,set_mid _ _ _ _ i hA,get_mid _ _ _ _ i hA]
  have hl':∀ y:TyB4,((M44 x1 i++y :: x0.drop (i+1)).length:Int)=x0.length:=fun y=>by rw [← hl];simp
  simp only [hl']
  refine ⟨by omega,by omega,by rw [i64_iff];omega,by omega,by omega,by rw [i64_iff];omega,inR_up hm (by omega),?_⟩
  have hx:x1+2*(i:Int)+1+1=x1+2*((i+1:Nat):Int):=by omega
  have:=ih (i+1) (by omega)
  rw [M44_succ,List.append_assoc] at this
  rw [hx]
  simpa using this
def P44 (x0:List TyB4) (x1:Int):Prop:=0≤x1∧x1+2*x0.length≤9223372036854775807
def g44_0 (x0:List TyB4) (x1:Int):Int:=x1+2*(x0.length:Int)
def u44_0 (x0:List TyB4) (x1:Int):List TyB4:=M44 x1 x0.length
theorem top44 (x0:List TyB4) (x1:Int) (hm:x0.length≤maxLen) (h:P44 x0 x1):R44 (x0.length+1+1) x0 x1 [⟨.int .i64,g44_0 x0 x1⟩] [some ⟨(.cons (.int .i64) (.cons (.int .i64) .unit)),u44_0 x0 x1⟩]:=by
 rw [R44]
 have:=run44 x0 x1 hm h.1 h.2 x0.length 0 (by omega)
 simpa [M44,g44_0,u44_0] using this
def S44:Am.Spec:={ sig:=sig44,pre:=fun ⟨x0,x1,_⟩=>P44 x0 x1,upd:=fun ⟨x0,x1,_⟩=>[some ⟨(.cons (.int .i64) (.cons (.int .i64) .unit)),u44_0 x0 x1⟩],res:=fun ⟨x0,x1,_⟩=>[⟨.int .i64,g44_0 x0 x1⟩] }
theorem con44:Contract Tryz.prog 44 S44:=contract_of Tryz.func44 hb44 (bl_ (by kernel_rfl)) (fun ⟨x0,x1,_⟩ h hwf K q =>
 (snd44 _).1 x0 x1 _ _ (top44 x0 x1 hwf.1.1 h) K q)
end
noncomputable section
def ext45:Ext:=[(46,S46)]
theorem ext45Ok:ExtOk Tryz.prog ext45:=⟨⟨ca46,con46⟩,trivial⟩
def b45:Code:=bodyOf Tryz.f45
theorem hb45:Tryz.f45.body=some b45:=by kernel_rfl
def sig45:List AT:=[AT.own YA6,AT.v (.int .i64)]
def tys45:List Ty:=[.int .i64]
def kds45:List RK:=[]
def oks45:List AT:=owns sig45
def E45_2 (v5:Int) (x1:Int) (x0:List TyB2):Env:=[(0,.a (.osl 0 Option.none)),(1,.a (.val (.int .i64 x1))),(5,.a (.val (.int .i64 v5)))]
def L45_2 (v5:Int) (x1:Int) (x0:List TyB2):Heap:=[Option.some (Arr.mk YA6 x0 false Option.none Option.none)]
@[reducible] def q45_0 (v5:Int) (x1:Int) (x0:List TyB2):=List.set x0 (Int.toNat v5) (x1,(List.getD x0 (Int.toNat v5) (0,0,ByteArray.empty,0,())).2)
@[reducible] def q45_1 (v5:Int) (x1:Int) (x0:List TyB2):=List.set (q45_0 v5 x1 x0) (Int.toNat v5) ((List.getD (q45_0 v5 x1 x0) (Int.toNat v5) (0,0,ByteArray.empty,0,())).1,x1+1,(List.getD (q45_0 v5 x1 x0) (Int.toNat v5) (0,0,ByteArray.empty,0,())).2.2)
@[reducible] def q45_2 (v5:Int) (x1:Int) (x0:List TyB2):=List.set (q45_1 v5 x1 x0) (Int.toNat v5) ((List.getD (q45_1 v5 x1 x0) (Int.toNat v5) (0,0,ByteArray.empty,0,())).1,(List.getD (q45_1 v5 x1 x0) (Int.toNat v5) (0,0,ByteArray.empty,0,())).2.1,g46_0 (x1+1+1),(List.getD (q45_1 v5 x1 x0) (Int.toNat v5) (0,0,ByteArray.empty,0,())).2.2.2)
mutual
def R45:Nat→List TyB2→Int→List Dyn→List (Option Lst)→Prop
 | 0,_,_,_,_=>False
 | n+1,x0,x1,ds,us=>(R45_2 n (0) (x1) (x0) ds us)
def R45_2:Nat→Int→Int→List TyB2→List Dyn→List (Option Lst)→Prop
 | 0,_,_,_,_,_=>False
 | n+1,v5,x1,x0,ds,us=>(if (decide (v5<(x0.length:Int)))=true then ((0≤v5)∧(v5<(x0.length:Int))∧((InR .i64 (x1+1))∧((0≤v5)∧(v5<(↑(List.length (q45_0 v5 x1 x0)):Int))∧((InR .i64 (x1+1+1))∧((0≤v5)∧(v5<(↑(List.length (q45_1 v5 x1 x0)):Int))∧((InR .i64 (x1+1+1+1))∧((0≤v5)∧(v5<(↑(List.length (q45_2 v5 x1 x0)):Int))∧((InR .i64 (x1+1+1+1+1))∧((InR .i64 (v5+1))∧(R45_2 n (v5+1) (x1+1+1+1+1) (List.set (q45_2 v5 x1 x0) (Int.toNat v5) ((List.getD (q45_2 v5 x1 x0) (Int.toNat v5) (0,0,ByteArray.empty,0,())).1,(List.getD (q45_2 v5 x1 x0) (Int.toNat v5) (0,0,ByteArray.empty,0,())).2.1,(List.getD (q45_2 v5 x1 x0) (Int.toNat v5) (0,0,ByteArray.empty,0,())).2.2.1,x1+1+1+1,(List.getD (q45_2 v5 x1 x0) (Int.toNat v5) (0,0,ByteArray.empty,0,())).2.2.2.2)) ds us)))))))))) else (ds=[Dyn.mk (.int .i64) x1]∧us=[Option.some (Lst.mk YA6 x0)]))
end
theorem snd45:∀ n,(∀ (x0:List TyB2) (x1:Int) ds us,R45 n x0 x1 ds us→∀ K q,AtV Tryz.prog 45 (PostR kds45 oks45 ds us [0] q K) 42 K q [0] [.code b45] (entE 0 0 sig45 (x0,x1,())) (entL sig45 (x0,x1,())))∧(∀ (v5:Int) (x1:Int) (x0:List TyB2) ds us,R45_2 n v5 x1 x0 ds us→∀ K q,AtV Tryz.prog 45 (PostR kds45 oks45 ds us [0] q K) 42 K q [0] (cutAt b45 2) (E45_2 v5 x1 x0) (L45_2 v5 x1 x0)):=by
 intro n
 induction n with
 | zero=>exact ⟨fun _ _ _ _ h=>by simp only [R45] at h,fun _ _ _ _ _ h=>by simp only [R45_2] at h⟩
 | succ n ih =>
 obtain ⟨ih,ih2⟩:=ih
 refine ⟨?_,?_⟩
 ·intro x0 x1 ds us h K q
  rw [R45] at h
  exact AtV.go tabOk ext45Ok mixed false [] [] [0,1,5] [0] [] trivial (ih2 _ _ _ _ _ h K q) (by kernel_rfl)
 ·intro v5 x1 x0 ds us h K q
  rw [R45_2] at h
  by_cases b0:(decide (v5<(x0.length:Int)))=true
  ·rw [if_pos b0] at h
   obtain ⟨s0,s1,h⟩:=h
   obtain ⟨s2,h⟩:=h
   obtain ⟨s3,s4,h⟩:=h
   obtain ⟨s5,h⟩:=h
   obtain ⟨s6,s7,h⟩:=h
   obtain ⟨s8,h⟩:=h
   obtain ⟨s9,s10,h⟩:=h
   obtain ⟨s11,h⟩:=h
   obtain ⟨s12,h⟩:=h
   exact AtV.go tabOk ext45Ok mixed false [] [] [0,1,5] [0] [true] (a1 b0 (a1 s0 (a1 s1 (a1 s2 (a1 s3 (a1 s4 (a1 s5 (a1 trivial (a1 s6 (a1 s7 (a1 s8 (a1 s9 (a1 s10 (a1 s11 (a1 s12 trivial))))))))))))))) (ih2 _ _ _ _ _ h K q) (by kernel_rfl)
  ·rw [if_neg b0] at h
   replace b0:=bf_ b0
   obtain ⟨h,h'⟩:=h;subst h;subst h'
   exact AtV.ret Tryz.func45 tabOk ext45Ok mixed false [] tys45 [false] (a1 b0 trivial) (by kernel_rfl)
def M45 (x1:Int) (n:Nat):List TyB2:=(List.range n).map fun (j:Nat)=>((x1+4*(j:Int)),(x1+4*(j:Int)+1),g46_0 (x1+4*(j:Int)+1+1),(x1+4*(j:Int)+1+1+1),())
theorem M45_len (x1:Int) (n:Nat):(M45 x1 n).length=n:=by simp [M45]
theorem M45_succ (x1:Int) (n:Nat):M45 x1 (n+1)=M45 x1 n++[((x1+4*(n:Int)),(x1+4*(n:Int)+1),g46_0 (x1+4*(n:Int)+1+1),(x1+4*(n:Int)+1+1+1),())]:=by
 simp [M45,List.range_succ]
theorem run45 (x0:List TyB2) (x1:Int) (hm:x0.length≤maxLen) (h0:0≤x1) (h1:x1+4*x0.length≤9223372036854775807):∀ (k i:Nat),i+k=x0.length →
  R45_2 (k+1) (i:Int) (x1+4*(i:Int)) (M45 x1 i++x0.drop i) [⟨.int .i64,x1+4*(x0.length:Int)⟩] [some ⟨(.cons (.int .i64) (.cons (.int .i64) (.cons .str (.cons (.int .i64) .unit)))),M45 x1 x0.length⟩]:=by
 intro k
 induction k with
 | zero =>
  intro i hi
  have hl:(M45 x1 i++x0.drop i).length=x0.length:=by simp [M45_len];omega
  rw [R45_2,if_neg (by rw [hl];simp;omega),drop_end x0 i (by omega),List.append_nil]
  have:i=x0.length:=by omega
  subst this
  exact ⟨rfl,rfl⟩
 | succ k ih =>
  intro i hi
  have hl:(M45 x1 i++x0.drop i).length=x0.length:=by simp [M45_len];omega
  have hA:=M45_len x1 i
  rw [R45_2,if_pos (by rw [hl];simp;omega)]
  rw [drop_get x0 i ((0:Int),(0:Int),ByteArray.empty,(0:Int),()) (by omega)] at hl ⊢
  simp only [Int.toNat_natCast,q45_0,q45_1,q45_2,set_mid _ _ _ _ i hA,get_mid _ _ _ _ i hA]
  have hl':∀ y:TyB2,((M45 x1 i++y :: x0.drop (i+1)).length:Int)=x0.length:=fun y=>by rw [← hl];simp
  simp only [hl']
  refine ⟨by omega,by omega,by rw [i64_iff];omega,by omega,by omega,by rw [i64_iff];omega,by omega,by omega,by rw [i64_iff];omega,by omega,by omega,by rw [i64_iff];omega,inR_up hm (by omega),?_⟩
  have hx:x1+4*(i:Int)+1+1+1+1=x1+4*((i+1:Nat):Int):=by omega
  have:=ih (i+1) (by omega)
  rw [M45_succ,List.append_assoc] at this
  rw [hx]
  simpa using this
def P45 (x0:List TyB2) (x1:Int):Prop:=0≤x1∧x1+4*x0.length≤9223372036854775807
def g45_0 (x0:List TyB2) (x1:Int):Int:=x1+4*(x0.length:Int)
def u45_0 (x0:List TyB2) (x1:Int):List TyB2:=M45 x1 x0.length
theorem top45 (x0:List TyB2) (x1:Int) (hm:x0.length≤maxLen) (h:P45 x0 x1):R45 (x0.length+1+1) x0 x1 [⟨.int .i64,g45_0 x0 x1⟩] [some ⟨(.cons (.int .i64) (.cons (.int .i64) (.cons .str (.cons (.int .i64) .unit)))),u45_0 x0 x1⟩]:=by
 rw [R45]
 have:=run45 x0 x1 hm h.1 h.2 x0.length 0 (by omega)
 simpa [M45,g45_0,u45_0] using this
def S45:Am.Spec:={ sig:=sig45,pre:=fun ⟨x0,x1,_⟩=>P45 x0 x1,upd:=fun ⟨x0,x1,_⟩=>[some ⟨(.cons (.int .i64) (.cons (.int .i64) (.cons .str (.cons (.int .i64) .unit)))),u45_0 x0 x1⟩],res:=fun ⟨x0,x1,_⟩=>[⟨.int .i64,g45_0 x0 x1⟩] }
theorem con45:Contract Tryz.prog 45 S45:=contract_of Tryz.func45 hb45 (bl_ (by kernel_rfl)) (fun ⟨x0,x1,_⟩ h hwf K q =>
 (snd45 _).1 x0 x1 _ _ (top45 x0 x1 hwf.1.1 h) K q)
end
noncomputable section
def ext10:Ext:=[(41,S41),(42,S42),(43,S43),(44,S44),(45,S45)]
theorem ext10Ok:ExtOk Tryz.prog ext10:=⟨⟨ca41,con41⟩,⟨ca42,con42⟩,⟨ca43,con43⟩,⟨ca44,con44⟩,⟨ca45,con45⟩,trivial⟩
def b10:Code:=bodyOf Tryz.f10
theorem hb10:Tryz.f10.body=some b10:=by kernel_rfl
def sig10:List AT:=[AT.sv YA0,AT.v (.int .i64)]
def tys10:List Ty:=[.int .i64]
def kds10:List RK:=[]
def oks10:List AT:=owns sig10
def P10 (x0:TyA0) (x1:Int):Prop:=((P41 (x0.1.1,x0.1.2.1,x0.1.2.2.1,()) x1)∧(List.length (u41_0 (x0.1.1,x0.1.2.1,x0.1.2.2.1,()) x1).1=List.length x0.1.1)∧((P42 x0.2.2.2.2.1 (g41_0 (x0.1.1,x0.1.2.1,x0.1.2.2.1,()) x1))∧(List.length (u42_0 x0.2.2.2.2.1 (g41_0 (x0.1.1,x0.1.2.1,x0.1.2.2.1,()) x1))=List.length x0.2.2.2.2.1)∧((P43 x0.2.2.2.2.2.2.1 (g42_0 x0.2.2.2.2.1 (g41_0 (x0.1.1,x0.1.2.1,x0.1.2.2.1,()) x1)))∧(List.length (u43_0 x0.2.2.2.2.2.2.1 (g42_0 x0.2.2.2.2.1 (g41_0 (x0.1.1,x0.1.2.1,x0.1.2.2.1,()) x1)))=List.length x0.2.2.2.2.2.2.1)∧((P44 x0.2.2.2.2.2.2.2.2.2.1 (g43_0 x0.2.2.2.2.2.2.1 (g42_0 x0.2.2.2.2.1 (g41_0 (x0.1.1,x0.1.2.1,x0.1.2.2.1,()) x1))))∧(List.length (u44_0 x0.2.2.2.2.2.2.2.2.2.1 (g43_0 x0.2.2.2.2.2.2.1 (g42_0 x0.2.2.2.2.1 (g41_0 (x0.1.1,x0.1.2.1,x0.1.2.2.1,()) x1))))=List.length x0.2.2.2.2.2.2.2.2.2.1)∧((P45 x0.2.2.2.2.2.2.2.2.2.2.2.1 (g44_0 x0.2.2.2.2.2.2.2.2.2.1 (g43_0 x0.2.2.2.2.2.2.1 (g42_0 x0.2.2.2.2.1 (g41_0 (x0.1.1,x0.1.2.1,x0.1.2.2.1,()) x1)))))∧(List.length (u45_0 x0.2.2.2.2.2.2.2.2.2.2.2.1 (g44_0 x0.2.2.2.2.2.2.2.2.2.1 (g43_0 x0.2.2.2.2.2.2.1 (g42_0 x0.2.2.2.2.1 (g41_0 (x0.1.1,x0.1.2.1,x0.1.2.2.1,()) x1)))))=List.length x0.2.2.2.2.2.2.2.2.2.2.2.1)∧True)))))
def g10_0 (x0:TyA0) (x1:Int):Int:=g45_0 x0.2.2.2.2.2.2.2.2.2.2.2.1 (g44_0 x0.2.2.2.2.2.2.2.2.2.1 (g43_0 x0.2.2.2.2.2.2.1 (g42_0 x0.2.2.2.2.1 (g41_0 (x0.1.1,x0.1.2.1,x0.1.2.2.1,()) x1))))
def u10_0 (x0:TyA0) (x1:Int):TyA0:=(((u41_0 (x0.1.1,x0.1.2.1,x0.1.2.2.1,()) x1).1,x0.1.2.1,x0.1.2.2.1,()),x0.2.1,(x0.2.2.1.1,x0.2.2.1.2.1,()),(x0.2.2.2.1.1,x0.2.2.2.1.2.1,x0.2.2.2.1.2.2.1,x0.2.2.2.1.2.2.2.1,()),u42_0 x0.2.2.2.2.1 (g41_0 (x0.1.1,x0.1.2.1,x0.1.2.2.1,()) x1),(x0.2.2.2.2.2.1.1,x0.2.2.2.2.2.1.2.1,x0.2.2.2.2.2.1.2.2.1,()),u43_0 x0.2.2.2.2.2.2.1 (g42_0 x0.2.2.2.2.1 (g41_0 (x0.1.1,x0.1.2.1,x0.1.2.2.1,()) x1)),x0.2.2.2.2.2.2.2.1,x0.2.2.2.2.2.2.2.2.1,u44_0 x0.2.2.2.2.2.2.2.2.2.1 (g43_0 x0.2.2.2.2.2.2.1 (g42_0 x0.2.2.2.2.1 (g41_0 (x0.1.1,x0.1.2.1,x0.1.2.2.1,()) x1))),x0.2.2.2.2.2.2.2.2.2.2.1,u45_0 x0.2.2.2.2.2.2.2.2.2.2.2.1 (g44_0 x0.2.2.2.2.2.2.2.2.2.1 (g43_0 x0.2.2.2.2.2.2.1 (g42_0 x0.2.2.2.2.1 (g41_0 (x0.1.1,x0.1.2.1,x0.1.2.2.1,()) x1)))),())
theorem at10 (x0:TyA0) (x1:Int) (h:P10 x0 x1) (K:Ctx) (q:Nat→Value):AtV Tryz.prog 10 (PostR kds10 oks10 [⟨.int .i64,g10_0 x0 x1⟩] [some ⟨.cons YA2 YA1,[u10_0 x0 x1]⟩] [0] q K) 26 K q [0] [.code b10] (entE 0 0 sig10 (x0,x1,())) (entL sig10 (x0,x1,())):=by
 unfold P10 at h
 unfold g10_0 u10_0
 obtain ⟨s0,s1,h⟩:=h
 obtain ⟨s2,s3,h⟩:=h
 obtain ⟨s4,s5,h⟩:=h
 obtain ⟨s6,s7,h⟩:=h
 obtain ⟨s8,s9,h⟩:=h
 exact AtV.weak (AtV.ret (us:=[Option.some (Lst.mk YA0 [(((u41_0 (x0.1.1,x0.1.2.1,x0.1.2.2.1,()) x1).1,x0.1.2.1,x0.1.2.2.1,()),x0.2.1,(x0.2.2.1.1,x0.2.2.1.2.1,()),(x0.2.2.2.1.1,x0.2.2.2.1.2.1,x0.2.2.2.1.2.2.1,x0.2.2.2.1.2.2.2.1,()),u42_0 x0.2.2.2.2.1 (g41_0 (x0.1.1,x0.1.2.1,x0.1.2.2.1,()) x1),(x0.2.2.2.2.2.1.1,x0.2.2.2.2.2.1.2.1,x0.2.2.2.2.2.1.2.2.1,()),u43_0 x0.2.2.2.2.2.2.1 (g42_0 x0.2.2.2.2.1 (g41_0 (x0.1.1,x0.1.2.1,x0.1.2.2.1,()) x1)),x0.2.2.2.2.2.2.2.1,x0.2.2.2.2.2.2.2.2.1,u44_0 x0.2.2.2.2.2.2.2.2.2.1 (g43_0 x0.2.2.2.2.2.2.1 (g42_0 x0.2.2.2.2.1 (g41_0 (x0.1.1,x0.1.2.1,x0.1.2.2.1,()) x1))),x0.2.2.2.2.2.2.2.2.2.2.1,u45_0 x0.2.2.2.2.2.2.2.2.2.2.2.1 (g44_0 x0.2.2.2.2.2.2.2.2.2.1 (g43_0 x0.2.2.2.2.2.2.1 (g42_0 x0.2.2.2.2.1 (g41_0 (x0.1.1,x0.1.2.1,x0.1.2.2.1,()) x1)))),())])]) Tryz.func10 tabOk ext10Ok mixed false [] tys10 [] (a1 s0 (a1 s1 (a1 s2 (a1 s3 (a1 s4 (a1 s5 (a1 s6 (a1 s7 (a1 s8 (a1 s9 trivial)))))))))) (by kernel_rfl)) ⟨.inl rfl,trivial⟩
def S10:Am.Spec:={ sig:=sig10,pre:=fun ⟨x0,x1,_⟩=>P10 x0 x1,upd:=fun ⟨x0,x1,_⟩=>[some ⟨.cons YA2 YA1,[u10_0 x0 x1]⟩],res:=fun ⟨x0,x1,_⟩=>[⟨.int .i64,g10_0 x0 x1⟩],kds:=kds10 }
theorem con10:Contract Tryz.prog 10 S10:=contract_of Tryz.func10 hb10 (bl_ (by kernel_rfl)) (fun ⟨x0,x1,_⟩ h _ K q=>at10 x0 x1 h K q)
end
noncomputable section
def ext11:Ext:=[(46,S46)]
theorem ext11Ok:ExtOk Tryz.prog ext11:=⟨⟨ca46,con46⟩,trivial⟩
def b11:Code:=bodyOf Tryz.f11
theorem hb11:Tryz.f11.body=some b11:=by kernel_rfl
def sig11:List AT:=[AT.own YA8,AT.v (.int .i64)]
def tys11:List Ty:=[.int .i64]
def kds11:List RK:=[]
def oks11:List AT:=owns sig11
def E11_2 (v5:Int) (x1:Int) (x0:List TyB3):Env:=[(0,.a (.osl 0 Option.none)),(1,.a (.val (.int .i64 x1))),(5,.a (.val (.int .i64 v5)))]
def L11_2 (v5:Int) (x1:Int) (x0:List TyB3):Heap:=[Option.some (Arr.mk YA8 x0 false Option.none Option.none)]
mutual
def R11:Nat→List TyB3→Int→List Dyn→List (Option Lst)→Prop
 | 0,_,_,_,_=>False
 | n+1,x0,x1,ds,us=>(R11_2 n (0) (x1) (x0) ds us)
def R11_2:Nat→Int→Int→List TyB3→List Dyn→List (Option Lst)→Prop
 | 0,_,_,_,_,_=>False
 | n+1,v5,x1,x0,ds,us=>(if (decide (v5<(x0.length:Int)))=true then ((0≤v5)∧(v5<(x0.length:Int))∧((InR .i64 (x1+1))∧((0≤v5)∧(v5<(↑(List.length (List.set x0 (Int.toNat v5) (x1,(List.getD x0 (Int.toNat v5) (0,ByteArray.empty,ByteArray.empty,())).2))):Int))∧((InR .i64 (x1+1+1))∧((0≤v5)∧(v5<(↑(List.length (List.set (List.set x0 (Int.toNat v5) (x1,(List.getD x0 (Int.toNat v5) (0,ByteArray.empty,ByteArray.empty,())).2)) (Int.toNat v5) ((List.getD (List.set x0 (Int.toNat v5) (x1,(List.getD x0 (Int.toNat v5) (0,ByteArray.empty,ByteArray.empty,())).2)) (Int.toNat v5) (0,ByteArray.empty,ByteArray.empty,())).1,g46_0 (x1+1),(List.getD (List.set x0 (Int.toNat v5) (x1,(List.getD x0 (Int.toNat v5) (0,ByteArray.empty,ByteArray.empty,())).2)) (Int.toNat v5) (0,ByteArray.empty,ByteArray.empty,())).2.2))):Int))∧((InR .i64 (x1+1+1+1))∧((InR .i64 (v5+1))∧(R11_2 n (v5+1) (x1+1+1+1) (List.set (List.set (List.set x0 (Int.toNat v5) (x1,(List.getD x0 (Int.toNat v5) (0,ByteArray.empty,ByteArray.empty,())).2)) (Int.toNat v5) ((List.getD (List.set x0 (Int.toNat v5) (x1,(List.getD x0 (Int.toNat v5) (0,ByteArray.empty,ByteArray.empty,())).2)) (Int.toNat v5) (0,ByteArray.empty,ByteArray.empty,())).1,g46_0 (x1+1),(List.getD (List.set x0 (Int.toNat v5) (x1,(List.getD x0 (Int.toNat v5) (0,ByteArray.empty,ByteArray.empty,())).2)) (Int.toNat v5) (0,ByteArray.empty,ByteArray.empty,())).2.2)) (Int.toNat v5) ((List.getD (List.set (List.set x0 (Int.toNat v5) (x1,(List.getD x0 (Int.toNat v5) (0,ByteArray.empty,ByteArray.empty,())).2)) (Int.toNat v5) ((List.getD (List.set x0 (Int.toNat v5) (x1,(List.getD x0 (Int.toNat v5) (0,ByteArray.empty,ByteArray.empty,())).2)) (Int.toNat v5) (0,ByteArray.empty,ByteArray.empty,())).1,g46_0 (x1+1),(List.getD (List.set x0 (Int.toNat v5) (x1,(List.getD x0 (Int.toNat v5) (0,ByteArray.empty,ByteArray.empty,())).2)) (Int.toNat v5) (0,ByteArray.empty,ByteArray.empty,())).2.2)) (Int.toNat v5) (0,ByteArray.empty,ByteArray.empty,())).1,(List.getD (List.set (List.set x0 (Int.toNat v5) (x1,(List.getD x0 (Int.toNat v5) (0,ByteArray.empty,ByteArray.empty,())).2)) (Int.toNat v5) ((List.getD (List.set x0 (Int.toNat v5) (x1,(List.getD x0 (Int.toNat v5) (0,ByteArray.empty,ByteArray.empty,())).2)) (Int.toNat v5) (0,ByteArray.empty,ByteArray.empty,())).1,g46_0 (x1+1),(List.getD (List.set x0 (Int.toNat v5) (x1,(List.getD x0 (Int.toNat v5) (0,ByteArray.empty,ByteArray.empty,())).2)) (Int.toNat v5) (0,ByteArray.empty,ByteArray.empty,())).2.2)) (Int.toNat v5) (0,ByteArray.empty,ByteArray.empty,())).2.1,g46_0 (x1+1+1),(List.getD (List.set (List.set x0 (Int.toNat v5) (x1,(List.getD x0 (Int.toNat v5) (0,ByteArray.empty,ByteArray.empty,())).2)) (Int.toNat v5) ((List.getD (List.set x0 (Int.toNat v5) (x1,(List.getD x0 (Int.toNat v5) (0,ByteArray.empty,ByteArray.empty,())).2)) (Int.toNat v5) (0,ByteArray.empty,ByteArray.empty,())).1,g46_0 (x1+1),(List.getD (List.set x0 (Int.toNat v5) (x1,(List.getD x0 (Int.toNat v5) (0,ByteArray.empty,ByteArray.empty,())).2)) (Int.toNat v5) (0,ByteArray.empty,ByteArray.empty,())).2.2)) (Int.toNat v5) (0,ByteArray.empty,ByteArray.empty,())).2.2.2)) ds us)))))))) else (ds=[Dyn.mk (.int .i64) x1]∧us=[Option.some (Lst.mk YA8 x0)]))
end
theorem snd11:∀ n,(∀ (x0:List TyB3) (x1:Int) ds us,R11 n x0 x1 ds us→∀ K q,AtV Tryz.prog 11 (PostR kds11 oks11 ds us [0] q K) 36 K q [0] [.code b11] (entE 0 0 sig11 (x0,x1,())) (entL sig11 (x0,x1,())))∧(∀ (v5:Int) (x1:Int) (x0:List TyB3) ds us,R11_2 n v5 x1 x0 ds us→∀ K q,AtV Tryz.prog 11 (PostR kds11 oks11 ds us [0] q K) 36 K q [0] (cutAt b11 2) (E11_2 v5 x1 x0) (L11_2 v5 x1 x0)):=by
 intro n
 induction n with
 | zero=>exact ⟨fun _ _ _ _ h=>by simp only [R11] at h,fun _ _ _ _ _ h=>by simp only [R11_2] at h⟩
 | succ n ih =>
 obtain ⟨ih,ih2⟩:=ih
 refine ⟨?_,?_⟩
 ·intro x0 x1 ds us h K q
  rw [R11] at h
  exact AtV.go tabOk ext11Ok mixed false [] [] [0,1,5] [0] [] trivial (ih2 _ _ _ _ _ h K q) (by kernel_rfl)
 ·intro v5 x1 x0 ds us h K q
  rw [R11_2] at h
  by_cases b0:(decide (v5<(x0.length:Int)))=true
  ·rw [if_pos b0] at h
   obtain ⟨s0,s1,h⟩:=h
   obtain ⟨s2,h⟩:=h
   obtain ⟨s3,s4,h⟩:=h
   obtain ⟨s5,h⟩:=h
   obtain ⟨s6,s7,h⟩:=h
   obtain ⟨s8,h⟩:=h
   obtain ⟨s9,h⟩:=h
   exact AtV.go tabOk ext11Ok mixed false [] [] [0,1,5] [0] [true] (a1 b0 (a1 s0 (a1 s1 (a1 s2 (a1 trivial (a1 s3 (a1 s4 (a1 s5 (a1 trivial (a1 s6 (a1 s7 (a1 s8 (a1 s9 trivial))))))))))))) (ih2 _ _ _ _ _ h K q) (by kernel_rfl)
  ·rw [if_neg b0] at h
   replace b0:=bf_ b0
   obtain ⟨h,h'⟩:=h;subst h;subst h'
   exact AtV.ret Tryz.func11 tabOk ext11Ok mixed false [] tys11 [false] (a1 b0 trivial) (by kernel_rfl)
def M11 (x1:Int) (n:Nat):List TyB3:=(List.range n).map fun (j:Nat)=>((x1+3*(j:Int)),g46_0 (x1+3*(j:Int)+1),g46_0 (x1+3*(j:Int)+1+1),())
theorem M11_len (x1:Int) (n:Nat):(M11 x1 n).length=n:=by simp [M11]
theorem M11_succ (x1:Int) (n:Nat):M11 x1 (n+1)=M11 x1 n++[((x1+3*(n:Int)),g46_0 (x1+3*(n:Int)+1),g46_0 (x1+3*(n:Int)+1+1),())]:=by
 simp [M11,List.range_succ]
theorem run11 (x0:List TyB3) (x1:Int) (hm:x0.length≤maxLen) (h0:0≤x1) (h1:x1+3*x0.length≤9223372036854775807):∀ (k i:Nat),i+k=x0.length →
  R11_2 (k+1) (i:Int) (x1+3*(i:Int)) (M11 x1 i++x0.drop i) [⟨.int .i64,x1+3*(x0.length:Int)⟩] [some ⟨(.cons (.int .i64) (.cons .str (.cons .str .unit))),M11 x1 x0.length⟩]:=by
 intro k
 induction k with
 | zero =>
  intro i hi
  have hl:(M11 x1 i++x0.drop i).length=x0.length:=by simp [M11_len];omega
  rw [R11_2,if_neg (by rw [hl];simp;omega),drop_end x0 i (by omega),List.append_nil]
  have:i=x0.length:=by omega
  subst this
  exact ⟨rfl,rfl⟩
 | succ k ih =>
  intro i hi
  have hl:(M11 x1 i++x0.drop i).length=x0.length:=by simp [M11_len];omega
  have hA:=M11_len x1 i
  rw [R11_2,if_pos (by rw [hl];simp;omega)]
  rw [drop_get x0 i ((0:Int),ByteArray.empty,ByteArray.empty,()) (by omega)] at hl ⊢
  simp only [Int.toNat_natCast,set_mid _ _ _ _ i hA,get_mid _ _ _ _ i hA]
  have hl':∀ y:TyB3,((M11 x1 i++y :: x0.drop (i+1)).length:Int)=x0.length:=fun y=>by rw [← hl];simp
  simp only [hl']
  refine ⟨by omega,by omega,by rw [i64_iff];omega,by omega,by omega,by rw [i64_iff];omega,by omega,by omega,by rw [i64_iff];omega,inR_up hm (by omega),?_⟩
  have hx:x1+3*(i:Int)+1+1+1=x1+3*((i+1:Nat):Int):=by omega
  have:=ih (i+1) (by omega)
  rw [M11_succ,List.append_assoc] at this
  rw [hx]
  simpa using this
def P11 (x0:List TyB3) (x1:Int):Prop:=0≤x1∧x1+3*x0.length≤9223372036854775807
def g11_0 (x0:List TyB3) (x1:Int):Int:=x1+3*(x0.length:Int)
def u11_0 (x0:List TyB3) (x1:Int):List TyB3:=M11 x1 x0.length
theorem top11 (x0:List TyB3) (x1:Int) (hm:x0.length≤maxLen) (h:P11 x0 x1):R11 (x0.length+1+1) x0 x1 [⟨.int .i64,g11_0 x0 x1⟩] [some ⟨(.cons (.int .i64) (.cons .str (.cons .str .unit))),u11_0 x0 x1⟩]:=by
 rw [R11]
 have:=run11 x0 x1 hm h.1 h.2 x0.length 0 (by omega)
 simpa [M11,g11_0,u11_0] using this
def S11:Am.Spec:={ sig:=sig11,pre:=fun ⟨x0,x1,_⟩=>P11 x0 x1,upd:=fun ⟨x0,x1,_⟩=>[some ⟨(.cons (.int .i64) (.cons .str (.cons .str .unit))),u11_0 x0 x1⟩],res:=fun ⟨x0,x1,_⟩=>[⟨.int .i64,g11_0 x0 x1⟩] }
theorem con11:Contract Tryz.prog 11 S11:=contract_of Tryz.func11 hb11 (bl_ (by kernel_rfl)) (fun ⟨x0,x1,_⟩ h hwf K q =>
 (snd11 _).1 x0 x1 _ _ (top11 x0 x1 hwf.1.1 h) K q)
end
noncomputable section
def ext12:Ext:=[(46,S46)]
theorem ext12Ok:ExtOk Tryz.prog ext12:=⟨⟨ca46,con46⟩,trivial⟩
def b12:Code:=bodyOf Tryz.f12
theorem hb12:Tryz.f12.body=some b12:=by kernel_rfl
def sig12:List AT:=[AT.v (.sl YA8),AT.v (.int .i64)]
def tys12:List Ty:=[.int .i64]
def kds12:List RK:=[]
def oks12:List AT:=owns sig12
def E12_2 (v5:Int) (x0:List TyB3) (x1:Int):Env:=[(0,.a (.sl YA8 x0)),(1,.a (.val (.int .i64 x1))),(5,.a (.val (.int .i64 v5)))]
def L12_2 (v5:Int) (x0:List TyB3) (x1:Int):Heap:=[]
mutual
def R12:Nat→List TyB3→Int→List Dyn→Prop
 | 0,_,_,_=>False
 | n+1,x0,x1,ds=>(R12_2 n (0) (x0) (x1) ds)
def R12_2:Nat→Int→List TyB3→Int→List Dyn→Prop
 | 0,_,_,_,_=>False
 | n+1,v5,x0,x1,ds=>(if (decide (v5<(x0.length:Int)))=true then ((0≤v5)∧(v5<(x0.length:Int))∧(if ((List.getD x0 (Int.toNat v5) (0,ByteArray.empty,ByteArray.empty,())).1 != x1)=true then (ds=[Dyn.mk (.int .i64) (-1)]) else ((InR .i64 (x1+1))∧((0≤v5)∧(v5<(x0.length:Int))∧(if (!ByteArray.toList (List.getD x0 (Int.toNat v5) (0,ByteArray.empty,ByteArray.empty,())).2.1==ByteArray.toList (g46_0 (x1+1)))=true then (ds=[Dyn.mk (.int .i64) (-1)]) else ((InR .i64 (x1+1+1))∧((0≤v5)∧(v5<(x0.length:Int))∧(if (!ByteArray.toList (List.getD x0 (Int.toNat v5) (0,ByteArray.empty,ByteArray.empty,())).2.2.1==ByteArray.toList (g46_0 (x1+1+1)))=true then (ds=[Dyn.mk (.int .i64) (-1)]) else ((InR .i64 (x1+1+1+1))∧((InR .i64 (v5+1))∧(R12_2 n (v5+1) (x0) (x1+1+1+1) ds))))))))))) else (ds=[Dyn.mk (.int .i64) x1]))
end
theorem snd12:∀ n,(∀ (x0:List TyB3) (x1:Int) ds,R12 n x0 x1 ds→∀ K q,AtV Tryz.prog 12 (PostR kds12 oks12 ds [] [] q K) 42 K q [] [.code b12] (entE 0 0 sig12 (x0,x1,())) (entL sig12 (x0,x1,())))∧(∀ (v5:Int) (x0:List TyB3) (x1:Int) ds,R12_2 n v5 x0 x1 ds→∀ K q,AtV Tryz.prog 12 (PostR kds12 oks12 ds [] [] q K) 42 K q [] (cutAt b12 2) (E12_2 v5 x0 x1) (L12_2 v5 x0 x1)):=by
 intro n
 induction n with
 | zero=>exact ⟨fun _ _ _ h=>by simp only [R12] at h,fun _ _ _ _ h=>by simp only [R12_2] at h⟩
 | succ n ih =>
 obtain ⟨ih,ih2⟩:=ih
 refine ⟨?_,?_⟩
 ·intro x0 x1 ds h K q
  rw [R12] at h
  exact AtV.go tabOk ext12Ok mixed false [] [] [0,1,5] [] [] trivial (ih2 _ _ _ _ h K q) (by kernel_rfl)
 ·intro v5 x0 x1 ds h K q
  rw [R12_2] at h
  by_cases b0:(decide (v5<(x0.length:Int)))=true
  ·rw [if_pos b0] at h
   obtain ⟨s0,s1,h⟩:=h
   by_cases b1:((List.getD x0 (Int.toNat v5) (0,ByteArray.empty,ByteArray.empty,())).1 != x1)=true
   ·rw [if_pos b1] at h
    subst h
    exact AtV.ret Tryz.func12 tabOk ext12Ok mixed false [] tys12 [true,true] (a1 b0 (a1 s0 (a1 s1 (a1 b1 trivial)))) (by kernel_rfl)
   ·rw [if_neg b1] at h
    replace b1:=bf_ b1
    obtain ⟨s2,h⟩:=h
    obtain ⟨s3,s4,h⟩:=h
    by_cases b2:(!ByteArray.toList (List.getD x0 (Int.toNat v5) (0,ByteArray.empty,ByteArray.empty,())).2.1==ByteArray.toList (g46_0 (x1+1)))=true
    ·rw [if_pos b2] at h
     subst h
     exact AtV.ret Tryz.func12 tabOk ext12Ok mixed false [] tys12 [true,false,true] (a1 b0 (a1 s0 (a1 s1 (a1 b1 (a1 s2 (a1 s3 (a1 s4 (a1 trivial (a1 b2 trivial))))))))) (by kernel_rfl)
    ·rw [if_neg b2] at h
     replace b2:=bf_ b2
     obtain ⟨s5,h⟩:=h
     obtain ⟨s6,s7,h⟩:=h
     by_cases b3:(!ByteArray.toList (List.getD x0 (Int.toNat v5) (0,ByteArray.empty,ByteArray.empty,())).2.2.1==ByteArray.toList (g46_0 (x1+1+1)))=true
     ·rw [if_pos b3] at h
      subst h
      exact AtV.ret Tryz.func12 tabOk ext12Ok mixed false [] tys12 [true,false,false,true] (a1 b0 (a1 s0 (a1 s1 (a1 b1 (a1 s2 (a1 s3 (a1 s4 (a1 trivial (a1 b2 (a1 s5 (a1 s6 (a1 s7 (a1 trivial (a1 b3 trivial)))))))))))))) (by kernel_rfl)
     ·rw [if_neg b3] at h
      replace b3:=bf_ b3
      obtain ⟨s8,h⟩:=h
      obtain ⟨s9,h⟩:=h
      exact AtV.go tabOk ext12Ok mixed false [] [] [0,1,5] [] [true,false,false,false] (a1 b0 (a1 s0 (a1 s1 (a1 b1 (a1 s2 (a1 s3 (a1 s4 (a1 trivial (a1 b2 (a1 s5 (a1 s6 (a1 s7 (a1 trivial (a1 b3 (a1 s8 (a1 s9 trivial)))))))))))))))) (ih2 _ _ _ _ h K q) (by kernel_rfl)
  ·rw [if_neg b0] at h
   replace b0:=bf_ b0
   subst h
   exact AtV.ret Tryz.func12 tabOk ext12Ok mixed false [] tys12 [false] (a1 b0 trivial) (by kernel_rfl)
theorem run12 (x0:List TyB3) (x1:Int) (hm:x0.length≤maxLen) (h0:0≤x1) (h1:x1+3*x0.length≤9223372036854775807) (he:∀ i:Nat,i<x0.length→x0.getD i ((0:Int),ByteArray.empty,ByteArray.empty,())=((x1+3*(i:Int)),g46_0 (x1+3*(i:Int)+1),g46_0 (x1+3*(i:Int)+1+1),())):∀ (k i:Nat),i+k=x0.length →
  R12_2 (k+1) (i:Int) x0 (x1+3*(i:Int)) [⟨.int .i64,x1+3*(x0.length:Int)⟩]:=by
 intro k
 induction k with
 | zero =>
  intro i hi
  rw [R12_2,if_neg (by simp;omega)]
  have:i=x0.length:=by omega
  subst this
  rfl
 | succ k ih =>
  intro i hi
  rw [R12_2,if_pos (by simp;omega)]
  simp only [Int.toNat_natCast,he i (by omega)]
  have hb:∀ y:ByteArray,(!(ByteArray.toList y==ByteArray.toList y))=true→False:=fun y h=>by rw [(bytes_eq y y).2 rfl] at h;cases h
  refine ⟨by omega,by omega,?_⟩
  rw [if_neg (by simp only [bne_self_eq_false,Bool.false_eq_true,not_false_eq_true])]
  refine ⟨by rw [i64_iff];omega,by omega,by omega,?_⟩
  rw [if_neg (hb _)]
  refine ⟨by rw [i64_iff];omega,by omega,by omega,?_⟩
  rw [if_neg (hb _)]
  refine ⟨by rw [i64_iff];omega,inR_up hm (by omega),?_⟩
  have hx:x1+3*(i:Int)+1+1+1=x1+3*((i+1:Nat):Int):=by omega
  rw [hx]
  exact ih (i+1) (by omega)
def P12 (x0:List TyB3) (x1:Int):Prop:=(0≤x1∧x1+3*x0.length≤9223372036854775807)∧∀ i:Nat,i<x0.length→x0.getD i ((0:Int),ByteArray.empty,ByteArray.empty,())=((x1+3*(i:Int)),g46_0 (x1+3*(i:Int)+1),g46_0 (x1+3*(i:Int)+1+1),())
def g12_0 (x0:List TyB3) (x1:Int):Int:=x1+3*(x0.length:Int)
theorem top12 (x0:List TyB3) (x1:Int) (hm:x0.length≤maxLen) (h:P12 x0 x1):R12 (x0.length+1+1) x0 x1 [⟨.int .i64,g12_0 x0 x1⟩]:=by
 rw [R12]
 have:=run12 x0 x1 hm h.1.1 h.1.2 h.2 x0.length 0 (by omega)
 simpa [g12_0] using this
def S12:Am.Spec:={ sig:=sig12,pre:=fun ⟨x0,x1,_⟩=>P12 x0 x1,res:=fun ⟨x0,x1,_⟩=>[⟨.int .i64,g12_0 x0 x1⟩] }
theorem con12:Contract Tryz.prog 12 S12:=contract_of Tryz.func12 hb12 (bl_ (by kernel_rfl)) (fun ⟨x0,x1,_⟩ h hwf K q =>
 (snd12 _).1 x0 x1 _ (top12 x0 x1 hwf.1.1 h) K q)
end
noncomputable section
def ext3:Ext:=[(4,S4),(6,S6),(5,S5),(7,S7),(8,S8),(9,S9),(10,S10),(11,S11),(12,S12)]
theorem ext3Ok:ExtOk Tryz.prog ext3:=⟨⟨ca4,con4⟩,⟨ca6,con6⟩,⟨ca5,con5⟩,⟨ca7,con7⟩,⟨ca8,con8⟩,⟨ca9,con9⟩,⟨ca10,con10⟩,⟨ca11,con11⟩,⟨ca12,con12⟩,trivial⟩
def b3:Code:=bodyOf Tryz.f3
theorem hb3:Tryz.f3.body=some b3:=by kernel_rfl
def sig3:List AT:=[AT.v YA0]
def tys3:List Ty:=[.bool]
def kds3:List RK:=[]
def oks3:List AT:=owns sig3
def P3 (x0:TyA0):Prop:=((P4 x0 1048576)∧(if (decide (g4_0 x0 1048576<0))=true then True else ((P6 x0)∧((P5 (((g6_0 x0).1.1,(g6_0 x0).1.2.1,(g6_0 x0).1.2.2.1,()),(g6_0 x0).2.1,((g6_0 x0).2.2.1.1,(g6_0 x0).2.2.1.2.1,()),((g6_0 x0).2.2.2.1.1,(g6_0 x0).2.2.2.1.2.1,(g6_0 x0).2.2.2.1.2.2.1,(g6_0 x0).2.2.2.1.2.2.2.1,()),(g6_0 x0).2.2.2.2.1,((g6_0 x0).2.2.2.2.2.1.1,(g6_0 x0).2.2.2.2.2.1.2.1,(g6_0 x0).2.2.2.2.2.1.2.2.1,()),(g6_0 x0).2.2.2.2.2.2.1,(g6_0 x0).2.2.2.2.2.2.2.1,(g6_0 x0).2.2.2.2.2.2.2.2.1,(g6_0 x0).2.2.2.2.2.2.2.2.2.1,(g6_0 x0).2.2.2.2.2.2.2.2.2.2.1,(g6_0 x0).2.2.2.2.2.2.2.2.2.2.2.1,()))∧((P6 x0)∧((P7 (((g6_0 x0).1.1,(g6_0 x0).1.2.1,(g6_0 x0).1.2.2.1,()),(g6_0 x0).2.1,((g6_0 x0).2.2.1.1,(g6_0 x0).2.2.1.2.1,()),((g6_0 x0).2.2.2.1.1,(g6_0 x0).2.2.2.1.2.1,(g6_0 x0).2.2.2.1.2.2.1,(g6_0 x0).2.2.2.1.2.2.2.1,()),(g6_0 x0).2.2.2.2.1,((g6_0 x0).2.2.2.2.2.1.1,(g6_0 x0).2.2.2.2.2.1.2.1,(g6_0 x0).2.2.2.2.2.1.2.2.1,()),(g6_0 x0).2.2.2.2.2.2.1,(g6_0 x0).2.2.2.2.2.2.2.1,(g6_0 x0).2.2.2.2.2.2.2.2.1,(g6_0 x0).2.2.2.2.2.2.2.2.2.1,(g6_0 x0).2.2.2.2.2.2.2.2.2.2.1,(g6_0 x0).2.2.2.2.2.2.2.2.2.2.2.1,()))∧(if (!g8_0 (g7_0 (((g6_0 x0).1.1,(g6_0 x0).1.2.1,(g6_0 x0).1.2.2.1,()),(g6_0 x0).2.1,((g6_0 x0).2.2.1.1,(g6_0 x0).2.2.1.2.1,()),((g6_0 x0).2.2.2.1.1,(g6_0 x0).2.2.2.1.2.1,(g6_0 x0).2.2.2.1.2.2.1,(g6_0 x0).2.2.2.1.2.2.2.1,()),(g6_0 x0).2.2.2.2.1,((g6_0 x0).2.2.2.2.2.1.1,(g6_0 x0).2.2.2.2.2.1.2.1,(g6_0 x0).2.2.2.2.2.1.2.2.1,()),(g6_0 x0).2.2.2.2.2.2.1,(g6_0 x0).2.2.2.2.2.2.2.1,(g6_0 x0).2.2.2.2.2.2.2.2.1,(g6_0 x0).2.2.2.2.2.2.2.2.2.1,(g6_0 x0).2.2.2.2.2.2.2.2.2.2.1,(g6_0 x0).2.2.2.2.2.2.2.2.2.2.2.1,())) (g5_0 (((g6_0 x0).1.1,(g6_0 x0).1.2.1,(g6_0 x0).1.2.2.1,()),(g6_0 x0).2.1,((g6_0 x0).2.2.1.1,(g6_0 x0).2.2.1.2.1,()),((g6_0 x0).2.2.2.1.1,(g6_0 x0).2.2.2.1.2.1,(g6_0 x0).2.2.2.1.2.2.1,(g6_0 x0).2.2.2.1.2.2.2.1,()),(g6_0 x0).2.2.2.2.1,((g6_0 x0).2.2.2.2.2.1.1,(g6_0 x0).2.2.2.2.2.1.2.1,(g6_0 x0).2.2.2.2.2.1.2.2.1,()),(g6_0 x0).2.2.2.2.2.2.1,(g6_0 x0).2.2.2.2.2.2.2.1,(g6_0 x0).2.2.2.2.2.2.2.2.1,(g6_0 x0).2.2.2.2.2.2.2.2.2.1,(g6_0 x0).2.2.2.2.2.2.2.2.2.2.1,(g6_0 x0).2.2.2.2.2.2.2.2.2.2.2.1,())))=true then True else (if (g7_1 (((g6_0 x0).1.1,(g6_0 x0).1.2.1,(g6_0 x0).1.2.2.1,()),(g6_0 x0).2.1,((g6_0 x0).2.2.1.1,(g6_0 x0).2.2.1.2.1,()),((g6_0 x0).2.2.2.1.1,(g6_0 x0).2.2.2.1.2.1,(g6_0 x0).2.2.2.1.2.2.1,(g6_0 x0).2.2.2.1.2.2.2.1,()),(g6_0 x0).2.2.2.2.1,((g6_0 x0).2.2.2.2.2.1.1,(g6_0 x0).2.2.2.2.2.1.2.1,(g6_0 x0).2.2.2.2.2.1.2.2.1,()),(g6_0 x0).2.2.2.2.2.2.1,(g6_0 x0).2.2.2.2.2.2.2.1,(g6_0 x0).2.2.2.2.2.2.2.2.1,(g6_0 x0).2.2.2.2.2.2.2.2.2.1,(g6_0 x0).2.2.2.2.2.2.2.2.2.2.1,(g6_0 x0).2.2.2.2.2.2.2.2.2.2.2.1,()) != g5_1 (((g6_0 x0).1.1,(g6_0 x0).1.2.1,(g6_0 x0).1.2.2.1,()),(g6_0 x0).2.1,((g6_0 x0).2.2.1.1,(g6_0 x0).2.2.1.2.1,()),((g6_0 x0).2.2.2.1.1,(g6_0 x0).2.2.2.1.2.1,(g6_0 x0).2.2.2.1.2.2.1,(g6_0 x0).2.2.2.1.2.2.2.1,()),(g6_0 x0).2.2.2.2.1,((g6_0 x0).2.2.2.2.2.1.1,(g6_0 x0).2.2.2.2.2.1.2.1,(g6_0 x0).2.2.2.2.2.1.2.2.1,()),(g6_0 x0).2.2.2.2.2.2.1,(g6_0 x0).2.2.2.2.2.2.2.1,(g6_0 x0).2.2.2.2.2.2.2.2.1,(g6_0 x0).2.2.2.2.2.2.2.2.2.1,(g6_0 x0).2.2.2.2.2.2.2.2.2.2.1,(g6_0 x0).2.2.2.2.2.2.2.2.2.2.2.1,()))=true then True else ((P6 x0)∧(if (!g9_0 (((g6_0 x0).1.1,(g6_0 x0).1.2.1,(g6_0 x0).1.2.2.1,()),(g6_0 x0).2.1,((g6_0 x0).2.2.1.1,(g6_0 x0).2.2.1.2.1,()),((g6_0 x0).2.2.2.1.1,(g6_0 x0).2.2.2.1.2.1,(g6_0 x0).2.2.2.1.2.2.1,(g6_0 x0).2.2.2.1.2.2.2.1,()),(g6_0 x0).2.2.2.2.1,((g6_0 x0).2.2.2.2.2.1.1,(g6_0 x0).2.2.2.2.2.1.2.1,(g6_0 x0).2.2.2.2.2.1.2.2.1,()),(g6_0 x0).2.2.2.2.2.2.1,(g6_0 x0).2.2.2.2.2.2.2.1,(g6_0 x0).2.2.2.2.2.2.2.2.1,(g6_0 x0).2.2.2.2.2.2.2.2.2.1,(g6_0 x0).2.2.2.2.2.2.2.2.2.2.1,(g6_0 x0).2.2.2.2.2.2.2.2.2.2.2.1,()) (((g6_0 x0).1.1,(g6_0 x0).1.2.1,(g6_0 x0).1.2.2.1,()),(g6_0 x0).2.1,((g6_0 x0).2.2.1.1,(g6_0 x0).2.2.1.2.1,()),((g6_0 x0).2.2.2.1.1,(g6_0 x0).2.2.2.1.2.1,(g6_0 x0).2.2.2.1.2.2.1,(g6_0 x0).2.2.2.1.2.2.2.1,()),(g6_0 x0).2.2.2.2.1,((g6_0 x0).2.2.2.2.2.1.1,(g6_0 x0).2.2.2.2.2.1.2.1,(g6_0 x0).2.2.2.2.2.1.2.2.1,()),(g6_0 x0).2.2.2.2.2.2.1,(g6_0 x0).2.2.2.2.2.2.2.1,(g6_0 x0).2.2.2.2.2.2.2.2.1,(g6_0 x0).2.2.2.2.2.2.2.2.2.1,(g6_0 x0).2.2.2.2.2.2.2.2.2.2.1,(g6_0 x0).2.2.2.2.2.2.2.2.2.2.2.1,()))=true then True else ((P10 (((g6_0 x0).1.1,(g6_0 x0).1.2.1,(g6_0 x0).1.2.2.1,()),(g6_0 x0).2.1,((g6_0 x0).2.2.1.1,(g6_0 x0).2.2.1.2.1,()),((g6_0 x0).2.2.2.1.1,(g6_0 x0).2.2.2.1.2.1,(g6_0 x0).2.2.2.1.2.2.1,(g6_0 x0).2.2.2.1.2.2.2.1,()),(g6_0 x0).2.2.2.2.1,((g6_0 x0).2.2.2.2.2.1.1,(g6_0 x0).2.2.2.2.2.1.2.1,(g6_0 x0).2.2.2.2.2.1.2.2.1,()),(g6_0 x0).2.2.2.2.2.2.1,(g6_0 x0).2.2.2.2.2.2.2.1,(g6_0 x0).2.2.2.2.2.2.2.2.1,(g6_0 x0).2.2.2.2.2.2.2.2.2.1,(g6_0 x0).2.2.2.2.2.2.2.2.2.2.1,(g6_0 x0).2.2.2.2.2.2.2.2.2.2.2.1,()) 1)∧(List.length (u10_0 (((g6_0 x0).1.1,(g6_0 x0).1.2.1,(g6_0 x0).1.2.2.1,()),(g6_0 x0).2.1,((g6_0 x0).2.2.1.1,(g6_0 x0).2.2.1.2.1,()),((g6_0 x0).2.2.2.1.1,(g6_0 x0).2.2.2.1.2.1,(g6_0 x0).2.2.2.1.2.2.1,(g6_0 x0).2.2.2.1.2.2.2.1,()),(g6_0 x0).2.2.2.2.1,((g6_0 x0).2.2.2.2.2.1.1,(g6_0 x0).2.2.2.2.2.1.2.1,(g6_0 x0).2.2.2.2.2.1.2.2.1,()),(g6_0 x0).2.2.2.2.2.2.1,(g6_0 x0).2.2.2.2.2.2.2.1,(g6_0 x0).2.2.2.2.2.2.2.2.1,(g6_0 x0).2.2.2.2.2.2.2.2.2.1,(g6_0 x0).2.2.2.2.2.2.2.2.2.2.1,(g6_0 x0).2.2.2.2.2.2.2.2.2.2.2.1,()) 1).1.1=List.length (g6_0 x0).1.1)∧(List.length (u10_0 (((g6_0 x0).1.1,(g6_0 x0).1.2.1,(g6_0 x0).1.2.2.1,()),(g6_0 x0).2.1,((g6_0 x0).2.2.1.1,(g6_0 x0).2.2.1.2.1,()),((g6_0 x0).2.2.2.1.1,(g6_0 x0).2.2.2.1.2.1,(g6_0 x0).2.2.2.1.2.2.1,(g6_0 x0).2.2.2.1.2.2.2.1,()),(g6_0 x0).2.2.2.2.1,((g6_0 x0).2.2.2.2.2.1.1,(g6_0 x0).2.2.2.2.2.1.2.1,(g6_0 x0).2.2.2.2.2.1.2.2.1,()),(g6_0 x0).2.2.2.2.2.2.1,(g6_0 x0).2.2.2.2.2.2.2.1,(g6_0 x0).2.2.2.2.2.2.2.2.1,(g6_0 x0).2.2.2.2.2.2.2.2.2.1,(g6_0 x0).2.2.2.2.2.2.2.2.2.2.1,(g6_0 x0).2.2.2.2.2.2.2.2.2.2.2.1,()) 1).2.2.2.2.1=List.length (g6_0 x0).2.2.2.2.1)∧(List.length (u10_0 (((g6_0 x0).1.1,(g6_0 x0).1.2.1,(g6_0 x0).1.2.2.1,()),(g6_0 x0).2.1,((g6_0 x0).2.2.1.1,(g6_0 x0).2.2.1.2.1,()),((g6_0 x0).2.2.2.1.1,(g6_0 x0).2.2.2.1.2.1,(g6_0 x0).2.2.2.1.2.2.1,(g6_0 x0).2.2.2.1.2.2.2.1,()),(g6_0 x0).2.2.2.2.1,((g6_0 x0).2.2.2.2.2.1.1,(g6_0 x0).2.2.2.2.2.1.2.1,(g6_0 x0).2.2.2.2.2.1.2.2.1,()),(g6_0 x0).2.2.2.2.2.2.1,(g6_0 x0).2.2.2.2.2.2.2.1,(g6_0 x0).2.2.2.2.2.2.2.2.1,(g6_0 x0).2.2.2.2.2.2.2.2.2.1,(g6_0 x0).2.2.2.2.2.2.2.2.2.2.1,(g6_0 x0).2.2.2.2.2.2.2.2.2.2.2.1,()) 1).2.2.2.2.2.2.1=List.length (g6_0 x0).2.2.2.2.2.2.1)∧(List.length (u10_0 (((g6_0 x0).1.1,(g6_0 x0).1.2.1,(g6_0 x0).1.2.2.1,()),(g6_0 x0).2.1,((g6_0 x0).2.2.1.1,(g6_0 x0).2.2.1.2.1,()),((g6_0 x0).2.2.2.1.1,(g6_0 x0).2.2.2.1.2.1,(g6_0 x0).2.2.2.1.2.2.1,(g6_0 x0).2.2.2.1.2.2.2.1,()),(g6_0 x0).2.2.2.2.1,((g6_0 x0).2.2.2.2.2.1.1,(g6_0 x0).2.2.2.2.2.1.2.1,(g6_0 x0).2.2.2.2.2.1.2.2.1,()),(g6_0 x0).2.2.2.2.2.2.1,(g6_0 x0).2.2.2.2.2.2.2.1,(g6_0 x0).2.2.2.2.2.2.2.2.1,(g6_0 x0).2.2.2.2.2.2.2.2.2.1,(g6_0 x0).2.2.2.2.2.2.2.2.2.2.1,(g6_0 x0).2.2.2.2.2.2.2.2.2.2.2.1,()) 1).2.2.2.2.2.2.2.2.2.1=List.length (g6_0 x0).2.2.2.2.2.2.2.2.2.1)∧(List.length (u10_0 (((g6_0 x0).1.1,(g6_0 x0).1.2.1,(g6_0 x0).1.2.2.1,()),(g6_0 x0).2.1,((g6_0 x0).2.2.1.1,(g6_0 x0).2.2.1.2.1,()),((g6_0 x0).2.2.2.1.1,(g6_0 x0).2.2.2.1.2.1,(g6_0 x0).2.2.2.1.2.2.1,(g6_0 x0).2.2.2.1.2.2.2.1,()),(g6_0 x0).2.2.2.2.1,((g6_0 x0).2.2.2.2.2.1.1,(g6_0 x0).2.2.2.2.2.1.2.1,(g6_0 x0).2.2.2.2.2.1.2.2.1,()),(g6_0 x0).2.2.2.2.2.2.1,(g6_0 x0).2.2.2.2.2.2.2.1,(g6_0 x0).2.2.2.2.2.2.2.2.1,(g6_0 x0).2.2.2.2.2.2.2.2.2.1,(g6_0 x0).2.2.2.2.2.2.2.2.2.2.1,(g6_0 x0).2.2.2.2.2.2.2.2.2.2.2.1,()) 1).2.2.2.2.2.2.2.2.2.2.2.1=List.length (g6_0 x0).2.2.2.2.2.2.2.2.2.2.2.1)∧(if (decide (g10_0 (((g6_0 x0).1.1,(g6_0 x0).1.2.1,(g6_0 x0).1.2.2.1,()),(g6_0 x0).2.1,((g6_0 x0).2.2.1.1,(g6_0 x0).2.2.1.2.1,()),((g6_0 x0).2.2.2.1.1,(g6_0 x0).2.2.2.1.2.1,(g6_0 x0).2.2.2.1.2.2.1,(g6_0 x0).2.2.2.1.2.2.2.1,()),(g6_0 x0).2.2.2.2.1,((g6_0 x0).2.2.2.2.2.1.1,(g6_0 x0).2.2.2.2.2.1.2.1,(g6_0 x0).2.2.2.2.2.1.2.2.1,()),(g6_0 x0).2.2.2.2.2.2.1,(g6_0 x0).2.2.2.2.2.2.2.1,(g6_0 x0).2.2.2.2.2.2.2.2.1,(g6_0 x0).2.2.2.2.2.2.2.2.2.1,(g6_0 x0).2.2.2.2.2.2.2.2.2.2.1,(g6_0 x0).2.2.2.2.2.2.2.2.2.2.2.1,()) 1<0))=true then True else ((P11 (g7_0 (((g6_0 x0).1.1,(g6_0 x0).1.2.1,(g6_0 x0).1.2.2.1,()),(g6_0 x0).2.1,((g6_0 x0).2.2.1.1,(g6_0 x0).2.2.1.2.1,()),((g6_0 x0).2.2.2.1.1,(g6_0 x0).2.2.2.1.2.1,(g6_0 x0).2.2.2.1.2.2.1,(g6_0 x0).2.2.2.1.2.2.2.1,()),(g6_0 x0).2.2.2.2.1,((g6_0 x0).2.2.2.2.2.1.1,(g6_0 x0).2.2.2.2.2.1.2.1,(g6_0 x0).2.2.2.2.2.1.2.2.1,()),(g6_0 x0).2.2.2.2.2.2.1,(g6_0 x0).2.2.2.2.2.2.2.1,(g6_0 x0).2.2.2.2.2.2.2.2.1,(g6_0 x0).2.2.2.2.2.2.2.2.2.1,(g6_0 x0).2.2.2.2.2.2.2.2.2.2.1,(g6_0 x0).2.2.2.2.2.2.2.2.2.2.2.1,())) 1)∧(List.length (u11_0 (g7_0 (((g6_0 x0).1.1,(g6_0 x0).1.2.1,(g6_0 x0).1.2.2.1,()),(g6_0 x0).2.1,((g6_0 x0).2.2.1.1,(g6_0 x0).2.2.1.2.1,()),((g6_0 x0).2.2.2.1.1,(g6_0 x0).2.2.2.1.2.1,(g6_0 x0).2.2.2.1.2.2.1,(g6_0 x0).2.2.2.1.2.2.2.1,()),(g6_0 x0).2.2.2.2.1,((g6_0 x0).2.2.2.2.2.1.1,(g6_0 x0).2.2.2.2.2.1.2.1,(g6_0 x0).2.2.2.2.2.1.2.2.1,()),(g6_0 x0).2.2.2.2.2.2.1,(g6_0 x0).2.2.2.2.2.2.2.1,(g6_0 x0).2.2.2.2.2.2.2.2.1,(g6_0 x0).2.2.2.2.2.2.2.2.2.1,(g6_0 x0).2.2.2.2.2.2.2.2.2.2.1,(g6_0 x0).2.2.2.2.2.2.2.2.2.2.2.1,())) 1)=List.length (g7_0 (((g6_0 x0).1.1,(g6_0 x0).1.2.1,(g6_0 x0).1.2.2.1,()),(g6_0 x0).2.1,((g6_0 x0).2.2.1.1,(g6_0 x0).2.2.1.2.1,()),((g6_0 x0).2.2.2.1.1,(g6_0 x0).2.2.2.1.2.1,(g6_0 x0).2.2.2.1.2.2.1,(g6_0 x0).2.2.2.1.2.2.2.1,()),(g6_0 x0).2.2.2.2.1,((g6_0 x0).2.2.2.2.2.1.1,(g6_0 x0).2.2.2.2.2.1.2.1,(g6_0 x0).2.2.2.2.2.1.2.2.1,()),(g6_0 x0).2.2.2.2.2.2.1,(g6_0 x0).2.2.2.2.2.2.2.1,(g6_0 x0).2.2.2.2.2.2.2.2.1,(g6_0 x0).2.2.2.2.2.2.2.2.2.1,(g6_0 x0).2.2.2.2.2.2.2.2.2.2.1,(g6_0 x0).2.2.2.2.2.2.2.2.2.2.2.1,())))∧((P12 (u11_0 (g7_0 (((g6_0 x0).1.1,(g6_0 x0).1.2.1,(g6_0 x0).1.2.2.1,()),(g6_0 x0).2.1,((g6_0 x0).2.2.1.1,(g6_0 x0).2.2.1.2.1,()),((g6_0 x0).2.2.2.1.1,(g6_0 x0).2.2.2.1.2.1,(g6_0 x0).2.2.2.1.2.2.1,(g6_0 x0).2.2.2.1.2.2.2.1,()),(g6_0 x0).2.2.2.2.1,((g6_0 x0).2.2.2.2.2.1.1,(g6_0 x0).2.2.2.2.2.1.2.1,(g6_0 x0).2.2.2.2.2.1.2.2.1,()),(g6_0 x0).2.2.2.2.2.2.1,(g6_0 x0).2.2.2.2.2.2.2.1,(g6_0 x0).2.2.2.2.2.2.2.2.1,(g6_0 x0).2.2.2.2.2.2.2.2.2.1,(g6_0 x0).2.2.2.2.2.2.2.2.2.2.1,(g6_0 x0).2.2.2.2.2.2.2.2.2.2.2.1,())) 1) 1)∧(if (decide (g12_0 (u11_0 (g7_0 (((g6_0 x0).1.1,(g6_0 x0).1.2.1,(g6_0 x0).1.2.2.1,()),(g6_0 x0).2.1,((g6_0 x0).2.2.1.1,(g6_0 x0).2.2.1.2.1,()),((g6_0 x0).2.2.2.1.1,(g6_0 x0).2.2.2.1.2.1,(g6_0 x0).2.2.2.1.2.2.1,(g6_0 x0).2.2.2.1.2.2.2.1,()),(g6_0 x0).2.2.2.2.1,((g6_0 x0).2.2.2.2.2.1.1,(g6_0 x0).2.2.2.2.2.1.2.1,(g6_0 x0).2.2.2.2.2.1.2.2.1,()),(g6_0 x0).2.2.2.2.2.2.1,(g6_0 x0).2.2.2.2.2.2.2.1,(g6_0 x0).2.2.2.2.2.2.2.2.1,(g6_0 x0).2.2.2.2.2.2.2.2.2.1,(g6_0 x0).2.2.2.2.2.2.2.2.2.2.1,(g6_0 x0).2.2.2.2.2.2.2.2.2.2.2.1,())) 1) 1<0))=true then True else (if (g12_0 (u11_0 (g7_0 (((g6_0 x0).1.1,(g6_0 x0).1.2.1,(g6_0 x0).1.2.2.1,()),(g6_0 x0).2.1,((g6_0 x0).2.2.1.1,(g6_0 x0).2.2.1.2.1,()),((g6_0 x0).2.2.2.1.1,(g6_0 x0).2.2.2.1.2.1,(g6_0 x0).2.2.2.1.2.2.1,(g6_0 x0).2.2.2.1.2.2.2.1,()),(g6_0 x0).2.2.2.2.1,((g6_0 x0).2.2.2.2.2.1.1,(g6_0 x0).2.2.2.2.2.1.2.1,(g6_0 x0).2.2.2.2.2.1.2.2.1,()),(g6_0 x0).2.2.2.2.2.2.1,(g6_0 x0).2.2.2.2.2.2.2.1,(g6_0 x0).2.2.2.2.2.2.2.2.1,(g6_0 x0).2.2.2.2.2.2.2.2.2.1,(g6_0 x0).2.2.2.2.2.2.2.2.2.2.1,(g6_0 x0).2.2.2.2.2.2.2.2.2.2.2.1,())) 1) 1 != g11_0 (g7_0 (((g6_0 x0).1.1,(g6_0 x0).1.2.1,(g6_0 x0).1.2.2.1,()),(g6_0 x0).2.1,((g6_0 x0).2.2.1.1,(g6_0 x0).2.2.1.2.1,()),((g6_0 x0).2.2.2.1.1,(g6_0 x0).2.2.2.1.2.1,(g6_0 x0).2.2.2.1.2.2.1,(g6_0 x0).2.2.2.1.2.2.2.1,()),(g6_0 x0).2.2.2.2.1,((g6_0 x0).2.2.2.2.2.1.1,(g6_0 x0).2.2.2.2.2.1.2.1,(g6_0 x0).2.2.2.2.2.1.2.2.1,()),(g6_0 x0).2.2.2.2.2.2.1,(g6_0 x0).2.2.2.2.2.2.2.1,(g6_0 x0).2.2.2.2.2.2.2.2.1,(g6_0 x0).2.2.2.2.2.2.2.2.2.1,(g6_0 x0).2.2.2.2.2.2.2.2.2.2.1,(g6_0 x0).2.2.2.2.2.2.2.2.2.2.2.1,())) 1)=true then True else ((P6 x0)∧((P7 (((g6_0 x0).1.1,(g6_0 x0).1.2.1,(g6_0 x0).1.2.2.1,()),(g6_0 x0).2.1,((g6_0 x0).2.2.1.1,(g6_0 x0).2.2.1.2.1,()),((g6_0 x0).2.2.2.1.1,(g6_0 x0).2.2.2.1.2.1,(g6_0 x0).2.2.2.1.2.2.1,(g6_0 x0).2.2.2.1.2.2.2.1,()),(g6_0 x0).2.2.2.2.1,((g6_0 x0).2.2.2.2.2.1.1,(g6_0 x0).2.2.2.2.2.1.2.1,(g6_0 x0).2.2.2.2.2.1.2.2.1,()),(g6_0 x0).2.2.2.2.2.2.1,(g6_0 x0).2.2.2.2.2.2.2.1,(g6_0 x0).2.2.2.2.2.2.2.2.1,(g6_0 x0).2.2.2.2.2.2.2.2.2.1,(g6_0 x0).2.2.2.2.2.2.2.2.2.2.1,(g6_0 x0).2.2.2.2.2.2.2.2.2.2.2.1,()))∧((P12 (u11_0 (g7_0 (((g6_0 x0).1.1,(g6_0 x0).1.2.1,(g6_0 x0).1.2.2.1,()),(g6_0 x0).2.1,((g6_0 x0).2.2.1.1,(g6_0 x0).2.2.1.2.1,()),((g6_0 x0).2.2.2.1.1,(g6_0 x0).2.2.2.1.2.1,(g6_0 x0).2.2.2.1.2.2.1,(g6_0 x0).2.2.2.1.2.2.2.1,()),(g6_0 x0).2.2.2.2.1,((g6_0 x0).2.2.2.2.2.1.1,(g6_0 x0).2.2.2.2.2.1.2.1,(g6_0 x0).2.2.2.2.2.1.2.2.1,()),(g6_0 x0).2.2.2.2.2.2.1,(g6_0 x0).2.2.2.2.2.2.2.1,(g6_0 x0).2.2.2.2.2.2.2.2.1,(g6_0 x0).2.2.2.2.2.2.2.2.2.1,(g6_0 x0).2.2.2.2.2.2.2.2.2.2.1,(g6_0 x0).2.2.2.2.2.2.2.2.2.2.2.1,())) 1) 1)∧True)))))))))))))))))))
def g3_0 (x0:TyA0):Bool:=(if (decide (g4_0 x0 1048576<0))=true then true else (if (!g8_0 (g7_0 (((g6_0 x0).1.1,(g6_0 x0).1.2.1,(g6_0 x0).1.2.2.1,()),(g6_0 x0).2.1,((g6_0 x0).2.2.1.1,(g6_0 x0).2.2.1.2.1,()),((g6_0 x0).2.2.2.1.1,(g6_0 x0).2.2.2.1.2.1,(g6_0 x0).2.2.2.1.2.2.1,(g6_0 x0).2.2.2.1.2.2.2.1,()),(g6_0 x0).2.2.2.2.1,((g6_0 x0).2.2.2.2.2.1.1,(g6_0 x0).2.2.2.2.2.1.2.1,(g6_0 x0).2.2.2.2.2.1.2.2.1,()),(g6_0 x0).2.2.2.2.2.2.1,(g6_0 x0).2.2.2.2.2.2.2.1,(g6_0 x0).2.2.2.2.2.2.2.2.1,(g6_0 x0).2.2.2.2.2.2.2.2.2.1,(g6_0 x0).2.2.2.2.2.2.2.2.2.2.1,(g6_0 x0).2.2.2.2.2.2.2.2.2.2.2.1,())) (g5_0 (((g6_0 x0).1.1,(g6_0 x0).1.2.1,(g6_0 x0).1.2.2.1,()),(g6_0 x0).2.1,((g6_0 x0).2.2.1.1,(g6_0 x0).2.2.1.2.1,()),((g6_0 x0).2.2.2.1.1,(g6_0 x0).2.2.2.1.2.1,(g6_0 x0).2.2.2.1.2.2.1,(g6_0 x0).2.2.2.1.2.2.2.1,()),(g6_0 x0).2.2.2.2.1,((g6_0 x0).2.2.2.2.2.1.1,(g6_0 x0).2.2.2.2.2.1.2.1,(g6_0 x0).2.2.2.2.2.1.2.2.1,()),(g6_0 x0).2.2.2.2.2.2.1,(g6_0 x0).2.2.2.2.2.2.2.1,(g6_0 x0).2.2.2.2.2.2.2.2.1,(g6_0 x0).2.2.2.2.2.2.2.2.2.1,(g6_0 x0).2.2.2.2.2.2.2.2.2.2.1,(g6_0 x0).2.2.2.2.2.2.2.2.2.2.2.1,())))=true then false else (if (g7_1 (((g6_0 x0).1.1,(g6_0 x0).1.2.1,(g6_0 x0).1.2.2.1,()),(g6_0 x0).2.1,((g6_0 x0).2.2.1.1,(g6_0 x0).2.2.1.2.1,()),((g6_0 x0).2.2.2.1.1,(g6_0 x0).2.2.2.1.2.1,(g6_0 x0).2.2.2.1.2.2.1,(g6_0 x0).2.2.2.1.2.2.2.1,()),(g6_0 x0).2.2.2.2.1,((g6_0 x0).2.2.2.2.2.1.1,(g6_0 x0).2.2.2.2.2.1.2.1,(g6_0 x0).2.2.2.2.2.1.2.2.1,()),(g6_0 x0).2.2.2.2.2.2.1,(g6_0 x0).2.2.2.2.2.2.2.1,(g6_0 x0).2.2.2.2.2.2.2.2.1,(g6_0 x0).2.2.2.2.2.2.2.2.2.1,(g6_0 x0).2.2.2.2.2.2.2.2.2.2.1,(g6_0 x0).2.2.2.2.2.2.2.2.2.2.2.1,()) != g5_1 (((g6_0 x0).1.1,(g6_0 x0).1.2.1,(g6_0 x0).1.2.2.1,()),(g6_0 x0).2.1,((g6_0 x0).2.2.1.1,(g6_0 x0).2.2.1.2.1,()),((g6_0 x0).2.2.2.1.1,(g6_0 x0).2.2.2.1.2.1,(g6_0 x0).2.2.2.1.2.2.1,(g6_0 x0).2.2.2.1.2.2.2.1,()),(g6_0 x0).2.2.2.2.1,((g6_0 x0).2.2.2.2.2.1.1,(g6_0 x0).2.2.2.2.2.1.2.1,(g6_0 x0).2.2.2.2.2.1.2.2.1,()),(g6_0 x0).2.2.2.2.2.2.1,(g6_0 x0).2.2.2.2.2.2.2.1,(g6_0 x0).2.2.2.2.2.2.2.2.1,(g6_0 x0).2.2.2.2.2.2.2.2.2.1,(g6_0 x0).2.2.2.2.2.2.2.2.2.2.1,(g6_0 x0).2.2.2.2.2.2.2.2.2.2.2.1,()))=true then false else (if (!g9_0 (((g6_0 x0).1.1,(g6_0 x0).1.2.1,(g6_0 x0).1.2.2.1,()),(g6_0 x0).2.1,((g6_0 x0).2.2.1.1,(g6_0 x0).2.2.1.2.1,()),((g6_0 x0).2.2.2.1.1,(g6_0 x0).2.2.2.1.2.1,(g6_0 x0).2.2.2.1.2.2.1,(g6_0 x0).2.2.2.1.2.2.2.1,()),(g6_0 x0).2.2.2.2.1,((g6_0 x0).2.2.2.2.2.1.1,(g6_0 x0).2.2.2.2.2.1.2.1,(g6_0 x0).2.2.2.2.2.1.2.2.1,()),(g6_0 x0).2.2.2.2.2.2.1,(g6_0 x0).2.2.2.2.2.2.2.1,(g6_0 x0).2.2.2.2.2.2.2.2.1,(g6_0 x0).2.2.2.2.2.2.2.2.2.1,(g6_0 x0).2.2.2.2.2.2.2.2.2.2.1,(g6_0 x0).2.2.2.2.2.2.2.2.2.2.2.1,()) (((g6_0 x0).1.1,(g6_0 x0).1.2.1,(g6_0 x0).1.2.2.1,()),(g6_0 x0).2.1,((g6_0 x0).2.2.1.1,(g6_0 x0).2.2.1.2.1,()),((g6_0 x0).2.2.2.1.1,(g6_0 x0).2.2.2.1.2.1,(g6_0 x0).2.2.2.1.2.2.1,(g6_0 x0).2.2.2.1.2.2.2.1,()),(g6_0 x0).2.2.2.2.1,((g6_0 x0).2.2.2.2.2.1.1,(g6_0 x0).2.2.2.2.2.1.2.1,(g6_0 x0).2.2.2.2.2.1.2.2.1,()),(g6_0 x0).2.2.2.2.2.2.1,(g6_0 x0).2.2.2.2.2.2.2.1,(g6_0 x0).2.2.2.2.2.2.2.2.1,(g6_0 x0).2.2.2.2.2.2.2.2.2.1,(g6_0 x0).2.2.2.2.2.2.2.2.2.2.1,(g6_0 x0).2.2.2.2.2.2.2.2.2.2.2.1,()))=true then false else (if (decide (g10_0 (((g6_0 x0).1.1,(g6_0 x0).1.2.1,(g6_0 x0).1.2.2.1,()),(g6_0 x0).2.1,((g6_0 x0).2.2.1.1,(g6_0 x0).2.2.1.2.1,()),((g6_0 x0).2.2.2.1.1,(g6_0 x0).2.2.2.1.2.1,(g6_0 x0).2.2.2.1.2.2.1,(g6_0 x0).2.2.2.1.2.2.2.1,()),(g6_0 x0).2.2.2.2.1,((g6_0 x0).2.2.2.2.2.1.1,(g6_0 x0).2.2.2.2.2.1.2.1,(g6_0 x0).2.2.2.2.2.1.2.2.1,()),(g6_0 x0).2.2.2.2.2.2.1,(g6_0 x0).2.2.2.2.2.2.2.1,(g6_0 x0).2.2.2.2.2.2.2.2.1,(g6_0 x0).2.2.2.2.2.2.2.2.2.1,(g6_0 x0).2.2.2.2.2.2.2.2.2.2.1,(g6_0 x0).2.2.2.2.2.2.2.2.2.2.2.1,()) 1<0))=true then false else (if (decide (g12_0 (u11_0 (g7_0 (((g6_0 x0).1.1,(g6_0 x0).1.2.1,(g6_0 x0).1.2.2.1,()),(g6_0 x0).2.1,((g6_0 x0).2.2.1.1,(g6_0 x0).2.2.1.2.1,()),((g6_0 x0).2.2.2.1.1,(g6_0 x0).2.2.2.1.2.1,(g6_0 x0).2.2.2.1.2.2.1,(g6_0 x0).2.2.2.1.2.2.2.1,()),(g6_0 x0).2.2.2.2.1,((g6_0 x0).2.2.2.2.2.1.1,(g6_0 x0).2.2.2.2.2.1.2.1,(g6_0 x0).2.2.2.2.2.1.2.2.1,()),(g6_0 x0).2.2.2.2.2.2.1,(g6_0 x0).2.2.2.2.2.2.2.1,(g6_0 x0).2.2.2.2.2.2.2.2.1,(g6_0 x0).2.2.2.2.2.2.2.2.2.1,(g6_0 x0).2.2.2.2.2.2.2.2.2.2.1,(g6_0 x0).2.2.2.2.2.2.2.2.2.2.2.1,())) 1) 1<0))=true then false else (if (g12_0 (u11_0 (g7_0 (((g6_0 x0).1.1,(g6_0 x0).1.2.1,(g6_0 x0).1.2.2.1,()),(g6_0 x0).2.1,((g6_0 x0).2.2.1.1,(g6_0 x0).2.2.1.2.1,()),((g6_0 x0).2.2.2.1.1,(g6_0 x0).2.2.2.1.2.1,(g6_0 x0).2.2.2.1.2.2.1,(g6_0 x0).2.2.2.1.2.2.2.1,()),(g6_0 x0).2.2.2.2.1,((g6_0 x0).2.2.2.2.2.1.1,(g6_0 x0).2.2.2.2.2.1.2.1,(g6_0 x0).2.2.2.2.2.1.2.2.1,()),(g6_0 x0).2.2.2.2.2.2.1,(g6_0 x0).2.2.2.2.2.2.2.1,(g6_0 x0).2.2.2.2.2.2.2.2.1,(g6_0 x0).2.2.2.2.2.2.2.2.2.1,(g6_0 x0).2.2.2.2.2.2.2.2.2.2.1,(g6_0 x0).2.2.2.2.2.2.2.2.2.2.2.1,())) 1) 1 != g11_0 (g7_0 (((g6_0 x0).1.1,(g6_0 x0).1.2.1,(g6_0 x0).1.2.2.1,()),(g6_0 x0).2.1,((g6_0 x0).2.2.1.1,(g6_0 x0).2.2.1.2.1,()),((g6_0 x0).2.2.2.1.1,(g6_0 x0).2.2.2.1.2.1,(g6_0 x0).2.2.2.1.2.2.1,(g6_0 x0).2.2.2.1.2.2.2.1,()),(g6_0 x0).2.2.2.2.1,((g6_0 x0).2.2.2.2.2.1.1,(g6_0 x0).2.2.2.2.2.1.2.1,(g6_0 x0).2.2.2.2.2.1.2.2.1,()),(g6_0 x0).2.2.2.2.2.2.1,(g6_0 x0).2.2.2.2.2.2.2.1,(g6_0 x0).2.2.2.2.2.2.2.2.1,(g6_0 x0).2.2.2.2.2.2.2.2.2.1,(g6_0 x0).2.2.2.2.2.2.2.2.2.2.1,(g6_0 x0).2.2.2.2.2.2.2.2.2.2.2.1,())) 1)=true then false else true)))))))
theorem at3 (x0:TyA0) (h:P3 x0) (K:Ctx) (q:Nat→Value):AtV Tryz.prog 3 (PostR kds3 oks3 [⟨.bool,g3_0 x0⟩] [] [] q K) 96 K q [] [.code b3] (entE 0 0 sig3 (x0,())) (entL sig3 (x0,())):=by
 unfold P3 at h
 unfold g3_0
 obtain ⟨s0,h⟩:=h
 by_cases b0:(decide (g4_0 x0 1048576<0))=true
 ·try simp only [if_pos b0] at h ⊢
  exact AtV.ret Tryz.func3 tabOk ext3Ok mixed false [] tys3 [true] (a1 s0 (a1 b0 trivial)) (by kernel_rfl)
 ·try simp only [if_neg b0] at h ⊢
  replace b0:=bf_ b0
  obtain ⟨s1,h⟩:=h
  obtain ⟨s2,h⟩:=h
  obtain ⟨s3,h⟩:=h
  obtain ⟨s4,h⟩:=h
  by_cases b1:(!g8_0 (g7_0 (((g6_0 x0).1.1,(g6_0 x0).1.2.1,(g6_0 x0).1.2.2.1,()),(g6_0 x0).2.1,((g6_0 x0).2.2.1.1,(g6_0 x0).2.2.1.2.1,()),((g6_0 x0).2.2.2.1.1,(g6_0 x0).2.2.2.1.2.1,(g6_0 x0).2.2.2.1.2.2.1,(g6_0 x0).2.2.2.1.2.2.2.1,()),(g6_0 x0).2.2.2.2.1,((g6_0 x0).2.2.2.2.2.1.1,(g6_0 x0).2.2.2.2.2.1.2.1,(g6_0 x0).2.2.2.2.2.1.2.2.1,()),(g6_0 x0).2.2.2.2.2.2.1,(g6_0 x0).2.2.2.2.2.2.2.1,(g6_0 x0).2.2.2.2.2.2.2.2.1,(g6_0 x0).2.2.2.2.2.2.2.2.2.1,(g6_0 x0).2.2.2.2.2.2.2.2.2.2.1,(g6_0 x0).2.2.2.2.2.2.2.2.2.2.2.1,())) (g5_0 (((g6_0 x0).1.1,(g6_0 x0).1.2.1,(g6_0 x0).1.2.2.1,()),(g6_0 x0).2.1,((g6_0 x0).2.2.1.1,(g6_0 x0).2.2.1.2.1,()),((g6_0 x0).2.2.2.1.1,(g6_0 x0).2.2.2.1.2.1,(g6_0 x0).2.2.2.1.2.2.1,(g6_0 x0).2.2.2.1.2.2.2.1,()),(g6_0 x0).2.2.2.2.1,((g6_0 x0).2.2.2.2.2.1.1,(g6_0 x0).2.2.2.2.2.1.2.1,(g6_0 x0).2.2.2.2.2.1.2.2.1,()),(g6_0 x0).2.2.2.2.2.2.1,(g6_0 x0).2.2.2.2.2.2.2.1,(g6_0 x0).2.2.2.2.2.2.2.2.1,(g6_0 x0).2.2.2.2.2.2.2.2.2.1,(g6_0 x0).2.2.2.2.2.2.2.2.2.2.1,(g6_0 x0).2.2.2.2.2.2.2.2.2.2.2.1,())))=true
  ·try simp only [if_pos b1] at h ⊢
   exact AtV.ret Tryz.func3 tabOk ext3Ok mixed false [] tys3 [false,true,true] (a1 s0 (a1 b0 (a1 s1 (a1 s2 (a1 s3 (a1 s4 (a1 trivial (a1 b1 (a1 (rfl:true=true) trivial))))))))) (by kernel_rfl)
  ·try simp only [if_neg b1] at h ⊢
   replace b1:=bf_ b1
   by_cases b2:(g7_1 (((g6_0 x0).1.1,(g6_0 x0).1.2.1,(g6_0 x0).1.2.2.1,()),(g6_0 x0).2.1,((g6_0 x0).2.2.1.1,(g6_0 x0).2.2.1.2.1,()),((g6_0 x0).2.2.2.1.1,(g6_0 x0).2.2.2.1.2.1,(g6_0 x0).2.2.2.1.2.2.1,(g6_0 x0).2.2.2.1.2.2.2.1,()),(g6_0 x0).2.2.2.2.1,((g6_0 x0).2.2.2.2.2.1.1,(g6_0 x0).2.2.2.2.2.1.2.1,(g6_0 x0).2.2.2.2.2.1.2.2.1,()),(g6_0 x0).2.2.2.2.2.2.1,(g6_0 x0).2.2.2.2.2.2.2.1,(g6_0 x0).2.2.2.2.2.2.2.2.1,(g6_0 x0).2.2.2.2.2.2.2.2.2.1,(g6_0 x0).2.2.2.2.2.2.2.2.2.2.1,(g6_0 x0).2.2.2.2.2.2.2.2.2.2.2.1,()) != g5_1 (((g6_0 x0).1.1,(g6_0 x0).1.2.1,(g6_0 x0).1.2.2.1,()),(g6_0 x0).2.1,((g6_0 x0).2.2.1.1,(g6_0 x0).2.2.1.2.1,()),((g6_0 x0).2.2.2.1.1,(g6_0 x0).2.2.2.1.2.1,(g6_0 x0).2.2.2.1.2.2.1,(g6_0 x0).2.2.2.1.2.2.2.1,()),(g6_0 x0).2.2.2.2.1,((g6_0 x0).2.2.2.2.2.1.1,(g6_0 x0).2.2.2.2.2.1.2.1,(g6_0 x0).2.2.2.2.2.1.2.2.1,()),(g6_0 x0).2.2.2.2.2.2.1,(g6_0 x0).2.2.2.2.2.2.2.1,(g6_0 x0).2.2.2.2.2.2.2.2.1,(g6_0 x0).2.2.2.2.2.2.2.2.2.1,(g6_0 x0).2.2.2.2.2.2.2.2.2.2.1,(g6_0 x0).2.2.2.2.2.2.2.2.2.2.2.1,()))=true
   ·try simp only [if_pos b2] at h ⊢
    exact AtV.ret Tryz.func3 tabOk ext3Ok mixed false [] tys3 [false,false,true] (a1 s0 (a1 b0 (a1 s1 (a1 s2 (a1 s3 (a1 s4 (a1 trivial (a1 b1 (a1 b2 trivial))))))))) (by kernel_rfl)
   ·try simp only [if_neg b2] at h ⊢
    replace b2:=bf_ b2
    obtain ⟨s5,h⟩:=h
    by_cases b3:(!g9_0 (((g6_0 x0).1.1,(g6_0 x0).1.2.1,(g6_0 x0).1.2.2.1,()),(g6_0 x0).2.1,((g6_0 x0).2.2.1.1,(g6_0 x0).2.2.1.2.1,()),((g6_0 x0).2.2.2.1.1,(g6_0 x0).2.2.2.1.2.1,(g6_0 x0).2.2.2.1.2.2.1,(g6_0 x0).2.2.2.1.2.2.2.1,()),(g6_0 x0).2.2.2.2.1,((g6_0 x0).2.2.2.2.2.1.1,(g6_0 x0).2.2.2.2.2.1.2.1,(g6_0 x0).2.2.2.2.2.1.2.2.1,()),(g6_0 x0).2.2.2.2.2.2.1,(g6_0 x0).2.2.2.2.2.2.2.1,(g6_0 x0).2.2.2.2.2.2.2.2.1,(g6_0 x0).2.2.2.2.2.2.2.2.2.1,(g6_0 x0).2.2.2.2.2.2.2.2.2.2.1,(g6_0 x0).2.2.2.2.2.2.2.2.2.2.2.1,()) (((g6_0 x0).1.1,(g6_0 x0).1.2.1,(g6_0 x0).1.2.2.1,()),(g6_0 x0).2.1,((g6_0 x0).2.2.1.1,(g6_0 x0).2.2.1.2.1,()),((g6_0 x0).2.2.2.1.1,(g6_0 x0).2.2.2.1.2.1,(g6_0 x0).2.2.2.1.2.2.1,(g6_0 x0).2.2.2.1.2.2.2.1,()),(g6_0 x0).2.2.2.2.1,((g6_0 x0).2.2.2.2.2.1.1,(g6_0 x0).2.2.2.2.2.1.2.1,(g6_0 x0).2.2.2.2.2.1.2.2.1,()),(g6_0 x0).2.2.2.2.2.2.1,(g6_0 x0).2.2.2.2.2.2.2.1,(g6_0 x0).2.2.2.2.2.2.2.2.1,(g6_0 x0).2.2.2.2.2.2.2.2.2.1,(g6_0 x0).2.2.2.2.2.2.2.2.2.2.1,(g6_0 x0).2.2.2.2.2.2.2.2.2.2.2.1,()))=true
    ·try simp only [if_pos b3] at h ⊢
     exact AtV.ret Tryz.func3 tabOk ext3Ok mixed false [] tys3 [false,false,false,true] (a1 s0 (a1 b0 (a1 s1 (a1 s2 (a1 s3 (a1 s4 (a1 trivial (a1 b1 (a1 b2 (a1 s5 (a1 trivial (a1 b3 trivial)))))))))))) (by kernel_rfl)
    ·try simp only [if_neg b3] at h ⊢
     replace b3:=bf_ b3
     obtain ⟨s6,s7,s8,s9,s10,s11,h⟩:=h
     by_cases b4:(decide (g10_0 (((g6_0 x0).1.1,(g6_0 x0).1.2.1,(g6_0 x0).1.2.2.1,()),(g6_0 x0).2.1,((g6_0 x0).2.2.1.1,(g6_0 x0).2.2.1.2.1,()),((g6_0 x0).2.2.2.1.1,(g6_0 x0).2.2.2.1.2.1,(g6_0 x0).2.2.2.1.2.2.1,(g6_0 x0).2.2.2.1.2.2.2.1,()),(g6_0 x0).2.2.2.2.1,((g6_0 x0).2.2.2.2.2.1.1,(g6_0 x0).2.2.2.2.2.1.2.1,(g6_0 x0).2.2.2.2.2.1.2.2.1,()),(g6_0 x0).2.2.2.2.2.2.1,(g6_0 x0).2.2.2.2.2.2.2.1,(g6_0 x0).2.2.2.2.2.2.2.2.1,(g6_0 x0).2.2.2.2.2.2.2.2.2.1,(g6_0 x0).2.2.2.2.2.2.2.2.2.2.1,(g6_0 x0).2.2.2.2.2.2.2.2.2.2.2.1,()) 1<0))=true
     ·try simp only [if_pos b4] at h ⊢
      exact AtV.ret Tryz.func3 tabOk ext3Ok mixed false [] tys3 [false,false,false,false,true,true,true] (a1 s0 (a1 b0 (a1 s1 (a1 s2 (a1 s3 (a1 s4 (a1 trivial (a1 b1 (a1 b2 (a1 s5 (a1 trivial (a1 b3 (a1 s6 (a1 s7 (a1 s8 (a1 s9 (a1 s10 (a1 s11 (a1 b4 (a1 (rfl:true=true) (a1 (rfl:true=true) trivial))))))))))))))))))))) (by kernel_rfl)
     ·try simp only [if_neg b4] at h ⊢
      replace b4:=bf_ b4
      obtain ⟨s12,s13,h⟩:=h
      obtain ⟨s14,h⟩:=h
      by_cases b5:(decide (g12_0 (u11_0 (g7_0 (((g6_0 x0).1.1,(g6_0 x0).1.2.1,(g6_0 x0).1.2.2.1,()),(g6_0 x0).2.1,((g6_0 x0).2.2.1.1,(g6_0 x0).2.2.1.2.1,()),((g6_0 x0).2.2.2.1.1,(g6_0 x0).2.2.2.1.2.1,(g6_0 x0).2.2.2.1.2.2.1,(g6_0 x0).2.2.2.1.2.2.2.1,()),(g6_0 x0).2.2.2.2.1,((g6_0 x0).2.2.2.2.2.1.1,(g6_0 x0).2.2.2.2.2.1.2.1,(g6_0 x0).2.2.2.2.2.1.2.2.1,()),(g6_0 x0).2.2.2.2.2.2.1,(g6_0 x0).2.2.2.2.2.2.2.1,(g6_0 x0).2.2.2.2.2.2.2.2.1,(g6_0 x0).2.2.2.2.2.2.2.2.2.1,(g6_0 x0).2.2.2.2.2.2.2.2.2.2.1,(g6_0 x0).2.2.2.2.2.2.2.2.2.2.2.1,())) 1) 1<0))=true
      ·try simp only [if_pos b5] at h ⊢
       exact AtV.ret Tryz.func3 tabOk ext3Ok mixed false [] tys3 [false,false,false,false,false,false,false,true] (a1 s0 (a1 b0 (a1 s1 (a1 s2 (a1 s3 (a1 s4 (a1 trivial (a1 b1 (a1 b2 (a1 s5 (a1 trivial (a1 b3 (a1 s6 (a1 s7 (a1 s8 (a1 s9 (a1 s10 (a1 s11 (a1 b4 (a1 trivial (a1 b1 (a1 b2 (a1 s12 (a1 s13 (a1 s14 (a1 b5 trivial)))))))))))))))))))))))))) (by kernel_rfl)
      ·try simp only [if_neg b5] at h ⊢
       replace b5:=bf_ b5
       by_cases b6:(g12_0 (u11_0 (g7_0 (((g6_0 x0).1.1,(g6_0 x0).1.2.1,(g6_0 x0).1.2.2.1,()),(g6_0 x0).2.1,((g6_0 x0).2.2.1.1,(g6_0 x0).2.2.1.2.1,()),((g6_0 x0).2.2.2.1.1,(g6_0 x0).2.2.2.1.2.1,(g6_0 x0).2.2.2.1.2.2.1,(g6_0 x0).2.2.2.1.2.2.2.1,()),(g6_0 x0).2.2.2.2.1,((g6_0 x0).2.2.2.2.2.1.1,(g6_0 x0).2.2.2.2.2.1.2.1,(g6_0 x0).2.2.2.2.2.1.2.2.1,()),(g6_0 x0).2.2.2.2.2.2.1,(g6_0 x0).2.2.2.2.2.2.2.1,(g6_0 x0).2.2.2.2.2.2.2.2.1,(g6_0 x0).2.2.2.2.2.2.2.2.2.1,(g6_0 x0).2.2.2.2.2.2.2.2.2.2.1,(g6_0 x0).2.2.2.2.2.2.2.2.2.2.2.1,())) 1) 1 != g11_0 (g7_0 (((g6_0 x0).1.1,(g6_0 x0).1.2.1,(g6_0 x0).1.2.2.1,()),(g6_0 x0).2.1,((g6_0 x0).2.2.1.1,(g6_0 x0).2.2.1.2.1,()),((g6_0 x0).2.2.2.1.1,(g6_0 x0).2.2.2.1.2.1,(g6_0 x0).2.2.2.1.2.2.1,(g6_0 x0).2.2.2.1.2.2.2.1,()),(g6_0 x0).2.2.2.2.1,((g6_0 x0).2.2.2.2.2.1.1,(g6_0 x0).2.2.2.2.2.1.2.1,(g6_0 x0).2.2.2.2.2.1.2.2.1,()),(g6_0 x0).2.2.2.2.2.2.1,(g6_0 x0).2.2.2.2.2.2.2.1,(g6_0 x0).2.2.2.2.2.2.2.2.1,(g6_0 x0).2.2.2.2.2.2.2.2.2.1,(g6_0 x0).2.2.2.2.2.2.2.2.2.2.1,(g6_0 x0).2.2.2.2.2.2.2.2.2.2.2.1,())) 1)=true
       ·try simp only [if_pos b6] at h ⊢
        exact AtV.ret Tryz.func3 tabOk ext3Ok mixed false [] tys3 [false,false,false,false,false,false,false,false,true] (a1 s0 (a1 b0 (a1 s1 (a1 s2 (a1 s3 (a1 s4 (a1 trivial (a1 b1 (a1 b2 (a1 s5 (a1 trivial (a1 b3 (a1 s6 (a1 s7 (a1 s8 (a1 s9 (a1 s10 (a1 s11 (a1 b4 (a1 trivial (a1 b1 (a1 b2 (a1 s12 (a1 s13 (a1 s14 (a1 b5 (a1 b6 trivial))))))))))))))))))))))))))) (by kernel_rfl)
       ·try simp only [if_neg b6] at h ⊢
        replace b6:=bf_ b6
        obtain ⟨s15,h⟩:=h
        obtain ⟨s16,h⟩:=h
        obtain ⟨s17,h⟩:=h
        exact AtV.ret Tryz.func3 tabOk ext3Ok mixed false [] tys3 [false,false,false,false,false,false,false,false,false,false,false,false,false] (a1 s0 (a1 b0 (a1 s1 (a1 s2 (a1 s3 (a1 s4 (a1 trivial (a1 b1 (a1 b2 (a1 s5 (a1 trivial (a1 b3 (a1 s6 (a1 s7 (a1 s8 (a1 s9 (a1 s10 (a1 s11 (a1 b4 (a1 trivial (a1 b1 (a1 b2 (a1 s12 (a1 s13 (a1 s14 (a1 b5 (a1 b6 (a1 s15 (a1 s16 (a1 trivial (a1 b1 (a1 b2 (a1 s17 (a1 b5 (a1 b6 trivial))))))))))))))))))))))))))))))))))) (by kernel_rfl)
def S3:Am.Spec:={ sig:=sig3,pre:=fun ⟨x0,_⟩=>P3 x0,res:=fun ⟨x0,_⟩=>[⟨.bool,g3_0 x0⟩],kds:=kds3 }
theorem con3:Contract Tryz.prog 3 S3:=contract_of Tryz.func3 hb3 (bl_ (by kernel_rfl)) (fun ⟨x0,_⟩ h _ K q=>at3 x0 h K q)
end
theorem szs_Section (xs:List TyB4) (l:Int) (h0:0≤l) (hi:l≤1048576) (hw:Wf (.sl (.cons (.int .i64) (.cons (.int .i64) .unit))) xs):P47 xs l∧(¬ g47_0 xs l<0→g47_0 xs l≤l - xs.length):=by
 have hi':InR .i64 l:=by rw [i64_iff];omega
 have hm:xs.length≤9223372036854775807:=hw.1
 refine ⟨⟨by rw [i64_iff];omega,trivial⟩,fun hg=>(g47_le xs l h0 hi' hw hg).2⟩
theorem szs_Group (xs:List TyB1) (l:Int) (h0:0≤l) (hi:l≤1048576) (hw:Wf (.sl (.cons .str (.cons (.int .i64) (.cons (.int .i64) (.cons (.int .i64) .unit))))) xs):P14 xs l∧(¬ g14_0 xs l<0→g14_0 xs l≤l - xs.length):=by
 have hi':InR .i64 l:=by rw [i64_iff];omega
 exact ⟨h0,fun hg=>g14_le xs l h0 hi' hw hg⟩
theorem szs_Check (xs:List TyB0) (l:Int) (h0:0≤l) (hi:l≤1048576) (hw:Wf (.sl (.cons .str (.cons (.int .i64) (.cons (.int .i64) (.cons (.int .i64) (.cons (.int .i64) .unit)))))) xs):P15 xs l∧(¬ g15_0 xs l<0→g15_0 xs l≤l - xs.length):=by
 have hi':InR .i64 l:=by rw [i64_iff];omega
 exact ⟨h0,fun hg=>g15_le xs l h0 hi' hw hg⟩
theorem szs_Ride (xs:List TyB4) (l:Int) (h0:0≤l) (hi:l≤1048576) (hw:Wf (.sl (.cons (.int .i64) (.cons (.int .i64) .unit))) xs):P16 xs l∧(¬ g16_0 xs l<0→g16_0 xs l≤l - xs.length):=by
 have hi':InR .i64 l:=by rw [i64_iff];omega
 have hm:xs.length≤9223372036854775807:=hw.1
 refine ⟨⟨by rw [i64_iff];omega,trivial⟩,fun hg=>(g16_le xs l h0 hi' hw hg).2⟩
theorem szs_Line (xs:List TyB2) (l:Int) (h0:0≤l) (hi:l≤1048576) (hw:Wf (.sl (.cons (.int .i64) (.cons (.int .i64) (.cons .str (.cons (.int .i64) .unit))))) xs):P17 xs l∧(¬ g17_0 xs l<0→g17_0 xs l≤l - xs.length):=by
 have hi':InR .i64 l:=by rw [i64_iff];omega
 exact ⟨h0,fun hg=>g17_le xs l h0 hi' hw hg⟩
theorem szs_Track (x:List TyB4×Int×Int×Unit) (l:Int) (h0:0≤l) (hi:l≤1048576) (hw:Wf (.sl (.cons (.int .i64) (.cons (.int .i64) .unit))) x.1):P13 x l∧(¬ g13_0 x l<0→g13_0 x l≤l - x.1.length):=by
 obtain ⟨p,q⟩:=szs_Section x.1 l h0 hi hw
 unfold P13 g13_0
 by_cases c:g47_0 x.1 l<0
 ·simp only [c,p,decide_true,if_true,and_true,true_and]
  try exact ⟨trivial,fun h=>absurd (show (-1:Int)<0 by decide) h⟩
  try exact fun h=>absurd (show (-1:Int)<0 by decide) h
 ·simp only [c,p,decide_false,Bool.false_eq_true,if_false,and_true,true_and]
  try exact ⟨trivial,fun h=>q h⟩
  try exact fun h=>q h
  try exact fun _=>q c
theorem sz_works (x:(TyA0)) (l:Int) (h0:0≤l) (hi:l≤1048576) (hw:Wf (.cons (.cons (.sl (.cons (.int .i64) (.cons (.int .i64) .unit))) (.cons (.int .i64) (.cons (.int .i64) .unit))) (.cons (.int .i64) (.cons (.cons (.int .i64) (.cons (.int .i64) .unit)) (.cons (.cons (.int .i64) (.cons (.int .i64) (.cons (.int .i64) (.cons (.int .i64) .unit)))) (.cons (.sl (.cons .str (.cons (.int .i64) (.cons (.int .i64) (.cons (.int .i64) .unit))))) (.cons (.cons (.int .i64) (.cons (.int .i64) (.cons (.int .i64) .unit))) (.cons (.sl (.cons .str (.cons (.int .i64) (.cons (.int .i64) (.cons (.int .i64) (.cons (.int .i64) .unit)))))) (.cons (.int .i64) (.cons (.int .i64) (.cons (.sl (.cons (.int .i64) (.cons (.int .i64) .unit))) (.cons (.int .i64) (.cons (.sl (.cons (.int .i64) (.cons (.int .i64) (.cons .str (.cons (.int .i64) .unit))))) .unit)))))))))))) x):P4 x l∧(¬ g4_0 x l<0→0≤g4_0 x l∧g4_0 x l≤l∧(x.1.1.length:Int)≤l∧(x.2.2.2.2.1.length:Int)≤l∧(x.2.2.2.2.2.2.1.length:Int)≤l∧(x.2.2.2.2.2.2.2.2.2.1.length:Int)≤l∧(x.2.2.2.2.2.2.2.2.2.2.2.1.length:Int)≤l):=by
 unfold P4 g4_0
 obtain ⟨p0,q0⟩:=szs_Track x.1 l (by omega) (by omega) hw.1.1
 by_cases c0:(g13_0 x.1 l)<0
 ·simp only [c0,p0,decide_true,decide_false,Bool.false_eq_true,if_true,if_false,and_true,true_and]
  try exact ⟨trivial,fun h=>absurd (show (-1:Int)<0 by decide) h⟩
  try exact fun h=>absurd (show (-1:Int)<0 by decide) h
 have r0:=q0 c0
 obtain ⟨p1,q1⟩:=szs_Group x.2.2.2.2.1 (g13_0 x.1 l) (by omega) (by omega) hw.2.2.2.2.1
 by_cases c1:(g14_0 x.2.2.2.2.1 (g13_0 x.1 l))<0
 ·simp only [c0,p0,c1,p1,decide_true,decide_false,Bool.false_eq_true,if_true,if_false,and_true,true_and]
  try exact ⟨trivial,fun h=>absurd (show (-1:Int)<0 by decide) h⟩
  try exact fun h=>absurd (show (-1:Int)<0 by decide) h
 have r1:=q1 c1
 obtain ⟨p2,q2⟩:=szs_Check x.2.2.2.2.2.2.1 (g14_0 x.2.2.2.2.1 (g13_0 x.1 l)) (by omega) (by omega) hw.2.2.2.2.2.2.1
 by_cases c2:(g15_0 x.2.2.2.2.2.2.1 (g14_0 x.2.2.2.2.1 (g13_0 x.1 l)))<0
 ·simp only [c0,p0,c1,p1,c2,p2,decide_true,decide_false,Bool.false_eq_true,if_true,if_false,and_true,true_and]
  try exact ⟨trivial,fun h=>absurd (show (-1:Int)<0 by decide) h⟩
  try exact fun h=>absurd (show (-1:Int)<0 by decide) h
 have r2:=q2 c2
 obtain ⟨p3,q3⟩:=szs_Ride x.2.2.2.2.2.2.2.2.2.1 (g15_0 x.2.2.2.2.2.2.1 (g14_0 x.2.2.2.2.1 (g13_0 x.1 l))) (by omega) (by omega) hw.2.2.2.2.2.2.2.2.2.1
 by_cases c3:(g16_0 x.2.2.2.2.2.2.2.2.2.1 (g15_0 x.2.2.2.2.2.2.1 (g14_0 x.2.2.2.2.1 (g13_0 x.1 l))))<0
 ·simp only [c0,p0,c1,p1,c2,p2,c3,p3,decide_true,decide_false,Bool.false_eq_true,if_true,if_false,and_true,true_and]
  try exact ⟨trivial,fun h=>absurd (show (-1:Int)<0 by decide) h⟩
  try exact fun h=>absurd (show (-1:Int)<0 by decide) h
 have r3:=q3 c3
 obtain ⟨p4,q4⟩:=szs_Line x.2.2.2.2.2.2.2.2.2.2.2.1 (g16_0 x.2.2.2.2.2.2.2.2.2.1 (g15_0 x.2.2.2.2.2.2.1 (g14_0 x.2.2.2.2.1 (g13_0 x.1 l)))) (by omega) (by omega) hw.2.2.2.2.2.2.2.2.2.2.2.1
 by_cases c4:(g17_0 x.2.2.2.2.2.2.2.2.2.2.2.1 (g16_0 x.2.2.2.2.2.2.2.2.2.1 (g15_0 x.2.2.2.2.2.2.1 (g14_0 x.2.2.2.2.1 (g13_0 x.1 l)))))<0
 ·simp only [c0,p0,c1,p1,c2,p2,c3,p3,c4,p4,decide_true,decide_false,Bool.false_eq_true,if_true,if_false,and_true,true_and]
  try exact ⟨trivial,fun h=>absurd (show (-1:Int)<0 by decide) h⟩
  try exact fun h=>absurd (show (-1:Int)<0 by decide) h
 have r4:=q4 c4
 simp only [c0,p0,c1,p1,c2,p2,c3,p3,c4,p4,decide_false,Bool.false_eq_true,if_false,and_true,true_and]
 intro _
 omega
theorem to_works (x:(TyA0)) (h:(x.1.1.length:Int)≤1048576∧(x.2.2.2.2.1.length:Int)≤1048576∧(x.2.2.2.2.2.2.1.length:Int)≤1048576∧(x.2.2.2.2.2.2.2.2.2.1.length:Int)≤1048576∧(x.2.2.2.2.2.2.2.2.2.2.2.1.length:Int)≤1048576):P6 x∧g6_0 x=x:=by
 obtain ⟨l0,l1,l2,l3,l4⟩:=h
 refine ⟨?_,rfl⟩
 unfold P6 P20 P63 P23 P25 P26 P27
 refine ⟨⟨by omega,trivial⟩,by omega,by omega,by omega,by omega,trivial⟩
theorem eq_works (x:(TyA0)):g9_0 x x=true:=by
 simp [g9_0,g33_0,g34_0,g35_0,g37_0,g78_0,g36_0,g38_0,g39_0,g40_0]
theorem mk_Section (xs:List TyB4) (k:Int) (h0:0≤k) (h1:k≤100000000) (hl:xs.length≤1048576):P83 xs k∧(u83_0 xs k).length=xs.length∧0≤g83_0 xs k∧g83_0 xs k≤k+6000000:=by
 refine ⟨⟨by omega,by omega⟩,by rw [u83_0,M83_len],?_⟩
 unfold g83_0
 omega
theorem mk_Group (xs:List TyB1) (k:Int) (h0:0≤k) (h1:k≤100000000) (hl:xs.length≤1048576):P42 xs k∧(u42_0 xs k).length=xs.length∧0≤g42_0 xs k∧g42_0 xs k≤k+6000000:=by
 refine ⟨⟨by omega,by omega⟩,by rw [u42_0,M42_len],?_⟩
 unfold g42_0
 omega
theorem mk_Check (xs:List TyB0) (k:Int) (h0:0≤k) (h1:k≤100000000) (hl:xs.length≤1048576):P43 xs k∧(u43_0 xs k).length=xs.length∧0≤g43_0 xs k∧g43_0 xs k≤k+6000000:=by
 refine ⟨⟨by omega,by omega⟩,by rw [u43_0,M43_len],?_⟩
 unfold g43_0
 omega
theorem mk_Ride (xs:List TyB4) (k:Int) (h0:0≤k) (h1:k≤100000000) (hl:xs.length≤1048576):P44 xs k∧(u44_0 xs k).length=xs.length∧0≤g44_0 xs k∧g44_0 xs k≤k+6000000:=by
 refine ⟨⟨by omega,by omega⟩,by rw [u44_0,M44_len],?_⟩
 unfold g44_0
 omega
theorem mk_Line (xs:List TyB2) (k:Int) (h0:0≤k) (h1:k≤100000000) (hl:xs.length≤1048576):P45 xs k∧(u45_0 xs k).length=xs.length∧0≤g45_0 xs k∧g45_0 xs k≤k+6000000:=by
 refine ⟨⟨by omega,by omega⟩,by rw [u45_0,M45_len],?_⟩
 unfold g45_0
 omega
theorem marked_works (x:(TyA0)) (h:(x.1.1.length:Int)≤1048576∧(x.2.2.2.2.1.length:Int)≤1048576∧(x.2.2.2.2.2.2.1.length:Int)≤1048576∧(x.2.2.2.2.2.2.2.2.2.1.length:Int)≤1048576∧(x.2.2.2.2.2.2.2.2.2.2.2.1.length:Int)≤1048576):P10 x 1∧¬ g10_0 x 1<0∧((u10_0 x 1).1.1.length=x.1.1.length∧(u10_0 x 1).2.2.2.2.1.length=x.2.2.2.2.1.length∧(u10_0 x 1).2.2.2.2.2.2.1.length=x.2.2.2.2.2.2.1.length∧(u10_0 x 1).2.2.2.2.2.2.2.2.2.1.length=x.2.2.2.2.2.2.2.2.2.1.length∧(u10_0 x 1).2.2.2.2.2.2.2.2.2.2.2.1.length=x.2.2.2.2.2.2.2.2.2.2.2.1.length):=by
 obtain ⟨l0,l1,l2,l3,l4⟩:=h
 unfold P10 g10_0 P41 g41_0
 obtain ⟨p0,u0,a0,b0⟩:=mk_Section x.1.1 1 (by omega) (by omega) (by omega)
 obtain ⟨p1,u1,a1,b1⟩:=mk_Group x.2.2.2.2.1 (g83_0 x.1.1 1) (by omega) (by omega) (by omega)
 obtain ⟨p2,u2,a2,b2⟩:=mk_Check x.2.2.2.2.2.2.1 (g42_0 x.2.2.2.2.1 (g83_0 x.1.1 1)) (by omega) (by omega) (by omega)
 obtain ⟨p3,u3,a3,b3⟩:=mk_Ride x.2.2.2.2.2.2.2.2.2.1 (g43_0 x.2.2.2.2.2.2.1 (g42_0 x.2.2.2.2.1 (g83_0 x.1.1 1))) (by omega) (by omega) (by omega)
 obtain ⟨p4,u4,a4,b4⟩:=mk_Line x.2.2.2.2.2.2.2.2.2.2.2.1 (g44_0 x.2.2.2.2.2.2.2.2.2.1 (g43_0 x.2.2.2.2.2.2.1 (g42_0 x.2.2.2.2.1 (g83_0 x.1.1 1)))) (by omega) (by omega) (by omega)
 exact ⟨⟨⟨p0,u0,trivial⟩,u0,p1,u1,p2,u2,p3,u3,p4,u4,trivial⟩,Int.not_lt.2 a4,u0,u1,u2,u3,u4⟩
theorem marked_problem (xs:List TyB3) (h:xs.length≤1048576):P11 xs 1∧(u11_0 xs 1).length=xs.length∧¬ g11_0 xs 1<0:=by
 have hl:(u11_0 xs 1).length=xs.length:=by rw [u11_0,M11_len]
 refine ⟨⟨by omega,by omega⟩,hl,?_⟩
 unfold g11_0
 omega
theorem held_problem (xs:List TyB3) (h:xs.length≤1048576):P12 (u11_0 xs 1) 1∧g12_0 (u11_0 xs 1) 1=g11_0 xs 1:=by
 have hl:(u11_0 xs 1).length=xs.length:=by rw [u11_0,M11_len]
 refine ⟨⟨⟨by omega,by rw [hl];omega⟩,fun i hi => ?_⟩,?_⟩
 ·rw [hl] at hi
  rw [getD_lt _ _ _ (by rw [hl];exact hi)]
  simp [u11_0,M11]
 ·unfold g12_0 g11_0
  rw [hl]
theorem name_eq (s:ByteArray):g163_0 s=g125_0 s:=by
 have hs:∀ c,g152_0 c=(decide (97≤c)&&decide (c≤122)):=fun c=>by
  unfold g152_0
  by_cases h1:(97:Int)≤c <;> simp [h1]
 have hd:∀ c,g153_0 c=(decide (48≤c)&&decide (c≤57)):=fun c=>by
  unfold g153_0
  by_cases h1:(48:Int)≤c <;> simp [h1]
 unfold g163_0 g125_0
 have hl:=bytesOf_length s
 by_cases h1:1≤s.size
 ·cases hb:bytesOf s with
  | nil=>rw [hb] at hl;simp at hl;omega
  | cons c r =>
   have hr:allI ok163 1 r=r.all fun b=>g152_0 b||g153_0 b:=by
    rw [← allI_plain (fun b=>g152_0 b||g153_0 b) r 1]
    refine allI_congr r 1 fun j x hj => ?_
    have:(j==0)=false:=by simp;omega
    simp only [ok163,this,hs,hd,Bool.not_false,Bool.true_and]
   have h0:ok163 0 c=g152_0 c:=by simp [ok163,hs]
   simp only [allI,hr,h0,List.all_cons,List.getD_cons_zero]
   cases g152_0 c <;> simp
 ·simp [h1]
theorem bl_asym {x y:List UInt8} (h:Op.bytesLess x y=true):Op.bytesLess y x=false:=by
 cases h2:Op.bytesLess y x with
 | false=>rfl
 | true =>
  have:=bl_trans x y x h h2
  rw [bl_irrefl] at this
  cases this
theorem le_not (a b:ByteArray):(!(Op.bytesLess (ByteArray.toList a) (ByteArray.toList b)||ByteArray.toList a==ByteArray.toList b))=Op.bytesLess (ByteArray.toList b) (ByteArray.toList a):=by
 generalize ByteArray.toList a=x
 generalize ByteArray.toList b=y
 cases h1:Op.bytesLess x y with
 | true=>rw [bl_asym h1];rfl
 | false =>
  cases h2:(x==y) with
  | true =>
   have:x=y:=by simpa using h2
   subst this
   rw [bl_irrefl];rfl
  | false =>
   cases h3:Op.bytesLess y x with
   | true=>rfl
   | false =>
    have:=bl_tri x y h1 h3
    subst this
    simp at h2
theorem allI_mem {α:Type} {p:Nat→α→Bool}:∀ (l:List α) (i:Nat),allI p i l=true→∀ x∈l,∃ j,p j x=true
 | [],_,_,x,hx=>by cases hx
 | y :: r,i,h,x,hx=>by
  simp only [allI,Bool.and_eq_true] at h
  rcases List.mem_cons.1 hx with rfl | hx
  ·exact ⟨i,h.1⟩
  ·exact allI_mem r (i+1) h.2 x hx
theorem one_Group (x:TyB1):g135_0 x=g86_0 x:=by
 unfold g135_0 g86_0
 rw [name_eq]
 rfl
theorem list_Group (xs:List TyB1):g107_0 xs=g55_0 xs:=by
 unfold g107_0 g55_0
 congr 1
 refine allI_congr xs 0 fun j y _ => ?_
 unfold ok107 ok55
 rw [one_Group,le_not]
theorem one_Check (x:TyB0):g164_0 x=g126_0 x:=by
 unfold g164_0 g126_0
 rw [name_eq]
 rfl
theorem list_Check (xs:List TyB0):g137_0 xs=g87_0 xs:=by
 unfold g137_0 g87_0
 congr 1
 refine allI_congr xs 0 fun j y _ => ?_
 unfold ok137 ok87
 rw [one_Check,le_not]
theorem word_eq (w : ByteArray) : g183_0 w = g155_0 w := by
  have hb : ∀ b : Int, (!g197_0 b) = ok155 b := fun b => by
    unfold g197_0 ok155 g153_0
    by_cases h1 : b < 97 <;> by_cases h2 : b > 122 <;> by_cases h3 : b < 48 <;> by_cases h4 : b > 57 <;>
      first
        | omega
        | (have e1 : (97 ≤ b) ↔ ¬ b < 97 := by omega
           have e2 : (b ≤ 122) ↔ ¬ b > 122 := by omega
           have e3 : (b ≥ 48) ↔ ¬ b < 48 := by omega
           have e4 : (b ≤ 57) ↔ ¬ b > 57 := by omega
           simp [e1, e2, e3, e4, h1, h2, h3, h4])
  have ha : (!g196c197_0 (bytesOf w)) = (bytesOf w).all ok155 := by
    unfold g196c197_0
    rw [any205c197]
    induction bytesOf w with
    | nil => rfl
    | cons b r ih => rw [List.any_cons, List.all_cons, Bool.not_or, ih, hb]
  unfold g183_0 g155_0
  rw [ha]
  by_cases h : w = ByteArray.mk #[]
  · subst h
    have h1 : (ByteArray.toList (ByteArray.mk #[]) == ByteArray.toList (ByteArray.mk #[])) = true := beq_self_eq_true _
    have h2 : decide (((ByteArray.mk #[]).size : Int) > 0) = false := by decide
    rw [h1, h2, Bool.and_false]
    rfl
  · have h1 : (ByteArray.toList w == ByteArray.toList (ByteArray.mk #[])) = false := by
      rw [Bool.eq_false_iff]; exact fun hh => h ((bytes_eq _ _).1 hh)
    have h2 : decide ((w.size : Int) > 0) = true := by
      refine decide_eq_true ?_
      rcases Nat.lt_or_ge 0 w.size with h3 | h3
      · omega
      · exact absurd (bytesOf_inj (s := w) (t := ByteArray.mk #[]) (List.eq_nil_of_length_eq_zero (by rw [bytesOf_length]; omega))) h
    rw [h1, h2, Bool.and_true]
    rfl
theorem text_eq (s:ByteArray):g167_0 s=g128_0 s:=by
 have e:g181_0 s (ByteArray.mk #[32])=g154_0 s 32:=splitB_one 32 s
 have hw:∀ w,(!g182_0 w)=g155_0 w:=fun w=>by
  unfold g182_0
  rw [Bool.not_not,word_eq]
 have ha:∀ l:List ByteArray,(!g180c182_0 l)=l.all g155_0:=fun l=>by
  unfold g180c182_0
  rw [any194c182]
  induction l with
  | nil=>rfl
  | cons b r ih=>rw [List.any_cons,List.all_cons,Bool.not_or,ih,hw]
 unfold g167_0 g128_0
 rw [e,ha]
 by_cases h0:s.size=0
 ·have hn:s.data.toList=[]:=List.eq_nil_of_length_eq_zero h0
  have es:g154_0 s 32=[⟨⟨[]⟩⟩]:=by
   show bss (splitC (32:UInt8) s.data.toList)=_
   rw [hn];rfl
  rw [es]
  have ew:g155_0 ⟨⟨[]⟩⟩=false:=rfl
  simp [h0,ew]
 ·by_cases h1:(s.size:Int)≤40
  ·have h2:¬ (s.size:Int)>40:=by omega
   have h3:(((s.size:Nat):Int)==0)=false:=by rw [beq_eq_false_iff_ne];omega
   rw [decide_eq_true h1,decide_eq_false h2,h3]
   rfl
  ·have h2:(s.size:Int)>40:=by omega
   rw [decide_eq_false h1,decide_eq_true h2]
   simp
theorem one_Line (x:Int×Int×ByteArray×Int×Unit):g143_0 x=g93_0 x:=by
 unfold g143_0 g93_0
 rw [text_eq]
 rfl
theorem list_Line (xs:List TyB2):g112_0 xs=g59_0 xs:=by
 unfold g112_0 g59_0
 congr 1
 refine allI_congr xs 0 fun j y _ => ?_
 unfold ok112 ok59
 rw [one_Line]
 rfl
theorem track_eq (x:List TyB4×Int×Int×Unit):g103_0 x=g51_0 x:=rfl
theorem brake_eq (x:Int×Int×Unit):g105_0 x=g53_0 x:=rfl
theorem profile_eq (x:Int×Int×Int×Int×Unit):g106_0 x=g54_0 x:=rfl
theorem room_eq (x:Int×Int×Int×Unit):g108_0 x=g56_0 x:=rfl
theorem list_Ride (x:List TyB4):g110_0 x=g91_0 x:=rfl
theorem insp_eq (xs:List TyB0) (d r:Int):g109_0 xs d r 0=g57_0 xs d r:=by
 have h0:g138_0 0=true:=rfl
 have ha:g140c141_0 xs d r = !xs.all (q57 d r):=by
  unfold g140c141_0
  rw [any165c141]
  induction xs with
  | nil=>rfl
  | cons x l ih =>
   have hx:g141_0 x d r = !q57 d r x:=by
    unfold g141_0 q57 g90_0
    by_cases h1:x.2.2.2.1>d
    ·have h1':¬ x.2.2.2.1≤d:=by omega
     simp [h1,h1']
    ·have h1':x.2.2.2.1≤d:=by omega
     by_cases h2:x.2.2.2.2.1>r
     ·have h2':¬ x.2.2.2.2.1≤r:=by omega
      simp [h1,h1',h2,h2']
     ·have h2':x.2.2.2.2.1≤r:=by omega
      simp [h1,h1',h2,h2']
   rw [List.any_cons,List.all_cons,Bool.not_and,ih,hx]
 unfold g109_0 g57_0
 rw [ha,list_Check,h0]
 have e1:g139_0 d=g88_0 d:=rfl
 have e2:g138_0 r=g89_0 r:=rfl
 rw [e1,e2]
 cases g87_0 xs <;> cases g88_0 d <;> cases g89_0 r <;> cases xs.all (q57 d r) <;> rfl
theorem ask_ride (xs:List TyB4) (t:Int):(g58_0 xs t==0)=(g91_0 xs&&g111_0 t):=by
 unfold g58_0
 have e:g111_0 t=g92_0 t:=rfl
 rw [e]
 cases g91_0 xs <;> cases g92_0 t <;> rfl
theorem valid_works (x:(TyA0)):g68_0 x=g18_0 x:=by
 unfold g68_0 g18_0
 rw [track_eq,brake_eq,profile_eq,list_Group,room_eq,insp_eq,list_Ride,list_Line,ask_ride]
 have e:g104_0 x.2.1=g52_0 x.2.1:=rfl
 rw [e]
 generalize g57_0 x.2.2.2.2.2.2.1 x.2.2.2.2.2.2.2.1 x.2.2.2.2.2.2.2.2.1=n
 cases g51_0 x.1 <;> cases g52_0 x.2.1 <;> cases g53_0 x.2.2.1 <;> simp
 cases g54_0 x.2.2.2.1 <;> cases g55_0 x.2.2.2.2.1 <;> cases g56_0 x.2.2.2.2.2.1 <;> simp
 by_cases hn:n=0
 ·simp only [hn,if_true]
  simp [Bool.and_assoc]
 ·simp [hn]
theorem within_m {n a b:Int} (h:g134_0 n a b=true):a≤n∧n≤b:=by
 unfold g134_0 at h
 split at h
 ·rename_i h1
  simp only [decide_eq_true_eq] at h h1
  exact ⟨h1,h⟩
 ·cases h
theorem track_ok {t:List TyB4×Int×Int×Unit} (h:g103_0 t=true):(1≤t.1.length∧t.1.length≤12)∧(∀ x∈t.1,(1≤x.1∧x.1≤3000000)∧(0≤x.2.1∧x.2.1≤900))∧(0≤g114_0 t∧g114_0 t≤3000000)∧(0≤t.2.1∧t.2.1≤g114_0 t)∧(t.2.1≤t.2.2.1∧t.2.2.1≤g114_0 t):=by
 unfold g103_0 at h
 simp only [Bool.and_eq_true,decide_eq_true_eq] at h
 obtain ⟨⟨h1,h2,h3⟩,h4⟩:=h
 have hx:∀ x∈t.1,(1≤x.1∧x.1≤3000000)∧(0≤x.2.1∧x.2.1≤900):=fun x hx=>by
  have:=List.all_eq_true.1 h1 x hx
  unfold ok103 at this
  rw [Bool.and_eq_true] at this
  exact ⟨within_m this.1,within_m this.2⟩
 have hs:=sum114_le t.1 (fun x hm=>by have:=hx x hm;omega)
 unfold fine103 at h4
 split at h4
 ·rename_i h5
  split at h4
  ·rename_i h6
   exact ⟨⟨h2,h3⟩,hx,⟨hs.1,of_decide_eq_true h5⟩,within_m h6,within_m h4⟩
  ·cases h4
 ·cases h4
theorem brake_ok {b:Int×Int×Unit} (h:g105_0 b=true):(0≤b.1∧b.1≤100)∧(1≤b.2.1∧b.2.1≤10000):=by
 unfold g105_0 at h
 split at h
 ·rename_i h1
  exact ⟨within_m h1,within_m h⟩
 ·cases h
theorem profile_ok {p:Int×Int×Int×Int×Unit} (h:g106_0 p=true):(1≤p.1∧p.1≤2000)∧(100≤p.2.1∧p.2.1≤15000)∧(100≤p.2.2.1∧p.2.2.1≤p.2.1)∧(0≤p.2.2.2.1∧p.2.2.2.1≤3000000):=by
 unfold g106_0 g104_0 at h
 split at h
 ·rename_i h1
  split at h
  ·rename_i h2
   split at h
   ·rename_i h3
    exact ⟨within_m h1,within_m h2,within_m h3,within_m h⟩
   ·cases h
  ·cases h
 ·cases h
theorem len_same (t:List TyB4×Int×Int×Unit):g85_0 t=g114_0 t:=rfl
theorem mul_bd {a b A B:Int} (ha:0≤a) (ha2:a≤A) (hb:0≤b) (hb2:b≤B):0≤a*b∧a*b≤A*B :=
 ⟨Int.mul_nonneg ha hb,Int.mul_le_mul ha2 hb2 hb (Int.le_trans ha ha2)⟩
theorem near_div {a:Int} (h:0≤a∧a≤100000000):P200 a 100∧P201 a 100∧g200_0 a 100=g201_0 a 100∧0≤g201_0 a 100∧g201_0 a 100≤10000000:=by
 have e1:Int.tdiv a 100=a / 100:=Int.tdiv_eq_ediv_of_nonneg h.1
 have e2:Int.tmod a 100=a % 100:=Int.tmod_eq_emod_of_nonneg h.1
 have e3:Int.tdiv (2*a+100) (2*100)=(2*a+100) / 200:=Int.tdiv_eq_ediv_of_nonneg (by omega)
 have n1:decide (a<0)=false:=decide_eq_false (by omega)
 have n2:decide ((100:Int)<0)=false:=by decide
 have n3:decide (a % 100<0)=false:=decide_eq_false (by omega)
 have i1:InR .i64 (a / 100):=by rw [i64_iff];omega
 have i2:InR .i64 (a % 100):=by rw [i64_iff];omega
 have i3:InR .i64 (100 - a % 100):=by rw [i64_iff];omega
 have i4:InR .i64 (a / 100+1):=by rw [i64_iff];omega
 have i5:InR .i64 (2*a):=by rw [i64_iff];omega
 have i6:InR .i64 (2*a+100):=by rw [i64_iff];omega
 have i7:InR .i64 (2*100):=by rw [i64_iff];omega
 have i8:InR .i64 ((2*a+100) / 200):=by rw [i64_iff];omega
 unfold P200 P201 g200_0 g201_0 P145 g145_0
 simp only [e1,e2,e3,n1,n2,n3,Bool.false_eq_true,if_false,i1,i2,i3,i4,i5,i6,i7,i8,true_and,and_true,beq_self_eq_true,Bool.not_true,decide_eq_true_eq,ge_iff_le]
 refine ⟨?_,by decide,?_,by omega,by omega⟩
 ·refine ⟨by decide,by decide,?_⟩
  split <;> trivial
 ·split <;> omega
theorem force_same {b:Int×Int×Unit} (hb:(0≤b.1∧b.1≤100)∧(1≤b.2.1∧b.2.1≤10000)) {g:Int} (hg:0≤g∧g≤900) (d:Bool):P189 b g d∧P192 b g d∧g189_0 b g d=g192_0 b g d ∧ -100000000≤g192_0 b g d∧g192_0 b g d≤100000000:=by
 obtain ⟨n1,n2,n3,n4,n5⟩:=near_div (a:=g*981) ⟨by omega,by omega⟩
 have i1:InR .i64 (g*981):=by rw [i64_iff];omega
 unfold P189 P192 g189_0 g192_0
 rw [n3]
 cases d with
 | true =>
  simp only [if_true]
  exact ⟨⟨i1,n1,by rw [i64_iff];omega,trivial⟩,⟨i1,n2,by rw [i64_iff];omega,trivial⟩,by first | rfl | trivial,by omega,by omega⟩
 | false =>
  simp only [Bool.false_eq_true,if_false]
  exact ⟨⟨i1,n1,by rw [i64_iff];omega,trivial⟩,⟨i1,n2,by rw [i64_iff];omega,trivial⟩,by first | rfl | trivial,by omega,by omega⟩
theorem up_ok {a b:Int} (ha:0≤a∧a≤1000000000) (hb:1≤b∧b≤1000000000):P190 a b∧P193 a b∧g190_0 a b=g193_0 a b∧0≤g193_0 a b∧g193_0 a b≤2000000000:=by
 have e:Int.tdiv (a+b - 1) b=(a+b - 1) / b:=Int.tdiv_eq_ediv_of_nonneg (by omega)
 have h1:0≤(a+b - 1) / b:=Int.ediv_nonneg (by omega) (by omega)
 have h2:(a+b - 1) / b≤a+b - 1:=Int.ediv_le_self b (by omega)
 have p:InR .i64 (a+b)∧InR .i64 (a+b - 1)∧b≠0∧InR .i64 (Int.tdiv (a+b - 1) b)∧True:=⟨by rw [i64_iff];omega,by rw [i64_iff];omega,by omega,by rw [e,i64_iff];omega,trivial⟩
 refine ⟨p,p,rfl,?_,?_⟩
 ·show 0≤Int.tdiv (a+b - 1) b
  omega
 ·show Int.tdiv (a+b - 1) b≤2000000000
  omega
theorem way_same {b:Int×Int×Unit} (hb:(0≤b.1∧b.1≤100)∧(1≤b.2.1∧b.2.1≤10000)) {g s:Int} (hg:0≤g∧g≤900) (hs:0≤s∧s≤15000) (d:Bool):P175 b s g d∧P179 b s g d ∧
  ((g175_1 b s g d=true∧0≤g175_0 b s g d∧g179_0 b s g d=g175_0 b s g d)∨(g175_1 b s g d=false∧g179_0 b s g d = -1)):=by
 obtain ⟨f1,f2,f3,f4,f5⟩:=force_same hb hg d
 obtain ⟨m1,m2⟩:=mul_bd hs.1 hs.2 hb.1.1 hb.1.2
 obtain ⟨m3,m4⟩:=mul_bd hs.1 hs.2 hs.1 hs.2
 unfold P175 P179 g175_1 g175_0 g179_0
 rw [f3]
 generalize g192_0 b g d=f at *
 by_cases hf:f≤0
 ·rw [decide_eq_true hf]
  simp only [if_true]
  exact ⟨⟨f1,trivial⟩,⟨f2,trivial⟩,.inr ⟨by first | rfl | trivial,by first | rfl | trivial⟩⟩
 ·rw [decide_eq_false hf]
  simp only [Bool.false_eq_true,if_false]
  obtain ⟨u1,u2,u3,u4,u5⟩:=up_ok (a:=s*b.1) (b:=10) ⟨m1,by omega⟩ ⟨by omega,by omega⟩
  obtain ⟨v1,v2,v3,v4,v5⟩:=up_ok (a:=s*s) (b:=2*f) ⟨m3,by omega⟩ ⟨by omega,by omega⟩
  rw [u3,v3]
  exact ⟨⟨f1,by rw [i64_iff];omega,u1,by rw [i64_iff];omega,by rw [i64_iff];omega,v1,by rw [i64_iff];omega,trivial⟩,⟨f2,by rw [i64_iff];omega,u2,by rw [i64_iff];omega,by rw [i64_iff];omega,v2,by rw [i64_iff];omega,trivial⟩,.inl ⟨by first | rfl | trivial,by omega,by first | rfl | trivial⟩⟩
theorem grade_ok {t:List TyB4×Int×Int×Unit} (ht:(1≤t.1.length∧t.1.length≤12)∧(∀ x∈t.1,(1≤x.1∧x.1≤3000000)∧(0≤x.2.1∧x.2.1≤900))) {x:Int} (hx:0≤x∧x≤3000000) (d:Bool) :
  P149 t d∧P178 t x∧g149_0 t d=worstL d (g178_0 t x) t.1∧0≤g149_0 t d∧g149_0 t d≤900:=by
 obtain ⟨⟨h1,h2⟩,h3⟩:=ht
 have ps:P191 t x:=⟨⟨h1,by omega⟩,fun y hy=>by have:=h3 y hy;omega,hx.1,by omega⟩
 obtain ⟨s1,s2⟩:=in191 t x ps
 have m0:=mem_getD t.1 0 ((0:Int),(0:Int),()) (by omega)
 have m1:=mem_getD t.1 (g191_0 t x).toNat ((0:Int),(0:Int),()) (by omega)
 have e:g149_0 t d=worstL d (g178_0 t x) t.1:=worst_same d t.1 _ _ ⟨_,m0,rfl⟩ ⟨_,m1,rfl⟩
 refine ⟨⟨h1,by omega⟩,⟨ps,s1,s2,trivial⟩,e,?_⟩
 rcases worst_mem d t.1 (t.1.getD 0 ((0:Int),(0:Int),())).2.1 with h | ⟨y,hy,h⟩
 ·show 0≤worstL d (t.1.getD 0 ((0:Int),(0:Int),())).2.1 t.1∧worstL d (t.1.getD 0 ((0:Int),(0:Int),())).2.1 t.1≤900
  rw [h]
  exact (h3 _ m0).2
 ·show 0≤worstL d (t.1.getD 0 ((0:Int),(0:Int),())).2.1 t.1∧worstL d (t.1.getD 0 ((0:Int),(0:Int),())).2.1 t.1≤900
  rw [h]
  exact (h3 _ hy).2
theorem time_same {t:List TyB4×Int×Int×Unit} {b:Int×Int×Unit} (ht:g103_0 t=true) (hb:g105_0 b=true) {x s:Int} (hx:0≤x∧x≤g114_0 t) (hs:0≤s∧s≤15000) (d:Bool) :
  P119 t b x s d∧P131 t b x s d∧g119_0 t b x s d=g131_0 t b x s d:=by
 obtain ⟨t1,t2,t3,_⟩:=track_ok ht
 obtain ⟨g1,g2,g3,g4⟩:=grade_ok ⟨t1,t2⟩ (x:=x) ⟨hx.1,by omega⟩ d
 obtain ⟨w1,w2,w3⟩:=way_same (brake_ok hb) g4 hs d
 have pl:P114 t:=⟨by omega,fun y hy=>by have:=t2 y hy;omega⟩
 have pls:P85 t:=pl
 have eo:g159_0 t b x s d=g179_0 b s (g149_0 t d) d:=by
  rw [g3]
  rfl
 have po:P159 t b x s d:=⟨by omega,g2,by rw [← g3];exact w2⟩
 have i1:InR .i64 (g114_0 t - x):=by rw [i64_iff];omega
 unfold P119 P131 g119_0 g131_0 P148 g148_0
 rw [eo,len_same]
 cases d with
 | true =>
  simp only [if_true]
  refine ⟨⟨pl,i1,g1,⟨w1,trivial⟩,trivial⟩,⟨po,pls,i1,trivial⟩,?_⟩
  rcases w3 with ⟨a1,a2,a3⟩ | ⟨a1,a2⟩
  ·rw [a1,a3,if_pos rfl,decide_eq_true (show g175_0 b s (g149_0 t true) true≥0 from a2),if_pos rfl]
  ·rw [a1,a2]
   rfl
 | false =>
  simp only [Bool.false_eq_true,if_false]
  refine ⟨⟨pl,i1,g1,⟨w1,trivial⟩,trivial⟩,⟨po,pls,i1,trivial⟩,?_⟩
  rcases w3 with ⟨a1,a2,a3⟩ | ⟨a1,a2⟩
  ·rw [a1,a3,if_pos rfl,decide_eq_true (show g175_0 b s (g149_0 t false) false≥0 from a2),if_pos rfl]
  ·rw [a1,a2]
   rfl
theorem may_ok {p:Int×Int×Int×Int×Unit} (hp:(1≤p.1∧p.1≤2000)∧(100≤p.2.1∧p.2.1≤15000)∧(100≤p.2.2.1∧p.2.2.1≤p.2.1)∧(0≤p.2.2.2.1∧p.2.2.2.1≤3000000)) {l:Int} (hl:0≤l∧l≤3000000) (v:Int) (hv:0≤v∧v≤20000) :
  P158 p v l∧P174 v p l∧g174_0 v p l = !g158_0 p v l∧(g158_0 p v l=true↔v*v≤p.2.2.1*p.2.2.1+2*p.1*(if 0<l - v - p.2.2.2.1 then l - v - p.2.2.2.1 else 0)):=by
 obtain ⟨m1,m2⟩:=mul_bd hv.1 hv.2 hv.1 hv.2
 obtain ⟨m3,m4⟩:=mul_bd (a:=p.2.2.1) (b:=p.2.2.1) (A:=15000) (B:=15000) (by omega) (by omega) (by omega) (by omega)
 have em:g156_0 0 (l - v - p.2.2.2.1)=if 0<l - v - p.2.2.2.1 then l - v - p.2.2.2.1 else 0:=by
  unfold g156_0
  by_cases h:(0:Int)>l - v - p.2.2.2.1
  ·rw [if_pos (by simpa using h),if_neg (by omega)]
  ·rw [if_neg (by simpa using h)]
   split <;> omega
 have hmax:0≤(if 0<l - v - p.2.2.2.1 then l - v - p.2.2.2.1 else 0)∧(if 0<l - v - p.2.2.2.1 then l - v - p.2.2.2.1 else 0)≤3000000:=by split <;> omega
 unfold P158 P174 g174_0 g158_0
 rw [em]
 generalize (if 0<l - v - p.2.2.2.1 then l - v - p.2.2.2.1 else 0)=x at *
 obtain ⟨m5,m6⟩:=mul_bd (a:=2*p.1) (b:=x) (A:=4000) (B:=3000000) (by omega) (by omega) hmax.1 hmax.2
 refine ⟨⟨by rw [i64_iff];omega,by rw [i64_iff];omega,by rw [i64_iff];omega,by rw [i64_iff];omega,by rw [i64_iff];omega,by rw [i64_iff];omega,by rw [i64_iff];omega,by first | trivial | exact ⟨trivial,trivial⟩⟩,⟨by rw [i64_iff];omega,by rw [i64_iff];omega,by rw [i64_iff];omega,by rw [i64_iff];omega,by rw [i64_iff];omega,by rw [i64_iff];omega,by rw [i64_iff];omega,trivial⟩,?_,decide_eq_true_iff⟩
 by_cases h:v*v>p.2.2.1*p.2.2.1+2*p.1*x
 ·rw [decide_eq_true h,decide_eq_false (by omega)]
  rfl
 ·rw [decide_eq_false h,decide_eq_true (by omega)]
  rfl
theorem next_same {p:Int×Int×Int×Int×Unit} (hp:g106_0 p=true) {s l:Int} (hs:0≤s∧s≤15000) (hl:1≤l∧l≤3000000) :
  P147 p s l∧P130 p s l∧g147_0 p s l=g130_0 p s l∧1≤g147_0 p s l∧g147_0 p s l≤l∧g147_0 p s l≤15000:=by
 have hq:=profile_ok hp
 obtain ⟨h1,h2,h3,h4⟩:=hq
 have hm:=fun v hv=>may_ok (p:=p) ⟨h1,h2,h3,h4⟩ (l:=l) ⟨by omega,hl.2⟩ v hv
 have ps:P130 p s l:=⟨by omega,by omega,by omega,hs,fun v a b=>(hm v ⟨a,b⟩).1⟩
 obtain ⟨H,hH⟩:∃ H,(if s+p.1<p.2.1 then s+p.1 else p.2.1)=H:=⟨_,rfl⟩
 have hHb:1≤H∧H≤15000:=by rw [← hH];split <;> omega
 have et:top130 p s=if p.2.2.1>H then p.2.2.1 else H:=by
  unfold top130 g156_0 g157_0
  have e:(if decide (p.2.1<s+p.1)=true then p.2.1 else s+p.1)=H:=by
   rw [← hH]
   simp only [decide_eq_true_eq]
   split <;> split <;> omega
  rw [e]
  simp only [decide_eq_true_eq]
 have mn:∀ a b:Int,g157_0 a b=if b<a then b else a:=fun a b=>by
  unfold g157_0
  simp only [decide_eq_true_eq]
  split <;> split <;> omega
 by_cases hc:H>p.2.2.1
 ·have pl:P173c174 p.2.2.1 H p l:=⟨⟨by omega,by omega,by omega⟩,fun v a b=>(hm v ⟨a,by omega⟩).2.1⟩
  have eb:g173c174_0 p.2.2.1 H p l - 1=bsS (fun v=>g158_0 p v l) (H - p.2.2.1).toNat p.2.2.1 H:=by
   refine bs_same (fun v=>g158_0 p v l) (fun v=>g174_0 v p l) p.2.2.1 H _ _ (by omega) hc (by omega) (by omega) (fun v a b=>(hm v ⟨by omega,by omega⟩).2.2.1) ?_ (fun v v' a b c d => ?_)
   ·refine (hm p.2.2.1 ⟨by omega,by omega⟩).2.2.2.2 ?_
    have hx:0≤(if 0<l - p.2.2.1 - p.2.2.2.1 then l - p.2.2.1 - p.2.2.2.1 else 0):=by split <;> omega
    have:=Int.mul_nonneg (show (0:Int)≤2*p.1 by omega) hx
    omega
   ·have d:=(hm v' ⟨by omega,by omega⟩).2.2.2.1 d
    refine (hm v ⟨by omega,by omega⟩).2.2.2.2 ?_
    have m1:v*v≤v'*v':=Int.mul_le_mul b b (by omega) (by omega)
    have hx:(if 0<l - v' - p.2.2.2.1 then l - v' - p.2.2.2.1 else 0)≤(if 0<l - v - p.2.2.2.1 then l - v - p.2.2.2.1 else 0):=by split <;> split <;> omega
    have m2:=Int.mul_le_mul_of_nonneg_left hx (show (0:Int)≤2*p.1 by omega)
    omega
  have eq:g130_0 p s l=if l<g173c174_0 p.2.2.1 H p l - 1 then l else g173c174_0 p.2.2.1 H p l - 1:=by
   unfold g130_0
   rw [et,if_neg (by omega),mn, ← eb]
  have hb:=bsS_ok (fun v=>g158_0 p v l) p.2.2.1 H (H - p.2.2.1).toNat p.2.2.1 H (by omega) (by omega) (by omega) (.inl rfl) (.inl rfl) (Int.le_refl _) (Int.le_refl _)
  rw [← eb] at hb
  have ei:g147_0 p s l=if l<g173c174_0 p.2.2.1 H p l - 1 then l else g173c174_0 p.2.2.1 H p l - 1:=by
   unfold g147_0
   rw [hH,if_pos (by simpa using hc)]
  have pi:P147 p s l:=by
   unfold P147
   rw [hH,if_pos (by simpa using hc)]
   exact ⟨by rw [i64_iff];omega,pl,by rw [i64_iff];omega,trivial⟩
  refine ⟨pi,ps,by rw [ei,eq],?_⟩
  rw [ei]
  split <;> omega
 ·have eq:g130_0 p s l=if l<p.2.2.1 then l else p.2.2.1:=by
   unfold g130_0
   have e:top130 p s=p.2.2.1:=by rw [et];split <;> omega
   rw [e,mn,show (p.2.2.1 - p.2.2.1).toNat=0 by omega]
   rfl
  have ei:g147_0 p s l=if l<p.2.2.1 then l else p.2.2.1:=by
   unfold g147_0
   rw [hH,if_neg (by simpa using hc)]
  have pi:P147 p s l:=by
   unfold P147
   rw [hH,if_neg (by simpa using hc)]
   exact ⟨by rw [i64_iff];omega,trivial⟩
  refine ⟨pi,ps,by rw [ei,eq],?_⟩
  rw [ei]
  split <;> omega
theorem unsafe_same {t:List TyB4×Int×Int×Unit} {b:Int×Int×Unit} {p:Int×Int×Int×Int×Unit} (ht:g103_0 t=true) (hb:g105_0 b=true) (hp:g106_0 p=true) (d:Bool) :
  P72 t b p d∧P97 t b p d ∧
  ((g72_1 t b p d=0∧0≤g97_0 t b p d∧g97_0 t b p d≤3000000∧g72_0 t b p d=g97_0 t b p d)∨(g72_1 t b p d=3∧g97_0 t b p d = -1)):=by
 obtain ⟨t1,t2,t3,_⟩:=track_ok ht
 have pl:P114 t:=⟨by omega,fun y hy=>by have:=t2 y hy;omega⟩
 have hn:=fun s l (a:0≤s) (b:s≤15000) (c:1≤l) (d:l≤g114_0 t)=>next_same hp (s:=s) (l:=l) ⟨a,b⟩ ⟨c,by omega⟩
 have h1:P72 t b p d:=fun _ _ _=>⟨pl,t3,fun s l a b c e=>⟨(hn s l a b c e).1,(hn s l a b c e).2.2.2⟩,fun place s k fd a b' c e f g=>by
  have q1:=(time_same ht hb (x:=place) (s:=s) ⟨a,b'⟩ ⟨c,e⟩ d).1
  have q2:=(time_same ht hb (x:=g114_0 t - place) (s:=s) ⟨by omega,by omega⟩ ⟨c,e⟩ d).1
  unfold P118
  refine ⟨by rw [i64_iff];omega,?_⟩
  split
  ·refine ⟨by rw [i64_iff];omega,?_⟩
   split
   ·exact ⟨q2,trivial⟩
   ·trivial
  ·split
   ·exact ⟨q1,trivial⟩
   ·trivial⟩
 have h2:P97 t b p d:=by
  refine ⟨pl,t3,fun s l a b c e => ?_,fun place s a b' c e => ?_⟩
  ·obtain ⟨_,q1,q2,q3,q4,q5⟩:=hn s l a b c e
   rw [q2] at q3 q4 q5
   exact ⟨q1,q3,q4,q5⟩
  ·cases d with
   | true=>exact (time_same ht hb (x:=g114_0 t - place) (s:=s) ⟨by rw [len_same] at b';omega,by omega⟩ ⟨c,e⟩ true).2.1
   | false=>exact (time_same ht hb (x:=place) (s:=s) ⟨a,b'⟩ ⟨c,e⟩ false).2.1
 have hr:run72 t b p d=run97 t b p d:=by
  refine rideL_congr (n:=g114_0 t) (fun s l a b c e => ?_) (fun place s a b' c e => ?_) _ 0 0 0 (Int.le_refl _) (Int.le_refl _) (by decide)
  ·obtain ⟨_,_,q2,q3,q4,q5⟩:=hn s l a b c e
   exact ⟨q2,q3,q4,q5⟩
  ·unfold bad72 bad97
   cases d with
   | true=>rw [if_pos rfl];exact congrArg _ (time_same ht hb (x:=g114_0 t - place) (s:=s) ⟨by omega,by omega⟩ ⟨c,e⟩ true).2.2
   | false=>rw [if_neg (by decide)];exact congrArg _ (time_same ht hb (x:=place) (s:=s) ⟨a,by omega⟩ ⟨c,e⟩ false).2.2
 refine ⟨h1,h2,?_⟩
 unfold g72_1 g72_0 g97_0
 rw [ht,hb,hp,hr]
 simp only [Bool.and_self,if_true]
 cases hx:run97 t b p d with
 | none=>exact .inr ⟨rfl,rfl⟩
 | some r =>
  rw [← hr] at hx
  have:=rideNon72 (Int.le_refl 0) hx
  exact .inl ⟨rfl,by show 0≤r;omega,by show r≤3000000;omega,rfl⟩
theorem notT {b y:Bool} (h:(if (!b)=true then false else y)=true):b=true∧y=true:=by cases b <;> simp_all
theorem neT {n:Int} {y:Bool} (h:(if (n != 0)=true then false else y)=true):n=0∧y=true:=by
 by_cases hn:n=0
 ·subst hn;exact ⟨rfl,h⟩
 ·rw [if_pos (by simpa using hn)] at h;cases h
theorem eqT {n:Int} {y:Bool} (h:(if (n==0)=true then y else false)=true):n=0∧y=true:=by
 by_cases hn:n=0
 ·subst hn;exact ⟨rfl,h⟩
 ·rw [if_neg (by simpa using hn)] at h;cases h
theorem works_ok (x:(TyA0)) (h:g18_0 x=true):g51_0 x.1=true∧g52_0 x.2.1=true∧g53_0 x.2.2.1=true∧g54_0 x.2.2.2.1=true∧g55_0 x.2.2.2.2.1=true∧g56_0 x.2.2.2.2.2.1=true∧g57_0 x.2.2.2.2.2.2.1 x.2.2.2.2.2.2.2.1 x.2.2.2.2.2.2.2.2.1=0∧g58_0 x.2.2.2.2.2.2.2.2.2.1 x.2.2.2.2.2.2.2.2.2.2.1=0∧g59_0 x.2.2.2.2.2.2.2.2.2.2.2.1=true:=by
 unfold g18_0 at h
 obtain ⟨h1,h⟩:=notT h
 obtain ⟨h2,h⟩:=notT h
 obtain ⟨h3,h⟩:=notT h
 obtain ⟨h4,h⟩:=notT h
 obtain ⟨h5,h⟩:=notT h
 obtain ⟨h6,h⟩:=notT h
 obtain ⟨h7,h⟩:=neT h
 obtain ⟨h8,h⟩:=eqT h
 exact ⟨h1,h2,h3,h4,h5,h6,h7,h8,h⟩
theorem max_m (a b:Int):g156_0 a b=if a<b then b else a:=by
 unfold g156_0
 by_cases h:a>b
 ·rw [if_pos (by simpa using h),if_neg (by omega)]
 ·rw [if_neg (by simpa using h)]
  split <;> omega
theorem min_m (a b:Int):g157_0 a b=if b<a then b else a:=by
 unfold g157_0
 by_cases h:a<b
 ·rw [if_pos (by simpa using h),if_neg (by omega)]
 ·rw [if_neg (by simpa using h)]
  split <;> omega
theorem safe_same {t:List TyB4×Int×Int×Unit} (ht:g103_0 t=true) (c:Int) :
  P69 t c∧P94 t c∧P70 t∧P96 t∧g69_0 t c=g94_0 t c∧(g94_0 t c=false→g70_0 t=g96_0 t∧0≤g96_0 t∧g96_0 t≤3000000):=by
 obtain ⟨t1,t2,t3,t4,t5⟩:=track_ok ht
 have pl:P114 t:=⟨by omega,fun y hy=>by have:=t2 y hy;omega⟩
 have pls:P85 t:=pl
 have pp:P113 t:=⟨pl,by rw [i64_iff];omega,pl,by rw [i64_iff];omega,trivial⟩
 have ps:P129 t:=⟨pls,by rw [len_same,i64_iff];omega,by rw [len_same,i64_iff];omega,trivial⟩
 have e0:g129_0 t=g113_0 t:=by
  unfold g129_0 g113_0
  rw [max_m,len_same]
 have e1:g129_1 t=g113_1 t:=by
  unfold g129_1 g113_1
  rw [min_m,len_same]
 have e2:g113_2 t=decide (g113_0 t≤g113_1 t):=rfl
 have hb:(0≤g113_0 t∧g113_0 t≤g114_0 t)∧g113_0 t+g113_1 t=g114_0 t:=by
  unfold g113_0 g113_1
  split <;> split <;> omega
 have hm:Int.tmod (g114_0 t) 2=g114_0 t % 2:=Int.tmod_eq_emod_of_nonneg t3.1
 unfold P69 P94 P70 P96 g69_0 g94_0 g70_0 g70_1 g96_0 P115 g115_0 P145 g145_0
 rw [e0,e1,e2,len_same,hm]
 generalize g113_0 t=lo at *
 generalize g113_1 t=hi at *
 generalize g114_0 t=n at *
 by_cases hc:lo≤hi
 ·have d1:decide (lo≤hi)=true:=decide_eq_true hc
  have d2:decide (lo>hi)=false:=decide_eq_false (by omega)
  by_cases hz:lo=0
  ·have d3:(lo==0)=true:=by simpa using hz
   simp only [d1,d2,d3,Bool.not_true,Bool.false_eq_true,if_false,if_true,Bool.not_false,pp,ps,pl,pls,true_and,and_true]
   simp
  ·have d3:(lo==0)=false:=by simpa using hz
   have d4:decide (n - 2*(lo - 1)<0)=false:=decide_eq_false (by omega)
   have i1:InR .i64 (lo - 1):=by rw [i64_iff];omega
   have i2:InR .i64 (2*(lo - 1)):=by rw [i64_iff];omega
   have i3:InR .i64 (n - 2*(lo - 1)):=by rw [i64_iff];omega
   simp only [d1,d2,d3,d4,i1,i2,i3,Bool.not_true,Bool.false_eq_true,if_false,if_true,Bool.not_false,pp,ps,pl,pls,true_and,and_true]
   omega
 ·have d1:decide (lo≤hi)=false:=decide_eq_false hc
  have d2:decide (lo>hi)=true:=decide_eq_true (by omega)
  have i1:InR .i64 (n % 2):=by rw [i64_iff];omega
  simp only [d1,d2,i1,Bool.not_true,Bool.false_eq_true,if_false,if_true,Bool.not_false,pp,ps,pl,pls,true_and,and_true]
  omega
theorem part_motion (x:(TyA0)) (h:g18_0 x=true):P29 x∧P60 x∧g29_0 x=g60_0 x∧(g60_0 x).length≤3:=by
 obtain ⟨h1,_,h3,h4,_⟩:=works_ok x h
 have ht:g103_0 x.1=true:=h1
 have hb:g105_0 x.2.2.1=true:=h3
 have hp:g106_0 x.2.2.2.1=true:=h4
 obtain ⟨s1,s2,s3,s4,s5,s6⟩:=safe_same ht x.2.1
 obtain ⟨u1,u2,u3⟩:=unsafe_same ht hb hp false
 obtain ⟨d1,d2,d3⟩:=unsafe_same ht hb hp true
 have hdec:∀ n:Int,0≤n→n≤3000000→P71 n∧g71_0 n=g95_0 n:=fun n _ _=>⟨⟨rfl,trivial⟩,rfl⟩
 have pm:P29 x:=by
  refine ⟨s1,fun hs=>⟨s3,?_⟩,⟨u1,fun hc => ?_⟩,d1,fun hc => ?_⟩
  ·obtain ⟨q1,q2,q3⟩:=s6 (by rw [← s5];simpa using hs)
   rw [q1]
   exact (hdec _ q2 q3).1
  ·rcases u3 with ⟨a1,a2,a3,a4⟩ | ⟨a1,a2⟩
   ·rw [a4];exact (hdec _ a2 a3).1
   ·rw [a1] at hc;exact absurd hc (by decide)
  ·rcases d3 with ⟨a1,a2,a3,a4⟩ | ⟨a1,a2⟩
   ·rw [a4];exact (hdec _ a2 a3).1
   ·rw [a1] at hc;exact absurd hc (by decide)
 have one:∀ (d:Bool) (who:ByteArray),((g72_1 x.1 x.2.2.1 x.2.2.2.1 d=0∧0≤g97_0 x.1 x.2.2.1 x.2.2.2.1 d∧g97_0 x.1 x.2.2.1 x.2.2.2.1 d≤3000000∧g72_0 x.1 x.2.2.1 x.2.2.2.1 d=g97_0 x.1 x.2.2.1 x.2.2.2.1 d)∨(g72_1 x.1 x.2.2.1 x.2.2.2.1 d=3∧g97_0 x.1 x.2.2.1 x.2.2.2.1 d = -1)) →
   one29 x who d=if decide (g97_0 x.1 x.2.2.1 x.2.2.2.1 d≥0)=true then [(2,who,g95_0 (g97_0 x.1 x.2.2.1 x.2.2.2.1 d),())] else []:=fun d who hd=>by
  unfold one29
  rcases hd with ⟨a1,a2,a3,a4⟩ | ⟨a1,a2⟩
  ·rw [a1,a4,if_pos (by decide),(hdec _ a2 a3).2,if_pos (by simpa using a2)]
  ·rw [a1,a2,if_neg (by decide),if_neg (by decide)]
 have trk:trk029 x=if (!g94_0 x.1 x.2.1)=true then [(1,ByteArray.mk #[99,97,114,115],g95_0 (g96_0 x.1),())] else []:=by
  unfold trk029
  rw [s5]
  cases hs:g94_0 x.1 x.2.1 with
  | true=>rw [if_neg (by decide),if_neg (by decide)]
  | false =>
   obtain ⟨q1,q2,q3⟩:=s6 hs
   rw [if_pos (by decide),if_pos (by decide),q1,(hdec _ q2 q3).2]
 refine ⟨pm,?_⟩
 have eg:g29_0 x=trk029 x++one29 x (ByteArray.mk #[117,112]) false++one29 x (ByteArray.mk #[100,111,119,110]) true:=rfl
 rw [eg,one false _ u3,one true _ d3,trk]
 unfold P60 g60_0
 cases c1:g94_0 x.1 x.2.1 <;> cases c2:decide (g97_0 x.1 x.2.2.1 x.2.2.2.1 false≥0) <;> cases c3:decide (g97_0 x.1 x.2.2.1 x.2.2.2.1 true≥0) <;> simp [c1,c2,c3,s2,s4,u2,d2]
theorem in_range' (n a b:Int) (h:g84_0 n a b=true):a≤n∧n≤b:=by
 unfold g84_0 at h
 split at h
 ·rename_i h1
  exact ⟨by simpa using h1,by simpa using h⟩
 ·cases h
theorem thenT {b y:Bool} (h:(if b=true then y else false)=true):b=true∧y=true:=by cases b <;> simp_all
theorem group_range (x:ByteArray×Int×Int×Int×Unit) (h:g86_0 x=true):1≤x.2.1∧x.2.1≤200∧0≤x.2.2.1∧x.2.2.1≤40∧0≤x.2.2.2.1∧x.2.2.2.1≤100000:=by
 unfold g86_0 at h
 obtain ⟨_,h⟩:=thenT h
 obtain ⟨h1,h⟩:=thenT h
 obtain ⟨h2,h3⟩:=thenT h
 have a1:=in_range' _ _ _ h1
 have a2:=in_range' _ _ _ h2
 have a3:=in_range' _ _ _ h3
 omega
theorem ride_range (x:Int×Int×Unit) (h:g127_0 x=true):0≤x.1∧x.1≤1440∧0≤x.2.1∧x.2.1≤1440:=by
 unfold g127_0 g92_0 at h
 obtain ⟨h1,h⟩:=thenT h
 obtain ⟨h2,h⟩:=thenT h
 have a1:=in_range' _ _ _ h1
 have a2:=in_range' _ _ _ h2
 omega
theorem check_range (x:TyB0) (h:g126_0 x=true):1≤x.2.1∧x.2.1≤100000∧1≤x.2.2.1∧x.2.2.1≤1000000∧0≤x.2.2.2.1∧x.2.2.2.1≤100000∧0≤x.2.2.2.2.1∧x.2.2.2.2.1≤1000000:=by
 unfold g126_0 g88_0 g89_0 at h
 obtain ⟨_,h⟩:=thenT h
 obtain ⟨h1,h⟩:=thenT h
 obtain ⟨h2,h⟩:=thenT h
 obtain ⟨h3,h4⟩:=thenT h
 have a1:=in_range' _ _ _ h1
 have a2:=in_range' _ _ _ h2
 have a3:=in_range' _ _ _ h3
 have a4:=in_range' _ _ _ h4
 omega
theorem groups_ok (l:List TyB1) (h:g55_0 l=true):(∀ x∈l,g86_0 x=true)∧l.length≤12:=by
 unfold g55_0 at h
 simp only [Bool.and_eq_true,decide_eq_true_eq] at h
 refine ⟨fun x hx => ?_,by omega⟩
 obtain ⟨j,hj⟩:=allI_mem _ _ h.1 x hx
 unfold ok55 at hj
 simp only [Bool.and_eq_true] at hj
 exact hj.1
theorem checks_ok (l:List TyB0) (h:g87_0 l=true):(∀ x∈l,g126_0 x=true)∧l.length≤16:=by
 unfold g87_0 at h
 simp only [Bool.and_eq_true,decide_eq_true_eq] at h
 refine ⟨fun x hx => ?_,by omega⟩
 obtain ⟨j,hj⟩:=allI_mem _ _ h.1 x hx
 unfold ok87 at hj
 simp only [Bool.and_eq_true] at hj
 exact hj.1
theorem rides_ok (l:List TyB4) (h:g91_0 l=true):(∀ x∈l,g127_0 x=true)∧l.length≤24:=by
 unfold g91_0 at h
 simp only [Bool.and_eq_true,decide_eq_true_eq] at h
 refine ⟨fun x hx => ?_,by omega⟩
 obtain ⟨j,hj⟩:=allI_mem _ _ h.1 x hx
 unfold ok91 one91 at hj
 simp only [Bool.and_eq_true] at hj
 exact hj.1
theorem ask_check {l:List TyB0} {d r:Int} (h:g57_0 l d r=0):g87_0 l=true∧0≤d∧d≤100000∧0≤r∧r≤1000000:=by
 unfold g57_0 at h
 by_cases h1:g87_0 l=true
 case neg=>rw [if_neg h1] at h;cases h
 by_cases h2:g88_0 d=true
 case neg=>rw [if_pos h1,if_neg h2] at h;cases h
 by_cases h3:g89_0 r=true
 case neg=>rw [if_pos h1,if_pos h2,if_neg h3] at h;cases h
 have a1:=in_range' _ _ _ (show g84_0 d 0 100000=true from h2)
 have a2:=in_range' _ _ _ (show g84_0 r 0 1000000=true from h3)
 exact ⟨h1,a1.1,a1.2,a2.1,a2.2⟩
theorem ask_rides {l:List TyB4} {t:Int} (h:g58_0 l t=0):g91_0 l=true∧g92_0 t=true∧0≤t∧t≤1440:=by
 unfold g58_0 at h
 by_cases h1:g91_0 l=true
 case neg=>rw [if_pos (by rw [Bool.eq_false_iff.2 h1];rfl)] at h;cases h
 by_cases h2:g92_0 t=true
 case neg=>rw [if_neg (by rw [h1];simp),if_pos (by rw [Bool.eq_false_iff.2 h2];rfl)] at h;cases h
 have a1:=in_range' _ _ _ (show g84_0 t 0 1440=true from h2)
 exact ⟨h1,h2,a1.1,a1.2⟩
theorem slack_eq (t:Int):∀ l:List TyB4,sk76 t l=sk61 t l
 | []=>rfl
 | [_]=>rfl
 | x :: y :: r=>by
  have ih:=slack_eq t (y :: r)
  have e:g122_0 x=x.1+x.2.1:=rfl
  simp only [sk76,sk61,ih,e]
  congr 1
  omega
theorem over_eq (l:List TyB0) (d r:Int):∀ i j,bl (fC30 d r) i l=bl fC61 j (g100_0 l d r):=by
 induction l with
 | nil=>intro i j;rfl
 | cons x s ih =>
  intro i j
  have e:g75_0 x d r=g132_0 x d r:=rfl
  by_cases h:g132_0 x d r=true
  ·have e1:g100_0 (x :: s) d r=x.1 :: g100_0 s d r:=by
    unfold g100_0;rw [List.filter_cons,if_pos h];rfl
   rw [e1]
   simp only [bl,ih (i+1) (j+1)]
   unfold fC30
   rw [e,if_pos h]
   rfl
  ·have e1:g100_0 (x :: s) d r=g100_0 s d r:=by
    unfold g100_0;rw [List.filter_cons,if_neg h]
   rw [e1]
   simp only [bl,ih (i+1) j]
   unfold fC30
   rw [e,if_neg h]
   rfl
theorem over_len (l:List TyB0) (d r:Int):(g100_0 l d r).length≤l.length:=by
 unfold g100_0
 rw [List.length_map]
 exact List.length_filter_le _ _
theorem part_service (x:(TyA0)) (h:g18_0 x=true):P30 x∧P61 x∧g30_0 x=g61_0 x∧(g61_0 x).length≤60:=by
 obtain ⟨_,_,_,_,h1,_,h2,h3,_⟩:=works_ok x h
 obtain ⟨g1,g2⟩:=groups_ok _ h1
 obtain ⟨h2,d1,d2,d3,d4⟩:=ask_check h2
 obtain ⟨c1,c2⟩:=checks_ok _ h2
 obtain ⟨h3,t0,t1,t2⟩:=ask_rides h3
 obtain ⟨r1,r2⟩:=rides_ok _ h3
 have es:g76_0 x.2.2.2.2.2.2.2.2.2.1 x.2.2.2.2.2.2.2.2.2.2.1=sk61 x.2.2.2.2.2.2.2.2.2.2.1 x.2.2.2.2.2.2.2.2.2.1:=by
  unfold g76_0 g121_0
  have e1:g111_0 x.2.2.2.2.2.2.2.2.2.2.1=true:=t0
  have e2:g110_0 x.2.2.2.2.2.2.2.2.2.1=true:=h3
  rw [e1,e2,if_neg (by decide),slack_eq]
 have hl:=sk61_len x.2.2.2.2.2.2.2.2.2.2.1 x.2.2.2.2.2.2.2.2.2.1
 have ho:=over_len x.2.2.2.2.2.2.1 x.2.2.2.2.2.2.2.1 x.2.2.2.2.2.2.2.2.1
 have q1:∀ y∈x.2.2.2.2.1,P74 y:=fun y hy=>by
  have:=group_range y (g1 y hy)
  unfold P74
  simp only [i64_iff,and_true]
  omega
 have q2:∀ y∈x.2.2.2.2.2.2.1,P75 y x.2.2.2.2.2.2.2.1 x.2.2.2.2.2.2.2.2.1:=fun y hy=>by
  have:=check_range y (c1 y hy)
  unfold P75 P120
  simp only [i64_iff,and_true]
  omega
 have q3:P76 x.2.2.2.2.2.2.2.2.2.1 x.2.2.2.2.2.2.2.2.2.2.1 := .inr ⟨by omega,by omega,by omega,fun y hy=>by
  have:=ride_range y (r1 y hy)
  have e:g122_0 y=y.1+y.2.1:=rfl
  unfold ok76 P122
  rw [e]
  simp only [i64_iff,and_true]
  omega⟩
 have q4:∀ y∈x.2.2.2.2.1,P99 y∧InR .i64 (g99_0 y)∧InR .i64 y.2.1∧InR .i64 y.2.2.1:=fun y hy=>by
  have:=group_range y (g1 y hy)
  unfold P99 g99_0
  simp only [i64_iff,and_true]
  omega
 have l1:∀ i y,(fG61 x.2.2.2.2.2.1 i y).length≤1:=fun i y=>by unfold fG61;split <;> simp
 have l2:∀ i y,(fC61 i y).length≤1:=fun i y=>by simp [fC61]
 have l3:∀ i y,(fS61 i y).length≤1:=fun i y=>by unfold fS61;split <;> simp
 have b1:=bl_len _ l1 x.2.2.2.2.1 0
 have b2:=bl_len _ l2 (g100_0 x.2.2.2.2.2.2.1 x.2.2.2.2.2.2.2.1 x.2.2.2.2.2.2.2.2.1) 0
 have b3:=bl_len _ l3 (sk61 x.2.2.2.2.2.2.2.2.2.2.1 x.2.2.2.2.2.2.2.2.2.1) 0
 refine ⟨⟨by omega,by omega,by rw [es];omega,q1,q2,q3⟩,⟨by omega,by omega,by omega,q4,⟨by omega,q2⟩,by omega,by omega,fun y hy=>by have:=ride_range y (r1 y hy);omega⟩,?_,?_⟩
 ·unfold g30_0 g61_0
  rw [es,over_eq _ _ _ 0 0]
  congr 2
  refine bl_congr _ _ fun j y _ => ?_
  unfold fG30 fG61 fit98 g73_0 g99_0
  have e1:75*y.2.1+15*y.2.2.1+y.2.2.2.1=y.2.1*75+y.2.2.1*15+y.2.2.2.1:=by omega
  rw [e1]
  rfl
 ·unfold g61_0
  simp only [List.length_append]
  omega
theorem bvn (a:Nat) (h:a<9223372036854775808):(BitVec.ofInt 64 (a:Int)).toNat=a:=by
 rw [BitVec.toNat_ofInt]
 omega
theorem wrn (a:Nat) (h:a<9223372036854775808):IntKind.wrap IntKind.i64 (a:Int)=(a:Int):=wrap_of_inR (by rw [i64_iff];omega)
theorem bit_bound {s:Int} (h:0≤s∧s≤65535):0≤bit161 s∧bit161 s≤65535:=by
 obtain ⟨a,rfl⟩:=Int.eq_ofNat_of_zero_le h.1
 unfold bit161
 have e:(a:Int)*2=((a*2:Nat):Int):=by omega
 have e6:BitVec.ofInt 64 65535=BitVec.ofInt 64 ((65535:Nat):Int):=rfl
 have e7:BitVec.ofInt 64 4129=BitVec.ofInt 64 ((4129:Nat):Int):=rfl
 rw [e,wrn _ (by omega),e6,e7]
 have h1:(a*2) &&& 65535<65536:=Nat.lt_of_le_of_lt Nat.and_le_right (by decide)
 have h2:((a*2) &&& 65535) ^^^ 4129<2 ^ 16:=Nat.xor_lt_two_pow h1 (by decide)
 split
 ·rw [BitVec.toNat_and,bvn (a*2) (by omega),bvn 65535 (by omega),wrn (a*2 &&& 65535) (by omega),BitVec.toNat_xor,bvn (a*2 &&& 65535) (by omega),bvn 4129 (by omega),wrn (a*2 &&& 65535 ^^^ 4129) (by omega)]
  omega
 ·rename_i hc
  have hc':¬ ((a*2:Nat):Int)>65535:=fun hh=>hc (decide_eq_true hh)
  omega
theorem bits_bound:∀ (k:Nat) {s:Int},0≤s∧s≤65535→0≤bits161 k s∧bits161 k s≤65535
 | 0,_,h=>h
 | k+1,_,h=>bits_bound k (bit_bound h)
theorem byte_bound {s c:Int} (h:0≤s∧s≤65535) (hc:0≤c∧c≤255):0≤byte161 s c∧byte161 s c≤65535:=by
 refine bits_bound 8 ?_
 obtain ⟨a,rfl⟩:=Int.eq_ofNat_of_zero_le h.1
 obtain ⟨b,rfl⟩:=Int.eq_ofNat_of_zero_le hc.1
 have e:(b:Int)*256=((b*256:Nat):Int):=by omega
 have h2:a ^^^ (b*256)<2 ^ 16:=Nat.xor_lt_two_pow (by omega) (by omega)
 rw [e,wrn (b*256) (by omega),BitVec.toNat_xor,bvn a (by omega),bvn (b*256) (by omega),wrn (a ^^^ (b*256)) (by omega)]
 omega
theorem crc_bound (x:ByteArray) {s:Int} (h:0≤s∧s≤65535):0≤g161_0 x s∧g161_0 x s≤65535:=by
 unfold g161_0
 have hb:=bytesOf_range x
 revert hb
 generalize bytesOf x=l
 revert s
 induction l with
 | nil=>intro s h _;exact h
 | cons c r ih =>
  intro s h hb
  rw [List.foldl_cons]
  have hc:=hb c (List.mem_cons_self ..)
  exact ih (byte_bound h ⟨hc.1,hc.2⟩) fun b hb'=>hb b (List.mem_cons_of_mem _ hb')
theorem crc_eq (x:ByteArray) {s:Int} (h:0≤s∧s≤65535):g176_0 x s=g161_0 x s:=by
 unfold g176_0
 rw [if_neg (by
  have c1:s≥0:=h.1
  unfold g134_0
  simp [c1,h.2])]
 have e:byte176=byte161:=by
  funext s c
  unfold byte176 byte161
  have:∀ (k:Nat) (t:Int),bits176 k t=bits161 k t:=by
   intro k
   induction k with
   | zero=>intro t;rfl
   | succ k ih=>intro t;exact ih _
  exact this 8 _
 rw [e]
 rfl
theorem in_range (n a b:Int) (h:g84_0 n a b=true):a≤n∧n≤b:=by
 unfold g84_0 at h
 split at h
 ·rename_i h1
  exact ⟨by simpa using h1,by simpa using h⟩
 ·cases h
theorem line_sizes (x:Int×Int×ByteArray×Int×Unit) (h:g93_0 x=true):(numB x.1).size≤21∧(numB x.2.1).size≤21∧x.2.2.1.size≤40∧InR .i64 x.2.2.2.1:=by
 unfold g93_0 g88_0 at h
 by_cases h1:g84_0 x.1 0 100000=true
 case neg=>rw [if_neg h1] at h;cases h
 by_cases h2:g84_0 x.2.1 0 1439=true
 case neg=>rw [if_pos h1,if_neg h2] at h;cases h
 by_cases h3:g128_0 x.2.2.1=true
 case neg=>rw [if_pos h1,if_pos h2,if_neg h3] at h;cases h
 rw [if_pos h1,if_pos h2,if_pos h3] at h
 have a1:=in_range _ _ _ h1
 have a2:=in_range _ _ _ h2
 have a4:=in_range _ _ _ h
 refine ⟨numB_size _ (by omega) (by omega),numB_size _ (by omega) (by omega),?_,by rw [i64_iff];omega⟩
 unfold g128_0 at h3
 simp only [Bool.and_eq_true,Bool.not_eq_true',decide_eq_false_iff_not] at h3
 omega
theorem seal_pre (x:Int×Int×ByteArray×Int×Unit) (h:g93_0 x=true) (c:Int):P133 c x.1 x.2.1 x.2.2.1∧P151 c x:=by
 obtain ⟨a1,a2,a3,_⟩:=line_sizes x h
 have e1:g95_0=numB:=rfl
 have e2:g71_0=numB:=rfl
 have p1:∀ n,P71 n:=fun n=>⟨rfl,trivial⟩
 have e3:(ByteArray.mk #[32]).size=1:=rfl
 unfold P133 P151 P162 P177
 rw [e1,e2]
 simp only [ByteArray.size_append,e3,p1,true_and,and_true]
 omega
theorem seal_eq (x:Int×Int×ByteArray×Int×Unit) {c:Int} (h:0≤c∧c≤65535):g151_0 c x=g133_0 c x.1 x.2.1 x.2.2.1∧0≤g133_0 c x.1 x.2.1 x.2.2.1∧g133_0 c x.1 x.2.1 x.2.2.1≤65535:=by
 unfold g151_0 g133_0
 have e:g177_0 x=g162_0 x.1 x.2.1 x.2.2.1:=rfl
 rw [e]
 exact ⟨crc_eq _ h,crc_bound _ h⟩
theorem broken_eq:∀ (l:List TyB2) (c i:Int),0≤c∧c≤65535→br101 c i l=(match fb77 i l (sl123 c l) with | some k=>k | none => -1)
 | [],_,_,_=>rfl
 | x :: r,c,i,h=>by
  obtain ⟨e1,e2⟩:=seal_eq x h
  simp only [br101,sl123,fb77,e1]
  have ih:=broken_eq r (g133_0 c x.1 x.2.1 x.2.2.1) (i+1) e2
  obtain ⟨x1,x2,x3,x4,⟨⟩⟩:=x
  have hd:eqD (Ty.cons (Ty.int IntKind.i64) (Ty.cons (Ty.int IntKind.i64) (Ty.cons Ty.str (Ty.cons (Ty.int IntKind.i64) Ty.unit)))) (x1,x2,x3,x4,()) (x1,x2,x3,g133_0 c x1 x2 x3,())=true↔g133_0 c x1 x2 x3=x4:=by
   rw [eqD_eq rfl]
   simp only [Prod.mk.injEq,true_and,and_true]
   exact eq_comm
  by_cases hc:g133_0 c x1 x2 x3=x4
  ·rw [if_neg (by simp [hc]),if_neg (by rw [hd.2 hc];simp)]
   exact ih
  ·rw [if_pos (by simpa using hc),if_pos (by rw [Bool.eq_false_iff.2 (fun hh=>hc (hd.1 hh))];rfl)]
theorem fb_range:∀ (l m:List TyB2) (i k:Int),fb77 i l m=some k→i≤k∧k<i+l.length
 | [],_,_,_,h=>by cases h
 | _ :: _,[],_,_,h=>by cases h
 | x :: r,y :: s,i,k,h=>by
  simp only [fb77] at h
  simp only [List.length_cons]
  split at h
  ·cases h;omega
  ·have:=fb_range r s (i+1) k h
   omega
theorem lines_ok (l:List TyB2) (h:g59_0 l=true):(∀ x∈l,g93_0 x=true)∧l.length≤40:=by
 unfold g59_0 at h
 simp only [Bool.and_eq_true,decide_eq_true_eq] at h
 refine ⟨fun x hx => ?_,by omega⟩
 obtain ⟨j,hj⟩:=allI_mem _ _ h.1 x hx
 unfold ok59 at hj
 simp only [Bool.and_eq_true] at hj
 exact hj.1
theorem log_part (l:List TyB2) (h:g59_0 l=true) :
  P101 l∧P77 l∧(g101_0 l<0∧g77_1 l=3∨0≤g101_0 l∧g101_0 l<l.length∧g77_1 l=0∧g77_0 l=g101_0 l):=by
 obtain ⟨h1,h2⟩:=lines_ok l h
 refine ⟨fun x hx c=>(seal_pre x (h1 x hx) c).1,fun _=>⟨by omega,fun x hx c=>(seal_pre x (h1 x hx) c).2⟩,?_⟩
 have hv:g112_0 l=true:=by rw [list_Line];exact h
 unfold g101_0 g77_0 g77_1
 rw [if_pos hv,if_pos hv,broken_eq l 65535 0 (by decide)]
 have e:g123_0 l=sl123 65535 l:=rfl
 rw [e]
 cases hf:fb77 0 l (sl123 65535 l) with
 | none=>exact .inl ⟨by decide,rfl⟩
 | some k =>
  have:=fb_range _ _ _ _ hf
  exact .inr ⟨this.1,(by show k<(l.length:Int);omega),rfl,rfl⟩
theorem part_log (x:(TyA0)) (h:g18_0 x=true):P31 x∧P62 x∧g31_0 x=g62_0 x∧(g62_0 x).length≤1:=by
 obtain ⟨h1,h2,h3⟩:=log_part x.2.2.2.2.2.2.2.2.2.2.2.1 (works_ok x h).2.2.2.2.2.2.2.2
 have e1:g95_0=numB:=rfl
 have e2:g71_0=numB:=rfl
 have p1:∀ n,P71 n:=fun n=>⟨rfl,trivial⟩
 unfold P31 P62 g31_0 g62_0
 rw [e1,e2]
 rcases h3 with ⟨h3,h4⟩ | ⟨h3,h4,h5,h6⟩
 ·rw [h4]
  simp [h1,h2,h3]
 ·have h3':¬ g101_0 x.2.2.2.2.2.2.2.2.2.2.2.1<0:=by omega
  rw [h5,h6]
  simp [h1,h2,h3,h3',h4,p1]
theorem all_eq (x:(TyA0)):g7_0 x=(if g18_0 x=true then g19_0 x else [])∧g7_1 x=(if g18_0 x=true then 0 else 1)∧P7 x∧(g18_0 x=true→P19 x∧(g19_0 x).length≤64):=by
 unfold g7_0 g7_1 P7 g28c29c30c31_0 g28c29c30c31_1 P28c29c30c31 P19 g19_0
 rw [valid_works]
 by_cases h:g18_0 x=true
 ·obtain ⟨p1,p2,e,hl⟩:=part_motion x h
  obtain ⟨q1,q2,f,hk⟩:=part_service x h
  obtain ⟨r1,r2,g,hm⟩:=part_log x h
  have hf:¬ (!g18_0 x)=true:=by rw [h];simp
  simp only [if_neg hf,if_pos h,p1,p2,e,q1,q2,f,r1,r2,g,true_and,and_true,List.nil_append,List.length_append,List.length_nil]
  refine ⟨by omega,fun _=>⟨⟨by omega,by omega,by omega⟩,by omega⟩⟩
 ·have hf:(!g18_0 x)=true:=by rw [Bool.eq_false_iff.2 h];rfl
  simp only [if_pos hf,if_neg h,true_and,and_true]
  exact fun hh=>absurd hh h
theorem law3 (x:(TyA0)) (hx:Wf (.cons (.cons (.sl (.cons (.int .i64) (.cons (.int .i64) .unit))) (.cons (.int .i64) (.cons (.int .i64) .unit))) (.cons (.int .i64) (.cons (.cons (.int .i64) (.cons (.int .i64) .unit)) (.cons (.cons (.int .i64) (.cons (.int .i64) (.cons (.int .i64) (.cons (.int .i64) .unit)))) (.cons (.sl (.cons .str (.cons (.int .i64) (.cons (.int .i64) (.cons (.int .i64) .unit))))) (.cons (.cons (.int .i64) (.cons (.int .i64) (.cons (.int .i64) .unit))) (.cons (.sl (.cons .str (.cons (.int .i64) (.cons (.int .i64) (.cons (.int .i64) (.cons (.int .i64) .unit)))))) (.cons (.int .i64) (.cons (.int .i64) (.cons (.sl (.cons (.int .i64) (.cons (.int .i64) .unit))) (.cons (.int .i64) (.cons (.sl (.cons (.int .i64) (.cons (.int .i64) (.cons .str (.cons (.int .i64) .unit))))) .unit)))))))))))) x):P3 x∧g3_0 x=true:=by
 obtain ⟨p1,q1⟩:=sz_works x 1048576 (by decide) (by decide) hx
 by_cases c1:g4_0 x 1048576<0
 ·unfold P3 g3_0
  simp only [c1,p1,decide_true,if_true,and_self]
 obtain ⟨r1,s1,t1⟩:=q1 c1
 obtain ⟨a1,e1⟩:=to_works x (by omega)
 obtain ⟨m1,m2,m3⟩:=marked_works x (by omega)
 have f1:=eq_works x
 obtain ⟨k0,k1,p2,ka⟩:=all_eq x
 have g0:g5_0 x=(if g18_0 x=true then g19_0 x else []):=by
  unfold g5_0
  cases g18_0 x <;> rfl
 have g1:g5_1 x=(if g18_0 x=true then 0 else 1):=by
  unfold g5_1
  cases g18_0 x <;> rfl
 have p3:P5 x:=by
  unfold P5
  by_cases h:g18_0 x=true
  ·rw [if_neg (by rw [h];simp)]
   exact ⟨(ka h).1,trivial⟩
  ·rw [if_pos (by simpa using h)]
   trivial
 have k3:(g5_0 x).length≤64:=by
  rw [g0]
  by_cases h:g18_0 x=true
  ·rw [if_pos h];exact (ka h).2
  ·rw [if_neg h];simp
 rw [← g0] at k0
 rw [← g1] at k1
 obtain ⟨c2,c3,c4⟩:=marked_problem (g5_0 x) (by omega)
 obtain ⟨d1,d2⟩:=held_problem (g5_0 x) (by omega)
 have ep:∀ l,g8_0 l l=true:=fun l=>decide_eq_true rfl
 unfold P3 g3_0
 clear q1 hx r1 s1 t1 g0 g1
 simp only [e1,c1,p1,a1,f1,k0,k1,p2,p3,m1,m2,c2,c3,c4,d1,d2,ep,decide_true,decide_false,Bool.false_eq_true,if_false,true_and,and_true,Bool.not_true,bne_self_eq_false,beq_self_eq_true,and_self]
 exact m3
end Go.Proofs.YtmfkgabclbbdhaaGreatDoor
