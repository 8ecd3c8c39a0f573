/- Several texts in one: the functions that this law reaches, and their laws. -/
import Derived.Test.YtfobhngpafbfdaaGreatDoorZ3A
import Derived.Test.YtfobhngpafbfdaaGreatDoorZ3B
import Derived.Test.YtfobhngpafbfdaaGreatDoorZ3C
import Derived.Test.YtfobhngpafbfdaaGreatDoorZ3D
import Derived.Test.YtfobhngpafbfdaaGreatDoorZ3E
set_option linter.unusedVariables false
set_option linter.unusedSimpArgs false
set_option maxRecDepth 100000
namespace Go.Proofs.YtfobhngpafbfdaaGreatDoor
open Go Go.Am Go.Proofs
noncomputable section
def ext58:Ext:=[(92,S92)]
theorem ext58Ok:ExtOk Tryz.prog ext58:=⟨⟨ca92,con92⟩,trivial⟩
def b58:Code:=bodyOf Tryz.f58
theorem hb58:Tryz.f58.body=some b58:=by kernel_rfl
def sig58:List AT:=[AT.v (.sl YA9),AT.v (.sl YA9)]
def tys58:List Ty:=[.bool]
def kds58:List RK:=[]
def oks58:List AT:=owns sig58
def E58_4 (v5:Int) (x0:List TyB4) (x1:List TyB4):Env:=[(0,.a (.sl YA9 x0)),(1,.a (.sl YA9 x1)),(5,.a (.val (.int .i64 v5)))]
def L58_4 (v5:Int) (x0:List TyB4) (x1:List TyB4):Heap:=[]
mutual
def R58:Nat→List TyB4→List TyB4→List Dyn→Prop
 | 0,_,_,_=>False
 | n+1,x0,x1,ds=>(if ((x0.length:Int) != (x1.length:Int))=true then (ds=[Dyn.mk .bool false]) else (R58_4 n (0) (x0) (x1) ds))
def R58_4:Nat→Int→List TyB4→List TyB4→List Dyn→Prop
 | 0,_,_,_,_=>False
 | n+1,v5,x0,x1,ds=>(if (decide (v5<(x0.length:Int)))=true then ((0≤v5)∧(v5<(x0.length:Int))∧((0≤v5)∧(v5<(x1.length:Int))∧(if (!g92_0 (List.getD x0 (Int.toNat v5) (0,0,())) (List.getD x1 (Int.toNat v5) (0,0,())))=true then (ds=[Dyn.mk .bool false]) else ((InR .i64 (v5+1))∧(R58_4 n (v5+1) (x0) (x1) ds))))) else (ds=[Dyn.mk .bool true]))
end
theorem snd58:∀ n,(∀ (x0:List TyB4) (x1:List TyB4) ds,R58 n x0 x1 ds→∀ K q,AtV Tryz.prog 58 (PostR kds58 oks58 ds [] [] q K) 27 K q [] [.code b58] (entE 0 0 sig58 (x0,x1,())) (entL sig58 (x0,x1,())))∧(∀ (v5:Int) (x0:List TyB4) (x1:List TyB4) ds,R58_4 n v5 x0 x1 ds→∀ K q,AtV Tryz.prog 58 (PostR kds58 oks58 ds [] [] q K) 27 K q [] (cutAt b58 4) (E58_4 v5 x0 x1) (L58_4 v5 x0 x1)):=by
 intro n
 induction n with
 | zero=>exact ⟨fun _ _ _ h=>by simp only [R58] at h,fun _ _ _ _ h=>by simp only [R58_4] at h⟩
 | succ n ih =>
 obtain ⟨ih,ih4⟩:=ih
 refine ⟨?_,?_⟩
 ·intro x0 x1 ds h K q
  rw [R58] at h
  by_cases b0:((x0.length:Int) != (x1.length:Int))=true
  ·rw [if_pos b0] at h
   subst h
   exact AtV.ret Tryz.func58 tabOk ext58Ok mixed false [] tys58 [true] (a1 b0 trivial) (by kernel_rfl)
  ·rw [if_neg b0] at h
   replace b0:=bf_ b0
   exact AtV.go tabOk ext58Ok mixed false [] [] [0,1,5] [] [false] (a1 b0 trivial) (ih4 _ _ _ _ h K q) (by kernel_rfl)
 ·intro v5 x0 x1 ds h K q
  rw [R58_4] at h
  by_cases b0:(decide (v5<(x0.length:Int)))=true
  ·rw [if_pos b0] at h
   obtain ⟨s0,s1,h⟩:=h
   obtain ⟨s2,s3,h⟩:=h
   by_cases b1:(!g92_0 (List.getD x0 (Int.toNat v5) (0,0,())) (List.getD x1 (Int.toNat v5) (0,0,())))=true
   ·rw [if_pos b1] at h
    subst h
    exact AtV.ret Tryz.func58 tabOk ext58Ok mixed false [] tys58 [true,true] (a1 b0 (a1 s0 (a1 s1 (a1 s2 (a1 s3 (a1 trivial (a1 b1 trivial))))))) (by kernel_rfl)
   ·rw [if_neg b1] at h
    replace b1:=bf_ b1
    obtain ⟨s4,h⟩:=h
    exact AtV.go tabOk ext58Ok mixed false [] [] [0,1,5] [] [true,false] (a1 b0 (a1 s0 (a1 s1 (a1 s2 (a1 s3 (a1 trivial (a1 b1 (a1 s4 trivial)))))))) (ih4 _ _ _ _ h K q) (by kernel_rfl)
  ·rw [if_neg b0] at h
   replace b0:=bf_ b0
   subst h
   exact AtV.ret Tryz.func58 tabOk ext58Ok mixed false [] tys58 [false] (a1 b0 trivial) (by kernel_rfl)
theorem eq58 (x0 x1:List TyB4) (hl:x0.length=x1.length) (hm:x0.length≤maxLen):∀ k i:Nat,i+k=x0.length→R58_4 (k+1) (i:Int) x0 x1 [⟨.bool,decide (x0.drop i=x1.drop i)⟩]:=by
 intro k
 induction k with
 | zero =>
  intro i hi
  have h1:¬ (i:Int)<(x0.length:Int):=by omega
  rw [R58_4,if_neg (by simpa using h1),drop_end x0 i (by omega),drop_end x1 i (by omega)]
  simp
 | succ k ih =>
  intro i hi
  have h1:(i:Int)<(x0.length:Int):=by omega
  rw [R58_4,if_pos (by simpa using h1)]
  refine ⟨by omega,h1,by omega,by omega,?_⟩
  simp only [Int.toNat_natCast]
  rw [drop_get x0 i ((0:Int),(0:Int),()) (by omega),drop_get x1 i ((0:Int),(0:Int),()) (by omega)]
  by_cases he:x0.getD i ((0:Int),(0:Int),())=x1.getD i ((0:Int),(0:Int),())
  ·have hd:=(eqd92 _ _).2 he
   rw [if_neg (by rw [hd];simp)]
   refine ⟨inR_up hm (by omega),?_⟩
   have:=ih (i+1) (by omega)
   simp only [he,List.cons.injEq,true_and]
   exact this
  ·have hd:g92_0 (x0.getD i ((0:Int),(0:Int),())) (x1.getD i ((0:Int),(0:Int),()))=false :=
    bf_ fun h=>he ((eqd92 _ _).1 h)
   rw [if_pos (by rw [hd];rfl)]
   simp only [he,List.cons.injEq,false_and,decide_false]
def g58_0 (x0 x1:List TyB4):Bool:=decide (x0=x1)
def P58 (x0 x1:List TyB4):Prop:=True
def S58:Am.Spec:={ sig:=sig58,pre:=fun ⟨x0,x1,_⟩=>P58 x0 x1,res:=fun ⟨x0,x1,_⟩=>[⟨.bool,g58_0 x0 x1⟩] }
theorem con58:Contract Tryz.prog 58 S58:=contract_of Tryz.func58 hb58 (bl_ (by kernel_rfl)) (fun ⟨x0,x1,_⟩ h hwf K q=>by
 refine (snd58 (x0.length+2)).1 x0 x1 _ ?_ K q
 show R58 (x0.length+1+1) x0 x1 [⟨.bool,decide (x0=x1)⟩]
 rw [R58]
 by_cases hl:x0.length=x1.length
 ·rw [if_neg (by simp [hl])]
  have:=eq58 x0 x1 hl hwf.1.1 x0.length 0 (by omega)
  simpa using this
 ·rw [if_pos (by simp;omega)]
  have:x0≠x1:=fun h=>hl (by rw [h])
  simp [this])
end
noncomputable section
def ext25:Ext:=[(58,S58)]
theorem ext25Ok:ExtOk Tryz.prog ext25:=⟨⟨ca58,con58⟩,trivial⟩
def b25:Code:=bodyOf Tryz.f25
theorem hb25:Tryz.f25.body=some b25:=by kernel_rfl
def sig25:List AT:=[AT.v YA2,AT.v YA2]
def tys25:List Ty:=[.bool]
def kds25:List RK:=[]
def oks25:List AT:=owns sig25
def P25 (x0:List TyB4×Int×Int×Unit) (x1:List TyB4×Int×Int×Unit):Prop:=True
def g25_0 (x0:List TyB4×Int×Int×Unit) (x1:List TyB4×Int×Int×Unit):Bool:=(if (!g58_0 x0.1 x1.1)=true then false else (if (x0.2.1 != x1.2.1)=true then false else (if (x0.2.2.1 != x1.2.2.1)=true then false else true)))
theorem at25 (x0:List TyB4×Int×Int×Unit) (x1:List TyB4×Int×Int×Unit) (h:P25 x0 x1) (K:Ctx) (q:Nat→Value):AtV Tryz.prog 25 (PostR kds25 oks25 [⟨.bool,g25_0 x0 x1⟩] [] [] q K) 21 K q [] [.code b25] (entE 0 0 sig25 (x0,x1,())) (entL sig25 (x0,x1,())):=by
 unfold P25 at h
 unfold g25_0
 by_cases b0:(!g58_0 x0.1 x1.1)=true
 ·try simp only [if_pos b0] at h ⊢
  exact AtV.ret Tryz.func25 tabOk ext25Ok mixed false [] tys25 [true] (a1 trivial (a1 b0 trivial)) (by kernel_rfl)
 ·try simp only [if_neg b0] at h ⊢
  replace b0:=bf_ b0
  by_cases b1:(x0.2.1 != x1.2.1)=true
  ·try simp only [if_pos b1] at h ⊢
   exact AtV.ret Tryz.func25 tabOk ext25Ok mixed false [] tys25 [false,true] (a1 trivial (a1 b0 (a1 b1 trivial))) (by kernel_rfl)
  ·try simp only [if_neg b1] at h ⊢
   replace b1:=bf_ b1
   by_cases b2:(x0.2.2.1 != x1.2.2.1)=true
   ·try simp only [if_pos b2] at h ⊢
    exact AtV.ret Tryz.func25 tabOk ext25Ok mixed false [] tys25 [false,false,true] (a1 trivial (a1 b0 (a1 b1 (a1 b2 trivial)))) (by kernel_rfl)
   ·try simp only [if_neg b2] at h ⊢
    replace b2:=bf_ b2
    exact AtV.ret Tryz.func25 tabOk ext25Ok mixed false [] tys25 [false,false,false] (a1 trivial (a1 b0 (a1 b1 (a1 b2 trivial)))) (by kernel_rfl)
def S25:Am.Spec:={ sig:=sig25,pre:=fun ⟨x0,x1,_⟩=>P25 x0 x1,res:=fun ⟨x0,x1,_⟩=>[⟨.bool,g25_0 x0 x1⟩],kds:=kds25 }
theorem con25:Contract Tryz.prog 25 S25:=contract_of Tryz.func25 hb25 (bl_ (by kernel_rfl)) (fun ⟨x0,x1,_⟩ h _ K q=>at25 x0 x1 h K q)
end
noncomputable section
def ext26:Ext:=[]
theorem ext26Ok:ExtOk Tryz.prog ext26:=trivial
def b26:Code:=bodyOf Tryz.f26
theorem hb26:Tryz.f26.body=some b26:=by kernel_rfl
def sig26:List AT:=[AT.v YA9,AT.v YA9]
def tys26:List Ty:=[.bool]
def kds26:List RK:=[]
def oks26:List AT:=owns sig26
def P26 (x0:Int×Int×Unit) (x1:Int×Int×Unit):Prop:=True
def g26_0 (x0:Int×Int×Unit) (x1:Int×Int×Unit):Bool:=(if (x0.1 != x1.1)=true then false else (if (x0.2.1 != x1.2.1)=true then false else true))
theorem at26 (x0:Int×Int×Unit) (x1:Int×Int×Unit) (h:P26 x0 x1) (K:Ctx) (q:Nat→Value):AtV Tryz.prog 26 (PostR kds26 oks26 [⟨.bool,g26_0 x0 x1⟩] [] [] q K) 15 K q [] [.code b26] (entE 0 0 sig26 (x0,x1,())) (entL sig26 (x0,x1,())):=by
 unfold P26 at h
 unfold g26_0
 by_cases b0:(x0.1 != x1.1)=true
 ·try simp only [if_pos b0] at h ⊢
  exact AtV.ret Tryz.func26 tabOk ext26Ok mixed false [] tys26 [true] (a1 b0 trivial) (by kernel_rfl)
 ·try simp only [if_neg b0] at h ⊢
  replace b0:=bf_ b0
  by_cases b1:(x0.2.1 != x1.2.1)=true
  ·try simp only [if_pos b1] at h ⊢
   exact AtV.ret Tryz.func26 tabOk ext26Ok mixed false [] tys26 [false,true] (a1 b0 (a1 b1 trivial)) (by kernel_rfl)
  ·try simp only [if_neg b1] at h ⊢
   replace b1:=bf_ b1
   exact AtV.ret Tryz.func26 tabOk ext26Ok mixed false [] tys26 [false,false] (a1 b0 (a1 b1 trivial)) (by kernel_rfl)
def S26:Am.Spec:={ sig:=sig26,pre:=fun ⟨x0,x1,_⟩=>P26 x0 x1,res:=fun ⟨x0,x1,_⟩=>[⟨.bool,g26_0 x0 x1⟩],kds:=kds26 }
theorem con26:Contract Tryz.prog 26 S26:=contract_of Tryz.func26 hb26 (bl_ (by kernel_rfl)) (fun ⟨x0,x1,_⟩ h _ K q=>at26 x0 x1 h K q)
end
noncomputable section
def ext27:Ext:=[]
theorem ext27Ok:ExtOk Tryz.prog ext27:=trivial
def b27:Code:=bodyOf Tryz.f27
theorem hb27:Tryz.f27.body=some b27:=by kernel_rfl
def sig27:List AT:=[AT.v YA4,AT.v YA4]
def tys27:List Ty:=[.bool]
def kds27:List RK:=[]
def oks27:List AT:=owns sig27
def P27 (x0:Int×Int×Int×Int×Unit) (x1:Int×Int×Int×Int×Unit):Prop:=True
def g27_0 (x0:Int×Int×Int×Int×Unit) (x1:Int×Int×Int×Int×Unit):Bool:=(if (x0.1 != x1.1)=true then false else (if (x0.2.1 != x1.2.1)=true then false else (if (x0.2.2.1 != x1.2.2.1)=true then false else (if (x0.2.2.2.1 != x1.2.2.2.1)=true then false else true))))
theorem at27 (x0:Int×Int×Int×Int×Unit) (x1:Int×Int×Int×Int×Unit) (h:P27 x0 x1) (K:Ctx) (q:Nat→Value):AtV Tryz.prog 27 (PostR kds27 oks27 [⟨.bool,g27_0 x0 x1⟩] [] [] q K) 25 K q [] [.code b27] (entE 0 0 sig27 (x0,x1,())) (entL sig27 (x0,x1,())):=by
 unfold P27 at h
 unfold g27_0
 by_cases b0:(x0.1 != x1.1)=true
 ·try simp only [if_pos b0] at h ⊢
  exact AtV.ret Tryz.func27 tabOk ext27Ok mixed false [] tys27 [true] (a1 b0 trivial) (by kernel_rfl)
 ·try simp only [if_neg b0] at h ⊢
  replace b0:=bf_ b0
  by_cases b1:(x0.2.1 != x1.2.1)=true
  ·try simp only [if_pos b1] at h ⊢
   exact AtV.ret Tryz.func27 tabOk ext27Ok mixed false [] tys27 [false,true] (a1 b0 (a1 b1 trivial)) (by kernel_rfl)
  ·try simp only [if_neg b1] at h ⊢
   replace b1:=bf_ b1
   by_cases b2:(x0.2.2.1 != x1.2.2.1)=true
   ·try simp only [if_pos b2] at h ⊢
    exact AtV.ret Tryz.func27 tabOk ext27Ok mixed false [] tys27 [false,false,true] (a1 b0 (a1 b1 (a1 b2 trivial))) (by kernel_rfl)
   ·try simp only [if_neg b2] at h ⊢
    replace b2:=bf_ b2
    by_cases b3:(x0.2.2.2.1 != x1.2.2.2.1)=true
    ·try simp only [if_pos b3] at h ⊢
     exact AtV.ret Tryz.func27 tabOk ext27Ok mixed false [] tys27 [false,false,false,true] (a1 b0 (a1 b1 (a1 b2 (a1 b3 trivial)))) (by kernel_rfl)
    ·try simp only [if_neg b3] at h ⊢
     replace b3:=bf_ b3
     exact AtV.ret Tryz.func27 tabOk ext27Ok mixed false [] tys27 [false,false,false,false] (a1 b0 (a1 b1 (a1 b2 (a1 b3 trivial)))) (by kernel_rfl)
def S27:Am.Spec:={ sig:=sig27,pre:=fun ⟨x0,x1,_⟩=>P27 x0 x1,res:=fun ⟨x0,x1,_⟩=>[⟨.bool,g27_0 x0 x1⟩],kds:=kds27 }
theorem con27:Contract Tryz.prog 27 S27:=contract_of Tryz.func27 hb27 (bl_ (by kernel_rfl)) (fun ⟨x0,x1,_⟩ h _ K q=>at27 x0 x1 h K q)
end
noncomputable section
def ext59:Ext:=[]
theorem ext59Ok:ExtOk Tryz.prog ext59:=trivial
def b59:Code:=bodyOf Tryz.f59
theorem hb59:Tryz.f59.body=some b59:=by kernel_rfl
def sig59:List AT:=[AT.v YA5,AT.v YA5]
def tys59:List Ty:=[.bool]
def kds59:List RK:=[]
def oks59:List AT:=owns sig59
def P59 (x0:ByteArray×Int×Int×Int×Unit) (x1:ByteArray×Int×Int×Int×Unit):Prop:=True
def g59_0 (x0:ByteArray×Int×Int×Int×Unit) (x1:ByteArray×Int×Int×Int×Unit):Bool:=(if (!ByteArray.toList x0.1==ByteArray.toList x1.1)=true then false else (if (x0.2.1 != x1.2.1)=true then false else (if (x0.2.2.1 != x1.2.2.1)=true then false else (if (x0.2.2.2.1 != x1.2.2.2.1)=true then false else true))))
theorem at59 (x0:ByteArray×Int×Int×Int×Unit) (x1:ByteArray×Int×Int×Int×Unit) (h:P59 x0 x1) (K:Ctx) (q:Nat→Value):AtV Tryz.prog 59 (PostR kds59 oks59 [⟨.bool,g59_0 x0 x1⟩] [] [] q K) 25 K q [] [.code b59] (entE 0 0 sig59 (x0,x1,())) (entL sig59 (x0,x1,())):=by
 unfold P59 at h
 unfold g59_0
 by_cases b0:(!ByteArray.toList x0.1==ByteArray.toList x1.1)=true
 ·try simp only [if_pos b0] at h ⊢
  exact AtV.ret Tryz.func59 tabOk ext59Ok mixed false [] tys59 [true] (a1 b0 trivial) (by kernel_rfl)
 ·try simp only [if_neg b0] at h ⊢
  replace b0:=bf_ b0
  by_cases b1:(x0.2.1 != x1.2.1)=true
  ·try simp only [if_pos b1] at h ⊢
   exact AtV.ret Tryz.func59 tabOk ext59Ok mixed false [] tys59 [false,true] (a1 b0 (a1 b1 trivial)) (by kernel_rfl)
  ·try simp only [if_neg b1] at h ⊢
   replace b1:=bf_ b1
   by_cases b2:(x0.2.2.1 != x1.2.2.1)=true
   ·try simp only [if_pos b2] at h ⊢
    exact AtV.ret Tryz.func59 tabOk ext59Ok mixed false [] tys59 [false,false,true] (a1 b0 (a1 b1 (a1 b2 trivial))) (by kernel_rfl)
   ·try simp only [if_neg b2] at h ⊢
    replace b2:=bf_ b2
    by_cases b3:(x0.2.2.2.1 != x1.2.2.2.1)=true
    ·try simp only [if_pos b3] at h ⊢
     exact AtV.ret Tryz.func59 tabOk ext59Ok mixed false [] tys59 [false,false,false,true] (a1 b0 (a1 b1 (a1 b2 (a1 b3 trivial)))) (by kernel_rfl)
    ·try simp only [if_neg b3] at h ⊢
     replace b3:=bf_ b3
     exact AtV.ret Tryz.func59 tabOk ext59Ok mixed false [] tys59 [false,false,false,false] (a1 b0 (a1 b1 (a1 b2 (a1 b3 trivial)))) (by kernel_rfl)
def S59:Am.Spec:={ sig:=sig59,pre:=fun ⟨x0,x1,_⟩=>P59 x0 x1,res:=fun ⟨x0,x1,_⟩=>[⟨.bool,g59_0 x0 x1⟩],kds:=kds59 }
theorem con59:Contract Tryz.prog 59 S59:=contract_of Tryz.func59 hb59 (bl_ (by kernel_rfl)) (fun ⟨x0,x1,_⟩ h _ K q=>at59 x0 x1 h K q)
theorem eqd59 (x y:TyB1):g59_0 x y=true↔x=y:=by
 obtain ⟨a,b,c,d,u⟩:=x
 obtain ⟨a',b',c',d',u'⟩:=y
 unfold g59_0
 simp only [Bool.not_eq_true',bytes_ne,bne_iff_ne,ne_eq,ite_not]
 by_cases h0:a=a'
 ·by_cases h1:b=b'
  ·by_cases h2:c=c'
   ·by_cases h3:d=d'
    ·simp [h0,h1,h2,h3]
    ·simp [h0,h1,h2,h3]
   ·simp [h0,h1,h2]
  ·simp [h0,h1]
 ·simp [h0]
end
noncomputable section
def ext28:Ext:=[(59,S59)]
theorem ext28Ok:ExtOk Tryz.prog ext28:=⟨⟨ca59,con59⟩,trivial⟩
def b28:Code:=bodyOf Tryz.f28
theorem hb28:Tryz.f28.body=some b28:=by kernel_rfl
def sig28:List AT:=[AT.v (.sl YA5),AT.v (.sl YA5)]
def tys28:List Ty:=[.bool]
def kds28:List RK:=[]
def oks28:List AT:=owns sig28
def E28_4 (v5:Int) (x0:List TyB1) (x1:List TyB1):Env:=[(0,.a (.sl YA5 x0)),(1,.a (.sl YA5 x1)),(5,.a (.val (.int .i64 v5)))]
def L28_4 (v5:Int) (x0:List TyB1) (x1:List TyB1):Heap:=[]
mutual
def R28:Nat→List TyB1→List TyB1→List Dyn→Prop
 | 0,_,_,_=>False
 | n+1,x0,x1,ds=>(if ((x0.length:Int) != (x1.length:Int))=true then (ds=[Dyn.mk .bool false]) else (R28_4 n (0) (x0) (x1) ds))
def R28_4:Nat→Int→List TyB1→List TyB1→List Dyn→Prop
 | 0,_,_,_,_=>False
 | n+1,v5,x0,x1,ds=>(if (decide (v5<(x0.length:Int)))=true then ((0≤v5)∧(v5<(x0.length:Int))∧((0≤v5)∧(v5<(x1.length:Int))∧(if (!g59_0 (List.getD x0 (Int.toNat v5) (ByteArray.empty,0,0,0,())) (List.getD x1 (Int.toNat v5) (ByteArray.empty,0,0,0,())))=true then (ds=[Dyn.mk .bool false]) else ((InR .i64 (v5+1))∧(R28_4 n (v5+1) (x0) (x1) ds))))) else (ds=[Dyn.mk .bool true]))
end
theorem snd28:∀ n,(∀ (x0:List TyB1) (x1:List TyB1) ds,R28 n x0 x1 ds→∀ K q,AtV Tryz.prog 28 (PostR kds28 oks28 ds [] [] q K) 27 K q [] [.code b28] (entE 0 0 sig28 (x0,x1,())) (entL sig28 (x0,x1,())))∧(∀ (v5:Int) (x0:List TyB1) (x1:List TyB1) ds,R28_4 n v5 x0 x1 ds→∀ K q,AtV Tryz.prog 28 (PostR kds28 oks28 ds [] [] q K) 27 K q [] (cutAt b28 4) (E28_4 v5 x0 x1) (L28_4 v5 x0 x1)):=by
 intro n
 induction n with
 | zero=>exact ⟨fun _ _ _ h=>by simp only [R28] at h,fun _ _ _ _ h=>by simp only [R28_4] at h⟩
 | succ n ih =>
 obtain ⟨ih,ih4⟩:=ih
 refine ⟨?_,?_⟩
 ·intro x0 x1 ds h K q
  rw [R28] at h
  by_cases b0:((x0.length:Int) != (x1.length:Int))=true
  ·rw [if_pos b0] at h
   subst h
   exact AtV.ret Tryz.func28 tabOk ext28Ok mixed false [] tys28 [true] (a1 b0 trivial) (by kernel_rfl)
  ·rw [if_neg b0] at h
   replace b0:=bf_ b0
   exact AtV.go tabOk ext28Ok mixed false [] [] [0,1,5] [] [false] (a1 b0 trivial) (ih4 _ _ _ _ h K q) (by kernel_rfl)
 ·intro v5 x0 x1 ds h K q
  rw [R28_4] at h
  by_cases b0:(decide (v5<(x0.length:Int)))=true
  ·rw [if_pos b0] at h
   obtain ⟨s0,s1,h⟩:=h
   obtain ⟨s2,s3,h⟩:=h
   by_cases b1:(!g59_0 (List.getD x0 (Int.toNat v5) (ByteArray.empty,0,0,0,())) (List.getD x1 (Int.toNat v5) (ByteArray.empty,0,0,0,())))=true
   ·rw [if_pos b1] at h
    subst h
    exact AtV.ret Tryz.func28 tabOk ext28Ok mixed false [] tys28 [true,true] (a1 b0 (a1 s0 (a1 s1 (a1 s2 (a1 s3 (a1 trivial (a1 b1 trivial))))))) (by kernel_rfl)
   ·rw [if_neg b1] at h
    replace b1:=bf_ b1
    obtain ⟨s4,h⟩:=h
    exact AtV.go tabOk ext28Ok mixed false [] [] [0,1,5] [] [true,false] (a1 b0 (a1 s0 (a1 s1 (a1 s2 (a1 s3 (a1 trivial (a1 b1 (a1 s4 trivial)))))))) (ih4 _ _ _ _ h K q) (by kernel_rfl)
  ·rw [if_neg b0] at h
   replace b0:=bf_ b0
   subst h
   exact AtV.ret Tryz.func28 tabOk ext28Ok mixed false [] tys28 [false] (a1 b0 trivial) (by kernel_rfl)
theorem eq28 (x0 x1:List TyB1) (hl:x0.length=x1.length) (hm:x0.length≤maxLen):∀ k i:Nat,i+k=x0.length→R28_4 (k+1) (i:Int) x0 x1 [⟨.bool,decide (x0.drop i=x1.drop i)⟩]:=by
 intro k
 induction k with
 | zero =>
  intro i hi
  have h1:¬ (i:Int)<(x0.length:Int):=by omega
  rw [R28_4,if_neg (by simpa using h1),drop_end x0 i (by omega),drop_end x1 i (by omega)]
  simp
 | succ k ih =>
  intro i hi
  have h1:(i:Int)<(x0.length:Int):=by omega
  rw [R28_4,if_pos (by simpa using h1)]
  refine ⟨by omega,h1,by omega,by omega,?_⟩
  simp only [Int.toNat_natCast]
  rw [drop_get x0 i (ByteArray.empty,(0:Int),(0:Int),(0:Int),()) (by omega),drop_get x1 i (ByteArray.empty,(0:Int),(0:Int),(0:Int),()) (by omega)]
  by_cases he:x0.getD i (ByteArray.empty,(0:Int),(0:Int),(0:Int),())=x1.getD i (ByteArray.empty,(0:Int),(0:Int),(0:Int),())
  ·have hd:=(eqd59 _ _).2 he
   rw [if_neg (by rw [hd];simp)]
   refine ⟨inR_up hm (by omega),?_⟩
   have:=ih (i+1) (by omega)
   simp only [he,List.cons.injEq,true_and]
   exact this
  ·have hd:g59_0 (x0.getD i (ByteArray.empty,(0:Int),(0:Int),(0:Int),())) (x1.getD i (ByteArray.empty,(0:Int),(0:Int),(0:Int),()))=false :=
    bf_ fun h=>he ((eqd59 _ _).1 h)
   rw [if_pos (by rw [hd];rfl)]
   simp only [he,List.cons.injEq,false_and,decide_false]
def g28_0 (x0 x1:List TyB1):Bool:=decide (x0=x1)
def P28 (x0 x1:List TyB1):Prop:=True
def S28:Am.Spec:={ sig:=sig28,pre:=fun ⟨x0,x1,_⟩=>P28 x0 x1,res:=fun ⟨x0,x1,_⟩=>[⟨.bool,g28_0 x0 x1⟩] }
theorem con28:Contract Tryz.prog 28 S28:=contract_of Tryz.func28 hb28 (bl_ (by kernel_rfl)) (fun ⟨x0,x1,_⟩ h hwf K q=>by
 refine (snd28 (x0.length+2)).1 x0 x1 _ ?_ K q
 show R28 (x0.length+1+1) x0 x1 [⟨.bool,decide (x0=x1)⟩]
 rw [R28]
 by_cases hl:x0.length=x1.length
 ·rw [if_neg (by simp [hl])]
  have:=eq28 x0 x1 hl hwf.1.1 x0.length 0 (by omega)
  simpa using this
 ·rw [if_pos (by simp;omega)]
  have:x0≠x1:=fun h=>hl (by rw [h])
  simp [this])
end
noncomputable section
def ext29:Ext:=[]
theorem ext29Ok:ExtOk Tryz.prog ext29:=trivial
def b29:Code:=bodyOf Tryz.f29
theorem hb29:Tryz.f29.body=some b29:=by kernel_rfl
def sig29:List AT:=[AT.v YA7,AT.v YA7]
def tys29:List Ty:=[.bool]
def kds29:List RK:=[]
def oks29:List AT:=owns sig29
def P29 (x0:Int×Int×Int×Unit) (x1:Int×Int×Int×Unit):Prop:=True
def g29_0 (x0:Int×Int×Int×Unit) (x1:Int×Int×Int×Unit):Bool:=(if (x0.1 != x1.1)=true then false else (if (x0.2.1 != x1.2.1)=true then false else (if (x0.2.2.1 != x1.2.2.1)=true then false else true)))
theorem at29 (x0:Int×Int×Int×Unit) (x1:Int×Int×Int×Unit) (h:P29 x0 x1) (K:Ctx) (q:Nat→Value):AtV Tryz.prog 29 (PostR kds29 oks29 [⟨.bool,g29_0 x0 x1⟩] [] [] q K) 20 K q [] [.code b29] (entE 0 0 sig29 (x0,x1,())) (entL sig29 (x0,x1,())):=by
 unfold P29 at h
 unfold g29_0
 by_cases b0:(x0.1 != x1.1)=true
 ·try simp only [if_pos b0] at h ⊢
  exact AtV.ret Tryz.func29 tabOk ext29Ok mixed false [] tys29 [true] (a1 b0 trivial) (by kernel_rfl)
 ·try simp only [if_neg b0] at h ⊢
  replace b0:=bf_ b0
  by_cases b1:(x0.2.1 != x1.2.1)=true
  ·try simp only [if_pos b1] at h ⊢
   exact AtV.ret Tryz.func29 tabOk ext29Ok mixed false [] tys29 [false,true] (a1 b0 (a1 b1 trivial)) (by kernel_rfl)
  ·try simp only [if_neg b1] at h ⊢
   replace b1:=bf_ b1
   by_cases b2:(x0.2.2.1 != x1.2.2.1)=true
   ·try simp only [if_pos b2] at h ⊢
    exact AtV.ret Tryz.func29 tabOk ext29Ok mixed false [] tys29 [false,false,true] (a1 b0 (a1 b1 (a1 b2 trivial))) (by kernel_rfl)
   ·try simp only [if_neg b2] at h ⊢
    replace b2:=bf_ b2
    exact AtV.ret Tryz.func29 tabOk ext29Ok mixed false [] tys29 [false,false,false] (a1 b0 (a1 b1 (a1 b2 trivial))) (by kernel_rfl)
def S29:Am.Spec:={ sig:=sig29,pre:=fun ⟨x0,x1,_⟩=>P29 x0 x1,res:=fun ⟨x0,x1,_⟩=>[⟨.bool,g29_0 x0 x1⟩],kds:=kds29 }
theorem con29:Contract Tryz.prog 29 S29:=contract_of Tryz.func29 hb29 (bl_ (by kernel_rfl)) (fun ⟨x0,x1,_⟩ h _ K q=>at29 x0 x1 h K q)
end
noncomputable section
def ext60:Ext:=[]
theorem ext60Ok:ExtOk Tryz.prog ext60:=trivial
def b60:Code:=bodyOf Tryz.f60
theorem hb60:Tryz.f60.body=some b60:=by kernel_rfl
def sig60:List AT:=[AT.v YA3,AT.v YA3]
def tys60:List Ty:=[.bool]
def kds60:List RK:=[]
def oks60:List AT:=owns sig60
def P60 (x0:ByteArray×Int×Int×Int×Int×Unit) (x1:ByteArray×Int×Int×Int×Int×Unit):Prop:=True
def g60_0 (x0:ByteArray×Int×Int×Int×Int×Unit) (x1:ByteArray×Int×Int×Int×Int×Unit):Bool:=(if (!ByteArray.toList x0.1==ByteArray.toList x1.1)=true then false else (if (x0.2.1 != x1.2.1)=true then false else (if (x0.2.2.1 != x1.2.2.1)=true then false else (if (x0.2.2.2.1 != x1.2.2.2.1)=true then false else (if (x0.2.2.2.2.1 != x1.2.2.2.2.1)=true then false else true)))))
theorem at60 (x0:ByteArray×Int×Int×Int×Int×Unit) (x1:ByteArray×Int×Int×Int×Int×Unit) (h:P60 x0 x1) (K:Ctx) (q:Nat→Value):AtV Tryz.prog 60 (PostR kds60 oks60 [⟨.bool,g60_0 x0 x1⟩] [] [] q K) 30 K q [] [.code b60] (entE 0 0 sig60 (x0,x1,())) (entL sig60 (x0,x1,())):=by
 unfold P60 at h
 unfold g60_0
 by_cases b0:(!ByteArray.toList x0.1==ByteArray.toList x1.1)=true
 ·try simp only [if_pos b0] at h ⊢
  exact AtV.ret Tryz.func60 tabOk ext60Ok mixed false [] tys60 [true] (a1 b0 trivial) (by kernel_rfl)
 ·try simp only [if_neg b0] at h ⊢
  replace b0:=bf_ b0
  by_cases b1:(x0.2.1 != x1.2.1)=true
  ·try simp only [if_pos b1] at h ⊢
   exact AtV.ret Tryz.func60 tabOk ext60Ok mixed false [] tys60 [false,true] (a1 b0 (a1 b1 trivial)) (by kernel_rfl)
  ·try simp only [if_neg b1] at h ⊢
   replace b1:=bf_ b1
   by_cases b2:(x0.2.2.1 != x1.2.2.1)=true
   ·try simp only [if_pos b2] at h ⊢
    exact AtV.ret Tryz.func60 tabOk ext60Ok mixed false [] tys60 [false,false,true] (a1 b0 (a1 b1 (a1 b2 trivial))) (by kernel_rfl)
   ·try simp only [if_neg b2] at h ⊢
    replace b2:=bf_ b2
    by_cases b3:(x0.2.2.2.1 != x1.2.2.2.1)=true
    ·try simp only [if_pos b3] at h ⊢
     exact AtV.ret Tryz.func60 tabOk ext60Ok mixed false [] tys60 [false,false,false,true] (a1 b0 (a1 b1 (a1 b2 (a1 b3 trivial)))) (by kernel_rfl)
    ·try simp only [if_neg b3] at h ⊢
     replace b3:=bf_ b3
     by_cases b4:(x0.2.2.2.2.1 != x1.2.2.2.2.1)=true
     ·try simp only [if_pos b4] at h ⊢
      exact AtV.ret Tryz.func60 tabOk ext60Ok mixed false [] tys60 [false,false,false,false,true] (a1 b0 (a1 b1 (a1 b2 (a1 b3 (a1 b4 trivial))))) (by kernel_rfl)
     ·try simp only [if_neg b4] at h ⊢
      replace b4:=bf_ b4
      exact AtV.ret Tryz.func60 tabOk ext60Ok mixed false [] tys60 [false,false,false,false,false] (a1 b0 (a1 b1 (a1 b2 (a1 b3 (a1 b4 trivial))))) (by kernel_rfl)
def S60:Am.Spec:={ sig:=sig60,pre:=fun ⟨x0,x1,_⟩=>P60 x0 x1,res:=fun ⟨x0,x1,_⟩=>[⟨.bool,g60_0 x0 x1⟩],kds:=kds60 }
theorem con60:Contract Tryz.prog 60 S60:=contract_of Tryz.func60 hb60 (bl_ (by kernel_rfl)) (fun ⟨x0,x1,_⟩ h _ K q=>at60 x0 x1 h K q)
theorem eqd60 (x y:TyB0):g60_0 x y=true↔x=y:=by
 obtain ⟨a,b,c,d,e,u⟩:=x
 obtain ⟨a',b',c',d',e',u'⟩:=y
 unfold g60_0
 simp only [Bool.not_eq_true',bytes_ne,bne_iff_ne,ne_eq,ite_not]
 by_cases h0:a=a'
 ·by_cases h1:b=b'
  ·by_cases h2:c=c'
   ·by_cases h3:d=d'
    ·by_cases h4:e=e'
     ·simp [h0,h1,h2,h3,h4]
     ·simp [h0,h1,h2,h3,h4]
    ·simp [h0,h1,h2,h3]
   ·simp [h0,h1,h2]
  ·simp [h0,h1]
 ·simp [h0]
end
noncomputable section
def ext30:Ext:=[(60,S60)]
theorem ext30Ok:ExtOk Tryz.prog ext30:=⟨⟨ca60,con60⟩,trivial⟩
def b30:Code:=bodyOf Tryz.f30
theorem hb30:Tryz.f30.body=some b30:=by kernel_rfl
def sig30:List AT:=[AT.v (.sl YA3),AT.v (.sl YA3)]
def tys30:List Ty:=[.bool]
def kds30:List RK:=[]
def oks30:List AT:=owns sig30
def E30_4 (v5:Int) (x0:List TyB0) (x1:List TyB0):Env:=[(0,.a (.sl YA3 x0)),(1,.a (.sl YA3 x1)),(5,.a (.val (.int .i64 v5)))]
def L30_4 (v5:Int) (x0:List TyB0) (x1:List TyB0):Heap:=[]
mutual
def R30:Nat→List TyB0→List TyB0→List Dyn→Prop
 | 0,_,_,_=>False
 | n+1,x0,x1,ds=>(if ((x0.length:Int) != (x1.length:Int))=true then (ds=[Dyn.mk .bool false]) else (R30_4 n (0) (x0) (x1) ds))
def R30_4:Nat→Int→List TyB0→List TyB0→List Dyn→Prop
 | 0,_,_,_,_=>False
 | n+1,v5,x0,x1,ds=>(if (decide (v5<(x0.length:Int)))=true then ((0≤v5)∧(v5<(x0.length:Int))∧((0≤v5)∧(v5<(x1.length:Int))∧(if (!g60_0 (List.getD x0 (Int.toNat v5) (ByteArray.empty,0,0,0,0,())) (List.getD x1 (Int.toNat v5) (ByteArray.empty,0,0,0,0,())))=true then (ds=[Dyn.mk .bool false]) else ((InR .i64 (v5+1))∧(R30_4 n (v5+1) (x0) (x1) ds))))) else (ds=[Dyn.mk .bool true]))
end
theorem snd30:∀ n,(∀ (x0:List TyB0) (x1:List TyB0) ds,R30 n x0 x1 ds→∀ K q,AtV Tryz.prog 30 (PostR kds30 oks30 ds [] [] q K) 27 K q [] [.code b30] (entE 0 0 sig30 (x0,x1,())) (entL sig30 (x0,x1,())))∧(∀ (v5:Int) (x0:List TyB0) (x1:List TyB0) ds,R30_4 n v5 x0 x1 ds→∀ K q,AtV Tryz.prog 30 (PostR kds30 oks30 ds [] [] q K) 27 K q [] (cutAt b30 4) (E30_4 v5 x0 x1) (L30_4 v5 x0 x1)):=by
 intro n
 induction n with
 | zero=>exact ⟨fun _ _ _ h=>by simp only [R30] at h,fun _ _ _ _ h=>by simp only [R30_4] at h⟩
 | succ n ih =>
 obtain ⟨ih,ih4⟩:=ih
 refine ⟨?_,?_⟩
 ·intro x0 x1 ds h K q
  rw [R30] at h
  by_cases b0:((x0.length:Int) != (x1.length:Int))=true
  ·rw [if_pos b0] at h
   subst h
   exact AtV.ret Tryz.func30 tabOk ext30Ok mixed false [] tys30 [true] (a1 b0 trivial) (by kernel_rfl)
  ·rw [if_neg b0] at h
   replace b0:=bf_ b0
   exact AtV.go tabOk ext30Ok mixed false [] [] [0,1,5] [] [false] (a1 b0 trivial) (ih4 _ _ _ _ h K q) (by kernel_rfl)
 ·intro v5 x0 x1 ds h K q
  rw [R30_4] at h
  by_cases b0:(decide (v5<(x0.length:Int)))=true
  ·rw [if_pos b0] at h
   obtain ⟨s0,s1,h⟩:=h
   obtain ⟨s2,s3,h⟩:=h
   by_cases b1:(!g60_0 (List.getD x0 (Int.toNat v5) (ByteArray.empty,0,0,0,0,())) (List.getD x1 (Int.toNat v5) (ByteArray.empty,0,0,0,0,())))=true
   ·rw [if_pos b1] at h
    subst h
    exact AtV.ret Tryz.func30 tabOk ext30Ok mixed false [] tys30 [true,true] (a1 b0 (a1 s0 (a1 s1 (a1 s2 (a1 s3 (a1 trivial (a1 b1 trivial))))))) (by kernel_rfl)
   ·rw [if_neg b1] at h
    replace b1:=bf_ b1
    obtain ⟨s4,h⟩:=h
    exact AtV.go tabOk ext30Ok mixed false [] [] [0,1,5] [] [true,false] (a1 b0 (a1 s0 (a1 s1 (a1 s2 (a1 s3 (a1 trivial (a1 b1 (a1 s4 trivial)))))))) (ih4 _ _ _ _ h K q) (by kernel_rfl)
  ·rw [if_neg b0] at h
   replace b0:=bf_ b0
   subst h
   exact AtV.ret Tryz.func30 tabOk ext30Ok mixed false [] tys30 [false] (a1 b0 trivial) (by kernel_rfl)
theorem eq30 (x0 x1:List TyB0) (hl:x0.length=x1.length) (hm:x0.length≤maxLen):∀ k i:Nat,i+k=x0.length→R30_4 (k+1) (i:Int) x0 x1 [⟨.bool,decide (x0.drop i=x1.drop i)⟩]:=by
 intro k
 induction k with
 | zero =>
  intro i hi
  have h1:¬ (i:Int)<(x0.length:Int):=by omega
  rw [R30_4,if_neg (by simpa using h1),drop_end x0 i (by omega),drop_end x1 i (by omega)]
  simp
 | succ k ih =>
  intro i hi
  have h1:(i:Int)<(x0.length:Int):=by omega
  rw [R30_4,if_pos (by simpa using h1)]
  refine ⟨by omega,h1,by omega,by omega,?_⟩
  simp only [Int.toNat_natCast]
  rw [drop_get x0 i (ByteArray.empty,(0:Int),(0:Int),(0:Int),(0:Int),()) (by omega),drop_get x1 i (ByteArray.empty,(0:Int),(0:Int),(0:Int),(0:Int),()) (by omega)]
  by_cases he:x0.getD i (ByteArray.empty,(0:Int),(0:Int),(0:Int),(0:Int),())=x1.getD i (ByteArray.empty,(0:Int),(0:Int),(0:Int),(0:Int),())
  ·have hd:=(eqd60 _ _).2 he
   rw [if_neg (by rw [hd];simp)]
   refine ⟨inR_up hm (by omega),?_⟩
   have:=ih (i+1) (by omega)
   simp only [he,List.cons.injEq,true_and]
   exact this
  ·have hd:g60_0 (x0.getD i (ByteArray.empty,(0:Int),(0:Int),(0:Int),(0:Int),())) (x1.getD i (ByteArray.empty,(0:Int),(0:Int),(0:Int),(0:Int),()))=false :=
    bf_ fun h=>he ((eqd60 _ _).1 h)
   rw [if_pos (by rw [hd];rfl)]
   simp only [he,List.cons.injEq,false_and,decide_false]
def g30_0 (x0 x1:List TyB0):Bool:=decide (x0=x1)
def P30 (x0 x1:List TyB0):Prop:=True
def S30:Am.Spec:={ sig:=sig30,pre:=fun ⟨x0,x1,_⟩=>P30 x0 x1,res:=fun ⟨x0,x1,_⟩=>[⟨.bool,g30_0 x0 x1⟩] }
theorem con30:Contract Tryz.prog 30 S30:=contract_of Tryz.func30 hb30 (bl_ (by kernel_rfl)) (fun ⟨x0,x1,_⟩ h hwf K q=>by
 refine (snd30 (x0.length+2)).1 x0 x1 _ ?_ K q
 show R30 (x0.length+1+1) x0 x1 [⟨.bool,decide (x0=x1)⟩]
 rw [R30]
 by_cases hl:x0.length=x1.length
 ·rw [if_neg (by simp [hl])]
  have:=eq30 x0 x1 hl hwf.1.1 x0.length 0 (by omega)
  simpa using this
 ·rw [if_pos (by simp;omega)]
  have:x0≠x1:=fun h=>hl (by rw [h])
  simp [this])
end
noncomputable section
def ext61:Ext:=[]
theorem ext61Ok:ExtOk Tryz.prog ext61:=trivial
def b61:Code:=bodyOf Tryz.f61
theorem hb61:Tryz.f61.body=some b61:=by kernel_rfl
def sig61:List AT:=[AT.v YA9,AT.v YA9]
def tys61:List Ty:=[.bool]
def kds61:List RK:=[]
def oks61:List AT:=owns sig61
def P61 (x0:Int×Int×Unit) (x1:Int×Int×Unit):Prop:=True
def g61_0 (x0:Int×Int×Unit) (x1:Int×Int×Unit):Bool:=(if (x0.1 != x1.1)=true then false else (if (x0.2.1 != x1.2.1)=true then false else true))
theorem at61 (x0:Int×Int×Unit) (x1:Int×Int×Unit) (h:P61 x0 x1) (K:Ctx) (q:Nat→Value):AtV Tryz.prog 61 (PostR kds61 oks61 [⟨.bool,g61_0 x0 x1⟩] [] [] q K) 15 K q [] [.code b61] (entE 0 0 sig61 (x0,x1,())) (entL sig61 (x0,x1,())):=by
 unfold P61 at h
 unfold g61_0
 by_cases b0:(x0.1 != x1.1)=true
 ·try simp only [if_pos b0] at h ⊢
  exact AtV.ret Tryz.func61 tabOk ext61Ok mixed false [] tys61 [true] (a1 b0 trivial) (by kernel_rfl)
 ·try simp only [if_neg b0] at h ⊢
  replace b0:=bf_ b0
  by_cases b1:(x0.2.1 != x1.2.1)=true
  ·try simp only [if_pos b1] at h ⊢
   exact AtV.ret Tryz.func61 tabOk ext61Ok mixed false [] tys61 [false,true] (a1 b0 (a1 b1 trivial)) (by kernel_rfl)
  ·try simp only [if_neg b1] at h ⊢
   replace b1:=bf_ b1
   exact AtV.ret Tryz.func61 tabOk ext61Ok mixed false [] tys61 [false,false] (a1 b0 (a1 b1 trivial)) (by kernel_rfl)
def S61:Am.Spec:={ sig:=sig61,pre:=fun ⟨x0,x1,_⟩=>P61 x0 x1,res:=fun ⟨x0,x1,_⟩=>[⟨.bool,g61_0 x0 x1⟩],kds:=kds61 }
theorem con61:Contract Tryz.prog 61 S61:=contract_of Tryz.func61 hb61 (bl_ (by kernel_rfl)) (fun ⟨x0,x1,_⟩ h _ K q=>at61 x0 x1 h K q)
theorem eqd61 (x y:TyB4):g61_0 x y=true↔x=y:=by
 obtain ⟨a,b,u⟩:=x
 obtain ⟨a',b',u'⟩:=y
 unfold g61_0
 simp only [Bool.not_eq_true',bytes_ne,bne_iff_ne,ne_eq,ite_not]
 by_cases h0:a=a'
 ·by_cases h1:b=b'
  ·simp [h0,h1]
  ·simp [h0,h1]
 ·simp [h0]
end
noncomputable section
def ext31:Ext:=[(61,S61)]
theorem ext31Ok:ExtOk Tryz.prog ext31:=⟨⟨ca61,con61⟩,trivial⟩
def b31:Code:=bodyOf Tryz.f31
theorem hb31:Tryz.f31.body=some b31:=by kernel_rfl
def sig31:List AT:=[AT.v (.sl YA9),AT.v (.sl YA9)]
def tys31:List Ty:=[.bool]
def kds31:List RK:=[]
def oks31:List AT:=owns sig31
def E31_4 (v5:Int) (x0:List TyB4) (x1:List TyB4):Env:=[(0,.a (.sl YA9 x0)),(1,.a (.sl YA9 x1)),(5,.a (.val (.int .i64 v5)))]
def L31_4 (v5:Int) (x0:List TyB4) (x1:List TyB4):Heap:=[]
mutual
def R31:Nat→List TyB4→List TyB4→List Dyn→Prop
 | 0,_,_,_=>False
 | n+1,x0,x1,ds=>(if ((x0.length:Int) != (x1.length:Int))=true then (ds=[Dyn.mk .bool false]) else (R31_4 n (0) (x0) (x1) ds))
def R31_4:Nat→Int→List TyB4→List TyB4→List Dyn→Prop
 | 0,_,_,_,_=>False
 | n+1,v5,x0,x1,ds=>(if (decide (v5<(x0.length:Int)))=true then ((0≤v5)∧(v5<(x0.length:Int))∧((0≤v5)∧(v5<(x1.length:Int))∧(if (!g61_0 (List.getD x0 (Int.toNat v5) (0,0,())) (List.getD x1 (Int.toNat v5) (0,0,())))=true then (ds=[Dyn.mk .bool false]) else ((InR .i64 (v5+1))∧(R31_4 n (v5+1) (x0) (x1) ds))))) else (ds=[Dyn.mk .bool true]))
end
theorem snd31:∀ n,(∀ (x0:List TyB4) (x1:List TyB4) ds,R31 n x0 x1 ds→∀ K q,AtV Tryz.prog 31 (PostR kds31 oks31 ds [] [] q K) 27 K q [] [.code b31] (entE 0 0 sig31 (x0,x1,())) (entL sig31 (x0,x1,())))∧(∀ (v5:Int) (x0:List TyB4) (x1:List TyB4) ds,R31_4 n v5 x0 x1 ds→∀ K q,AtV Tryz.prog 31 (PostR kds31 oks31 ds [] [] q K) 27 K q [] (cutAt b31 4) (E31_4 v5 x0 x1) (L31_4 v5 x0 x1)):=by
 intro n
 induction n with
 | zero=>exact ⟨fun _ _ _ h=>by simp only [R31] at h,fun _ _ _ _ h=>by simp only [R31_4] at h⟩
 | succ n ih =>
 obtain ⟨ih,ih4⟩:=ih
 refine ⟨?_,?_⟩
 ·intro x0 x1 ds h K q
  rw [R31] at h
  by_cases b0:((x0.length:Int) != (x1.length:Int))=true
  ·rw [if_pos b0] at h
   subst h
   exact AtV.ret Tryz.func31 tabOk ext31Ok mixed false [] tys31 [true] (a1 b0 trivial) (by kernel_rfl)
  ·rw [if_neg b0] at h
   replace b0:=bf_ b0
   exact AtV.go tabOk ext31Ok mixed false [] [] [0,1,5] [] [false] (a1 b0 trivial) (ih4 _ _ _ _ h K q) (by kernel_rfl)
 ·intro v5 x0 x1 ds h K q
  rw [R31_4] at h
  by_cases b0:(decide (v5<(x0.length:Int)))=true
  ·rw [if_pos b0] at h
   obtain ⟨s0,s1,h⟩:=h
   obtain ⟨s2,s3,h⟩:=h
   by_cases b1:(!g61_0 (List.getD x0 (Int.toNat v5) (0,0,())) (List.getD x1 (Int.toNat v5) (0,0,())))=true
   ·rw [if_pos b1] at h
    subst h
    exact AtV.ret Tryz.func31 tabOk ext31Ok mixed false [] tys31 [true,true] (a1 b0 (a1 s0 (a1 s1 (a1 s2 (a1 s3 (a1 trivial (a1 b1 trivial))))))) (by kernel_rfl)
   ·rw [if_neg b1] at h
    replace b1:=bf_ b1
    obtain ⟨s4,h⟩:=h
    exact AtV.go tabOk ext31Ok mixed false [] [] [0,1,5] [] [true,false] (a1 b0 (a1 s0 (a1 s1 (a1 s2 (a1 s3 (a1 trivial (a1 b1 (a1 s4 trivial)))))))) (ih4 _ _ _ _ h K q) (by kernel_rfl)
  ·rw [if_neg b0] at h
   replace b0:=bf_ b0
   subst h
   exact AtV.ret Tryz.func31 tabOk ext31Ok mixed false [] tys31 [false] (a1 b0 trivial) (by kernel_rfl)
theorem eq31 (x0 x1:List TyB4) (hl:x0.length=x1.length) (hm:x0.length≤maxLen):∀ k i:Nat,i+k=x0.length→R31_4 (k+1) (i:Int) x0 x1 [⟨.bool,decide (x0.drop i=x1.drop i)⟩]:=by
 intro k
 induction k with
 | zero =>
  intro i hi
  have h1:¬ (i:Int)<(x0.length:Int):=by omega
  rw [R31_4,if_neg (by simpa using h1),drop_end x0 i (by omega),drop_end x1 i (by omega)]
  simp
 | succ k ih =>
  intro i hi
  have h1:(i:Int)<(x0.length:Int):=by omega
  rw [R31_4,if_pos (by simpa using h1)]
  refine ⟨by omega,h1,by omega,by omega,?_⟩
  simp only [Int.toNat_natCast]
  rw [drop_get x0 i ((0:Int),(0:Int),()) (by omega),drop_get x1 i ((0:Int),(0:Int),()) (by omega)]
  by_cases he:x0.getD i ((0:Int),(0:Int),())=x1.getD i ((0:Int),(0:Int),())
  ·have hd:=(eqd61 _ _).2 he
   rw [if_neg (by rw [hd];simp)]
   refine ⟨inR_up hm (by omega),?_⟩
   have:=ih (i+1) (by omega)
   simp only [he,List.cons.injEq,true_and]
   exact this
  ·have hd:g61_0 (x0.getD i ((0:Int),(0:Int),())) (x1.getD i ((0:Int),(0:Int),()))=false :=
    bf_ fun h=>he ((eqd61 _ _).1 h)
   rw [if_pos (by rw [hd];rfl)]
   simp only [he,List.cons.injEq,false_and,decide_false]
def g31_0 (x0 x1:List TyB4):Bool:=decide (x0=x1)
def P31 (x0 x1:List TyB4):Prop:=True
def S31:Am.Spec:={ sig:=sig31,pre:=fun ⟨x0,x1,_⟩=>P31 x0 x1,res:=fun ⟨x0,x1,_⟩=>[⟨.bool,g31_0 x0 x1⟩] }
theorem con31:Contract Tryz.prog 31 S31:=contract_of Tryz.func31 hb31 (bl_ (by kernel_rfl)) (fun ⟨x0,x1,_⟩ h hwf K q=>by
 refine (snd31 (x0.length+2)).1 x0 x1 _ ?_ K q
 show R31 (x0.length+1+1) x0 x1 [⟨.bool,decide (x0=x1)⟩]
 rw [R31]
 by_cases hl:x0.length=x1.length
 ·rw [if_neg (by simp [hl])]
  have:=eq31 x0 x1 hl hwf.1.1 x0.length 0 (by omega)
  simpa using this
 ·rw [if_pos (by simp;omega)]
  have:x0≠x1:=fun h=>hl (by rw [h])
  simp [this])
end
noncomputable section
def ext62:Ext:=[]
theorem ext62Ok:ExtOk Tryz.prog ext62:=trivial
def b62:Code:=bodyOf Tryz.f62
theorem hb62:Tryz.f62.body=some b62:=by kernel_rfl
def sig62:List AT:=[AT.v YA6,AT.v YA6]
def tys62:List Ty:=[.bool]
def kds62:List RK:=[]
def oks62:List AT:=owns sig62
def P62 (x0:Int×Int×ByteArray×Int×Unit) (x1:Int×Int×ByteArray×Int×Unit):Prop:=True
def g62_0 (x0:Int×Int×ByteArray×Int×Unit) (x1:Int×Int×ByteArray×Int×Unit):Bool:=(if (x0.1 != x1.1)=true then false else (if (x0.2.1 != x1.2.1)=true then false else (if (!ByteArray.toList x0.2.2.1==ByteArray.toList x1.2.2.1)=true then false else (if (x0.2.2.2.1 != x1.2.2.2.1)=true then false else true))))
theorem at62 (x0:Int×Int×ByteArray×Int×Unit) (x1:Int×Int×ByteArray×Int×Unit) (h:P62 x0 x1) (K:Ctx) (q:Nat→Value):AtV Tryz.prog 62 (PostR kds62 oks62 [⟨.bool,g62_0 x0 x1⟩] [] [] q K) 25 K q [] [.code b62] (entE 0 0 sig62 (x0,x1,())) (entL sig62 (x0,x1,())):=by
 unfold P62 at h
 unfold g62_0
 by_cases b0:(x0.1 != x1.1)=true
 ·try simp only [if_pos b0] at h ⊢
  exact AtV.ret Tryz.func62 tabOk ext62Ok mixed false [] tys62 [true] (a1 b0 trivial) (by kernel_rfl)
 ·try simp only [if_neg b0] at h ⊢
  replace b0:=bf_ b0
  by_cases b1:(x0.2.1 != x1.2.1)=true
  ·try simp only [if_pos b1] at h ⊢
   exact AtV.ret Tryz.func62 tabOk ext62Ok mixed false [] tys62 [false,true] (a1 b0 (a1 b1 trivial)) (by kernel_rfl)
  ·try simp only [if_neg b1] at h ⊢
   replace b1:=bf_ b1
   by_cases b2:(!ByteArray.toList x0.2.2.1==ByteArray.toList x1.2.2.1)=true
   ·try simp only [if_pos b2] at h ⊢
    exact AtV.ret Tryz.func62 tabOk ext62Ok mixed false [] tys62 [false,false,true] (a1 b0 (a1 b1 (a1 b2 trivial))) (by kernel_rfl)
   ·try simp only [if_neg b2] at h ⊢
    replace b2:=bf_ b2
    by_cases b3:(x0.2.2.2.1 != x1.2.2.2.1)=true
    ·try simp only [if_pos b3] at h ⊢
     exact AtV.ret Tryz.func62 tabOk ext62Ok mixed false [] tys62 [false,false,false,true] (a1 b0 (a1 b1 (a1 b2 (a1 b3 trivial)))) (by kernel_rfl)
    ·try simp only [if_neg b3] at h ⊢
     replace b3:=bf_ b3
     exact AtV.ret Tryz.func62 tabOk ext62Ok mixed false [] tys62 [false,false,false,false] (a1 b0 (a1 b1 (a1 b2 (a1 b3 trivial)))) (by kernel_rfl)
def S62:Am.Spec:={ sig:=sig62,pre:=fun ⟨x0,x1,_⟩=>P62 x0 x1,res:=fun ⟨x0,x1,_⟩=>[⟨.bool,g62_0 x0 x1⟩],kds:=kds62 }
theorem con62:Contract Tryz.prog 62 S62:=contract_of Tryz.func62 hb62 (bl_ (by kernel_rfl)) (fun ⟨x0,x1,_⟩ h _ K q=>at62 x0 x1 h K q)
theorem eqd62 (x y:TyB2):g62_0 x y=true↔x=y:=by
 obtain ⟨a,b,c,d,u⟩:=x
 obtain ⟨a',b',c',d',u'⟩:=y
 unfold g62_0
 simp only [Bool.not_eq_true',bytes_ne,bne_iff_ne,ne_eq,ite_not]
 by_cases h0:a=a'
 ·by_cases h1:b=b'
  ·by_cases h2:c=c'
   ·by_cases h3:d=d'
    ·simp [h0,h1,h2,h3]
    ·simp [h0,h1,h2,h3]
   ·simp [h0,h1,h2]
  ·simp [h0,h1]
 ·simp [h0]
end
noncomputable section
def ext32:Ext:=[(62,S62)]
theorem ext32Ok:ExtOk Tryz.prog ext32:=⟨⟨ca62,con62⟩,trivial⟩
def b32:Code:=bodyOf Tryz.f32
theorem hb32:Tryz.f32.body=some b32:=by kernel_rfl
def sig32:List AT:=[AT.v (.sl YA6),AT.v (.sl YA6)]
def tys32:List Ty:=[.bool]
def kds32:List RK:=[]
def oks32:List AT:=owns sig32
def E32_4 (v5:Int) (x0:List TyB2) (x1:List TyB2):Env:=[(0,.a (.sl YA6 x0)),(1,.a (.sl YA6 x1)),(5,.a (.val (.int .i64 v5)))]
def L32_4 (v5:Int) (x0:List TyB2) (x1:List TyB2):Heap:=[]
mutual
def R32:Nat→List TyB2→List TyB2→List Dyn→Prop
 | 0,_,_,_=>False
 | n+1,x0,x1,ds=>(if ((x0.length:Int) != (x1.length:Int))=true then (ds=[Dyn.mk .bool false]) else (R32_4 n (0) (x0) (x1) ds))
def R32_4:Nat→Int→List TyB2→List TyB2→List Dyn→Prop
 | 0,_,_,_,_=>False
 | n+1,v5,x0,x1,ds=>(if (decide (v5<(x0.length:Int)))=true then ((0≤v5)∧(v5<(x0.length:Int))∧((0≤v5)∧(v5<(x1.length:Int))∧(if (!g62_0 (List.getD x0 (Int.toNat v5) (0,0,ByteArray.empty,0,())) (List.getD x1 (Int.toNat v5) (0,0,ByteArray.empty,0,())))=true then (ds=[Dyn.mk .bool false]) else ((InR .i64 (v5+1))∧(R32_4 n (v5+1) (x0) (x1) ds))))) else (ds=[Dyn.mk .bool true]))
end
theorem snd32:∀ n,(∀ (x0:List TyB2) (x1:List TyB2) ds,R32 n x0 x1 ds→∀ K q,AtV Tryz.prog 32 (PostR kds32 oks32 ds [] [] q K) 27 K q [] [.code b32] (entE 0 0 sig32 (x0,x1,())) (entL sig32 (x0,x1,())))∧(∀ (v5:Int) (x0:List TyB2) (x1:List TyB2) ds,R32_4 n v5 x0 x1 ds→∀ K q,AtV Tryz.prog 32 (PostR kds32 oks32 ds [] [] q K) 27 K q [] (cutAt b32 4) (E32_4 v5 x0 x1) (L32_4 v5 x0 x1)):=by
 intro n
 induction n with
 | zero=>exact ⟨fun _ _ _ h=>by simp only [R32] at h,fun _ _ _ _ h=>by simp only [R32_4] at h⟩
 | succ n ih =>
 obtain ⟨ih,ih4⟩:=ih
 refine ⟨?_,?_⟩
 ·intro x0 x1 ds h K q
  rw [R32] at h
  by_cases b0:((x0.length:Int) != (x1.length:Int))=true
  ·rw [if_pos b0] at h
   subst h
   exact AtV.ret Tryz.func32 tabOk ext32Ok mixed false [] tys32 [true] (a1 b0 trivial) (by kernel_rfl)
  ·rw [if_neg b0] at h
   replace b0:=bf_ b0
   exact AtV.go tabOk ext32Ok mixed false [] [] [0,1,5] [] [false] (a1 b0 trivial) (ih4 _ _ _ _ h K q) (by kernel_rfl)
 ·intro v5 x0 x1 ds h K q
  rw [R32_4] at h
  by_cases b0:(decide (v5<(x0.length:Int)))=true
  ·rw [if_pos b0] at h
   obtain ⟨s0,s1,h⟩:=h
   obtain ⟨s2,s3,h⟩:=h
   by_cases b1:(!g62_0 (List.getD x0 (Int.toNat v5) (0,0,ByteArray.empty,0,())) (List.getD x1 (Int.toNat v5) (0,0,ByteArray.empty,0,())))=true
   ·rw [if_pos b1] at h
    subst h
    exact AtV.ret Tryz.func32 tabOk ext32Ok mixed false [] tys32 [true,true] (a1 b0 (a1 s0 (a1 s1 (a1 s2 (a1 s3 (a1 trivial (a1 b1 trivial))))))) (by kernel_rfl)
   ·rw [if_neg b1] at h
    replace b1:=bf_ b1
    obtain ⟨s4,h⟩:=h
    exact AtV.go tabOk ext32Ok mixed false [] [] [0,1,5] [] [true,false] (a1 b0 (a1 s0 (a1 s1 (a1 s2 (a1 s3 (a1 trivial (a1 b1 (a1 s4 trivial)))))))) (ih4 _ _ _ _ h K q) (by kernel_rfl)
  ·rw [if_neg b0] at h
   replace b0:=bf_ b0
   subst h
   exact AtV.ret Tryz.func32 tabOk ext32Ok mixed false [] tys32 [false] (a1 b0 trivial) (by kernel_rfl)
theorem eq32 (x0 x1:List TyB2) (hl:x0.length=x1.length) (hm:x0.length≤maxLen):∀ k i:Nat,i+k=x0.length→R32_4 (k+1) (i:Int) x0 x1 [⟨.bool,decide (x0.drop i=x1.drop i)⟩]:=by
 intro k
 induction k with
 | zero =>
  intro i hi
  have h1:¬ (i:Int)<(x0.length:Int):=by omega
  rw [R32_4,if_neg (by simpa using h1),drop_end x0 i (by omega),drop_end x1 i (by omega)]
  simp
 | succ k ih =>
  intro i hi
  have h1:(i:Int)<(x0.length:Int):=by omega
  rw [R32_4,if_pos (by simpa using h1)]
  refine ⟨by omega,h1,by omega,by omega,?_⟩
  simp only [Int.toNat_natCast]
  rw [drop_get x0 i ((0:Int),(0:Int),ByteArray.empty,(0:Int),()) (by omega),drop_get x1 i ((0:Int),(0:Int),ByteArray.empty,(0:Int),()) (by omega)]
  by_cases he:x0.getD i ((0:Int),(0:Int),ByteArray.empty,(0:Int),())=x1.getD i ((0:Int),(0:Int),ByteArray.empty,(0:Int),())
  ·have hd:=(eqd62 _ _).2 he
   rw [if_neg (by rw [hd];simp)]
   refine ⟨inR_up hm (by omega),?_⟩
   have:=ih (i+1) (by omega)
   simp only [he,List.cons.injEq,true_and]
   exact this
  ·have hd:g62_0 (x0.getD i ((0:Int),(0:Int),ByteArray.empty,(0:Int),())) (x1.getD i ((0:Int),(0:Int),ByteArray.empty,(0:Int),()))=false :=
    bf_ fun h=>he ((eqd62 _ _).1 h)
   rw [if_pos (by rw [hd];rfl)]
   simp only [he,List.cons.injEq,false_and,decide_false]
def g32_0 (x0 x1:List TyB2):Bool:=decide (x0=x1)
def P32 (x0 x1:List TyB2):Prop:=True
def S32:Am.Spec:={ sig:=sig32,pre:=fun ⟨x0,x1,_⟩=>P32 x0 x1,res:=fun ⟨x0,x1,_⟩=>[⟨.bool,g32_0 x0 x1⟩] }
theorem con32:Contract Tryz.prog 32 S32:=contract_of Tryz.func32 hb32 (bl_ (by kernel_rfl)) (fun ⟨x0,x1,_⟩ h hwf K q=>by
 refine (snd32 (x0.length+2)).1 x0 x1 _ ?_ K q
 show R32 (x0.length+1+1) x0 x1 [⟨.bool,decide (x0=x1)⟩]
 rw [R32]
 by_cases hl:x0.length=x1.length
 ·rw [if_neg (by simp [hl])]
  have:=eq32 x0 x1 hl hwf.1.1 x0.length 0 (by omega)
  simpa using this
 ·rw [if_pos (by simp;omega)]
  have:x0≠x1:=fun h=>hl (by rw [h])
  simp [this])
end
noncomputable section
def ext8:Ext:=[(25,S25),(26,S26),(27,S27),(28,S28),(29,S29),(30,S30),(31,S31),(32,S32)]
theorem ext8Ok:ExtOk Tryz.prog ext8:=⟨⟨ca25,con25⟩,⟨ca26,con26⟩,⟨ca27,con27⟩,⟨ca28,con28⟩,⟨ca29,con29⟩,⟨ca30,con30⟩,⟨ca31,con31⟩,⟨ca32,con32⟩,trivial⟩
def b8:Code:=bodyOf Tryz.f8
theorem hb8:Tryz.f8.body=some b8:=by kernel_rfl
def sig8:List AT:=[AT.v YA0,AT.v YA0]
def tys8:List Ty:=[.bool]
def kds8:List RK:=[]
def oks8:List AT:=owns sig8
def P8 (x0:TyA0) (x1:TyA0):Prop:=True
def g8_0 (x0:TyA0) (x1:TyA0):Bool:=(if (!g25_0 x0.1 x1.1)=true then false else (if (x0.2.1 != x1.2.1)=true then false else (if (!g26_0 x0.2.2.1 x1.2.2.1)=true then false else (if (!g27_0 x0.2.2.2.1 x1.2.2.2.1)=true then false else (if (!g28_0 x0.2.2.2.2.1 x1.2.2.2.2.1)=true then false else (if (!g29_0 x0.2.2.2.2.2.1 x1.2.2.2.2.2.1)=true then false else (if (!g30_0 x0.2.2.2.2.2.2.1 x1.2.2.2.2.2.2.1)=true then false else (if (x0.2.2.2.2.2.2.2.1 != x1.2.2.2.2.2.2.2.1)=true then false else (if (x0.2.2.2.2.2.2.2.2.1 != x1.2.2.2.2.2.2.2.2.1)=true then false else (if (!g31_0 x0.2.2.2.2.2.2.2.2.2.1 x1.2.2.2.2.2.2.2.2.2.1)=true then false else (if (x0.2.2.2.2.2.2.2.2.2.2.1 != x1.2.2.2.2.2.2.2.2.2.2.1)=true then false else (if (!g32_0 x0.2.2.2.2.2.2.2.2.2.2.2.1 x1.2.2.2.2.2.2.2.2.2.2.2.1)=true then false else true))))))))))))
theorem at8 (x0:TyA0) (x1:TyA0) (h:P8 x0 x1) (K:Ctx) (q:Nat→Value):AtV Tryz.prog 8 (PostR kds8 oks8 [⟨.bool,g8_0 x0 x1⟩] [] [] q K) 73 K q [] [.code b8] (entE 0 0 sig8 (x0,x1,())) (entL sig8 (x0,x1,())):=by
 unfold P8 at h
 unfold g8_0
 by_cases b0:(!g25_0 x0.1 x1.1)=true
 ·try simp only [if_pos b0] at h ⊢
  exact AtV.ret Tryz.func8 tabOk ext8Ok mixed false [] tys8 [true] (a1 trivial (a1 b0 trivial)) (by kernel_rfl)
 ·try simp only [if_neg b0] at h ⊢
  replace b0:=bf_ b0
  by_cases b1:(x0.2.1 != x1.2.1)=true
  ·try simp only [if_pos b1] at h ⊢
   exact AtV.ret Tryz.func8 tabOk ext8Ok mixed false [] tys8 [false,true] (a1 trivial (a1 b0 (a1 b1 trivial))) (by kernel_rfl)
  ·try simp only [if_neg b1] at h ⊢
   replace b1:=bf_ b1
   by_cases b2:(!g26_0 x0.2.2.1 x1.2.2.1)=true
   ·try simp only [if_pos b2] at h ⊢
    exact AtV.ret Tryz.func8 tabOk ext8Ok mixed false [] tys8 [false,false,true] (a1 trivial (a1 b0 (a1 b1 (a1 trivial (a1 b2 trivial))))) (by kernel_rfl)
   ·try simp only [if_neg b2] at h ⊢
    replace b2:=bf_ b2
    by_cases b3:(!g27_0 x0.2.2.2.1 x1.2.2.2.1)=true
    ·try simp only [if_pos b3] at h ⊢
     exact AtV.ret Tryz.func8 tabOk ext8Ok mixed false [] tys8 [false,false,false,true] (a1 trivial (a1 b0 (a1 b1 (a1 trivial (a1 b2 (a1 trivial (a1 b3 trivial))))))) (by kernel_rfl)
    ·try simp only [if_neg b3] at h ⊢
     replace b3:=bf_ b3
     by_cases b4:(!g28_0 x0.2.2.2.2.1 x1.2.2.2.2.1)=true
     ·try simp only [if_pos b4] at h ⊢
      exact AtV.ret Tryz.func8 tabOk ext8Ok mixed false [] tys8 [false,false,false,false,true] (a1 trivial (a1 b0 (a1 b1 (a1 trivial (a1 b2 (a1 trivial (a1 b3 (a1 trivial (a1 b4 trivial))))))))) (by kernel_rfl)
     ·try simp only [if_neg b4] at h ⊢
      replace b4:=bf_ b4
      by_cases b5:(!g29_0 x0.2.2.2.2.2.1 x1.2.2.2.2.2.1)=true
      ·try simp only [if_pos b5] at h ⊢
       exact AtV.ret Tryz.func8 tabOk ext8Ok mixed false [] tys8 [false,false,false,false,false,true] (a1 trivial (a1 b0 (a1 b1 (a1 trivial (a1 b2 (a1 trivial (a1 b3 (a1 trivial (a1 b4 (a1 trivial (a1 b5 trivial))))))))))) (by kernel_rfl)
      ·try simp only [if_neg b5] at h ⊢
       replace b5:=bf_ b5
       by_cases b6:(!g30_0 x0.2.2.2.2.2.2.1 x1.2.2.2.2.2.2.1)=true
       ·try simp only [if_pos b6] at h ⊢
        exact AtV.ret Tryz.func8 tabOk ext8Ok mixed false [] tys8 [false,false,false,false,false,false,true] (a1 trivial (a1 b0 (a1 b1 (a1 trivial (a1 b2 (a1 trivial (a1 b3 (a1 trivial (a1 b4 (a1 trivial (a1 b5 (a1 trivial (a1 b6 trivial))))))))))))) (by kernel_rfl)
       ·try simp only [if_neg b6] at h ⊢
        replace b6:=bf_ b6
        by_cases b7:(x0.2.2.2.2.2.2.2.1 != x1.2.2.2.2.2.2.2.1)=true
        ·try simp only [if_pos b7] at h ⊢
         exact AtV.ret Tryz.func8 tabOk ext8Ok mixed false [] tys8 [false,false,false,false,false,false,false,true] (a1 trivial (a1 b0 (a1 b1 (a1 trivial (a1 b2 (a1 trivial (a1 b3 (a1 trivial (a1 b4 (a1 trivial (a1 b5 (a1 trivial (a1 b6 (a1 b7 trivial)))))))))))))) (by kernel_rfl)
        ·try simp only [if_neg b7] at h ⊢
         replace b7:=bf_ b7
         by_cases b8:(x0.2.2.2.2.2.2.2.2.1 != x1.2.2.2.2.2.2.2.2.1)=true
         ·try simp only [if_pos b8] at h ⊢
          exact AtV.ret Tryz.func8 tabOk ext8Ok mixed false [] tys8 [false,false,false,false,false,false,false,false,true] (a1 trivial (a1 b0 (a1 b1 (a1 trivial (a1 b2 (a1 trivial (a1 b3 (a1 trivial (a1 b4 (a1 trivial (a1 b5 (a1 trivial (a1 b6 (a1 b7 (a1 b8 trivial))))))))))))))) (by kernel_rfl)
         ·try simp only [if_neg b8] at h ⊢
          replace b8:=bf_ b8
          by_cases b9:(!g31_0 x0.2.2.2.2.2.2.2.2.2.1 x1.2.2.2.2.2.2.2.2.2.1)=true
          ·try simp only [if_pos b9] at h ⊢
           exact AtV.ret Tryz.func8 tabOk ext8Ok mixed false [] tys8 [false,false,false,false,false,false,false,false,false,true] (a1 trivial (a1 b0 (a1 b1 (a1 trivial (a1 b2 (a1 trivial (a1 b3 (a1 trivial (a1 b4 (a1 trivial (a1 b5 (a1 trivial (a1 b6 (a1 b7 (a1 b8 (a1 trivial (a1 b9 trivial))))))))))))))))) (by kernel_rfl)
          ·try simp only [if_neg b9] at h ⊢
           replace b9:=bf_ b9
           by_cases b10:(x0.2.2.2.2.2.2.2.2.2.2.1 != x1.2.2.2.2.2.2.2.2.2.2.1)=true
           ·try simp only [if_pos b10] at h ⊢
            exact AtV.ret Tryz.func8 tabOk ext8Ok mixed false [] tys8 [false,false,false,false,false,false,false,false,false,false,true] (a1 trivial (a1 b0 (a1 b1 (a1 trivial (a1 b2 (a1 trivial (a1 b3 (a1 trivial (a1 b4 (a1 trivial (a1 b5 (a1 trivial (a1 b6 (a1 b7 (a1 b8 (a1 trivial (a1 b9 (a1 b10 trivial)))))))))))))))))) (by kernel_rfl)
           ·try simp only [if_neg b10] at h ⊢
            replace b10:=bf_ b10
            by_cases b11:(!g32_0 x0.2.2.2.2.2.2.2.2.2.2.2.1 x1.2.2.2.2.2.2.2.2.2.2.2.1)=true
            ·try simp only [if_pos b11] at h ⊢
             exact AtV.ret Tryz.func8 tabOk ext8Ok mixed false [] tys8 [false,false,false,false,false,false,false,false,false,false,false,true] (a1 trivial (a1 b0 (a1 b1 (a1 trivial (a1 b2 (a1 trivial (a1 b3 (a1 trivial (a1 b4 (a1 trivial (a1 b5 (a1 trivial (a1 b6 (a1 b7 (a1 b8 (a1 trivial (a1 b9 (a1 b10 (a1 trivial (a1 b11 trivial)))))))))))))))))))) (by kernel_rfl)
            ·try simp only [if_neg b11] at h ⊢
             replace b11:=bf_ b11
             exact AtV.ret Tryz.func8 tabOk ext8Ok mixed false [] tys8 [false,false,false,false,false,false,false,false,false,false,false,false] (a1 trivial (a1 b0 (a1 b1 (a1 trivial (a1 b2 (a1 trivial (a1 b3 (a1 trivial (a1 b4 (a1 trivial (a1 b5 (a1 trivial (a1 b6 (a1 b7 (a1 b8 (a1 trivial (a1 b9 (a1 b10 (a1 trivial (a1 b11 trivial)))))))))))))))))))) (by kernel_rfl)
def S8:Am.Spec:={ sig:=sig8,pre:=fun ⟨x0,x1,_⟩=>P8 x0 x1,res:=fun ⟨x0,x1,_⟩=>[⟨.bool,g8_0 x0 x1⟩],kds:=kds8 }
theorem con8:Contract Tryz.prog 8 S8:=contract_of Tryz.func8 hb8 (bl_ (by kernel_rfl)) (fun ⟨x0,x1,_⟩ h _ K q=>at8 x0 x1 h K q)
end
noncomputable section
def ext3:Ext:=[(4,S4),(6,S6),(5,S5),(7,S7),(8,S8)]
theorem ext3Ok:ExtOk Tryz.prog ext3:=⟨⟨ca4,con4⟩,⟨ca6,con6⟩,⟨ca5,con5⟩,⟨ca7,con7⟩,⟨ca8,con8⟩,trivial⟩
def b3:Code:=bodyOf Tryz.f3
theorem hb3:Tryz.f3.body=some b3:=by kernel_rfl
def sig3:List AT:=[AT.v YA0]
def tys3:List Ty:=[.bool]
def kds3:List RK:=[]
def oks3:List AT:=owns sig3
def P3 (x0:TyA0):Prop:=((P4 x0 1048576)∧(if (decide (g4_0 x0 1048576<0))=true then True else ((P6 x0)∧((P5 (((g6_0 x0).1.1,(g6_0 x0).1.2.1,(g6_0 x0).1.2.2.1,()),(g6_0 x0).2.1,((g6_0 x0).2.2.1.1,(g6_0 x0).2.2.1.2.1,()),((g6_0 x0).2.2.2.1.1,(g6_0 x0).2.2.2.1.2.1,(g6_0 x0).2.2.2.1.2.2.1,(g6_0 x0).2.2.2.1.2.2.2.1,()),(g6_0 x0).2.2.2.2.1,((g6_0 x0).2.2.2.2.2.1.1,(g6_0 x0).2.2.2.2.2.1.2.1,(g6_0 x0).2.2.2.2.2.1.2.2.1,()),(g6_0 x0).2.2.2.2.2.2.1,(g6_0 x0).2.2.2.2.2.2.2.1,(g6_0 x0).2.2.2.2.2.2.2.2.1,(g6_0 x0).2.2.2.2.2.2.2.2.2.1,(g6_0 x0).2.2.2.2.2.2.2.2.2.2.1,(g6_0 x0).2.2.2.2.2.2.2.2.2.2.2.1,()))∧((P6 x0)∧((P7 (((g6_0 x0).1.1,(g6_0 x0).1.2.1,(g6_0 x0).1.2.2.1,()),(g6_0 x0).2.1,((g6_0 x0).2.2.1.1,(g6_0 x0).2.2.1.2.1,()),((g6_0 x0).2.2.2.1.1,(g6_0 x0).2.2.2.1.2.1,(g6_0 x0).2.2.2.1.2.2.1,(g6_0 x0).2.2.2.1.2.2.2.1,()),(g6_0 x0).2.2.2.2.1,((g6_0 x0).2.2.2.2.2.1.1,(g6_0 x0).2.2.2.2.2.1.2.1,(g6_0 x0).2.2.2.2.2.1.2.2.1,()),(g6_0 x0).2.2.2.2.2.2.1,(g6_0 x0).2.2.2.2.2.2.2.1,(g6_0 x0).2.2.2.2.2.2.2.2.1,(g6_0 x0).2.2.2.2.2.2.2.2.2.1,(g6_0 x0).2.2.2.2.2.2.2.2.2.2.1,(g6_0 x0).2.2.2.2.2.2.2.2.2.2.2.1,()))∧(if (!g7_0 (((g6_0 x0).1.1,(g6_0 x0).1.2.1,(g6_0 x0).1.2.2.1,()),(g6_0 x0).2.1,((g6_0 x0).2.2.1.1,(g6_0 x0).2.2.1.2.1,()),((g6_0 x0).2.2.2.1.1,(g6_0 x0).2.2.2.1.2.1,(g6_0 x0).2.2.2.1.2.2.1,(g6_0 x0).2.2.2.1.2.2.2.1,()),(g6_0 x0).2.2.2.2.1,((g6_0 x0).2.2.2.2.2.1.1,(g6_0 x0).2.2.2.2.2.1.2.1,(g6_0 x0).2.2.2.2.2.1.2.2.1,()),(g6_0 x0).2.2.2.2.2.2.1,(g6_0 x0).2.2.2.2.2.2.2.1,(g6_0 x0).2.2.2.2.2.2.2.2.1,(g6_0 x0).2.2.2.2.2.2.2.2.2.1,(g6_0 x0).2.2.2.2.2.2.2.2.2.2.1,(g6_0 x0).2.2.2.2.2.2.2.2.2.2.2.1,())==g5_0 (((g6_0 x0).1.1,(g6_0 x0).1.2.1,(g6_0 x0).1.2.2.1,()),(g6_0 x0).2.1,((g6_0 x0).2.2.1.1,(g6_0 x0).2.2.1.2.1,()),((g6_0 x0).2.2.2.1.1,(g6_0 x0).2.2.2.1.2.1,(g6_0 x0).2.2.2.1.2.2.1,(g6_0 x0).2.2.2.1.2.2.2.1,()),(g6_0 x0).2.2.2.2.1,((g6_0 x0).2.2.2.2.2.1.1,(g6_0 x0).2.2.2.2.2.1.2.1,(g6_0 x0).2.2.2.2.2.1.2.2.1,()),(g6_0 x0).2.2.2.2.2.2.1,(g6_0 x0).2.2.2.2.2.2.2.1,(g6_0 x0).2.2.2.2.2.2.2.2.1,(g6_0 x0).2.2.2.2.2.2.2.2.2.1,(g6_0 x0).2.2.2.2.2.2.2.2.2.2.1,(g6_0 x0).2.2.2.2.2.2.2.2.2.2.2.1,()))=true then True else ((P6 x0)∧True))))))))
def g3_0 (x0:TyA0):Bool:=(if (decide (g4_0 x0 1048576<0))=true then true else (if (!g7_0 (((g6_0 x0).1.1,(g6_0 x0).1.2.1,(g6_0 x0).1.2.2.1,()),(g6_0 x0).2.1,((g6_0 x0).2.2.1.1,(g6_0 x0).2.2.1.2.1,()),((g6_0 x0).2.2.2.1.1,(g6_0 x0).2.2.2.1.2.1,(g6_0 x0).2.2.2.1.2.2.1,(g6_0 x0).2.2.2.1.2.2.2.1,()),(g6_0 x0).2.2.2.2.1,((g6_0 x0).2.2.2.2.2.1.1,(g6_0 x0).2.2.2.2.2.1.2.1,(g6_0 x0).2.2.2.2.2.1.2.2.1,()),(g6_0 x0).2.2.2.2.2.2.1,(g6_0 x0).2.2.2.2.2.2.2.1,(g6_0 x0).2.2.2.2.2.2.2.2.1,(g6_0 x0).2.2.2.2.2.2.2.2.2.1,(g6_0 x0).2.2.2.2.2.2.2.2.2.2.1,(g6_0 x0).2.2.2.2.2.2.2.2.2.2.2.1,())==g5_0 (((g6_0 x0).1.1,(g6_0 x0).1.2.1,(g6_0 x0).1.2.2.1,()),(g6_0 x0).2.1,((g6_0 x0).2.2.1.1,(g6_0 x0).2.2.1.2.1,()),((g6_0 x0).2.2.2.1.1,(g6_0 x0).2.2.2.1.2.1,(g6_0 x0).2.2.2.1.2.2.1,(g6_0 x0).2.2.2.1.2.2.2.1,()),(g6_0 x0).2.2.2.2.1,((g6_0 x0).2.2.2.2.2.1.1,(g6_0 x0).2.2.2.2.2.1.2.1,(g6_0 x0).2.2.2.2.2.1.2.2.1,()),(g6_0 x0).2.2.2.2.2.2.1,(g6_0 x0).2.2.2.2.2.2.2.1,(g6_0 x0).2.2.2.2.2.2.2.2.1,(g6_0 x0).2.2.2.2.2.2.2.2.2.1,(g6_0 x0).2.2.2.2.2.2.2.2.2.2.1,(g6_0 x0).2.2.2.2.2.2.2.2.2.2.2.1,()))=true then false else (if (!g8_0 (((g6_0 x0).1.1,(g6_0 x0).1.2.1,(g6_0 x0).1.2.2.1,()),(g6_0 x0).2.1,((g6_0 x0).2.2.1.1,(g6_0 x0).2.2.1.2.1,()),((g6_0 x0).2.2.2.1.1,(g6_0 x0).2.2.2.1.2.1,(g6_0 x0).2.2.2.1.2.2.1,(g6_0 x0).2.2.2.1.2.2.2.1,()),(g6_0 x0).2.2.2.2.1,((g6_0 x0).2.2.2.2.2.1.1,(g6_0 x0).2.2.2.2.2.1.2.1,(g6_0 x0).2.2.2.2.2.1.2.2.1,()),(g6_0 x0).2.2.2.2.2.2.1,(g6_0 x0).2.2.2.2.2.2.2.1,(g6_0 x0).2.2.2.2.2.2.2.2.1,(g6_0 x0).2.2.2.2.2.2.2.2.2.1,(g6_0 x0).2.2.2.2.2.2.2.2.2.2.1,(g6_0 x0).2.2.2.2.2.2.2.2.2.2.2.1,()) (((g6_0 x0).1.1,(g6_0 x0).1.2.1,(g6_0 x0).1.2.2.1,()),(g6_0 x0).2.1,((g6_0 x0).2.2.1.1,(g6_0 x0).2.2.1.2.1,()),((g6_0 x0).2.2.2.1.1,(g6_0 x0).2.2.2.1.2.1,(g6_0 x0).2.2.2.1.2.2.1,(g6_0 x0).2.2.2.1.2.2.2.1,()),(g6_0 x0).2.2.2.2.1,((g6_0 x0).2.2.2.2.2.1.1,(g6_0 x0).2.2.2.2.2.1.2.1,(g6_0 x0).2.2.2.2.2.1.2.2.1,()),(g6_0 x0).2.2.2.2.2.2.1,(g6_0 x0).2.2.2.2.2.2.2.1,(g6_0 x0).2.2.2.2.2.2.2.2.1,(g6_0 x0).2.2.2.2.2.2.2.2.2.1,(g6_0 x0).2.2.2.2.2.2.2.2.2.2.1,(g6_0 x0).2.2.2.2.2.2.2.2.2.2.2.1,()))=true then false else true)))
theorem at3 (x0:TyA0) (h:P3 x0) (K:Ctx) (q:Nat→Value):AtV Tryz.prog 3 (PostR kds3 oks3 [⟨.bool,g3_0 x0⟩] [] [] q K) 27 K q [] [.code b3] (entE 0 0 sig3 (x0,())) (entL sig3 (x0,())):=by
 unfold P3 at h
 unfold g3_0
 obtain ⟨s0,h⟩:=h
 by_cases b0:(decide (g4_0 x0 1048576<0))=true
 ·try simp only [if_pos b0] at h ⊢
  exact AtV.ret Tryz.func3 tabOk ext3Ok mixed false [] tys3 [true] (a1 s0 (a1 b0 trivial)) (by kernel_rfl)
 ·try simp only [if_neg b0] at h ⊢
  replace b0:=bf_ b0
  obtain ⟨s1,h⟩:=h
  obtain ⟨s2,h⟩:=h
  obtain ⟨s3,h⟩:=h
  obtain ⟨s4,h⟩:=h
  by_cases b1:(!g7_0 (((g6_0 x0).1.1,(g6_0 x0).1.2.1,(g6_0 x0).1.2.2.1,()),(g6_0 x0).2.1,((g6_0 x0).2.2.1.1,(g6_0 x0).2.2.1.2.1,()),((g6_0 x0).2.2.2.1.1,(g6_0 x0).2.2.2.1.2.1,(g6_0 x0).2.2.2.1.2.2.1,(g6_0 x0).2.2.2.1.2.2.2.1,()),(g6_0 x0).2.2.2.2.1,((g6_0 x0).2.2.2.2.2.1.1,(g6_0 x0).2.2.2.2.2.1.2.1,(g6_0 x0).2.2.2.2.2.1.2.2.1,()),(g6_0 x0).2.2.2.2.2.2.1,(g6_0 x0).2.2.2.2.2.2.2.1,(g6_0 x0).2.2.2.2.2.2.2.2.1,(g6_0 x0).2.2.2.2.2.2.2.2.2.1,(g6_0 x0).2.2.2.2.2.2.2.2.2.2.1,(g6_0 x0).2.2.2.2.2.2.2.2.2.2.2.1,())==g5_0 (((g6_0 x0).1.1,(g6_0 x0).1.2.1,(g6_0 x0).1.2.2.1,()),(g6_0 x0).2.1,((g6_0 x0).2.2.1.1,(g6_0 x0).2.2.1.2.1,()),((g6_0 x0).2.2.2.1.1,(g6_0 x0).2.2.2.1.2.1,(g6_0 x0).2.2.2.1.2.2.1,(g6_0 x0).2.2.2.1.2.2.2.1,()),(g6_0 x0).2.2.2.2.1,((g6_0 x0).2.2.2.2.2.1.1,(g6_0 x0).2.2.2.2.2.1.2.1,(g6_0 x0).2.2.2.2.2.1.2.2.1,()),(g6_0 x0).2.2.2.2.2.2.1,(g6_0 x0).2.2.2.2.2.2.2.1,(g6_0 x0).2.2.2.2.2.2.2.2.1,(g6_0 x0).2.2.2.2.2.2.2.2.2.1,(g6_0 x0).2.2.2.2.2.2.2.2.2.2.1,(g6_0 x0).2.2.2.2.2.2.2.2.2.2.2.1,()))=true
  ·try simp only [if_pos b1] at h ⊢
   exact AtV.ret Tryz.func3 tabOk ext3Ok mixed false [] tys3 [false,true] (a1 s0 (a1 b0 (a1 s1 (a1 s2 (a1 s3 (a1 s4 (a1 b1 trivial))))))) (by kernel_rfl)
  ·try simp only [if_neg b1] at h ⊢
   replace b1:=bf_ b1
   obtain ⟨s5,h⟩:=h
   by_cases b2:(!g8_0 (((g6_0 x0).1.1,(g6_0 x0).1.2.1,(g6_0 x0).1.2.2.1,()),(g6_0 x0).2.1,((g6_0 x0).2.2.1.1,(g6_0 x0).2.2.1.2.1,()),((g6_0 x0).2.2.2.1.1,(g6_0 x0).2.2.2.1.2.1,(g6_0 x0).2.2.2.1.2.2.1,(g6_0 x0).2.2.2.1.2.2.2.1,()),(g6_0 x0).2.2.2.2.1,((g6_0 x0).2.2.2.2.2.1.1,(g6_0 x0).2.2.2.2.2.1.2.1,(g6_0 x0).2.2.2.2.2.1.2.2.1,()),(g6_0 x0).2.2.2.2.2.2.1,(g6_0 x0).2.2.2.2.2.2.2.1,(g6_0 x0).2.2.2.2.2.2.2.2.1,(g6_0 x0).2.2.2.2.2.2.2.2.2.1,(g6_0 x0).2.2.2.2.2.2.2.2.2.2.1,(g6_0 x0).2.2.2.2.2.2.2.2.2.2.2.1,()) (((g6_0 x0).1.1,(g6_0 x0).1.2.1,(g6_0 x0).1.2.2.1,()),(g6_0 x0).2.1,((g6_0 x0).2.2.1.1,(g6_0 x0).2.2.1.2.1,()),((g6_0 x0).2.2.2.1.1,(g6_0 x0).2.2.2.1.2.1,(g6_0 x0).2.2.2.1.2.2.1,(g6_0 x0).2.2.2.1.2.2.2.1,()),(g6_0 x0).2.2.2.2.1,((g6_0 x0).2.2.2.2.2.1.1,(g6_0 x0).2.2.2.2.2.1.2.1,(g6_0 x0).2.2.2.2.2.1.2.2.1,()),(g6_0 x0).2.2.2.2.2.2.1,(g6_0 x0).2.2.2.2.2.2.2.1,(g6_0 x0).2.2.2.2.2.2.2.2.1,(g6_0 x0).2.2.2.2.2.2.2.2.2.1,(g6_0 x0).2.2.2.2.2.2.2.2.2.2.1,(g6_0 x0).2.2.2.2.2.2.2.2.2.2.2.1,()))=true
   ·try simp only [if_pos b2] at h ⊢
    exact AtV.ret Tryz.func3 tabOk ext3Ok mixed false [] tys3 [false,false,true] (a1 s0 (a1 b0 (a1 s1 (a1 s2 (a1 s3 (a1 s4 (a1 b1 (a1 s5 (a1 trivial (a1 b2 trivial)))))))))) (by kernel_rfl)
   ·try simp only [if_neg b2] at h ⊢
    replace b2:=bf_ b2
    exact AtV.ret Tryz.func3 tabOk ext3Ok mixed false [] tys3 [false,false,false] (a1 s0 (a1 b0 (a1 s1 (a1 s2 (a1 s3 (a1 s4 (a1 b1 (a1 s5 (a1 trivial (a1 b2 trivial)))))))))) (by kernel_rfl)
def S3:Am.Spec:={ sig:=sig3,pre:=fun ⟨x0,_⟩=>P3 x0,res:=fun ⟨x0,_⟩=>[⟨.bool,g3_0 x0⟩],kds:=kds3 }
theorem con3:Contract Tryz.prog 3 S3:=contract_of Tryz.func3 hb3 (bl_ (by kernel_rfl)) (fun ⟨x0,_⟩ h _ K q=>at3 x0 h K q)
end
theorem szs_Section (xs:List TyB4) (l:Int) (h0:0≤l) (hi:l≤1048576) (hw:Wf (.sl (.cons (.int .i64) (.cons (.int .i64) .unit))) xs):P33 xs l∧(¬ g33_0 xs l<0→g33_0 xs l≤l - xs.length):=by
 have hi':InR .i64 l:=by rw [i64_iff];omega
 have hm:xs.length≤9223372036854775807:=hw.1
 refine ⟨⟨by rw [i64_iff];omega,trivial⟩,fun hg=>(g33_le xs l h0 hi' hw hg).2⟩
theorem szs_Group (xs:List TyB1) (l:Int) (h0:0≤l) (hi:l≤1048576) (hw:Wf (.sl (.cons .str (.cons (.int .i64) (.cons (.int .i64) (.cons (.int .i64) .unit))))) xs):P10 xs l∧(¬ g10_0 xs l<0→g10_0 xs l≤l - xs.length):=by
 have hi':InR .i64 l:=by rw [i64_iff];omega
 exact ⟨h0,fun hg=>g10_le xs l h0 hi' hw hg⟩
theorem szs_Check (xs:List TyB0) (l:Int) (h0:0≤l) (hi:l≤1048576) (hw:Wf (.sl (.cons .str (.cons (.int .i64) (.cons (.int .i64) (.cons (.int .i64) (.cons (.int .i64) .unit)))))) xs):P11 xs l∧(¬ g11_0 xs l<0→g11_0 xs l≤l - xs.length):=by
 have hi':InR .i64 l:=by rw [i64_iff];omega
 exact ⟨h0,fun hg=>g11_le xs l h0 hi' hw hg⟩
theorem szs_Ride (xs:List TyB4) (l:Int) (h0:0≤l) (hi:l≤1048576) (hw:Wf (.sl (.cons (.int .i64) (.cons (.int .i64) .unit))) xs):P12 xs l∧(¬ g12_0 xs l<0→g12_0 xs l≤l - xs.length):=by
 have hi':InR .i64 l:=by rw [i64_iff];omega
 have hm:xs.length≤9223372036854775807:=hw.1
 refine ⟨⟨by rw [i64_iff];omega,trivial⟩,fun hg=>(g12_le xs l h0 hi' hw hg).2⟩
theorem szs_Line (xs:List TyB2) (l:Int) (h0:0≤l) (hi:l≤1048576) (hw:Wf (.sl (.cons (.int .i64) (.cons (.int .i64) (.cons .str (.cons (.int .i64) .unit))))) xs):P13 xs l∧(¬ g13_0 xs l<0→g13_0 xs l≤l - xs.length):=by
 have hi':InR .i64 l:=by rw [i64_iff];omega
 exact ⟨h0,fun hg=>g13_le xs l h0 hi' hw hg⟩
theorem szs_Track (x:List TyB4×Int×Int×Unit) (l:Int) (h0:0≤l) (hi:l≤1048576) (hw:Wf (.sl (.cons (.int .i64) (.cons (.int .i64) .unit))) x.1):P9 x l∧(¬ g9_0 x l<0→g9_0 x l≤l - x.1.length):=by
 obtain ⟨p,q⟩:=szs_Section x.1 l h0 hi hw
 unfold P9 g9_0
 by_cases c:g33_0 x.1 l<0
 ·simp only [c,p,decide_true,if_true,and_true,true_and]
  try exact ⟨trivial,fun h=>absurd (show (-1:Int)<0 by decide) h⟩
  try exact fun h=>absurd (show (-1:Int)<0 by decide) h
 ·simp only [c,p,decide_false,Bool.false_eq_true,if_false,and_true,true_and]
  try exact ⟨trivial,fun h=>q h⟩
  try exact fun h=>q h
  try exact fun _=>q c
theorem sz_works (x:(TyA0)) (l:Int) (h0:0≤l) (hi:l≤1048576) (hw:Wf (.cons (.cons (.sl (.cons (.int .i64) (.cons (.int .i64) .unit))) (.cons (.int .i64) (.cons (.int .i64) .unit))) (.cons (.int .i64) (.cons (.cons (.int .i64) (.cons (.int .i64) .unit)) (.cons (.cons (.int .i64) (.cons (.int .i64) (.cons (.int .i64) (.cons (.int .i64) .unit)))) (.cons (.sl (.cons .str (.cons (.int .i64) (.cons (.int .i64) (.cons (.int .i64) .unit))))) (.cons (.cons (.int .i64) (.cons (.int .i64) (.cons (.int .i64) .unit))) (.cons (.sl (.cons .str (.cons (.int .i64) (.cons (.int .i64) (.cons (.int .i64) (.cons (.int .i64) .unit)))))) (.cons (.int .i64) (.cons (.int .i64) (.cons (.sl (.cons (.int .i64) (.cons (.int .i64) .unit))) (.cons (.int .i64) (.cons (.sl (.cons (.int .i64) (.cons (.int .i64) (.cons .str (.cons (.int .i64) .unit))))) .unit)))))))))))) x):P4 x l∧(¬ g4_0 x l<0→0≤g4_0 x l∧g4_0 x l≤l∧(x.1.1.length:Int)≤l∧(x.2.2.2.2.1.length:Int)≤l∧(x.2.2.2.2.2.2.1.length:Int)≤l∧(x.2.2.2.2.2.2.2.2.2.1.length:Int)≤l∧(x.2.2.2.2.2.2.2.2.2.2.2.1.length:Int)≤l):=by
 unfold P4 g4_0
 obtain ⟨p0,q0⟩:=szs_Track x.1 l (by omega) (by omega) hw.1.1
 by_cases c0:(g9_0 x.1 l)<0
 ·simp only [c0,p0,decide_true,decide_false,Bool.false_eq_true,if_true,if_false,and_true,true_and]
  try exact ⟨trivial,fun h=>absurd (show (-1:Int)<0 by decide) h⟩
  try exact fun h=>absurd (show (-1:Int)<0 by decide) h
 have r0:=q0 c0
 obtain ⟨p1,q1⟩:=szs_Group x.2.2.2.2.1 (g9_0 x.1 l) (by omega) (by omega) hw.2.2.2.2.1
 by_cases c1:(g10_0 x.2.2.2.2.1 (g9_0 x.1 l))<0
 ·simp only [c0,p0,c1,p1,decide_true,decide_false,Bool.false_eq_true,if_true,if_false,and_true,true_and]
  try exact ⟨trivial,fun h=>absurd (show (-1:Int)<0 by decide) h⟩
  try exact fun h=>absurd (show (-1:Int)<0 by decide) h
 have r1:=q1 c1
 obtain ⟨p2,q2⟩:=szs_Check x.2.2.2.2.2.2.1 (g10_0 x.2.2.2.2.1 (g9_0 x.1 l)) (by omega) (by omega) hw.2.2.2.2.2.2.1
 by_cases c2:(g11_0 x.2.2.2.2.2.2.1 (g10_0 x.2.2.2.2.1 (g9_0 x.1 l)))<0
 ·simp only [c0,p0,c1,p1,c2,p2,decide_true,decide_false,Bool.false_eq_true,if_true,if_false,and_true,true_and]
  try exact ⟨trivial,fun h=>absurd (show (-1:Int)<0 by decide) h⟩
  try exact fun h=>absurd (show (-1:Int)<0 by decide) h
 have r2:=q2 c2
 obtain ⟨p3,q3⟩:=szs_Ride x.2.2.2.2.2.2.2.2.2.1 (g11_0 x.2.2.2.2.2.2.1 (g10_0 x.2.2.2.2.1 (g9_0 x.1 l))) (by omega) (by omega) hw.2.2.2.2.2.2.2.2.2.1
 by_cases c3:(g12_0 x.2.2.2.2.2.2.2.2.2.1 (g11_0 x.2.2.2.2.2.2.1 (g10_0 x.2.2.2.2.1 (g9_0 x.1 l))))<0
 ·simp only [c0,p0,c1,p1,c2,p2,c3,p3,decide_true,decide_false,Bool.false_eq_true,if_true,if_false,and_true,true_and]
  try exact ⟨trivial,fun h=>absurd (show (-1:Int)<0 by decide) h⟩
  try exact fun h=>absurd (show (-1:Int)<0 by decide) h
 have r3:=q3 c3
 obtain ⟨p4,q4⟩:=szs_Line x.2.2.2.2.2.2.2.2.2.2.2.1 (g12_0 x.2.2.2.2.2.2.2.2.2.1 (g11_0 x.2.2.2.2.2.2.1 (g10_0 x.2.2.2.2.1 (g9_0 x.1 l)))) (by omega) (by omega) hw.2.2.2.2.2.2.2.2.2.2.2.1
 by_cases c4:(g13_0 x.2.2.2.2.2.2.2.2.2.2.2.1 (g12_0 x.2.2.2.2.2.2.2.2.2.1 (g11_0 x.2.2.2.2.2.2.1 (g10_0 x.2.2.2.2.1 (g9_0 x.1 l)))))<0
 ·simp only [c0,p0,c1,p1,c2,p2,c3,p3,c4,p4,decide_true,decide_false,Bool.false_eq_true,if_true,if_false,and_true,true_and]
  try exact ⟨trivial,fun h=>absurd (show (-1:Int)<0 by decide) h⟩
  try exact fun h=>absurd (show (-1:Int)<0 by decide) h
 have r4:=q4 c4
 simp only [c0,p0,c1,p1,c2,p2,c3,p3,c4,p4,decide_false,Bool.false_eq_true,if_false,and_true,true_and]
 intro _
 omega
theorem to_works (x:(TyA0)) (h:(x.1.1.length:Int)≤1048576∧(x.2.2.2.2.1.length:Int)≤1048576∧(x.2.2.2.2.2.2.1.length:Int)≤1048576∧(x.2.2.2.2.2.2.2.2.2.1.length:Int)≤1048576∧(x.2.2.2.2.2.2.2.2.2.2.2.1.length:Int)≤1048576):P6 x∧g6_0 x=x:=by
 obtain ⟨l0,l1,l2,l3,l4⟩:=h
 refine ⟨?_,rfl⟩
 unfold P6 P16 P49 P19 P21 P22 P23
 refine ⟨⟨by omega,trivial⟩,by omega,by omega,by omega,by omega,trivial⟩
theorem eq_works (x:(TyA0)):g8_0 x x=true:=by
 simp [g8_0,g25_0,g26_0,g27_0,g29_0,g58_0,g28_0,g30_0,g31_0,g32_0]
theorem name_eq (s:ByteArray):g154_0 s=g93_0 s:=by
 have hs:∀ c,g123_0 c=(decide (97≤c)&&decide (c≤122)):=fun c=>by
  unfold g123_0
  by_cases h1:(97:Int)≤c <;> simp [h1]
 have hd:∀ c,g124_0 c=(decide (48≤c)&&decide (c≤57)):=fun c=>by
  unfold g124_0
  by_cases h1:(48:Int)≤c <;> simp [h1]
 unfold g154_0 g93_0
 have hl:=bytesOf_length s
 by_cases h1:1≤s.size
 ·cases hb:bytesOf s with
  | nil=>rw [hb] at hl;simp at hl;omega
  | cons c r =>
   have hr:allI ok154 1 r=r.all fun b=>g123_0 b||g124_0 b:=by
    rw [← allI_plain (fun b=>g123_0 b||g124_0 b) r 1]
    refine allI_congr r 1 fun j x hj => ?_
    have:(j==0)=false:=by simp;omega
    simp only [ok154,this,hs,hd,Bool.not_false,Bool.true_and]
   have h0:ok154 0 c=g123_0 c:=by simp [ok154,hs]
   simp only [allI,hr,h0,List.all_cons,List.getD_cons_zero]
   cases g123_0 c <;> simp
 ·simp [h1]
theorem bl_asym {x y:List UInt8} (h:Op.bytesLess x y=true):Op.bytesLess y x=false:=by
 cases h2:Op.bytesLess y x with
 | false=>rfl
 | true =>
  have:=bl_trans x y x h h2
  rw [bl_irrefl] at this
  cases this
theorem le_not (a b:ByteArray):(!(Op.bytesLess (ByteArray.toList a) (ByteArray.toList b)||ByteArray.toList a==ByteArray.toList b))=Op.bytesLess (ByteArray.toList b) (ByteArray.toList a):=by
 generalize ByteArray.toList a=x
 generalize ByteArray.toList b=y
 cases h1:Op.bytesLess x y with
 | true=>rw [bl_asym h1];rfl
 | false =>
  cases h2:(x==y) with
  | true =>
   have:x=y:=by simpa using h2
   subst this
   rw [bl_irrefl];rfl
  | false =>
   cases h3:Op.bytesLess y x with
   | true=>rfl
   | false =>
    have:=bl_tri x y h1 h3
    subst this
    simp at h2
theorem allI_mem {α:Type} {p:Nat→α→Bool}:∀ (l:List α) (i:Nat),allI p i l=true→∀ x∈l,∃ j,p j x=true
 | [],_,_,x,hx=>by cases hx
 | y :: r,i,h,x,hx=>by
  simp only [allI,Bool.and_eq_true] at h
  rcases List.mem_cons.1 hx with rfl | hx
  ·exact ⟨i,h.1⟩
  ·exact allI_mem r (i+1) h.2 x hx
theorem one_Group (x:TyB1):g135_0 x=g65_0 x:=by
 unfold g135_0 g65_0
 rw [name_eq]
 rfl
theorem list_Group (xs:List TyB1):g106_0 xs=g41_0 xs:=by
 unfold g106_0 g41_0
 congr 1
 refine allI_congr xs 0 fun j y _ => ?_
 unfold ok106 ok41
 rw [one_Group,le_not]
theorem one_Check (x:TyB0):g155_0 x=g94_0 x:=by
 unfold g155_0 g94_0
 rw [name_eq]
 rfl
theorem list_Check (xs:List TyB0):g137_0 xs=g66_0 xs:=by
 unfold g137_0 g66_0
 congr 1
 refine allI_congr xs 0 fun j y _ => ?_
 unfold ok137 ok66
 rw [one_Check,le_not]
theorem word_eq (w : ByteArray) : g175_0 w = g126_0 w := by
  have hb : ∀ b : Int, (!g187_0 b) = ok126 b := fun b => by
    unfold g187_0 ok126 g124_0
    by_cases h1 : b < 97 <;> by_cases h2 : b > 122 <;> by_cases h3 : b < 48 <;> by_cases h4 : b > 57 <;>
      first
        | omega
        | (have e1 : (97 ≤ b) ↔ ¬ b < 97 := by omega
           have e2 : (b ≤ 122) ↔ ¬ b > 122 := by omega
           have e3 : (b ≥ 48) ↔ ¬ b < 48 := by omega
           have e4 : (b ≤ 57) ↔ ¬ b > 57 := by omega
           simp [e1, e2, e3, e4, h1, h2, h3, h4])
  have ha : (!g186c187_0 (bytesOf w)) = (bytesOf w).all ok126 := by
    unfold g186c187_0
    rw [any194c187]
    induction bytesOf w with
    | nil => rfl
    | cons b r ih => rw [List.any_cons, List.all_cons, Bool.not_or, ih, hb]
  unfold g175_0 g126_0
  rw [ha]
  by_cases h : w = ByteArray.mk #[]
  · subst h
    have h1 : (ByteArray.toList (ByteArray.mk #[]) == ByteArray.toList (ByteArray.mk #[])) = true := beq_self_eq_true _
    have h2 : decide (((ByteArray.mk #[]).size : Int) > 0) = false := by decide
    rw [h1, h2, Bool.and_false]
    rfl
  · have h1 : (ByteArray.toList w == ByteArray.toList (ByteArray.mk #[])) = false := by
      rw [Bool.eq_false_iff]; exact fun hh => h ((bytes_eq _ _).1 hh)
    have h2 : decide ((w.size : Int) > 0) = true := by
      refine decide_eq_true ?_
      rcases Nat.lt_or_ge 0 w.size with h3 | h3
      · omega
      · exact absurd (bytesOf_inj (s := w) (t := ByteArray.mk #[]) (List.eq_nil_of_length_eq_zero (by rw [bytesOf_length]; omega))) h
    rw [h1, h2, Bool.and_true]
    rfl
theorem text_eq (s:ByteArray):g158_0 s=g96_0 s:=by
 have e:g173_0 s (ByteArray.mk #[32])=g125_0 s 32:=splitB_one 32 s
 have hw:∀ w,(!g174_0 w)=g126_0 w:=fun w=>by
  unfold g174_0
  rw [Bool.not_not,word_eq]
 have ha:∀ l:List ByteArray,(!g172c174_0 l)=l.all g126_0:=fun l=>by
  unfold g172c174_0
  rw [any184c174]
  induction l with
  | nil=>rfl
  | cons b r ih=>rw [List.any_cons,List.all_cons,Bool.not_or,ih,hw]
 unfold g158_0 g96_0
 rw [e,ha]
 by_cases h0:s.size=0
 ·have hn:s.data.toList=[]:=List.eq_nil_of_length_eq_zero h0
  have es:g125_0 s 32=[⟨⟨[]⟩⟩]:=by
   show bss (splitC (32:UInt8) s.data.toList)=_
   rw [hn];rfl
  rw [es]
  have ew:g126_0 ⟨⟨[]⟩⟩=false:=rfl
  simp [h0,ew]
 ·by_cases h1:(s.size:Int)≤40
  ·have h2:¬ (s.size:Int)>40:=by omega
   have h3:(((s.size:Nat):Int)==0)=false:=by rw [beq_eq_false_iff_ne];omega
   rw [decide_eq_true h1,decide_eq_false h2,h3]
   rfl
  ·have h2:(s.size:Int)>40:=by omega
   rw [decide_eq_false h1,decide_eq_true h2]
   simp
theorem one_Line (x:Int×Int×ByteArray×Int×Unit):g143_0 x=g72_0 x:=by
 unfold g143_0 g72_0
 rw [text_eq]
 rfl
theorem list_Line (xs:List TyB2):g111_0 xs=g45_0 xs:=by
 unfold g111_0 g45_0
 congr 1
 refine allI_congr xs 0 fun j y _ => ?_
 unfold ok111 ok45
 rw [one_Line]
 rfl
theorem track_eq (x:List TyB4×Int×Int×Unit):g102_0 x=g37_0 x:=rfl
theorem brake_eq (x:Int×Int×Unit):g104_0 x=g39_0 x:=rfl
theorem profile_eq (x:Int×Int×Int×Int×Unit):g105_0 x=g40_0 x:=rfl
theorem room_eq (x:Int×Int×Int×Unit):g107_0 x=g42_0 x:=rfl
theorem list_Ride (x:List TyB4):g109_0 x=g70_0 x:=rfl
theorem insp_eq (xs:List TyB0) (d r:Int):g108_0 xs d r 0=g43_0 xs d r:=by
 have h0:g138_0 0=true:=rfl
 have ha:g140c141_0 xs d r = !xs.all (q43 d r):=by
  unfold g140c141_0
  rw [any156c141]
  induction xs with
  | nil=>rfl
  | cons x l ih =>
   have hx:g141_0 x d r = !q43 d r x:=by
    unfold g141_0 q43 g69_0
    by_cases h1:x.2.2.2.1>d
    ·have h1':¬ x.2.2.2.1≤d:=by omega
     simp [h1,h1']
    ·have h1':x.2.2.2.1≤d:=by omega
     by_cases h2:x.2.2.2.2.1>r
     ·have h2':¬ x.2.2.2.2.1≤r:=by omega
      simp [h1,h1',h2,h2']
     ·have h2':x.2.2.2.2.1≤r:=by omega
      simp [h1,h1',h2,h2']
   rw [List.any_cons,List.all_cons,Bool.not_and,ih,hx]
 unfold g108_0 g43_0
 rw [ha,list_Check,h0]
 have e1:g139_0 d=g67_0 d:=rfl
 have e2:g138_0 r=g68_0 r:=rfl
 rw [e1,e2]
 cases g66_0 xs <;> cases g67_0 d <;> cases g68_0 r <;> cases xs.all (q43 d r) <;> rfl
theorem ask_ride (xs:List TyB4) (t:Int):(g44_0 xs t==0)=(g70_0 xs&&g110_0 t):=by
 unfold g44_0
 have e:g110_0 t=g71_0 t:=rfl
 rw [e]
 cases g70_0 xs <;> cases g71_0 t <;> rfl
theorem valid_works (x:(TyA0)):g82_0 x=g14_0 x:=by
 unfold g82_0 g14_0
 rw [track_eq,brake_eq,profile_eq,list_Group,room_eq,insp_eq,list_Ride,list_Line,ask_ride]
 have e:g103_0 x.2.1=g38_0 x.2.1:=rfl
 rw [e]
 generalize g43_0 x.2.2.2.2.2.2.1 x.2.2.2.2.2.2.2.1 x.2.2.2.2.2.2.2.2.1=n
 cases g37_0 x.1 <;> cases g38_0 x.2.1 <;> cases g39_0 x.2.2.1 <;> simp
 cases g40_0 x.2.2.2.1 <;> cases g41_0 x.2.2.2.2.1 <;> cases g42_0 x.2.2.2.2.2.1 <;> simp
 by_cases hn:n=0
 ·simp only [hn,if_true]
  simp [Bool.and_assoc]
 ·simp [hn]
theorem within_m {n a b:Int} (h:g134_0 n a b=true):a≤n∧n≤b:=by
 unfold g134_0 at h
 split at h
 ·rename_i h1
  simp only [decide_eq_true_eq] at h h1
  exact ⟨h1,h⟩
 ·cases h
theorem track_ok {t:List TyB4×Int×Int×Unit} (h:g102_0 t=true):(1≤t.1.length∧t.1.length≤12)∧(∀ x∈t.1,(1≤x.1∧x.1≤3000000)∧(0≤x.2.1∧x.2.1≤900))∧(0≤g113_0 t∧g113_0 t≤3000000)∧(0≤t.2.1∧t.2.1≤g113_0 t)∧(t.2.1≤t.2.2.1∧t.2.2.1≤g113_0 t):=by
 unfold g102_0 at h
 simp only [Bool.and_eq_true,decide_eq_true_eq] at h
 obtain ⟨⟨h1,h2,h3⟩,h4⟩:=h
 have hx:∀ x∈t.1,(1≤x.1∧x.1≤3000000)∧(0≤x.2.1∧x.2.1≤900):=fun x hx=>by
  have:=List.all_eq_true.1 h1 x hx
  unfold ok102 at this
  rw [Bool.and_eq_true] at this
  exact ⟨within_m this.1,within_m this.2⟩
 have hs:=sum113_le t.1 (fun x hm=>by have:=hx x hm;omega)
 unfold fine102 at h4
 split at h4
 ·rename_i h5
  split at h4
  ·rename_i h6
   exact ⟨⟨h2,h3⟩,hx,⟨hs.1,of_decide_eq_true h5⟩,within_m h6,within_m h4⟩
  ·cases h4
 ·cases h4
theorem brake_ok {b:Int×Int×Unit} (h:g104_0 b=true):(0≤b.1∧b.1≤100)∧(1≤b.2.1∧b.2.1≤10000):=by
 unfold g104_0 at h
 split at h
 ·rename_i h1
  exact ⟨within_m h1,within_m h⟩
 ·cases h
theorem profile_ok {p:Int×Int×Int×Int×Unit} (h:g105_0 p=true):(1≤p.1∧p.1≤2000)∧(100≤p.2.1∧p.2.1≤15000)∧(100≤p.2.2.1∧p.2.2.1≤p.2.1)∧(0≤p.2.2.2.1∧p.2.2.2.1≤3000000):=by
 unfold g105_0 g103_0 at h
 split at h
 ·rename_i h1
  split at h
  ·rename_i h2
   split at h
   ·rename_i h3
    exact ⟨within_m h1,within_m h2,within_m h3,within_m h⟩
   ·cases h
  ·cases h
 ·cases h
theorem len_same (t:List TyB4×Int×Int×Unit):g64_0 t=g113_0 t:=rfl
theorem mul_bd {a b A B:Int} (ha:0≤a) (ha2:a≤A) (hb:0≤b) (hb2:b≤B):0≤a*b∧a*b≤A*B :=
 ⟨Int.mul_nonneg ha hb,Int.mul_le_mul ha2 hb2 hb (Int.le_trans ha ha2)⟩
theorem near_div {a:Int} (h:0≤a∧a≤100000000):P190 a 100∧P183 a 100∧g190_0 a 100=g183_0 a 100∧0≤g183_0 a 100∧g183_0 a 100≤10000000:=by
 have e1:Int.tdiv a 100=a / 100:=Int.tdiv_eq_ediv_of_nonneg h.1
 have e2:Int.tmod a 100=a % 100:=Int.tmod_eq_emod_of_nonneg h.1
 have e3:Int.tdiv (2*a+100) (2*100)=(2*a+100) / 200:=Int.tdiv_eq_ediv_of_nonneg (by omega)
 have n1:decide (a<0)=false:=decide_eq_false (by omega)
 have n2:decide ((100:Int)<0)=false:=by decide
 have n3:decide (a % 100<0)=false:=decide_eq_false (by omega)
 have i1:InR .i64 (a / 100):=by rw [i64_iff];omega
 have i2:InR .i64 (a % 100):=by rw [i64_iff];omega
 have i3:InR .i64 (100 - a % 100):=by rw [i64_iff];omega
 have i4:InR .i64 (a / 100+1):=by rw [i64_iff];omega
 have i5:InR .i64 (2*a):=by rw [i64_iff];omega
 have i6:InR .i64 (2*a+100):=by rw [i64_iff];omega
 have i7:InR .i64 (2*100):=by rw [i64_iff];omega
 have i8:InR .i64 ((2*a+100) / 200):=by rw [i64_iff];omega
 unfold P190 P183 g190_0 g183_0 P145 g145_0
 simp only [e1,e2,e3,n1,n2,n3,Bool.false_eq_true,if_false,i1,i2,i3,i4,i5,i6,i7,i8,true_and,and_true,beq_self_eq_true,Bool.not_true,decide_eq_true_eq,ge_iff_le]
 refine ⟨?_,by decide,?_,by omega,by omega⟩
 ·refine ⟨by decide,by decide,?_⟩
  split <;> trivial
 ·split <;> omega
theorem force_same {b:Int×Int×Unit} (hb:(0≤b.1∧b.1≤100)∧(1≤b.2.1∧b.2.1≤10000)) {g:Int} (hg:0≤g∧g≤900) (d:Bool):P181 b g d∧P170 b g d∧g181_0 b g d=g170_0 b g d ∧ -100000000≤g170_0 b g d∧g170_0 b g d≤100000000:=by
 obtain ⟨n1,n2,n3,n4,n5⟩:=near_div (a:=g*981) ⟨by omega,by omega⟩
 have i1:InR .i64 (g*981):=by rw [i64_iff];omega
 unfold P181 P170 g181_0 g170_0
 rw [n3]
 cases d with
 | true =>
  simp only [if_true]
  exact ⟨⟨i1,n1,by rw [i64_iff];omega,trivial⟩,⟨i1,n2,by rw [i64_iff];omega,trivial⟩,by first | rfl | trivial,by omega,by omega⟩
 | false =>
  simp only [Bool.false_eq_true,if_false]
  exact ⟨⟨i1,n1,by rw [i64_iff];omega,trivial⟩,⟨i1,n2,by rw [i64_iff];omega,trivial⟩,by first | rfl | trivial,by omega,by omega⟩
theorem up_ok {a b:Int} (ha:0≤a∧a≤1000000000) (hb:1≤b∧b≤1000000000):P182 a b∧P171 a b∧g182_0 a b=g171_0 a b∧0≤g171_0 a b∧g171_0 a b≤2000000000:=by
 have e:Int.tdiv (a+b - 1) b=(a+b - 1) / b:=Int.tdiv_eq_ediv_of_nonneg (by omega)
 have h1:0≤(a+b - 1) / b:=Int.ediv_nonneg (by omega) (by omega)
 have h2:(a+b - 1) / b≤a+b - 1:=Int.ediv_le_self b (by omega)
 have p:InR .i64 (a+b)∧InR .i64 (a+b - 1)∧b≠0∧InR .i64 (Int.tdiv (a+b - 1) b)∧True:=⟨by rw [i64_iff];omega,by rw [i64_iff];omega,by omega,by rw [e,i64_iff];omega,trivial⟩
 refine ⟨p,p,rfl,?_,?_⟩
 ·show 0≤Int.tdiv (a+b - 1) b
  omega
 ·show Int.tdiv (a+b - 1) b≤2000000000
  omega
theorem way_same {b:Int×Int×Unit} (hb:(0≤b.1∧b.1≤100)∧(1≤b.2.1∧b.2.1≤10000)) {g s:Int} (hg:0≤g∧g≤900) (hs:0≤s∧s≤15000) (d:Bool):P166 b s g d∧P153 b s g d ∧
  ((g166_1 b s g d=true∧0≤g166_0 b s g d∧g153_0 b s g d=g166_0 b s g d)∨(g166_1 b s g d=false∧g153_0 b s g d = -1)):=by
 obtain ⟨f1,f2,f3,f4,f5⟩:=force_same hb hg d
 obtain ⟨m1,m2⟩:=mul_bd hs.1 hs.2 hb.1.1 hb.1.2
 obtain ⟨m3,m4⟩:=mul_bd hs.1 hs.2 hs.1 hs.2
 unfold P166 P153 g166_1 g166_0 g153_0
 rw [f3]
 generalize g170_0 b g d=f at *
 by_cases hf:f≤0
 ·rw [decide_eq_true hf]
  simp only [if_true]
  exact ⟨⟨f1,trivial⟩,⟨f2,trivial⟩,.inr ⟨by first | rfl | trivial,by first | rfl | trivial⟩⟩
 ·rw [decide_eq_false hf]
  simp only [Bool.false_eq_true,if_false]
  obtain ⟨u1,u2,u3,u4,u5⟩:=up_ok (a:=s*b.1) (b:=10) ⟨m1,by omega⟩ ⟨by omega,by omega⟩
  obtain ⟨v1,v2,v3,v4,v5⟩:=up_ok (a:=s*s) (b:=2*f) ⟨m3,by omega⟩ ⟨by omega,by omega⟩
  rw [u3,v3]
  exact ⟨⟨f1,by rw [i64_iff];omega,u1,by rw [i64_iff];omega,by rw [i64_iff];omega,v1,by rw [i64_iff];omega,trivial⟩,⟨f2,by rw [i64_iff];omega,u2,by rw [i64_iff];omega,by rw [i64_iff];omega,v2,by rw [i64_iff];omega,trivial⟩,.inl ⟨by first | rfl | trivial,by omega,by first | rfl | trivial⟩⟩
theorem grade_ok {t:List TyB4×Int×Int×Unit} (ht:(1≤t.1.length∧t.1.length≤12)∧(∀ x∈t.1,(1≤x.1∧x.1≤3000000)∧(0≤x.2.1∧x.2.1≤900))) {x:Int} (hx:0≤x∧x≤3000000) (d:Bool) :
  P149 t d∧P152 t x∧g149_0 t d=worstL d (g152_0 t x) t.1∧0≤g149_0 t d∧g149_0 t d≤900:=by
 obtain ⟨⟨h1,h2⟩,h3⟩:=ht
 have ps:P169 t x:=⟨⟨h1,by omega⟩,fun y hy=>by have:=h3 y hy;omega,hx.1,by omega⟩
 obtain ⟨s1,s2⟩:=in169 t x ps
 have m0:=mem_getD t.1 0 ((0:Int),(0:Int),()) (by omega)
 have m1:=mem_getD t.1 (g169_0 t x).toNat ((0:Int),(0:Int),()) (by omega)
 have e:g149_0 t d=worstL d (g152_0 t x) t.1:=worst_same d t.1 _ _ ⟨_,m0,rfl⟩ ⟨_,m1,rfl⟩
 refine ⟨⟨h1,by omega⟩,⟨ps,s1,s2,trivial⟩,e,?_⟩
 rcases worst_mem d t.1 (t.1.getD 0 ((0:Int),(0:Int),())).2.1 with h | ⟨y,hy,h⟩
 ·show 0≤worstL d (t.1.getD 0 ((0:Int),(0:Int),())).2.1 t.1∧worstL d (t.1.getD 0 ((0:Int),(0:Int),())).2.1 t.1≤900
  rw [h]
  exact (h3 _ m0).2
 ·show 0≤worstL d (t.1.getD 0 ((0:Int),(0:Int),())).2.1 t.1∧worstL d (t.1.getD 0 ((0:Int),(0:Int),())).2.1 t.1≤900
  rw [h]
  exact (h3 _ hy).2
theorem time_same {t:List TyB4×Int×Int×Unit} {b:Int×Int×Unit} (ht:g102_0 t=true) (hb:g104_0 b=true) {x s:Int} (hx:0≤x∧x≤g113_0 t) (hs:0≤s∧s≤15000) (d:Bool) :
  P118 t b x s d∧P99 t b x s d∧g118_0 t b x s d=g99_0 t b x s d:=by
 obtain ⟨t1,t2,t3,_⟩:=track_ok ht
 obtain ⟨g1,g2,g3,g4⟩:=grade_ok ⟨t1,t2⟩ (x:=x) ⟨hx.1,by omega⟩ d
 obtain ⟨w1,w2,w3⟩:=way_same (brake_ok hb) g4 hs d
 have pl:P113 t:=⟨by omega,fun y hy=>by have:=t2 y hy;omega⟩
 have pls:P64 t:=pl
 have eo:g130_0 t b x s d=g153_0 b s (g149_0 t d) d:=by
  rw [g3]
  rfl
 have po:P130 t b x s d:=⟨by omega,g2,by rw [← g3];exact w2⟩
 have i1:InR .i64 (g113_0 t - x):=by rw [i64_iff];omega
 unfold P118 P99 g118_0 g99_0 P148 g148_0
 rw [eo,len_same]
 cases d with
 | true =>
  simp only [if_true]
  refine ⟨⟨pl,i1,g1,⟨w1,trivial⟩,trivial⟩,⟨po,pls,i1,trivial⟩,?_⟩
  rcases w3 with ⟨a1,a2,a3⟩ | ⟨a1,a2⟩
  ·rw [a1,a3,if_pos rfl,decide_eq_true (show g166_0 b s (g149_0 t true) true≥0 from a2),if_pos rfl]
  ·rw [a1,a2]
   rfl
 | false =>
  simp only [Bool.false_eq_true,if_false]
  refine ⟨⟨pl,i1,g1,⟨w1,trivial⟩,trivial⟩,⟨po,pls,i1,trivial⟩,?_⟩
  rcases w3 with ⟨a1,a2,a3⟩ | ⟨a1,a2⟩
  ·rw [a1,a3,if_pos rfl,decide_eq_true (show g166_0 b s (g149_0 t false) false≥0 from a2),if_pos rfl]
  ·rw [a1,a2]
   rfl
theorem may_ok {p:Int×Int×Int×Int×Unit} (hp:(1≤p.1∧p.1≤2000)∧(100≤p.2.1∧p.2.1≤15000)∧(100≤p.2.2.1∧p.2.2.1≤p.2.1)∧(0≤p.2.2.2.1∧p.2.2.2.1≤3000000)) {l:Int} (hl:0≤l∧l≤3000000) (v:Int) (hv:0≤v∧v≤20000) :
  P129 p v l∧P165 v p l∧g165_0 v p l = !g129_0 p v l∧(g129_0 p v l=true↔v*v≤p.2.2.1*p.2.2.1+2*p.1*(if 0<l - v - p.2.2.2.1 then l - v - p.2.2.2.1 else 0)):=by
 obtain ⟨m1,m2⟩:=mul_bd hv.1 hv.2 hv.1 hv.2
 obtain ⟨m3,m4⟩:=mul_bd (a:=p.2.2.1) (b:=p.2.2.1) (A:=15000) (B:=15000) (by omega) (by omega) (by omega) (by omega)
 have em:g127_0 0 (l - v - p.2.2.2.1)=if 0<l - v - p.2.2.2.1 then l - v - p.2.2.2.1 else 0:=by
  unfold g127_0
  by_cases h:(0:Int)>l - v - p.2.2.2.1
  ·rw [if_pos (by simpa using h),if_neg (by omega)]
  ·rw [if_neg (by simpa using h)]
   split <;> omega
 have hmax:0≤(if 0<l - v - p.2.2.2.1 then l - v - p.2.2.2.1 else 0)∧(if 0<l - v - p.2.2.2.1 then l - v - p.2.2.2.1 else 0)≤3000000:=by split <;> omega
 unfold P129 P165 g165_0 g129_0
 rw [em]
 generalize (if 0<l - v - p.2.2.2.1 then l - v - p.2.2.2.1 else 0)=x at *
 obtain ⟨m5,m6⟩:=mul_bd (a:=2*p.1) (b:=x) (A:=4000) (B:=3000000) (by omega) (by omega) hmax.1 hmax.2
 refine ⟨⟨by rw [i64_iff];omega,by rw [i64_iff];omega,by rw [i64_iff];omega,by rw [i64_iff];omega,by rw [i64_iff];omega,by rw [i64_iff];omega,by rw [i64_iff];omega,by first | trivial | exact ⟨trivial,trivial⟩⟩,⟨by rw [i64_iff];omega,by rw [i64_iff];omega,by rw [i64_iff];omega,by rw [i64_iff];omega,by rw [i64_iff];omega,by rw [i64_iff];omega,by rw [i64_iff];omega,trivial⟩,?_,decide_eq_true_iff⟩
 by_cases h:v*v>p.2.2.1*p.2.2.1+2*p.1*x
 ·rw [decide_eq_true h,decide_eq_false (by omega)]
  rfl
 ·rw [decide_eq_false h,decide_eq_true (by omega)]
  rfl
theorem next_same {p:Int×Int×Int×Int×Unit} (hp:g105_0 p=true) {s l:Int} (hs:0≤s∧s≤15000) (hl:1≤l∧l≤3000000) :
  P147 p s l∧P98 p s l∧g147_0 p s l=g98_0 p s l∧1≤g147_0 p s l∧g147_0 p s l≤l∧g147_0 p s l≤15000:=by
 have hq:=profile_ok hp
 obtain ⟨h1,h2,h3,h4⟩:=hq
 have hm:=fun v hv=>may_ok (p:=p) ⟨h1,h2,h3,h4⟩ (l:=l) ⟨by omega,hl.2⟩ v hv
 have ps:P98 p s l:=⟨by omega,by omega,by omega,hs,fun v a b=>(hm v ⟨a,b⟩).1⟩
 obtain ⟨H,hH⟩:∃ H,(if s+p.1<p.2.1 then s+p.1 else p.2.1)=H:=⟨_,rfl⟩
 have hHb:1≤H∧H≤15000:=by rw [← hH];split <;> omega
 have et:top98 p s=if p.2.2.1>H then p.2.2.1 else H:=by
  unfold top98 g127_0 g128_0
  have e:(if decide (p.2.1<s+p.1)=true then p.2.1 else s+p.1)=H:=by
   rw [← hH]
   simp only [decide_eq_true_eq]
   split <;> split <;> omega
  rw [e]
  simp only [decide_eq_true_eq]
 have mn:∀ a b:Int,g128_0 a b=if b<a then b else a:=fun a b=>by
  unfold g128_0
  simp only [decide_eq_true_eq]
  split <;> split <;> omega
 by_cases hc:H>p.2.2.1
 ·have pl:P164c165 p.2.2.1 H p l:=⟨⟨by omega,by omega,by omega⟩,fun v a b=>(hm v ⟨a,by omega⟩).2.1⟩
  have eb:g164c165_0 p.2.2.1 H p l - 1=bsS (fun v=>g129_0 p v l) (H - p.2.2.1).toNat p.2.2.1 H:=by
   refine bs_same (fun v=>g129_0 p v l) (fun v=>g165_0 v p l) p.2.2.1 H _ _ (by omega) hc (by omega) (by omega) (fun v a b=>(hm v ⟨by omega,by omega⟩).2.2.1) ?_ (fun v v' a b c d => ?_)
   ·refine (hm p.2.2.1 ⟨by omega,by omega⟩).2.2.2.2 ?_
    have hx:0≤(if 0<l - p.2.2.1 - p.2.2.2.1 then l - p.2.2.1 - p.2.2.2.1 else 0):=by split <;> omega
    have:=Int.mul_nonneg (show (0:Int)≤2*p.1 by omega) hx
    omega
   ·have d:=(hm v' ⟨by omega,by omega⟩).2.2.2.1 d
    refine (hm v ⟨by omega,by omega⟩).2.2.2.2 ?_
    have m1:v*v≤v'*v':=Int.mul_le_mul b b (by omega) (by omega)
    have hx:(if 0<l - v' - p.2.2.2.1 then l - v' - p.2.2.2.1 else 0)≤(if 0<l - v - p.2.2.2.1 then l - v - p.2.2.2.1 else 0):=by split <;> split <;> omega
    have m2:=Int.mul_le_mul_of_nonneg_left hx (show (0:Int)≤2*p.1 by omega)
    omega
  have eq:g98_0 p s l=if l<g164c165_0 p.2.2.1 H p l - 1 then l else g164c165_0 p.2.2.1 H p l - 1:=by
   unfold g98_0
   rw [et,if_neg (by omega),mn, ← eb]
  have hb:=bsS_ok (fun v=>g129_0 p v l) p.2.2.1 H (H - p.2.2.1).toNat p.2.2.1 H (by omega) (by omega) (by omega) (.inl rfl) (.inl rfl) (Int.le_refl _) (Int.le_refl _)
  rw [← eb] at hb
  have ei:g147_0 p s l=if l<g164c165_0 p.2.2.1 H p l - 1 then l else g164c165_0 p.2.2.1 H p l - 1:=by
   unfold g147_0
   rw [hH,if_pos (by simpa using hc)]
  have pi:P147 p s l:=by
   unfold P147
   rw [hH,if_pos (by simpa using hc)]
   exact ⟨by rw [i64_iff];omega,pl,by rw [i64_iff];omega,trivial⟩
  refine ⟨pi,ps,by rw [ei,eq],?_⟩
  rw [ei]
  split <;> omega
 ·have eq:g98_0 p s l=if l<p.2.2.1 then l else p.2.2.1:=by
   unfold g98_0
   have e:top98 p s=p.2.2.1:=by rw [et];split <;> omega
   rw [e,mn,show (p.2.2.1 - p.2.2.1).toNat=0 by omega]
   rfl
  have ei:g147_0 p s l=if l<p.2.2.1 then l else p.2.2.1:=by
   unfold g147_0
   rw [hH,if_neg (by simpa using hc)]
  have pi:P147 p s l:=by
   unfold P147
   rw [hH,if_neg (by simpa using hc)]
   exact ⟨by rw [i64_iff];omega,trivial⟩
  refine ⟨pi,ps,by rw [ei,eq],?_⟩
  rw [ei]
  split <;> omega
theorem unsafe_same {t:List TyB4×Int×Int×Unit} {b:Int×Int×Unit} {p:Int×Int×Int×Int×Unit} (ht:g102_0 t=true) (hb:g104_0 b=true) (hp:g105_0 p=true) (d:Bool) :
  P86 t b p d∧P76 t b p d ∧
  ((g86_1 t b p d=0∧0≤g76_0 t b p d∧g76_0 t b p d≤3000000∧g86_0 t b p d=g76_0 t b p d)∨(g86_1 t b p d=3∧g76_0 t b p d = -1)):=by
 obtain ⟨t1,t2,t3,_⟩:=track_ok ht
 have pl:P113 t:=⟨by omega,fun y hy=>by have:=t2 y hy;omega⟩
 have hn:=fun s l (a:0≤s) (b:s≤15000) (c:1≤l) (d:l≤g113_0 t)=>next_same hp (s:=s) (l:=l) ⟨a,b⟩ ⟨c,by omega⟩
 have h1:P86 t b p d:=fun _ _ _=>⟨pl,t3,fun s l a b c e=>⟨(hn s l a b c e).1,(hn s l a b c e).2.2.2⟩,fun place s k fd a b' c e f g=>by
  have q1:=(time_same ht hb (x:=place) (s:=s) ⟨a,b'⟩ ⟨c,e⟩ d).1
  have q2:=(time_same ht hb (x:=g113_0 t - place) (s:=s) ⟨by omega,by omega⟩ ⟨c,e⟩ d).1
  unfold P117
  refine ⟨by rw [i64_iff];omega,?_⟩
  split
  ·refine ⟨by rw [i64_iff];omega,?_⟩
   split
   ·exact ⟨q2,trivial⟩
   ·trivial
  ·split
   ·exact ⟨q1,trivial⟩
   ·trivial⟩
 have h2:P76 t b p d:=by
  refine ⟨pl,t3,fun s l a b c e => ?_,fun place s a b' c e => ?_⟩
  ·obtain ⟨_,q1,q2,q3,q4,q5⟩:=hn s l a b c e
   rw [q2] at q3 q4 q5
   exact ⟨q1,q3,q4,q5⟩
  ·cases d with
   | true=>exact (time_same ht hb (x:=g113_0 t - place) (s:=s) ⟨by rw [len_same] at b';omega,by omega⟩ ⟨c,e⟩ true).2.1
   | false=>exact (time_same ht hb (x:=place) (s:=s) ⟨a,b'⟩ ⟨c,e⟩ false).2.1
 have hr:run86 t b p d=run76 t b p d:=by
  refine rideL_congr (n:=g113_0 t) (fun s l a b c e => ?_) (fun place s a b' c e => ?_) _ 0 0 0 (Int.le_refl _) (Int.le_refl _) (by decide)
  ·obtain ⟨_,_,q2,q3,q4,q5⟩:=hn s l a b c e
   exact ⟨q2,q3,q4,q5⟩
  ·unfold bad86 bad76
   cases d with
   | true=>rw [if_pos rfl];exact congrArg _ (time_same ht hb (x:=g113_0 t - place) (s:=s) ⟨by omega,by omega⟩ ⟨c,e⟩ true).2.2
   | false=>rw [if_neg (by decide)];exact congrArg _ (time_same ht hb (x:=place) (s:=s) ⟨a,by omega⟩ ⟨c,e⟩ false).2.2
 refine ⟨h1,h2,?_⟩
 unfold g86_1 g86_0 g76_0
 rw [ht,hb,hp,hr]
 simp only [Bool.and_self,if_true]
 cases hx:run76 t b p d with
 | none=>exact .inr ⟨rfl,rfl⟩
 | some r =>
  rw [← hr] at hx
  have:=rideNon86 (Int.le_refl 0) hx
  exact .inl ⟨rfl,by show 0≤r;omega,by show r≤3000000;omega,rfl⟩
theorem notT {b y:Bool} (h:(if (!b)=true then false else y)=true):b=true∧y=true:=by cases b <;> simp_all
theorem neT {n:Int} {y:Bool} (h:(if (n != 0)=true then false else y)=true):n=0∧y=true:=by
 by_cases hn:n=0
 ·subst hn;exact ⟨rfl,h⟩
 ·rw [if_pos (by simpa using hn)] at h;cases h
theorem eqT {n:Int} {y:Bool} (h:(if (n==0)=true then y else false)=true):n=0∧y=true:=by
 by_cases hn:n=0
 ·subst hn;exact ⟨rfl,h⟩
 ·rw [if_neg (by simpa using hn)] at h;cases h
theorem works_ok (x:(TyA0)) (h:g14_0 x=true):g37_0 x.1=true∧g38_0 x.2.1=true∧g39_0 x.2.2.1=true∧g40_0 x.2.2.2.1=true∧g41_0 x.2.2.2.2.1=true∧g42_0 x.2.2.2.2.2.1=true∧g43_0 x.2.2.2.2.2.2.1 x.2.2.2.2.2.2.2.1 x.2.2.2.2.2.2.2.2.1=0∧g44_0 x.2.2.2.2.2.2.2.2.2.1 x.2.2.2.2.2.2.2.2.2.2.1=0∧g45_0 x.2.2.2.2.2.2.2.2.2.2.2.1=true:=by
 unfold g14_0 at h
 obtain ⟨h1,h⟩:=notT h
 obtain ⟨h2,h⟩:=notT h
 obtain ⟨h3,h⟩:=notT h
 obtain ⟨h4,h⟩:=notT h
 obtain ⟨h5,h⟩:=notT h
 obtain ⟨h6,h⟩:=notT h
 obtain ⟨h7,h⟩:=neT h
 obtain ⟨h8,h⟩:=eqT h
 exact ⟨h1,h2,h3,h4,h5,h6,h7,h8,h⟩
theorem max_m (a b:Int):g127_0 a b=if a<b then b else a:=by
 unfold g127_0
 by_cases h:a>b
 ·rw [if_pos (by simpa using h),if_neg (by omega)]
 ·rw [if_neg (by simpa using h)]
  split <;> omega
theorem min_m (a b:Int):g128_0 a b=if b<a then b else a:=by
 unfold g128_0
 by_cases h:a<b
 ·rw [if_pos (by simpa using h),if_neg (by omega)]
 ·rw [if_neg (by simpa using h)]
  split <;> omega
theorem safe_same {t:List TyB4×Int×Int×Unit} (ht:g102_0 t=true) (c:Int) :
  P83 t c∧P73 t c∧P84 t∧P75 t∧g83_0 t c=g73_0 t c∧(g73_0 t c=false→g84_0 t=g75_0 t∧0≤g75_0 t∧g75_0 t≤3000000):=by
 obtain ⟨t1,t2,t3,t4,t5⟩:=track_ok ht
 have pl:P113 t:=⟨by omega,fun y hy=>by have:=t2 y hy;omega⟩
 have pls:P64 t:=pl
 have pp:P112 t:=⟨pl,by rw [i64_iff];omega,pl,by rw [i64_iff];omega,trivial⟩
 have ps:P97 t:=⟨pls,by rw [len_same,i64_iff];omega,by rw [len_same,i64_iff];omega,trivial⟩
 have e0:g97_0 t=g112_0 t:=by
  unfold g97_0 g112_0
  rw [max_m,len_same]
 have e1:g97_1 t=g112_1 t:=by
  unfold g97_1 g112_1
  rw [min_m,len_same]
 have e2:g112_2 t=decide (g112_0 t≤g112_1 t):=rfl
 have hb:(0≤g112_0 t∧g112_0 t≤g113_0 t)∧g112_0 t+g112_1 t=g113_0 t:=by
  unfold g112_0 g112_1
  split <;> split <;> omega
 have hm:Int.tmod (g113_0 t) 2=g113_0 t % 2:=Int.tmod_eq_emod_of_nonneg t3.1
 unfold P83 P73 P84 P75 g83_0 g73_0 g84_0 g84_1 g75_0 P114 g114_0 P145 g145_0
 rw [e0,e1,e2,len_same,hm]
 generalize g112_0 t=lo at *
 generalize g112_1 t=hi at *
 generalize g113_0 t=n at *
 by_cases hc:lo≤hi
 ·have d1:decide (lo≤hi)=true:=decide_eq_true hc
  have d2:decide (lo>hi)=false:=decide_eq_false (by omega)
  by_cases hz:lo=0
  ·have d3:(lo==0)=true:=by simpa using hz
   simp only [d1,d2,d3,Bool.not_true,Bool.false_eq_true,if_false,if_true,Bool.not_false,pp,ps,pl,pls,true_and,and_true]
   simp
  ·have d3:(lo==0)=false:=by simpa using hz
   have d4:decide (n - 2*(lo - 1)<0)=false:=decide_eq_false (by omega)
   have i1:InR .i64 (lo - 1):=by rw [i64_iff];omega
   have i2:InR .i64 (2*(lo - 1)):=by rw [i64_iff];omega
   have i3:InR .i64 (n - 2*(lo - 1)):=by rw [i64_iff];omega
   simp only [d1,d2,d3,d4,i1,i2,i3,Bool.not_true,Bool.false_eq_true,if_false,if_true,Bool.not_false,pp,ps,pl,pls,true_and,and_true]
   omega
 ·have d1:decide (lo≤hi)=false:=decide_eq_false hc
  have d2:decide (lo>hi)=true:=decide_eq_true (by omega)
  have i1:InR .i64 (n % 2):=by rw [i64_iff];omega
  simp only [d1,d2,i1,Bool.not_true,Bool.false_eq_true,if_false,if_true,Bool.not_false,pp,ps,pl,pls,true_and,and_true]
  omega
theorem part_motion (x:(TyA0)) (h:g14_0 x=true):P55 x∧P46 x∧g55_0 x=g46_0 x∧(g46_0 x).length≤3:=by
 obtain ⟨h1,_,h3,h4,_⟩:=works_ok x h
 have ht:g102_0 x.1=true:=h1
 have hb:g104_0 x.2.2.1=true:=h3
 have hp:g105_0 x.2.2.2.1=true:=h4
 obtain ⟨s1,s2,s3,s4,s5,s6⟩:=safe_same ht x.2.1
 obtain ⟨u1,u2,u3⟩:=unsafe_same ht hb hp false
 obtain ⟨d1,d2,d3⟩:=unsafe_same ht hb hp true
 have hdec:∀ n:Int,0≤n→n≤3000000→P85 n∧g85_0 n=g74_0 n:=fun n _ _=>⟨⟨rfl,trivial⟩,rfl⟩
 have pm:P55 x:=by
  refine ⟨s1,fun hs=>⟨s3,?_⟩,⟨u1,fun hc => ?_⟩,d1,fun hc => ?_⟩
  ·obtain ⟨q1,q2,q3⟩:=s6 (by rw [← s5];simpa using hs)
   rw [q1]
   exact (hdec _ q2 q3).1
  ·rcases u3 with ⟨a1,a2,a3,a4⟩ | ⟨a1,a2⟩
   ·rw [a4];exact (hdec _ a2 a3).1
   ·rw [a1] at hc;exact absurd hc (by decide)
  ·rcases d3 with ⟨a1,a2,a3,a4⟩ | ⟨a1,a2⟩
   ·rw [a4];exact (hdec _ a2 a3).1
   ·rw [a1] at hc;exact absurd hc (by decide)
 have one:∀ (d:Bool) (who:ByteArray),((g86_1 x.1 x.2.2.1 x.2.2.2.1 d=0∧0≤g76_0 x.1 x.2.2.1 x.2.2.2.1 d∧g76_0 x.1 x.2.2.1 x.2.2.2.1 d≤3000000∧g86_0 x.1 x.2.2.1 x.2.2.2.1 d=g76_0 x.1 x.2.2.1 x.2.2.2.1 d)∨(g86_1 x.1 x.2.2.1 x.2.2.2.1 d=3∧g76_0 x.1 x.2.2.1 x.2.2.2.1 d = -1)) →
   one55 x who d=if decide (g76_0 x.1 x.2.2.1 x.2.2.2.1 d≥0)=true then [(2,who,g74_0 (g76_0 x.1 x.2.2.1 x.2.2.2.1 d),())] else []:=fun d who hd=>by
  unfold one55
  rcases hd with ⟨a1,a2,a3,a4⟩ | ⟨a1,a2⟩
  ·rw [a1,a4,if_pos (by decide),(hdec _ a2 a3).2,if_pos (by simpa using a2)]
  ·rw [a1,a2,if_neg (by decide),if_neg (by decide)]
 have trk:trk055 x=if (!g73_0 x.1 x.2.1)=true then [(1,ByteArray.mk #[99,97,114,115],g74_0 (g75_0 x.1),())] else []:=by
  unfold trk055
  rw [s5]
  cases hs:g73_0 x.1 x.2.1 with
  | true=>rw [if_neg (by decide),if_neg (by decide)]
  | false =>
   obtain ⟨q1,q2,q3⟩:=s6 hs
   rw [if_pos (by decide),if_pos (by decide),q1,(hdec _ q2 q3).2]
 refine ⟨pm,?_⟩
 have eg:g55_0 x=trk055 x++one55 x (ByteArray.mk #[117,112]) false++one55 x (ByteArray.mk #[100,111,119,110]) true:=rfl
 rw [eg,one false _ u3,one true _ d3,trk]
 unfold P46 g46_0
 cases c1:g73_0 x.1 x.2.1 <;> cases c2:decide (g76_0 x.1 x.2.2.1 x.2.2.2.1 false≥0) <;> cases c3:decide (g76_0 x.1 x.2.2.1 x.2.2.2.1 true≥0) <;> simp [c1,c2,c3,s2,s4,u2,d2]
theorem in_range' (n a b:Int) (h:g63_0 n a b=true):a≤n∧n≤b:=by
 unfold g63_0 at h
 split at h
 ·rename_i h1
  exact ⟨by simpa using h1,by simpa using h⟩
 ·cases h
theorem thenT {b y:Bool} (h:(if b=true then y else false)=true):b=true∧y=true:=by cases b <;> simp_all
theorem group_range (x:ByteArray×Int×Int×Int×Unit) (h:g65_0 x=true):1≤x.2.1∧x.2.1≤200∧0≤x.2.2.1∧x.2.2.1≤40∧0≤x.2.2.2.1∧x.2.2.2.1≤100000:=by
 unfold g65_0 at h
 obtain ⟨_,h⟩:=thenT h
 obtain ⟨h1,h⟩:=thenT h
 obtain ⟨h2,h3⟩:=thenT h
 have a1:=in_range' _ _ _ h1
 have a2:=in_range' _ _ _ h2
 have a3:=in_range' _ _ _ h3
 omega
theorem ride_range (x:Int×Int×Unit) (h:g95_0 x=true):0≤x.1∧x.1≤1440∧0≤x.2.1∧x.2.1≤1440:=by
 unfold g95_0 g71_0 at h
 obtain ⟨h1,h⟩:=thenT h
 obtain ⟨h2,h⟩:=thenT h
 have a1:=in_range' _ _ _ h1
 have a2:=in_range' _ _ _ h2
 omega
theorem check_range (x:TyB0) (h:g94_0 x=true):1≤x.2.1∧x.2.1≤100000∧1≤x.2.2.1∧x.2.2.1≤1000000∧0≤x.2.2.2.1∧x.2.2.2.1≤100000∧0≤x.2.2.2.2.1∧x.2.2.2.2.1≤1000000:=by
 unfold g94_0 g67_0 g68_0 at h
 obtain ⟨_,h⟩:=thenT h
 obtain ⟨h1,h⟩:=thenT h
 obtain ⟨h2,h⟩:=thenT h
 obtain ⟨h3,h4⟩:=thenT h
 have a1:=in_range' _ _ _ h1
 have a2:=in_range' _ _ _ h2
 have a3:=in_range' _ _ _ h3
 have a4:=in_range' _ _ _ h4
 omega
theorem groups_ok (l:List TyB1) (h:g41_0 l=true):(∀ x∈l,g65_0 x=true)∧l.length≤12:=by
 unfold g41_0 at h
 simp only [Bool.and_eq_true,decide_eq_true_eq] at h
 refine ⟨fun x hx => ?_,by omega⟩
 obtain ⟨j,hj⟩:=allI_mem _ _ h.1 x hx
 unfold ok41 at hj
 simp only [Bool.and_eq_true] at hj
 exact hj.1
theorem checks_ok (l:List TyB0) (h:g66_0 l=true):(∀ x∈l,g94_0 x=true)∧l.length≤16:=by
 unfold g66_0 at h
 simp only [Bool.and_eq_true,decide_eq_true_eq] at h
 refine ⟨fun x hx => ?_,by omega⟩
 obtain ⟨j,hj⟩:=allI_mem _ _ h.1 x hx
 unfold ok66 at hj
 simp only [Bool.and_eq_true] at hj
 exact hj.1
theorem rides_ok (l:List TyB4) (h:g70_0 l=true):(∀ x∈l,g95_0 x=true)∧l.length≤24:=by
 unfold g70_0 at h
 simp only [Bool.and_eq_true,decide_eq_true_eq] at h
 refine ⟨fun x hx => ?_,by omega⟩
 obtain ⟨j,hj⟩:=allI_mem _ _ h.1 x hx
 unfold ok70 one70 at hj
 simp only [Bool.and_eq_true] at hj
 exact hj.1
theorem ask_check {l:List TyB0} {d r:Int} (h:g43_0 l d r=0):g66_0 l=true∧0≤d∧d≤100000∧0≤r∧r≤1000000:=by
 unfold g43_0 at h
 by_cases h1:g66_0 l=true
 case neg=>rw [if_neg h1] at h;cases h
 by_cases h2:g67_0 d=true
 case neg=>rw [if_pos h1,if_neg h2] at h;cases h
 by_cases h3:g68_0 r=true
 case neg=>rw [if_pos h1,if_pos h2,if_neg h3] at h;cases h
 have a1:=in_range' _ _ _ (show g63_0 d 0 100000=true from h2)
 have a2:=in_range' _ _ _ (show g63_0 r 0 1000000=true from h3)
 exact ⟨h1,a1.1,a1.2,a2.1,a2.2⟩
theorem ask_rides {l:List TyB4} {t:Int} (h:g44_0 l t=0):g70_0 l=true∧g71_0 t=true∧0≤t∧t≤1440:=by
 unfold g44_0 at h
 by_cases h1:g70_0 l=true
 case neg=>rw [if_pos (by rw [Bool.eq_false_iff.2 h1];rfl)] at h;cases h
 by_cases h2:g71_0 t=true
 case neg=>rw [if_neg (by rw [h1];simp),if_pos (by rw [Bool.eq_false_iff.2 h2];rfl)] at h;cases h
 have a1:=in_range' _ _ _ (show g63_0 t 0 1440=true from h2)
 exact ⟨h1,h2,a1.1,a1.2⟩
theorem slack_eq (t:Int):∀ l:List TyB4,sk90 t l=sk47 t l
 | []=>rfl
 | [_]=>rfl
 | x :: y :: r=>by
  have ih:=slack_eq t (y :: r)
  have e:g121_0 x=x.1+x.2.1:=rfl
  simp only [sk90,sk47,ih,e]
  congr 1
  omega
theorem over_eq (l:List TyB0) (d r:Int):∀ i j,bl (fC56 d r) i l=bl fC47 j (g79_0 l d r):=by
 induction l with
 | nil=>intro i j;rfl
 | cons x s ih =>
  intro i j
  have e:g89_0 x d r=g100_0 x d r:=rfl
  by_cases h:g100_0 x d r=true
  ·have e1:g79_0 (x :: s) d r=x.1 :: g79_0 s d r:=by
    unfold g79_0;rw [List.filter_cons,if_pos h];rfl
   rw [e1]
   simp only [bl,ih (i+1) (j+1)]
   unfold fC56
   rw [e,if_pos h]
   rfl
  ·have e1:g79_0 (x :: s) d r=g79_0 s d r:=by
    unfold g79_0;rw [List.filter_cons,if_neg h]
   rw [e1]
   simp only [bl,ih (i+1) j]
   unfold fC56
   rw [e,if_neg h]
   rfl
theorem over_len (l:List TyB0) (d r:Int):(g79_0 l d r).length≤l.length:=by
 unfold g79_0
 rw [List.length_map]
 exact List.length_filter_le _ _
theorem part_service (x:(TyA0)) (h:g14_0 x=true):P56 x∧P47 x∧g56_0 x=g47_0 x∧(g47_0 x).length≤60:=by
 obtain ⟨_,_,_,_,h1,_,h2,h3,_⟩:=works_ok x h
 obtain ⟨g1,g2⟩:=groups_ok _ h1
 obtain ⟨h2,d1,d2,d3,d4⟩:=ask_check h2
 obtain ⟨c1,c2⟩:=checks_ok _ h2
 obtain ⟨h3,t0,t1,t2⟩:=ask_rides h3
 obtain ⟨r1,r2⟩:=rides_ok _ h3
 have es:g90_0 x.2.2.2.2.2.2.2.2.2.1 x.2.2.2.2.2.2.2.2.2.2.1=sk47 x.2.2.2.2.2.2.2.2.2.2.1 x.2.2.2.2.2.2.2.2.2.1:=by
  unfold g90_0 g120_0
  have e1:g110_0 x.2.2.2.2.2.2.2.2.2.2.1=true:=t0
  have e2:g109_0 x.2.2.2.2.2.2.2.2.2.1=true:=h3
  rw [e1,e2,if_neg (by decide),slack_eq]
 have hl:=sk47_len x.2.2.2.2.2.2.2.2.2.2.1 x.2.2.2.2.2.2.2.2.2.1
 have ho:=over_len x.2.2.2.2.2.2.1 x.2.2.2.2.2.2.2.1 x.2.2.2.2.2.2.2.2.1
 have q1:∀ y∈x.2.2.2.2.1,P88 y:=fun y hy=>by
  have:=group_range y (g1 y hy)
  unfold P88
  simp only [i64_iff,and_true]
  omega
 have q2:∀ y∈x.2.2.2.2.2.2.1,P89 y x.2.2.2.2.2.2.2.1 x.2.2.2.2.2.2.2.2.1:=fun y hy=>by
  have:=check_range y (c1 y hy)
  unfold P89 P119
  simp only [i64_iff,and_true]
  omega
 have q3:P90 x.2.2.2.2.2.2.2.2.2.1 x.2.2.2.2.2.2.2.2.2.2.1 := .inr ⟨by omega,by omega,by omega,fun y hy=>by
  have:=ride_range y (r1 y hy)
  have e:g121_0 y=y.1+y.2.1:=rfl
  unfold ok90 P121
  rw [e]
  simp only [i64_iff,and_true]
  omega⟩
 have q4:∀ y∈x.2.2.2.2.1,P78 y∧InR .i64 (g78_0 y)∧InR .i64 y.2.1∧InR .i64 y.2.2.1:=fun y hy=>by
  have:=group_range y (g1 y hy)
  unfold P78 g78_0
  simp only [i64_iff,and_true]
  omega
 have l1:∀ i y,(fG47 x.2.2.2.2.2.1 i y).length≤1:=fun i y=>by unfold fG47;split <;> simp
 have l2:∀ i y,(fC47 i y).length≤1:=fun i y=>by simp [fC47]
 have l3:∀ i y,(fS47 i y).length≤1:=fun i y=>by unfold fS47;split <;> simp
 have b1:=bl_len _ l1 x.2.2.2.2.1 0
 have b2:=bl_len _ l2 (g79_0 x.2.2.2.2.2.2.1 x.2.2.2.2.2.2.2.1 x.2.2.2.2.2.2.2.2.1) 0
 have b3:=bl_len _ l3 (sk47 x.2.2.2.2.2.2.2.2.2.2.1 x.2.2.2.2.2.2.2.2.2.1) 0
 refine ⟨⟨by omega,by omega,by rw [es];omega,q1,q2,q3⟩,⟨by omega,by omega,by omega,q4,⟨by omega,q2⟩,by omega,by omega,fun y hy=>by have:=ride_range y (r1 y hy);omega⟩,?_,?_⟩
 ·unfold g56_0 g47_0
  rw [es,over_eq _ _ _ 0 0]
  congr 2
  refine bl_congr _ _ fun j y _ => ?_
  unfold fG56 fG47 fit77 g87_0 g78_0
  have e1:75*y.2.1+15*y.2.2.1+y.2.2.2.1=y.2.1*75+y.2.2.1*15+y.2.2.2.1:=by omega
  rw [e1]
  rfl
 ·unfold g47_0
  simp only [List.length_append]
  omega
theorem bvn (a:Nat) (h:a<9223372036854775808):(BitVec.ofInt 64 (a:Int)).toNat=a:=by
 rw [BitVec.toNat_ofInt]
 omega
theorem wrn (a:Nat) (h:a<9223372036854775808):IntKind.wrap IntKind.i64 (a:Int)=(a:Int):=wrap_of_inR (by rw [i64_iff];omega)
theorem bit_bound {s:Int} (h:0≤s∧s≤65535):0≤bit132 s∧bit132 s≤65535:=by
 obtain ⟨a,rfl⟩:=Int.eq_ofNat_of_zero_le h.1
 unfold bit132
 have e:(a:Int)*2=((a*2:Nat):Int):=by omega
 have e6:BitVec.ofInt 64 65535=BitVec.ofInt 64 ((65535:Nat):Int):=rfl
 have e7:BitVec.ofInt 64 4129=BitVec.ofInt 64 ((4129:Nat):Int):=rfl
 rw [e,wrn _ (by omega),e6,e7]
 have h1:(a*2) &&& 65535<65536:=Nat.lt_of_le_of_lt Nat.and_le_right (by decide)
 have h2:((a*2) &&& 65535) ^^^ 4129<2 ^ 16:=Nat.xor_lt_two_pow h1 (by decide)
 split
 ·rw [BitVec.toNat_and,bvn (a*2) (by omega),bvn 65535 (by omega),wrn (a*2 &&& 65535) (by omega),BitVec.toNat_xor,bvn (a*2 &&& 65535) (by omega),bvn 4129 (by omega),wrn (a*2 &&& 65535 ^^^ 4129) (by omega)]
  omega
 ·rename_i hc
  have hc':¬ ((a*2:Nat):Int)>65535:=fun hh=>hc (decide_eq_true hh)
  omega
theorem bits_bound:∀ (k:Nat) {s:Int},0≤s∧s≤65535→0≤bits132 k s∧bits132 k s≤65535
 | 0,_,h=>h
 | k+1,_,h=>bits_bound k (bit_bound h)
theorem byte_bound {s c:Int} (h:0≤s∧s≤65535) (hc:0≤c∧c≤255):0≤byte132 s c∧byte132 s c≤65535:=by
 refine bits_bound 8 ?_
 obtain ⟨a,rfl⟩:=Int.eq_ofNat_of_zero_le h.1
 obtain ⟨b,rfl⟩:=Int.eq_ofNat_of_zero_le hc.1
 have e:(b:Int)*256=((b*256:Nat):Int):=by omega
 have h2:a ^^^ (b*256)<2 ^ 16:=Nat.xor_lt_two_pow (by omega) (by omega)
 rw [e,wrn (b*256) (by omega),BitVec.toNat_xor,bvn a (by omega),bvn (b*256) (by omega),wrn (a ^^^ (b*256)) (by omega)]
 omega
theorem crc_bound (x:ByteArray) {s:Int} (h:0≤s∧s≤65535):0≤g132_0 x s∧g132_0 x s≤65535:=by
 unfold g132_0
 have hb:=bytesOf_range x
 revert hb
 generalize bytesOf x=l
 revert s
 induction l with
 | nil=>intro s h _;exact h
 | cons c r ih =>
  intro s h hb
  rw [List.foldl_cons]
  have hc:=hb c (List.mem_cons_self ..)
  exact ih (byte_bound h ⟨hc.1,hc.2⟩) fun b hb'=>hb b (List.mem_cons_of_mem _ hb')
theorem crc_eq (x:ByteArray) {s:Int} (h:0≤s∧s≤65535):g167_0 x s=g132_0 x s:=by
 unfold g167_0
 rw [if_neg (by
  have c1:s≥0:=h.1
  unfold g134_0
  simp [c1,h.2])]
 have e:byte167=byte132:=by
  funext s c
  unfold byte167 byte132
  have:∀ (k:Nat) (t:Int),bits167 k t=bits132 k t:=by
   intro k
   induction k with
   | zero=>intro t;rfl
   | succ k ih=>intro t;exact ih _
  exact this 8 _
 rw [e]
 rfl
theorem in_range (n a b:Int) (h:g63_0 n a b=true):a≤n∧n≤b:=by
 unfold g63_0 at h
 split at h
 ·rename_i h1
  exact ⟨by simpa using h1,by simpa using h⟩
 ·cases h
theorem line_sizes (x:Int×Int×ByteArray×Int×Unit) (h:g72_0 x=true):(numB x.1).size≤21∧(numB x.2.1).size≤21∧x.2.2.1.size≤40∧InR .i64 x.2.2.2.1:=by
 unfold g72_0 g67_0 at h
 by_cases h1:g63_0 x.1 0 100000=true
 case neg=>rw [if_neg h1] at h;cases h
 by_cases h2:g63_0 x.2.1 0 1439=true
 case neg=>rw [if_pos h1,if_neg h2] at h;cases h
 by_cases h3:g96_0 x.2.2.1=true
 case neg=>rw [if_pos h1,if_pos h2,if_neg h3] at h;cases h
 rw [if_pos h1,if_pos h2,if_pos h3] at h
 have a1:=in_range _ _ _ h1
 have a2:=in_range _ _ _ h2
 have a4:=in_range _ _ _ h
 refine ⟨numB_size _ (by omega) (by omega),numB_size _ (by omega) (by omega),?_,by rw [i64_iff];omega⟩
 unfold g96_0 at h3
 simp only [Bool.and_eq_true,Bool.not_eq_true',decide_eq_false_iff_not] at h3
 omega
theorem seal_pre (x:Int×Int×ByteArray×Int×Unit) (h:g72_0 x=true) (c:Int):P101 c x.1 x.2.1 x.2.2.1∧P151 c x:=by
 obtain ⟨a1,a2,a3,_⟩:=line_sizes x h
 have e1:g74_0=numB:=rfl
 have e2:g85_0=numB:=rfl
 have p1:∀ n,P85 n:=fun n=>⟨rfl,trivial⟩
 have e3:(ByteArray.mk #[32]).size=1:=rfl
 unfold P101 P151 P133 P168
 rw [e1,e2]
 simp only [ByteArray.size_append,e3,p1,true_and,and_true]
 omega
theorem seal_eq (x:Int×Int×ByteArray×Int×Unit) {c:Int} (h:0≤c∧c≤65535):g151_0 c x=g101_0 c x.1 x.2.1 x.2.2.1∧0≤g101_0 c x.1 x.2.1 x.2.2.1∧g101_0 c x.1 x.2.1 x.2.2.1≤65535:=by
 unfold g151_0 g101_0
 have e:g168_0 x=g133_0 x.1 x.2.1 x.2.2.1:=rfl
 rw [e]
 exact ⟨crc_eq _ h,crc_bound _ h⟩
theorem broken_eq:∀ (l:List TyB2) (c i:Int),0≤c∧c≤65535→br80 c i l=(match fb91 i l (sl122 c l) with | some k=>k | none => -1)
 | [],_,_,_=>rfl
 | x :: r,c,i,h=>by
  obtain ⟨e1,e2⟩:=seal_eq x h
  simp only [br80,sl122,fb91,e1]
  have ih:=broken_eq r (g101_0 c x.1 x.2.1 x.2.2.1) (i+1) e2
  obtain ⟨x1,x2,x3,x4,⟨⟩⟩:=x
  have hd:eqD (Ty.cons (Ty.int IntKind.i64) (Ty.cons (Ty.int IntKind.i64) (Ty.cons Ty.str (Ty.cons (Ty.int IntKind.i64) Ty.unit)))) (x1,x2,x3,x4,()) (x1,x2,x3,g101_0 c x1 x2 x3,())=true↔g101_0 c x1 x2 x3=x4:=by
   rw [eqD_eq rfl]
   simp only [Prod.mk.injEq,true_and,and_true]
   exact eq_comm
  by_cases hc:g101_0 c x1 x2 x3=x4
  ·rw [if_neg (by simp [hc]),if_neg (by rw [hd.2 hc];simp)]
   exact ih
  ·rw [if_pos (by simpa using hc),if_pos (by rw [Bool.eq_false_iff.2 (fun hh=>hc (hd.1 hh))];rfl)]
theorem fb_range:∀ (l m:List TyB2) (i k:Int),fb91 i l m=some k→i≤k∧k<i+l.length
 | [],_,_,_,h=>by cases h
 | _ :: _,[],_,_,h=>by cases h
 | x :: r,y :: s,i,k,h=>by
  simp only [fb91] at h
  simp only [List.length_cons]
  split at h
  ·cases h;omega
  ·have:=fb_range r s (i+1) k h
   omega
theorem lines_ok (l:List TyB2) (h:g45_0 l=true):(∀ x∈l,g72_0 x=true)∧l.length≤40:=by
 unfold g45_0 at h
 simp only [Bool.and_eq_true,decide_eq_true_eq] at h
 refine ⟨fun x hx => ?_,by omega⟩
 obtain ⟨j,hj⟩:=allI_mem _ _ h.1 x hx
 unfold ok45 at hj
 simp only [Bool.and_eq_true] at hj
 exact hj.1
theorem log_part (l:List TyB2) (h:g45_0 l=true) :
  P80 l∧P91 l∧(g80_0 l<0∧g91_1 l=3∨0≤g80_0 l∧g80_0 l<l.length∧g91_1 l=0∧g91_0 l=g80_0 l):=by
 obtain ⟨h1,h2⟩:=lines_ok l h
 refine ⟨fun x hx c=>(seal_pre x (h1 x hx) c).1,fun _=>⟨by omega,fun x hx c=>(seal_pre x (h1 x hx) c).2⟩,?_⟩
 have hv:g111_0 l=true:=by rw [list_Line];exact h
 unfold g80_0 g91_0 g91_1
 rw [if_pos hv,if_pos hv,broken_eq l 65535 0 (by decide)]
 have e:g122_0 l=sl122 65535 l:=rfl
 rw [e]
 cases hf:fb91 0 l (sl122 65535 l) with
 | none=>exact .inl ⟨by decide,rfl⟩
 | some k =>
  have:=fb_range _ _ _ _ hf
  exact .inr ⟨this.1,(by show k<(l.length:Int);omega),rfl,rfl⟩
theorem part_log (x:(TyA0)) (h:g14_0 x=true):P57 x∧P48 x∧g57_0 x=g48_0 x∧(g48_0 x).length≤1:=by
 obtain ⟨h1,h2,h3⟩:=log_part x.2.2.2.2.2.2.2.2.2.2.2.1 (works_ok x h).2.2.2.2.2.2.2.2
 have e1:g74_0=numB:=rfl
 have e2:g85_0=numB:=rfl
 have p1:∀ n,P85 n:=fun n=>⟨rfl,trivial⟩
 unfold P57 P48 g57_0 g48_0
 rw [e1,e2]
 rcases h3 with ⟨h3,h4⟩ | ⟨h3,h4,h5,h6⟩
 ·rw [h4]
  simp [h1,h2,h3]
 ·have h3':¬ g80_0 x.2.2.2.2.2.2.2.2.2.2.2.1<0:=by omega
  rw [h5,h6]
  simp [h1,h2,h3,h3',h4,p1]
theorem all_eq (x:(TyA0)):g24_0 x=(if g14_0 x=true then g15_0 x else [])∧g24_1 x=(if g14_0 x=true then 0 else 1)∧P24 x∧(g14_0 x=true→P15 x∧(g15_0 x).length≤64):=by
 unfold g24_0 g24_1 P24 g54c55c56c57_0 g54c55c56c57_1 P54c55c56c57 P15 g15_0
 rw [valid_works]
 by_cases h:g14_0 x=true
 ·obtain ⟨p1,p2,e,hl⟩:=part_motion x h
  obtain ⟨q1,q2,f,hk⟩:=part_service x h
  obtain ⟨r1,r2,g,hm⟩:=part_log x h
  have hf:¬ (!g14_0 x)=true:=by rw [h];simp
  simp only [if_neg hf,if_pos h,p1,p2,e,q1,q2,f,r1,r2,g,true_and,and_true,List.nil_append,List.length_append,List.length_nil]
  refine ⟨by omega,fun _=>⟨⟨by omega,by omega,by omega⟩,by omega⟩⟩
 ·have hf:(!g14_0 x)=true:=by rw [Bool.eq_false_iff.2 h];rfl
  simp only [if_pos hf,if_neg h,true_and,and_true]
  exact fun hh=>absurd hh h
theorem law3 (x:(TyA0)) (hx:Wf (.cons (.cons (.sl (.cons (.int .i64) (.cons (.int .i64) .unit))) (.cons (.int .i64) (.cons (.int .i64) .unit))) (.cons (.int .i64) (.cons (.cons (.int .i64) (.cons (.int .i64) .unit)) (.cons (.cons (.int .i64) (.cons (.int .i64) (.cons (.int .i64) (.cons (.int .i64) .unit)))) (.cons (.sl (.cons .str (.cons (.int .i64) (.cons (.int .i64) (.cons (.int .i64) .unit))))) (.cons (.cons (.int .i64) (.cons (.int .i64) (.cons (.int .i64) .unit))) (.cons (.sl (.cons .str (.cons (.int .i64) (.cons (.int .i64) (.cons (.int .i64) (.cons (.int .i64) .unit)))))) (.cons (.int .i64) (.cons (.int .i64) (.cons (.sl (.cons (.int .i64) (.cons (.int .i64) .unit))) (.cons (.int .i64) (.cons (.sl (.cons (.int .i64) (.cons (.int .i64) (.cons .str (.cons (.int .i64) .unit))))) .unit)))))))))))) x):P3 x∧g3_0 x=true:=by
 obtain ⟨p1,q1⟩:=sz_works x 1048576 (by decide) (by decide) hx
 by_cases c1:g4_0 x 1048576<0
 ·unfold P3 g3_0
  simp only [c1,p1,decide_true,if_true,and_self]
 obtain ⟨r1,s1,t1⟩:=q1 c1
 obtain ⟨a1,e1⟩:=to_works x (by omega)
 have f1:=eq_works x
 obtain ⟨k0,k1,k2,k3⟩:=all_eq x
 have h1:g7_0 x=g5_0 x:=by
  unfold g7_0 g5_0
  rw [k0,k1]
  by_cases h:g14_0 x=true
  ·simp only [if_pos h]
   rfl
  ·simp only [if_neg h]
   rfl
 have h2:P7 x:=⟨k2,trivial⟩
 have h3:P5 x:=by
  unfold P5
  split
  ·exact ⟨(k3 (by assumption)).1,trivial⟩
  ·trivial
 unfold P3 g3_0
 clear q1 hx r1 s1 t1
 simp only [e1,c1,p1,a1,f1,h1,h2,h3,decide_false,Bool.false_eq_true,if_false,true_and,and_true,Bool.not_true,bne_self_eq_false]
 cases g5_0 x <;> simp
end Go.Proofs.YtfobhngpafbfdaaGreatDoor
