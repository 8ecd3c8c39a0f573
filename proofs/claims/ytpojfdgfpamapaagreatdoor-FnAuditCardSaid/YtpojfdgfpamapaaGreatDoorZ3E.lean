/- Several texts in one: the functions that this law reaches, and their laws. -/
import Derived.Test.YtpojfdgfpamapaaGreatDoorZ3A
import Derived.Test.YtpojfdgfpamapaaGreatDoorZ3B
import Derived.Test.YtpojfdgfpamapaaGreatDoorZ3C
import Derived.Test.YtpojfdgfpamapaaGreatDoorZ3D
import Derived.WalkKit
import Derived.Lib.Walk
import Derived.Lib.SliceRun
import Derived.Laws.AppendOwn
import Derived.Laws.OwnMore
import Derived.Deep.LoopGhost
import Derived.Shelf.RegionOpenPlain
set_option linter.unusedVariables false
set_option linter.unusedSimpArgs false
set_option maxRecDepth 100000
namespace Go.Proofs.YtpojfdgfpamapaaGreatDoor
open Go Go.Am Go.Proofs
noncomputable section
def ext147c138:Ext:=[(138,S138)]
theorem ext147c138Ok:ExtOk Tryz.prog ext147c138:=⟨⟨ca138,con138⟩,trivial⟩
noncomputable def b147c138:Code:=bodyOf Tryz.f147
theorem hb147c138:Tryz.f147.body=some b147c138:=by kernel_rfl
def sig147c138:List AT:=[AT.v (.sl .str),AT.fn 138 []]
def tys147c138:List Ty:=[.int .i64]
def kds147c138:List RK:=[]
def oks147c138:List AT:=owns sig147c138
def E147c138_2 (v8:Int) (x0:List ByteArray):Env:=[(0,.a (.sl .str x0)),(1,PV.fn 138 []),(7,.a (.val (.int .i64 (x0.length:Int)))),(8,.a (.val (.int .i64 v8)))]
def L147c138_2 (v8:Int) (x0:List ByteArray):Heap:=[]
mutual
def R147c138:Nat→List ByteArray→List Dyn→Prop
 | 0,_,_=>False
 | n+1,x0,ds=>(R147c138_2 n (0) (x0) ds)
def R147c138_2:Nat→Int→List ByteArray→List Dyn→Prop
 | 0,_,_,_=>False
 | n+1,v8,x0,ds=>(if (decide (v8<(x0.length:Int)))=true then ((0≤v8)∧(v8<(x0.length:Int))∧(if (g138_0 (List.getD x0 (Int.toNat v8) ByteArray.empty))=true then (ds=[Dyn.mk (.int .i64) v8]) else ((InR .i64 (v8+1))∧(R147c138_2 n (v8+1) (x0) ds)))) else (ds=[Dyn.mk (.int .i64) (-1)]))
end
theorem snd147c138:∀ n,(∀ (x0:List ByteArray) ds,R147c138 n x0 ds→∀ K q,AtV Tryz.prog 147 (PostR kds147c138 oks147c138 ds [] [] q K) 19 K q [] [.code b147c138] (entE 0 0 sig147c138 (x0,(),())) (entL sig147c138 (x0,(),())))∧(∀ (v8:Int) (x0:List ByteArray) ds,R147c138_2 n v8 x0 ds→∀ K q,AtV Tryz.prog 147 (PostR kds147c138 oks147c138 ds [] [] q K) 19 K q [] (cutAt b147c138 2) (E147c138_2 v8 x0) (L147c138_2 v8 x0)):=by
 intro n
 induction n with
 | zero=>exact ⟨fun _ _ h=>by simp only [R147c138] at h,fun _ _ _ h=>by simp only [R147c138_2] at h⟩
 | succ n ih =>
 obtain ⟨ih,ih2⟩:=ih
 refine ⟨?_,?_⟩
 ·intro x0 ds h K q
  rw [R147c138] at h
  exact AtV.go tabOk ext147c138Ok mixed false [] [] [0,1,7,8] [] [] trivial (ih2 _ _ _ h K q) (by kernel_rfl)
 ·intro v8 x0 ds h K q
  rw [R147c138_2] at h
  by_cases b0:(decide (v8<(x0.length:Int)))=true
  ·rw [if_pos b0] at h
   obtain ⟨s0,s1,h⟩:=h
   by_cases b1:(g138_0 (List.getD x0 (Int.toNat v8) ByteArray.empty))=true
   ·rw [if_pos b1] at h
    subst h
    exact AtV.ret Tryz.func147 tabOk ext147c138Ok mixed false [] tys147c138 [true,true] (a1 b0 (a1 s0 (a1 s1 (a1 trivial (a1 b1 trivial))))) (by kernel_rfl)
   ·rw [if_neg b1] at h
    replace b1:=bf_ b1
    obtain ⟨s2,h⟩:=h
    exact AtV.go tabOk ext147c138Ok mixed false [] [] [0,1,7,8] [] [true,false] (a1 b0 (a1 s0 (a1 s1 (a1 trivial (a1 b1 (a1 s2 trivial)))))) (ih2 _ _ _ h K q) (by kernel_rfl)
  ·rw [if_neg b0] at h
   replace b0:=bf_ b0
   subst h
   exact AtV.ret Tryz.func147 tabOk ext147c138Ok mixed false [] tys147c138 [false] (a1 b0 trivial) (by kernel_rfl)
def g147c138_0 (x0:List (ByteArray)):Int:=idx (x0.findIdx? g138_0)
def P147c138 (x0:List (ByteArray)):Prop:=True
theorem top147c138 (x0:List (ByteArray)) (hm:x0.length≤maxLen):R147c138 (x0.length+1+1) x0 [⟨.int .i64,g147c138_0 x0⟩]:=by
 rw [R147c138]
 have key:=loop_find x0 ByteArray.empty g138_0 [(⟨.int .i64, -1⟩:Dyn)] (fun k=>[⟨.int .i64,k⟩]) (fun n i ds=>R147c138_2 n i x0 ds) (fun n => ?_) (fun n i hi hok ds hr => ?_) (fun n i hi hok => ?_)
 ·unfold g147c138_0
  cases h:x0.findIdx? g138_0 <;> rw [h] at key <;> exact key
 ·rw [R147c138_2,if_neg (by simp)]
 ·rw [R147c138_2,if_pos (by simp;omega)]
  simp only [Int.toNat_natCast]
  refine ⟨by omega,by omega,?_⟩
  rw [if_neg (by rw [hok];simp)]
  exact ⟨inR_up hm hi,hr⟩
 ·rw [R147c138_2,if_pos (by simp;omega)]
  simp only [Int.toNat_natCast]
  refine ⟨by omega,by omega,?_⟩
  rw [if_pos hok] <;> trivial
def S147c138:Am.Spec:={ sig:=sig147c138,pre:=fun ⟨x0,_⟩=>P147c138 x0,res:=fun ⟨x0,_⟩=>[⟨.int .i64,g147c138_0 x0⟩] }
theorem con147c138:Contract Tryz.prog 147 S147c138:=contract_of Tryz.func147 hb147c138 (bl_ (by kernel_rfl)) (fun ⟨x0,_⟩ h hwf K q =>
 (snd147c138 _).1 x0 _ (top147c138 x0 hwf.1.1) K q)
theorem any147c138 (x0:List (ByteArray)):decide (g147c138_0 x0≥0)=x0.any g138_0:=by
 have:=findIdx_any g138_0 x0
 unfold g147c138_0
 cases h:x0.any g138_0 with
 | true=>rw [h] at this;simpa using this
 | false=>rw [h] at this;simpa using this
end
noncomputable section
def ext136c138:Ext:=[(147,S147c138),(138,S138)]
theorem ext136c138Ok:ExtOk Tryz.prog ext136c138:=⟨⟨ca147,con147c138⟩,⟨ca138,con138⟩,trivial⟩
noncomputable def b136c138:Code:=bodyOf Tryz.f136
theorem hb136c138:Tryz.f136.body=some b136c138:=by kernel_rfl
def sig136c138:List AT:=[AT.v (.sl .str),AT.fn 138 []]
def tys136c138:List Ty:=[.bool]
def kds136c138:List RK:=[]
def oks136c138:List AT:=owns sig136c138
def P136c138 (x0:List ByteArray):Prop:=True
def g136c138_0 (x0:List ByteArray):Bool:=decide (g147c138_0 x0≥0)
theorem at136c138 (x0:List ByteArray) (h:P136c138 x0) (K:Ctx) (q:Nat→Value):AtV Tryz.prog 136 (PostR kds136c138 oks136c138 [⟨.bool,g136c138_0 x0⟩] [] [] q K) 9 K q [] [.code b136c138] (entE 0 0 sig136c138 (x0,(),())) (entL sig136c138 (x0,(),())):=by
 unfold P136c138 at h
 unfold g136c138_0
 exact AtV.ret Tryz.func136 tabOk ext136c138Ok mixed false [] tys136c138 [] (a1 trivial trivial) (by kernel_rfl)
def S136c138:Am.Spec:={ sig:=sig136c138,pre:=fun ⟨x0,_⟩=>P136c138 x0,res:=fun ⟨x0,_⟩=>[⟨.bool,g136c138_0 x0⟩],kds:=kds136c138 }
theorem con136c138:Contract Tryz.prog 136 S136c138:=contract_of Tryz.func136 hb136c138 (bl_ (by kernel_rfl)) (fun ⟨x0,_⟩ h _ K q=>at136c138 x0 h K q)
end
noncomputable section
def ext124:Ext:=[(137,S137),(136,S136c138)]
theorem ext124Ok:ExtOk Tryz.prog ext124:=⟨⟨ca137,con137⟩,⟨ca136,con136c138⟩,trivial⟩
noncomputable def b124:Code:=bodyOf Tryz.f124
theorem hb124:Tryz.f124.body=some b124:=by kernel_rfl
def sig124:List AT:=[AT.v (.str)]
def tys124:List Ty:=[.bool]
def kds124:List RK:=[]
def oks124:List AT:=owns sig124
def P124 (x0:ByteArray):Prop:=(if (decide ((↑(ByteArray.size x0):Int)≤40))=true then ((P137 x0 (ByteArray.mk #[32]))∧True) else True)
def g124_0 (x0:ByteArray):Bool:=(if (decide ((↑(ByteArray.size x0):Int)≤40))=true then !g136c138_0 (g137_0 x0 (ByteArray.mk #[32])) else false)
theorem at124 (x0:ByteArray) (h:P124 x0) (K:Ctx) (q:Nat→Value):AtV Tryz.prog 124 (PostR kds124 oks124 [⟨.bool,g124_0 x0⟩] [] [] q K) 12 K q [] [.code b124] (entE 0 0 sig124 (x0,())) (entL sig124 (x0,())):=by
 unfold P124 at h
 unfold g124_0
 by_cases b0:(decide ((↑(ByteArray.size x0):Int)≤40))=true
 ·try simp only [if_pos b0] at h ⊢
  obtain ⟨s0,h⟩:=h
  exact AtV.ret Tryz.func124 tabOk ext124Ok mixed false [] tys124 [true] (a1 b0 (a1 s0 (a1 trivial trivial))) (by kernel_rfl)
 ·try simp only [if_neg b0] at h ⊢
  replace b0:=bf_ b0
  exact AtV.ret Tryz.func124 tabOk ext124Ok mixed false [] tys124 [false] (a1 b0 trivial) (by kernel_rfl)
def S124:Am.Spec:={ sig:=sig124,pre:=fun ⟨x0,_⟩=>P124 x0,res:=fun ⟨x0,_⟩=>[⟨.bool,g124_0 x0⟩],kds:=kds124 }
theorem con124:Contract Tryz.prog 124 S124:=contract_of Tryz.func124 hb124 (bl_ (by kernel_rfl)) (fun ⟨x0,_⟩ h _ K q=>at124 x0 h K q)
end
noncomputable section
def ext125:Ext:=[(52,S52)]
theorem ext125Ok:ExtOk Tryz.prog ext125:=⟨⟨ca52,con52⟩,trivial⟩
noncomputable def b125:Code:=bodyOf Tryz.f125
theorem hb125:Tryz.f125.body=some b125:=by kernel_rfl
def sig125:List AT:=[AT.v (.int .i64)]
def tys125:List Ty:=[.bool]
def kds125:List RK:=[]
def oks125:List AT:=owns sig125
def P125 (x0:Int):Prop:=True
def g125_0 (x0:Int):Bool:=g52_0 x0 0 65535
theorem at125 (x0:Int) (h:P125 x0) (K:Ctx) (q:Nat→Value):AtV Tryz.prog 125 (PostR kds125 oks125 [⟨.bool,g125_0 x0⟩] [] [] q K) 5 K q [] [.code b125] (entE 0 0 sig125 (x0,())) (entL sig125 (x0,())):=by
 unfold P125 at h
 unfold g125_0
 exact AtV.ret Tryz.func125 tabOk ext125Ok mixed false [] tys125 [] (a1 trivial trivial) (by kernel_rfl)
def S125:Am.Spec:={ sig:=sig125,pre:=fun ⟨x0,_⟩=>P125 x0,res:=fun ⟨x0,_⟩=>[⟨.bool,g125_0 x0⟩],kds:=kds125 }
theorem con125:Contract Tryz.prog 125 S125:=contract_of Tryz.func125 hb125 (bl_ (by kernel_rfl)) (fun ⟨x0,_⟩ h _ K q=>at125 x0 h K q)
end
noncomputable section
def ext105:Ext:=[(101,S101),(123,S123),(124,S124),(125,S125)]
theorem ext105Ok:ExtOk Tryz.prog ext105:=⟨⟨ca101,con101⟩,⟨ca123,con123⟩,⟨ca124,con124⟩,⟨ca125,con125⟩,trivial⟩
noncomputable def b105:Code:=bodyOf Tryz.f105
theorem hb105:Tryz.f105.body=some b105:=by kernel_rfl
def sig105:List AT:=[AT.v YA6]
def tys105:List Ty:=[.bool]
def kds105:List RK:=[]
def oks105:List AT:=owns sig105
def P105 (x0:Int×Int×ByteArray×Int×Unit):Prop:=(if (g101_0 x0.1)=true then (if (g123_0 x0.2.1)=true then ((P124 x0.2.2.1)∧True) else True) else True)
def g105_0 (x0:Int×Int×ByteArray×Int×Unit):Bool:=(if (g101_0 x0.1)=true then (if (g123_0 x0.2.1)=true then (if (g124_0 x0.2.2.1)=true then g125_0 x0.2.2.2.1 else false) else false) else false)
theorem at105 (x0:Int×Int×ByteArray×Int×Unit) (h:P105 x0) (K:Ctx) (q:Nat→Value):AtV Tryz.prog 105 (PostR kds105 oks105 [⟨.bool,g105_0 x0⟩] [] [] q K) 21 K q [] [.code b105] (entE 0 0 sig105 (x0,())) (entL sig105 (x0,())):=by
 unfold P105 at h
 unfold g105_0
 by_cases b0:(g101_0 x0.1)=true
 ·try simp only [if_pos b0] at h ⊢
  by_cases b1:(g123_0 x0.2.1)=true
  ·try simp only [if_pos b1] at h ⊢
   obtain ⟨s0,h⟩:=h
   by_cases b2:(g124_0 x0.2.2.1)=true
   ·try simp only [if_pos b2] at h ⊢
    exact AtV.ret Tryz.func105 tabOk ext105Ok mixed false [] tys105 [true,true,true] (a1 trivial (a1 b0 (a1 trivial (a1 b1 (a1 s0 (a1 b2 (a1 trivial trivial))))))) (by kernel_rfl)
   ·try simp only [if_neg b2] at h ⊢
    replace b2:=bf_ b2
    exact AtV.ret Tryz.func105 tabOk ext105Ok mixed false [] tys105 [true,true,false] (a1 trivial (a1 b0 (a1 trivial (a1 b1 (a1 s0 (a1 b2 trivial)))))) (by kernel_rfl)
  ·try simp only [if_neg b1] at h ⊢
   replace b1:=bf_ b1
   exact AtV.ret Tryz.func105 tabOk ext105Ok mixed false [] tys105 [true,false,false] (a1 trivial (a1 b0 (a1 trivial (a1 b1 (a1 (rfl:false=false) trivial))))) (by kernel_rfl)
 ·try simp only [if_neg b0] at h ⊢
  replace b0:=bf_ b0
  exact AtV.ret Tryz.func105 tabOk ext105Ok mixed false [] tys105 [false,false,false] (a1 trivial (a1 b0 (a1 (rfl:false=false) (a1 (rfl:false=false) trivial)))) (by kernel_rfl)
def S105:Am.Spec:={ sig:=sig105,pre:=fun ⟨x0,_⟩=>P105 x0,res:=fun ⟨x0,_⟩=>[⟨.bool,g105_0 x0⟩],kds:=kds105 }
theorem con105:Contract Tryz.prog 105 S105:=contract_of Tryz.func105 hb105 (bl_ (by kernel_rfl)) (fun ⟨x0,_⟩ h _ K q=>at105 x0 h K q)
end
noncomputable section
def ext106:Ext:=[]
theorem ext106Ok:ExtOk Tryz.prog ext106:=trivial
noncomputable def b106:Code:=bodyOf Tryz.f106
theorem hb106:Tryz.f106.body=some b106:=by kernel_rfl
def sig106:List AT:=[AT.v YA6,AT.v YA6]
def tys106:List Ty:=[.bool]
def kds106:List RK:=[]
def oks106:List AT:=owns sig106
def P106 (x0:Int×Int×ByteArray×Int×Unit) (x1:Int×Int×ByteArray×Int×Unit):Prop:=True
def g106_0 (x0:Int×Int×ByteArray×Int×Unit) (x1:Int×Int×ByteArray×Int×Unit):Bool:=(if (decide (x0.1>x1.1))=true then true else (if (x0.1==x1.1)=true then decide (x0.2.1>x1.2.1) else false))
theorem at106 (x0:Int×Int×ByteArray×Int×Unit) (x1:Int×Int×ByteArray×Int×Unit) (h:P106 x0 x1) (K:Ctx) (q:Nat→Value):AtV Tryz.prog 106 (PostR kds106 oks106 [⟨.bool,g106_0 x0 x1⟩] [] [] q K) 24 K q [] [.code b106] (entE 0 0 sig106 (x0,x1,())) (entL sig106 (x0,x1,())):=by
 unfold P106 at h
 unfold g106_0
 by_cases b0:(decide (x0.1>x1.1))=true
 ·try simp only [if_pos b0] at h ⊢
  exact AtV.ret Tryz.func106 tabOk ext106Ok mixed false [] tys106 [true] (a1 b0 trivial) (by kernel_rfl)
 ·try simp only [if_neg b0] at h ⊢
  replace b0:=bf_ b0
  by_cases b1:(x0.1==x1.1)=true
  ·try simp only [if_pos b1] at h ⊢
   exact AtV.ret Tryz.func106 tabOk ext106Ok mixed false [] tys106 [false,true] (a1 b0 (a1 b1 trivial)) (by kernel_rfl)
  ·try simp only [if_neg b1] at h ⊢
   replace b1:=bf_ b1
   exact AtV.ret Tryz.func106 tabOk ext106Ok mixed false [] tys106 [false,false] (a1 b0 (a1 b1 trivial)) (by kernel_rfl)
def S106:Am.Spec:={ sig:=sig106,pre:=fun ⟨x0,x1,_⟩=>P106 x0 x1,res:=fun ⟨x0,x1,_⟩=>[⟨.bool,g106_0 x0 x1⟩],kds:=kds106 }
theorem con106:Contract Tryz.prog 106 S106:=contract_of Tryz.func106 hb106 (bl_ (by kernel_rfl)) (fun ⟨x0,x1,_⟩ h _ K q=>at106 x0 x1 h K q)
end
noncomputable section
def ext78:Ext:=[(105,S105),(106,S106)]
theorem ext78Ok:ExtOk Tryz.prog ext78:=⟨⟨ca105,con105⟩,⟨ca106,con106⟩,trivial⟩
noncomputable def b78:Code:=bodyOf Tryz.f78
theorem hb78:Tryz.f78.body=some b78:=by kernel_rfl
def sig78:List AT:=[AT.v (.sl YA6)]
def tys78:List Ty:=[.bool]
def kds78:List RK:=[]
def oks78:List AT:=owns sig78
def E78_2 (v7:Int) (x0:List TyB2):Env:=[(0,.a (.sl YA6 x0)),(5,.a (.sl YA6 x0)),(6,.a (.val (.int .i64 (x0.length:Int)))),(7,.a (.val (.int .i64 v7)))]
def L78_2 (v7:Int) (x0:List TyB2):Heap:=[]
mutual
def R78:Nat→List TyB2→List Dyn→Prop
 | 0,_,_=>False
 | n+1,x0,ds=>(R78_2 n (0) (x0) ds)
def R78_2:Nat→Int→List TyB2→List Dyn→Prop
 | 0,_,_,_=>False
 | n+1,v7,x0,ds=>(if (decide (v7<(x0.length:Int)))=true then ((0≤v7)∧(v7<(x0.length:Int))∧((P105 (List.getD x0 (Int.toNat v7) (0,0,ByteArray.empty,0,())))∧(if (!g105_0 (List.getD x0 (Int.toNat v7) (0,0,ByteArray.empty,0,())))=true then (ds=[Dyn.mk .bool false]) else (if (decide (v7>0))=true then ((InR .i64 (v7 - 1))∧((0≤v7 - 1)∧(v7 - 1<(x0.length:Int))∧(if (g106_0 (List.getD x0 (Int.toNat (v7 - 1)) (0,0,ByteArray.empty,0,())) (List.getD x0 (Int.toNat v7) (0,0,ByteArray.empty,0,())))=true then (ds=[Dyn.mk .bool false]) else ((InR .i64 (v7+1))∧(R78_2 n (v7+1) (x0) ds))))) else ((InR .i64 (v7+1))∧(R78_2 n (v7+1) (x0) ds)))))) else (ds=[Dyn.mk .bool (decide ((x0.length:Int)≤40))]))
end
theorem snd78:∀ n,(∀ (x0:List TyB2) ds,R78 n x0 ds→∀ K q,AtV Tryz.prog 78 (PostR kds78 oks78 ds [] [] q K) 32 K q [] [.code b78] (entE 0 0 sig78 (x0,())) (entL sig78 (x0,())))∧(∀ (v7:Int) (x0:List TyB2) ds,R78_2 n v7 x0 ds→∀ K q,AtV Tryz.prog 78 (PostR kds78 oks78 ds [] [] q K) 32 K q [] (cutAt b78 2) (E78_2 v7 x0) (L78_2 v7 x0)):=by
 intro n
 induction n with
 | zero=>exact ⟨fun _ _ h=>by simp only [R78] at h,fun _ _ _ h=>by simp only [R78_2] at h⟩
 | succ n ih =>
 obtain ⟨ih,ih2⟩:=ih
 refine ⟨?_,?_⟩
 ·intro x0 ds h K q
  rw [R78] at h
  exact AtV.go tabOk ext78Ok mixed false [] [] [0,5,6,7] [] [] trivial (ih2 _ _ _ h K q) (by kernel_rfl)
 ·intro v7 x0 ds h K q
  rw [R78_2] at h
  by_cases b0:(decide (v7<(x0.length:Int)))=true
  ·rw [if_pos b0] at h
   obtain ⟨s0,s1,h⟩:=h
   obtain ⟨s2,h⟩:=h
   by_cases b1:(!g105_0 (List.getD x0 (Int.toNat v7) (0,0,ByteArray.empty,0,())))=true
   ·rw [if_pos b1] at h
    subst h
    exact AtV.ret Tryz.func78 tabOk ext78Ok mixed false [] tys78 [true,true,true] (a1 b0 (a1 s0 (a1 s1 (a1 s2 (a1 b1 (a1 (rfl:true=true) trivial)))))) (by kernel_rfl)
   ·rw [if_neg b1] at h
    replace b1:=bf_ b1
    by_cases b2:(decide (v7>0))=true
    ·rw [if_pos b2] at h
     obtain ⟨s3,h⟩:=h
     obtain ⟨s4,s5,h⟩:=h
     by_cases b3:(g106_0 (List.getD x0 (Int.toNat (v7 - 1)) (0,0,ByteArray.empty,0,())) (List.getD x0 (Int.toNat v7) (0,0,ByteArray.empty,0,())))=true
     ·rw [if_pos b3] at h
      subst h
      exact AtV.ret Tryz.func78 tabOk ext78Ok mixed false [] tys78 [true,false,true,true] (a1 b0 (a1 s0 (a1 s1 (a1 s2 (a1 b1 (a1 b2 (a1 s3 (a1 s4 (a1 s5 (a1 trivial (a1 b3 trivial))))))))))) (by kernel_rfl)
     ·rw [if_neg b3] at h
      replace b3:=bf_ b3
      obtain ⟨s6,h⟩:=h
      exact AtV.go tabOk ext78Ok mixed false [] [] [0,5,6,7] [] [true,false,true,false] (a1 b0 (a1 s0 (a1 s1 (a1 s2 (a1 b1 (a1 b2 (a1 s3 (a1 s4 (a1 s5 (a1 trivial (a1 b3 (a1 s6 trivial)))))))))))) (ih2 _ _ _ h K q) (by kernel_rfl)
    ·rw [if_neg b2] at h
     replace b2:=bf_ b2
     obtain ⟨s3,h⟩:=h
     exact AtV.go tabOk ext78Ok mixed false [] [] [0,5,6,7] [] [true,false,false,false] (a1 b0 (a1 s0 (a1 s1 (a1 s2 (a1 b1 (a1 b2 (a1 (rfl:false=false) (a1 s3 trivial)))))))) (ih2 _ _ _ h K q) (by kernel_rfl)
  ·rw [if_neg b0] at h
   replace b0:=bf_ b0
   subst h
   exact AtV.ret Tryz.func78 tabOk ext78Ok mixed false [] tys78 [false] (a1 b0 trivial) (by kernel_rfl)
def ok78 (x0:List TyB2) (i:Nat) (x:TyB2):Bool:=g105_0 x&&(i==0 || !g106_0 (x0.getD (i - 1) ((0:Int),(0:Int),ByteArray.empty,(0:Int),())) x)
def g78_0 (x0:List TyB2):Bool:=allI (ok78 x0) 0 x0&&decide ((x0.length:Int)≤40)
def P78 (x0:List TyB2):Prop:=True
theorem one78_pre (x:TyB2):P105 x:=by
 unfold P105
 split
 ·split
  ·refine ⟨?_,trivial⟩
   unfold P124
   split
   ·rename_i h
    have h:(x.2.2.1.size:Int)≤40:=by simpa using h
    have h':x.2.2.1.size≤281474976710656:=by omega
    repeat' (first | apply And.intro | exact trivial | split)
    all_goals (first | omega | decide | trivial)
   ·trivial
  ·trivial
 ·trivial
theorem step78 (n i:Nat) (x0:List TyB2) (hm:x0.length≤maxLen) (hi:i<x0.length) (ds:List Dyn)
  (h:if ok78 x0 i (x0.getD i ((0:Int),(0:Int),ByteArray.empty,(0:Int),()))=true then R78_2 n ((i:Int)+1) x0 ds else ds=[⟨.bool,false⟩]):R78_2 (n+1) (i:Int) x0 ds:=by
 have hu:=inR_up hm hi
 have hmx:maxLen≤9223372036854775807:=by decide
 rw [R78_2,if_pos (by simp only [decide_eq_true_eq];omega)]
 simp only [Int.toNat_natCast]
 refine ⟨by omega,by omega,one78_pre _,?_⟩
 unfold ok78 at h
 by_cases hv:g105_0 (x0.getD i ((0:Int),(0:Int),ByteArray.empty,(0:Int),()))=true
 case neg=>rw [bf_ hv] at h;rw [if_pos (by rw [bf_ hv];rfl)];simpa using h
 rw [if_neg (by rw [hv];simp)]
 rw [hv] at h
 by_cases h0:(i:Int)>0
 case neg =>
  rw [if_neg (by simpa using h0)]
  have hi0:(i==0)=true:=by simp;omega
  rw [hi0] at h
  exact ⟨hu,by simpa using h⟩
 rw [if_pos (by simpa using h0)]
 have hi0:(i==0)=false:=by simp;omega
 have e:((i:Int) - 1).toNat=i - 1:=by omega
 have hd:InR .i64 ((i:Int) - 1):=by rw [i64_iff];omega
 rw [hi0] at h
 simp only [e]
 refine ⟨hd,by omega,by omega,?_⟩
 by_cases c0:g106_0 (x0.getD (i - 1) ((0:Int),(0:Int),ByteArray.empty,(0:Int),())) (x0.getD i ((0:Int),(0:Int),ByteArray.empty,(0:Int),()))=true
 ·rw [if_pos c0]
  rw [c0] at h
  simpa using h
 ·rw [if_neg c0]
  rw [bf_ c0] at h
  exact ⟨hu,by simpa using h⟩
theorem top78 (x0:List TyB2) (hw:x0.length≤maxLen):R78 (x0.length+1+1) x0 [⟨.bool,g78_0 x0⟩]:=by
 rw [R78]
 have key:=loop_testI x0 ((0:Int),(0:Int),ByteArray.empty,(0:Int),()) (ok78 x0) [(⟨.bool,false⟩:Dyn)] [⟨.bool,decide ((x0.length:Int)≤40)⟩] (fun n i ds=>R78_2 n i x0 ds) (fun n => ?_) (fun n i hi hok ds hr => ?_) (fun n i hi hok => ?_)
 ·unfold g78_0
  cases h:allI (ok78 x0) 0 x0 with
  | true=>rw [if_pos h] at key;simpa using key
  | false=>rw [if_neg (by rw [h];simp)] at key;simpa using key
 ·rw [R78_2,if_neg (by simp)]
 ·exact step78 n i x0 hw hi ds (by rw [if_pos hok];exact hr)
 ·exact step78 n i x0 hw hi _ (by rw [if_neg (by rw [hok];simp)])
def S78:Am.Spec:={ sig:=sig78,pre:=fun ⟨x0,_⟩=>P78 x0,res:=fun ⟨x0,_⟩=>[⟨.bool,g78_0 x0⟩] }
theorem con78:Contract Tryz.prog 78 S78:=contract_of Tryz.func78 hb78 (bl_ (by kernel_rfl)) (fun ⟨x0,_⟩ h hwf K q =>
 (snd78 _).1 x0 _ (top78 x0 hwf.1.1) K q)
end
noncomputable section
def ext41:Ext:=[(69,S69),(70,S70),(71,S71),(72,S72),(73,S73),(74,S74),(75,S75),(76,S76),(77,S77),(78,S78)]
theorem ext41Ok:ExtOk Tryz.prog ext41:=⟨⟨ca69,con69⟩,⟨ca70,con70⟩,⟨ca71,con71⟩,⟨ca72,con72⟩,⟨ca73,con73⟩,⟨ca74,con74⟩,⟨ca75,con75⟩,⟨ca76,con76⟩,⟨ca77,con77⟩,⟨ca78,con78⟩,trivial⟩
noncomputable def b41:Code:=bodyOf Tryz.f41
theorem hb41:Tryz.f41.body=some b41:=by kernel_rfl
def sig41:List AT:=[AT.v YA0]
def tys41:List Ty:=[.bool]
def kds41:List RK:=[]
def oks41:List AT:=owns sig41
def P41 (x0:TyA0):Prop:=True
def g41_0 (x0:TyA0):Bool:=(if (g69_0 x0.1)=true then (if (g70_0 x0.2.1)=true then (if (g71_0 x0.2.2.1)=true then (if (g73_0 x0.2.2.2.2.1)=true then (if (g74_0 x0.2.2.2.2.2.1)=true then (if (g72_0 x0.2.2.2.1)=true then (if (g75_0 x0.2.2.2.2.2.2.1 x0.2.2.2.2.2.2.2.1 x0.2.2.2.2.2.2.2.2.1 0==0)=true then (if (g76_0 x0.2.2.2.2.2.2.2.2.2.1)=true then (if (g77_0 x0.2.2.2.2.2.2.2.2.2.2.1)=true then g78_0 x0.2.2.2.2.2.2.2.2.2.2.2.1 else false) else false) else false) else false) else (if (g72_0 x0.2.2.2.1)=true then false else false)) else (if (g72_0 x0.2.2.2.1)=true then false else false)) else (if (g73_0 x0.2.2.2.2.1)=true then (if (g74_0 x0.2.2.2.2.2.1)=true then false else false) else false)) else (if (g73_0 x0.2.2.2.2.1)=true then (if (g74_0 x0.2.2.2.2.2.1)=true then false else false) else false)) else (if (g73_0 x0.2.2.2.2.1)=true then (if (g74_0 x0.2.2.2.2.2.1)=true then false else false) else false))
theorem at41 (x0:TyA0) (h:P41 x0) (K:Ctx) (q:Nat→Value):AtV Tryz.prog 41 (PostR kds41 oks41 [⟨.bool,g41_0 x0⟩] [] [] q K) 60 K q [] [.code b41] (entE 0 0 sig41 (x0,())) (entL sig41 (x0,())):=by
 unfold P41 at h
 unfold g41_0
 by_cases b0:(g69_0 x0.1)=true
 ·try simp only [if_pos b0] at h ⊢
  by_cases b1:(g70_0 x0.2.1)=true
  ·try simp only [if_pos b1] at h ⊢
   by_cases b2:(g71_0 x0.2.2.1)=true
   ·try simp only [if_pos b2] at h ⊢
    by_cases b3:(g73_0 x0.2.2.2.2.1)=true
    ·try simp only [if_pos b3] at h ⊢
     by_cases b4:(g74_0 x0.2.2.2.2.2.1)=true
     ·try simp only [if_pos b4] at h ⊢
      by_cases b5:(g72_0 x0.2.2.2.1)=true
      ·try simp only [if_pos b5] at h ⊢
       by_cases b6:(g75_0 x0.2.2.2.2.2.2.1 x0.2.2.2.2.2.2.2.1 x0.2.2.2.2.2.2.2.2.1 0==0)=true
       ·try simp only [if_pos b6] at h ⊢
        by_cases b7:(g76_0 x0.2.2.2.2.2.2.2.2.2.1)=true
        ·try simp only [if_pos b7] at h ⊢
         by_cases b8:(g77_0 x0.2.2.2.2.2.2.2.2.2.2.1)=true
         ·try simp only [if_pos b8] at h ⊢
          exact AtV.ret Tryz.func41 tabOk ext41Ok mixed false [] tys41 [true,true,true,true,true,true,true,true,true] (a1 trivial (a1 b0 (a1 trivial (a1 b1 (a1 trivial (a1 b2 (a1 trivial (a1 trivial (a1 b3 (a1 trivial (a1 b4 (a1 trivial (a1 b5 (a1 b6 (a1 trivial (a1 b7 (a1 trivial (a1 b8 (a1 trivial trivial))))))))))))))))))) (by kernel_rfl)
         ·try simp only [if_neg b8] at h ⊢
          replace b8:=bf_ b8
          exact AtV.ret Tryz.func41 tabOk ext41Ok mixed false [] tys41 [true,true,true,true,true,true,true,true,false] (a1 trivial (a1 b0 (a1 trivial (a1 b1 (a1 trivial (a1 b2 (a1 trivial (a1 trivial (a1 b3 (a1 trivial (a1 b4 (a1 trivial (a1 b5 (a1 b6 (a1 trivial (a1 b7 (a1 trivial (a1 b8 trivial)))))))))))))))))) (by kernel_rfl)
        ·try simp only [if_neg b7] at h ⊢
         replace b7:=bf_ b7
         exact AtV.ret Tryz.func41 tabOk ext41Ok mixed false [] tys41 [true,true,true,true,true,true,true,false,false] (a1 trivial (a1 b0 (a1 trivial (a1 b1 (a1 trivial (a1 b2 (a1 trivial (a1 trivial (a1 b3 (a1 trivial (a1 b4 (a1 trivial (a1 b5 (a1 b6 (a1 trivial (a1 b7 (a1 (rfl:false=false) trivial))))))))))))))))) (by kernel_rfl)
       ·try simp only [if_neg b6] at h ⊢
        replace b6:=bf_ b6
        exact AtV.ret Tryz.func41 tabOk ext41Ok mixed false [] tys41 [true,true,true,true,true,true,false,false,false] (a1 trivial (a1 b0 (a1 trivial (a1 b1 (a1 trivial (a1 b2 (a1 trivial (a1 trivial (a1 b3 (a1 trivial (a1 b4 (a1 trivial (a1 b5 (a1 b6 (a1 (rfl:false=false) (a1 (rfl:false=false) trivial)))))))))))))))) (by kernel_rfl)
      ·try simp only [if_neg b5] at h ⊢
       replace b5:=bf_ b5
       exact AtV.ret Tryz.func41 tabOk ext41Ok mixed false [] tys41 [true,true,true,true,true,false,false,false,false] (a1 trivial (a1 b0 (a1 trivial (a1 b1 (a1 trivial (a1 b2 (a1 trivial (a1 trivial (a1 b3 (a1 trivial (a1 b4 (a1 trivial (a1 b5 (a1 (rfl:false=false) (a1 (rfl:false=false) (a1 (rfl:false=false) trivial)))))))))))))))) (by kernel_rfl)
     ·try simp only [if_neg b4] at h ⊢
      replace b4:=bf_ b4
      by_cases b5:(g72_0 x0.2.2.2.1)=true
      ·try simp only [if_pos b5] at h ⊢
       exact AtV.ret Tryz.func41 tabOk ext41Ok mixed false [] tys41 [true,true,true,true,false,true,false,false,false] (a1 trivial (a1 b0 (a1 trivial (a1 b1 (a1 trivial (a1 b2 (a1 trivial (a1 trivial (a1 b3 (a1 trivial (a1 b4 (a1 b5 (a1 (rfl:false=false) (a1 (rfl:false=false) (a1 (rfl:false=false) trivial))))))))))))))) (by kernel_rfl)
      ·try simp only [if_neg b5] at h ⊢
       replace b5:=bf_ b5
       exact AtV.ret Tryz.func41 tabOk ext41Ok mixed false [] tys41 [true,true,true,true,false,false,false,false,false] (a1 trivial (a1 b0 (a1 trivial (a1 b1 (a1 trivial (a1 b2 (a1 trivial (a1 trivial (a1 b3 (a1 trivial (a1 b4 (a1 b5 (a1 (rfl:false=false) (a1 (rfl:false=false) (a1 (rfl:false=false) trivial))))))))))))))) (by kernel_rfl)
    ·try simp only [if_neg b3] at h ⊢
     replace b3:=bf_ b3
     by_cases b4:(g72_0 x0.2.2.2.1)=true
     ·try simp only [if_pos b4] at h ⊢
      exact AtV.ret Tryz.func41 tabOk ext41Ok mixed false [] tys41 [true,true,true,false,false,true,false,false,false] (a1 trivial (a1 b0 (a1 trivial (a1 b1 (a1 trivial (a1 b2 (a1 trivial (a1 trivial (a1 b3 (a1 (rfl:false=false) (a1 b4 (a1 (rfl:false=false) (a1 (rfl:false=false) (a1 (rfl:false=false) trivial)))))))))))))) (by kernel_rfl)
     ·try simp only [if_neg b4] at h ⊢
      replace b4:=bf_ b4
      exact AtV.ret Tryz.func41 tabOk ext41Ok mixed false [] tys41 [true,true,true,false,false,false,false,false,false] (a1 trivial (a1 b0 (a1 trivial (a1 b1 (a1 trivial (a1 b2 (a1 trivial (a1 trivial (a1 b3 (a1 (rfl:false=false) (a1 b4 (a1 (rfl:false=false) (a1 (rfl:false=false) (a1 (rfl:false=false) trivial)))))))))))))) (by kernel_rfl)
   ·try simp only [if_neg b2] at h ⊢
    replace b2:=bf_ b2
    by_cases b3:(g73_0 x0.2.2.2.2.1)=true
    ·try simp only [if_pos b3] at h ⊢
     by_cases b4:(g74_0 x0.2.2.2.2.2.1)=true
     ·try simp only [if_pos b4] at h ⊢
      exact AtV.ret Tryz.func41 tabOk ext41Ok mixed false [] tys41 [true,true,false,true,true,false,false,false,false] (a1 trivial (a1 b0 (a1 trivial (a1 b1 (a1 trivial (a1 b2 (a1 trivial (a1 b3 (a1 trivial (a1 b4 (a1 trivial (a1 (rfl:false=false) (a1 (rfl:false=false) (a1 (rfl:false=false) (a1 (rfl:false=false) trivial))))))))))))))) (by kernel_rfl)
     ·try simp only [if_neg b4] at h ⊢
      replace b4:=bf_ b4
      exact AtV.ret Tryz.func41 tabOk ext41Ok mixed false [] tys41 [true,true,false,true,false,false,false,false,false] (a1 trivial (a1 b0 (a1 trivial (a1 b1 (a1 trivial (a1 b2 (a1 trivial (a1 b3 (a1 trivial (a1 b4 (a1 (rfl:false=false) (a1 (rfl:false=false) (a1 (rfl:false=false) (a1 (rfl:false=false) trivial)))))))))))))) (by kernel_rfl)
    ·try simp only [if_neg b3] at h ⊢
     replace b3:=bf_ b3
     exact AtV.ret Tryz.func41 tabOk ext41Ok mixed false [] tys41 [true,true,false,false,false,false,false,false,false] (a1 trivial (a1 b0 (a1 trivial (a1 b1 (a1 trivial (a1 b2 (a1 trivial (a1 b3 (a1 (rfl:false=false) (a1 (rfl:false=false) (a1 (rfl:false=false) (a1 (rfl:false=false) (a1 (rfl:false=false) trivial))))))))))))) (by kernel_rfl)
  ·try simp only [if_neg b1] at h ⊢
   replace b1:=bf_ b1
   by_cases b2:(g73_0 x0.2.2.2.2.1)=true
   ·try simp only [if_pos b2] at h ⊢
    by_cases b3:(g74_0 x0.2.2.2.2.2.1)=true
    ·try simp only [if_pos b3] at h ⊢
     exact AtV.ret Tryz.func41 tabOk ext41Ok mixed false [] tys41 [true,false,false,true,true,false,false,false,false] (a1 trivial (a1 b0 (a1 trivial (a1 b1 (a1 (rfl:false=false) (a1 trivial (a1 b2 (a1 trivial (a1 b3 (a1 trivial (a1 (rfl:false=false) (a1 (rfl:false=false) (a1 (rfl:false=false) (a1 (rfl:false=false) trivial)))))))))))))) (by kernel_rfl)
    ·try simp only [if_neg b3] at h ⊢
     replace b3:=bf_ b3
     exact AtV.ret Tryz.func41 tabOk ext41Ok mixed false [] tys41 [true,false,false,true,false,false,false,false,false] (a1 trivial (a1 b0 (a1 trivial (a1 b1 (a1 (rfl:false=false) (a1 trivial (a1 b2 (a1 trivial (a1 b3 (a1 (rfl:false=false) (a1 (rfl:false=false) (a1 (rfl:false=false) (a1 (rfl:false=false) trivial))))))))))))) (by kernel_rfl)
   ·try simp only [if_neg b2] at h ⊢
    replace b2:=bf_ b2
    exact AtV.ret Tryz.func41 tabOk ext41Ok mixed false [] tys41 [true,false,false,false,false,false,false,false,false] (a1 trivial (a1 b0 (a1 trivial (a1 b1 (a1 (rfl:false=false) (a1 trivial (a1 b2 (a1 (rfl:false=false) (a1 (rfl:false=false) (a1 (rfl:false=false) (a1 (rfl:false=false) (a1 (rfl:false=false) trivial)))))))))))) (by kernel_rfl)
 ·try simp only [if_neg b0] at h ⊢
  replace b0:=bf_ b0
  by_cases b1:(g73_0 x0.2.2.2.2.1)=true
  ·try simp only [if_pos b1] at h ⊢
   by_cases b2:(g74_0 x0.2.2.2.2.2.1)=true
   ·try simp only [if_pos b2] at h ⊢
    exact AtV.ret Tryz.func41 tabOk ext41Ok mixed false [] tys41 [false,false,false,true,true,false,false,false,false] (a1 trivial (a1 b0 (a1 (rfl:false=false) (a1 (rfl:false=false) (a1 trivial (a1 b1 (a1 trivial (a1 b2 (a1 trivial (a1 (rfl:false=false) (a1 (rfl:false=false) (a1 (rfl:false=false) (a1 (rfl:false=false) trivial))))))))))))) (by kernel_rfl)
   ·try simp only [if_neg b2] at h ⊢
    replace b2:=bf_ b2
    exact AtV.ret Tryz.func41 tabOk ext41Ok mixed false [] tys41 [false,false,false,true,false,false,false,false,false] (a1 trivial (a1 b0 (a1 (rfl:false=false) (a1 (rfl:false=false) (a1 trivial (a1 b1 (a1 trivial (a1 b2 (a1 (rfl:false=false) (a1 (rfl:false=false) (a1 (rfl:false=false) (a1 (rfl:false=false) trivial)))))))))))) (by kernel_rfl)
  ·try simp only [if_neg b1] at h ⊢
   replace b1:=bf_ b1
   exact AtV.ret Tryz.func41 tabOk ext41Ok mixed false [] tys41 [false,false,false,false,false,false,false,false,false] (a1 trivial (a1 b0 (a1 (rfl:false=false) (a1 (rfl:false=false) (a1 trivial (a1 b1 (a1 (rfl:false=false) (a1 (rfl:false=false) (a1 (rfl:false=false) (a1 (rfl:false=false) (a1 (rfl:false=false) trivial))))))))))) (by kernel_rfl)
def S41:Am.Spec:={ sig:=sig41,pre:=fun ⟨x0,_⟩=>P41 x0,res:=fun ⟨x0,_⟩=>[⟨.bool,g41_0 x0⟩],kds:=kds41 }
theorem con41:Contract Tryz.prog 41 S41:=contract_of Tryz.func41 hb41 (bl_ (by kernel_rfl)) (fun ⟨x0,_⟩ h _ K q=>at41 x0 h K q)
end
noncomputable section
def ext79:Ext:=[(80,S80)]
theorem ext79Ok:ExtOk Tryz.prog ext79:=⟨⟨ca80,con80⟩,trivial⟩
noncomputable def b79:Code:=bodyOf Tryz.f79
theorem hb79:Tryz.f79.body=some b79:=by kernel_rfl
def sig79:List AT:=[AT.v YA2]
def tys79:List Ty:=[.int .i64,.int .i64,.bool]
def kds79:List RK:=[]
def oks79:List AT:=owns sig79
def P79 (x0:List TyB4×Int×Int×Unit):Prop:=((P80 x0)∧((InR .i64 (g80_0 x0 - x0.2.2.1))∧((P80 x0)∧((InR .i64 (g80_0 x0 - x0.2.1))∧True))))
def g79_0 (x0:List TyB4×Int×Int×Unit):Int:=if x0.2.1<g80_0 x0 - x0.2.2.1 then g80_0 x0 - x0.2.2.1 else x0.2.1
def g79_1 (x0:List TyB4×Int×Int×Unit):Int:=if g80_0 x0 - x0.2.1<x0.2.2.1 then g80_0 x0 - x0.2.1 else x0.2.2.1
def g79_2 (x0:List TyB4×Int×Int×Unit):Bool:=decide ((if x0.2.1<g80_0 x0 - x0.2.2.1 then g80_0 x0 - x0.2.2.1 else x0.2.1)≤if g80_0 x0 - x0.2.1<x0.2.2.1 then g80_0 x0 - x0.2.1 else x0.2.2.1)
theorem at79 (x0:List TyB4×Int×Int×Unit) (h:P79 x0) (K:Ctx) (q:Nat→Value):AtV Tryz.prog 79 (PostR kds79 oks79 [⟨.int .i64,g79_0 x0⟩,⟨.int .i64,g79_1 x0⟩,⟨.bool,g79_2 x0⟩] [] [] q K) 28 K q [] [.code b79] (entE 0 0 sig79 (x0,())) (entL sig79 (x0,())):=by
 unfold P79 at h
 unfold g79_0 g79_1 g79_2
 obtain ⟨s0,h⟩:=h
 obtain ⟨s1,h⟩:=h
 obtain ⟨s2,h⟩:=h
 obtain ⟨s3,h⟩:=h
 exact AtV.ret Tryz.func79 tabOk ext79Ok mixed false [] tys79 [] (a1 s0 (a1 s1 (a1 s2 (a1 s3 trivial)))) (by kernel_rfl)
def S79:Am.Spec:={ sig:=sig79,pre:=fun ⟨x0,_⟩=>P79 x0,res:=fun ⟨x0,_⟩=>[⟨.int .i64,g79_0 x0⟩,⟨.int .i64,g79_1 x0⟩,⟨.bool,g79_2 x0⟩],kds:=kds79 }
theorem con79:Contract Tryz.prog 79 S79:=contract_of Tryz.func79 hb79 (bl_ (by kernel_rfl)) (fun ⟨x0,_⟩ h _ K q=>at79 x0 h K q)
end
noncomputable section
def ext107:Ext:=[]
theorem ext107Ok:ExtOk Tryz.prog ext107:=trivial
noncomputable def b107:Code:=bodyOf Tryz.f107
theorem hb107:Tryz.f107.body=some b107:=by kernel_rfl
def sig107:List AT:=[AT.v (.int .i64)]
def tys107:List Ty:=[.int .i64]
def kds107:List RK:=[]
def oks107:List AT:=owns sig107
def P107 (x0:Int):Prop:=(if (decide (x0<0))=true then ((InR .i64 (0 - x0))∧True) else True)
def g107_0 (x0:Int):Int:=(if (decide (x0<0))=true then 0 - x0 else x0)
theorem at107 (x0:Int) (h:P107 x0) (K:Ctx) (q:Nat→Value):AtV Tryz.prog 107 (PostR kds107 oks107 [⟨.int .i64,g107_0 x0⟩] [] [] q K) 8 K q [] [.code b107] (entE 0 0 sig107 (x0,())) (entL sig107 (x0,())):=by
 unfold P107 at h
 unfold g107_0
 by_cases b0:(decide (x0<0))=true
 ·try simp only [if_pos b0] at h ⊢
  obtain ⟨s0,h⟩:=h
  exact AtV.ret Tryz.func107 tabOk ext107Ok mixed false [] tys107 [true] (a1 b0 (a1 s0 trivial)) (by kernel_rfl)
 ·try simp only [if_neg b0] at h ⊢
  replace b0:=bf_ b0
  exact AtV.ret Tryz.func107 tabOk ext107Ok mixed false [] tys107 [false] (a1 b0 trivial) (by kernel_rfl)
def S107:Am.Spec:={ sig:=sig107,pre:=fun ⟨x0,_⟩=>P107 x0,res:=fun ⟨x0,_⟩=>[⟨.int .i64,g107_0 x0⟩],kds:=kds107 }
theorem con107:Contract Tryz.prog 107 S107:=contract_of Tryz.func107 hb107 (bl_ (by kernel_rfl)) (fun ⟨x0,_⟩ h _ K q=>at107 x0 h K q)
end
noncomputable section
def ext81:Ext:=[(80,S80),(107,S107)]
theorem ext81Ok:ExtOk Tryz.prog ext81:=⟨⟨ca80,con80⟩,⟨ca107,con107⟩,trivial⟩
noncomputable def b81:Code:=bodyOf Tryz.f81
theorem hb81:Tryz.f81.body=some b81:=by kernel_rfl
def sig81:List AT:=[AT.v YA2,AT.v (.int .i64)]
def tys81:List Ty:=[.int .i64]
def kds81:List RK:=[]
def oks81:List AT:=owns sig81
def P81 (x0:List TyB4×Int×Int×Unit) (x1:Int):Prop:=((P80 x0)∧((InR .i64 (2*x1))∧((InR .i64 (g80_0 x0 - 2*x1))∧((P107 (g80_0 x0 - 2*x1))∧True))))
def g81_0 (x0:List TyB4×Int×Int×Unit) (x1:Int):Int:=g107_0 (g80_0 x0 - 2*x1)
theorem at81 (x0:List TyB4×Int×Int×Unit) (x1:Int) (h:P81 x0 x1) (K:Ctx) (q:Nat→Value):AtV Tryz.prog 81 (PostR kds81 oks81 [⟨.int .i64,g81_0 x0 x1⟩] [] [] q K) 11 K q [] [.code b81] (entE 0 0 sig81 (x0,x1,())) (entL sig81 (x0,x1,())):=by
 unfold P81 at h
 unfold g81_0
 obtain ⟨s0,h⟩:=h
 obtain ⟨s1,h⟩:=h
 obtain ⟨s2,h⟩:=h
 obtain ⟨s3,h⟩:=h
 exact AtV.ret Tryz.func81 tabOk ext81Ok mixed false [] tys81 [] (a1 s0 (a1 s1 (a1 s2 (a1 s3 trivial)))) (by kernel_rfl)
def S81:Am.Spec:={ sig:=sig81,pre:=fun ⟨x0,x1,_⟩=>P81 x0 x1,res:=fun ⟨x0,x1,_⟩=>[⟨.int .i64,g81_0 x0 x1⟩],kds:=kds81 }
theorem con81:Contract Tryz.prog 81 S81:=contract_of Tryz.func81 hb81 (bl_ (by kernel_rfl)) (fun ⟨x0,x1,_⟩ h _ K q=>at81 x0 x1 h K q)
end
noncomputable section
def ext43:Ext:=[(79,S79),(80,S80),(81,S81)]
theorem ext43Ok:ExtOk Tryz.prog ext43:=⟨⟨ca79,con79⟩,⟨ca80,con80⟩,⟨ca81,con81⟩,trivial⟩
noncomputable def b43:Code:=bodyOf Tryz.f43
theorem hb43:Tryz.f43.body=some b43:=by kernel_rfl
def sig43:List AT:=[AT.v YA2]
def tys43:List Ty:=[.int .i64,.bool]
def kds43:List RK:=[]
def oks43:List AT:=owns sig43
def P43 (x0:List TyB4×Int×Int×Unit):Prop:=((P79 x0)∧(if (!g79_2 x0)=true then ((P80 x0)∧((InR .i64 (Int.tmod (g80_0 x0) 2))∧True)) else (if (g79_0 x0==0)=true then True else ((InR .i64 (g79_0 x0 - 1))∧((P81 x0 (g79_0 x0 - 1))∧True)))))
def g43_0 (x0:List TyB4×Int×Int×Unit):Int:=(if (!g79_2 x0)=true then Int.tmod (g80_0 x0) 2 else (if (g79_0 x0==0)=true then 0 else g81_0 x0 (g79_0 x0 - 1)))
def g43_1 (x0:List TyB4×Int×Int×Unit):Bool:=(if (!g79_2 x0)=true then true else (if (g79_0 x0==0)=true then false else true))
theorem at43 (x0:List TyB4×Int×Int×Unit) (h:P43 x0) (K:Ctx) (q:Nat→Value):AtV Tryz.prog 43 (PostR kds43 oks43 [⟨.int .i64,g43_0 x0⟩,⟨.bool,g43_1 x0⟩] [] [] q K) 26 K q [] [.code b43] (entE 0 0 sig43 (x0,())) (entL sig43 (x0,())):=by
 unfold P43 at h
 unfold g43_0 g43_1
 obtain ⟨s0,h⟩:=h
 by_cases b0:(!g79_2 x0)=true
 ·try simp only [if_pos b0] at h ⊢
  obtain ⟨s1,h⟩:=h
  obtain ⟨s2,h⟩:=h
  exact AtV.ret Tryz.func43 tabOk ext43Ok mixed false [] tys43 [true] (a1 s0 (a1 b0 (a1 s1 (a1 ((by decide):(2:Int)≠(0:Int)) (a1 s2 trivial))))) (by kernel_rfl)
 ·try simp only [if_neg b0] at h ⊢
  replace b0:=bf_ b0
  by_cases b1:(g79_0 x0==0)=true
  ·try simp only [if_pos b1] at h ⊢
   exact AtV.ret Tryz.func43 tabOk ext43Ok mixed false [] tys43 [false,true] (a1 s0 (a1 b0 (a1 b1 trivial))) (by kernel_rfl)
  ·try simp only [if_neg b1] at h ⊢
   replace b1:=bf_ b1
   obtain ⟨s1,h⟩:=h
   obtain ⟨s2,h⟩:=h
   exact AtV.ret Tryz.func43 tabOk ext43Ok mixed false [] tys43 [false,false] (a1 s0 (a1 b0 (a1 b1 (a1 s1 (a1 s2 trivial))))) (by kernel_rfl)
def S43:Am.Spec:={ sig:=sig43,pre:=fun ⟨x0,_⟩=>P43 x0,res:=fun ⟨x0,_⟩=>[⟨.int .i64,g43_0 x0⟩,⟨.bool,g43_1 x0⟩],kds:=kds43 }
theorem con43:Contract Tryz.prog 43 S43:=contract_of Tryz.func43 hb43 (bl_ (by kernel_rfl)) (fun ⟨x0,_⟩ h _ K q=>at43 x0 h K q)
end
noncomputable section
def ext42:Ext:=[(79,S79),(43,S43)]
theorem ext42Ok:ExtOk Tryz.prog ext42:=⟨⟨ca79,con79⟩,⟨ca43,con43⟩,trivial⟩
noncomputable def b42:Code:=bodyOf Tryz.f42
theorem hb42:Tryz.f42.body=some b42:=by kernel_rfl
def sig42:List AT:=[AT.v YA2,AT.v (.int .i64)]
def tys42:List Ty:=[.bool]
def kds42:List RK:=[]
def oks42:List AT:=owns sig42
def P42 (x0:List TyB4×Int×Int×Unit) (x1:Int):Prop:=((P79 x0)∧((P43 x0)∧True))
def g42_0 (x0:List TyB4×Int×Int×Unit) (x1:Int):Bool:=(if (g79_2 x0)=true then (if (!g43_1 x0)=true then true else decide (g43_0 x0≥x1)) else false)
theorem at42 (x0:List TyB4×Int×Int×Unit) (x1:Int) (h:P42 x0 x1) (K:Ctx) (q:Nat→Value):AtV Tryz.prog 42 (PostR kds42 oks42 [⟨.bool,g42_0 x0 x1⟩] [] [] q K) 31 K q [] [.code b42] (entE 0 0 sig42 (x0,x1,())) (entL sig42 (x0,x1,())):=by
 unfold P42 at h
 unfold g42_0
 obtain ⟨s0,h⟩:=h
 obtain ⟨s1,h⟩:=h
 by_cases b0:(g79_2 x0)=true
 ·try simp only [if_pos b0] at h ⊢
  by_cases b1:(!g43_1 x0)=true
  ·try simp only [if_pos b1] at h ⊢
   exact AtV.ret Tryz.func42 tabOk ext42Ok mixed false [] tys42 [true,true] (a1 s0 (a1 s1 (a1 b0 (a1 b1 trivial)))) (by kernel_rfl)
  ·try simp only [if_neg b1] at h ⊢
   replace b1:=bf_ b1
   exact AtV.ret Tryz.func42 tabOk ext42Ok mixed false [] tys42 [true,false] (a1 s0 (a1 s1 (a1 b0 (a1 b1 trivial)))) (by kernel_rfl)
 ·try simp only [if_neg b0] at h ⊢
  replace b0:=bf_ b0
  exact AtV.ret Tryz.func42 tabOk ext42Ok mixed false [] tys42 [false] (a1 s0 (a1 s1 (a1 b0 trivial))) (by kernel_rfl)
def S42:Am.Spec:={ sig:=sig42,pre:=fun ⟨x0,x1,_⟩=>P42 x0 x1,res:=fun ⟨x0,x1,_⟩=>[⟨.bool,g42_0 x0 x1⟩],kds:=kds42 }
theorem con42:Contract Tryz.prog 42 S42:=contract_of Tryz.func42 hb42 (bl_ (by kernel_rfl)) (fun ⟨x0,x1,_⟩ h _ K q=>at42 x0 x1 h K q)
end
def sig82:List AT:=[AT.v (Ty.int .i64),AT.v (Ty.int .i64)]
def g82_0 (x0 x1:Int):ByteArray:=numB x0
def P82 (x0 x1:Int):Prop:=x1=10
def S82:Am.Spec:={ sig:=sig82,pre:=fun ⟨x0,x1,_⟩=>P82 x0 x1,res:=fun ⟨x0,x1,_⟩=>[⟨Ty.str,g82_0 x0 x1⟩] }
theorem con82:Contract Tryz.prog 82 S82:=contract_flat rfl fun w ⟨x0,x1,_⟩ vs bss hg hp hw ha=>by
 obtain ⟨v0,s0,_,_,rfl,_,⟨_,rfl,hi⟩,v1,s1,_,_,rfl,_,⟨_,rfl,_⟩,rfl,_⟩:=ha
 obtain rfl:x1=10:=hp
 have hi:InR .i64 x0:=hi
 rw [i64_iff] at hi
 refine ⟨fun d hd => ?_,?_⟩
 ·rw [List.mem_singleton.1 hd]
  refine ⟨rfl,?_⟩
  show (numB x0).size≤maxLen
  have:=numB_size x0 hi.1 hi.2
  unfold maxLen;omega
 ·refine (Tryz.strconv_FormatInt_10 x0 hi.1 hi.2 w (pow10G hg)).mono ?_
  rintro e w' ⟨rfl,n,os,rfl⟩
  exact ⟨rfl,kept_grow _ _ _⟩
noncomputable section
def ext44:Ext:=[(82,S82)]
theorem ext44Ok:ExtOk Tryz.prog ext44:=⟨⟨ca82,con82⟩,trivial⟩
noncomputable def b44:Code:=bodyOf Tryz.f44
theorem hb44:Tryz.f44.body=some b44:=by kernel_rfl
def sig44:List AT:=[AT.v (.int .i64)]
def tys44:List Ty:=[.str]
def kds44:List RK:=[]
def oks44:List AT:=owns sig44
def P44 (x0:Int):Prop:=((P82 x0 10)∧True)
def g44_0 (x0:Int):ByteArray:=g82_0 x0 10
theorem at44 (x0:Int) (h:P44 x0) (K:Ctx) (q:Nat→Value):AtV Tryz.prog 44 (PostR kds44 oks44 [⟨.str,g44_0 x0⟩] [] [] q K) 5 K q [] [.code b44] (entE 0 0 sig44 (x0,())) (entL sig44 (x0,())):=by
 unfold P44 at h
 unfold g44_0
 obtain ⟨s0,h⟩:=h
 exact AtV.ret Tryz.func44 tabOk ext44Ok mixed false [] tys44 [] (a1 s0 trivial) (by kernel_rfl)
def S44:Am.Spec:={ sig:=sig44,pre:=fun ⟨x0,_⟩=>P44 x0,res:=fun ⟨x0,_⟩=>[⟨.str,g44_0 x0⟩],kds:=kds44 }
theorem con44:Contract Tryz.prog 44 S44:=contract_of Tryz.func44 hb44 (bl_ (by kernel_rfl)) (fun ⟨x0,_⟩ h _ K q=>at44 x0 h K q)
end
noncomputable section
def ext131:Ext:=[]
theorem ext131Ok:ExtOk Tryz.prog ext131:=trivial
noncomputable def b131:Code:=bodyOf Tryz.f131
theorem hb131:Tryz.f131.body=some b131:=by kernel_rfl
def sig131:List AT:=[AT.v (.int .i64),AT.p (.cons (.int .i64) (.cons (.int .i64) (.cons (.int .i64) (.cons (.int .i64) .unit)))),AT.p (.int .i64)]
def tys131:List Ty:=[.bool]
def kds131:List RK:=[]
def oks131:List AT:=owns sig131
def P131 (x0:Int) (x1:Int×Int×Int×Int×Unit) (x2:Int):Prop:=((InR .i64 (x0*x0))∧((InR .i64 (x1.2.2.1*x1.2.2.1))∧((InR .i64 (2*x1.1))∧((InR .i64 (x2 - x0))∧((InR .i64 (x2 - x0 - x1.2.2.2.1))∧((InR .i64 (2*x1.1*if 0<x2 - x0 - x1.2.2.2.1 then x2 - x0 - x1.2.2.2.1 else 0))∧((InR .i64 (x1.2.2.1*x1.2.2.1+2*x1.1*if 0<x2 - x0 - x1.2.2.2.1 then x2 - x0 - x1.2.2.2.1 else 0))∧True)))))))
def g131_0 (x0:Int) (x1:Int×Int×Int×Int×Unit) (x2:Int):Bool:=decide (x0*x0>x1.2.2.1*x1.2.2.1+2*x1.1*if 0<x2 - x0 - x1.2.2.2.1 then x2 - x0 - x1.2.2.2.1 else 0)
theorem at131 (x0:Int) (x1:Int×Int×Int×Int×Unit) (x2:Int) (h:P131 x0 x1 x2) (K:Ctx) (q:Nat→Value):AtV Tryz.prog 131 (PostR kds131 oks131 [⟨.bool,g131_0 x0 x1 x2⟩] [] [] q K) 26 K q [] [.code b131] (entE 0 0 sig131 (x0,x1,x2,())) (entL sig131 (x0,x1,x2,())):=by
 unfold P131 at h
 unfold g131_0
 obtain ⟨s0,h⟩:=h
 obtain ⟨s1,h⟩:=h
 obtain ⟨s2,h⟩:=h
 obtain ⟨s3,h⟩:=h
 obtain ⟨s4,h⟩:=h
 obtain ⟨s5,h⟩:=h
 obtain ⟨s6,h⟩:=h
 exact AtV.ret Tryz.func131 tabOk ext131Ok mixed false [] tys131 [] (a1 s0 (a1 s1 (a1 s2 (a1 s3 (a1 s4 (a1 s5 (a1 s6 trivial))))))) (by kernel_rfl)
def S131:Am.Spec:={ sig:=sig131,pre:=fun ⟨x0,x1,x2,_⟩=>P131 x0 x1 x2,res:=fun ⟨x0,x1,x2,_⟩=>[⟨.bool,g131_0 x0 x1 x2⟩],kds:=kds131 }
theorem con131:Contract Tryz.prog 131 S131:=contract_of Tryz.func131 hb131 (bl_ (by kernel_rfl)) (fun ⟨x0,x1,x2,_⟩ h _ K q=>at131 x0 x1 x2 h K q)
end
def bsI (C:Int→Bool):Nat→Int→Int→Int
 | 0,lo,_=>lo
 | n+1,lo,e=>if lo<e then (if C (Int.tdiv (lo+e) 2)=true then bsI C n lo (Int.tdiv (lo+e) 2) else bsI C n (Int.tdiv (lo+e) 2+1) e) else lo
theorem half_in {lo e:Int} (h0:0≤lo) (h:lo<e):lo≤Int.tdiv (lo+e) 2∧Int.tdiv (lo+e) 2<e:=by
 rw [Int.tdiv_eq_ediv_of_nonneg (by omega)]
 omega
theorem bsI_ok (C:Int→Bool) (l0 e0:Int):∀ (n:Nat) (lo e:Int),0≤lo→lo≤e→e - lo≤(n:Int)→(e=e0∨C e=true)→(lo=l0∨C (lo - 1)=false)→l0≤lo→e≤e0 →
  l0≤bsI C n lo e∧bsI C n lo e≤e0∧(bsI C n lo e=e0∨C (bsI C n lo e)=true)∧(bsI C n lo e=l0∨C (bsI C n lo e - 1)=false)
 | 0,lo,e,h0,h1,h2,h3,h4,h5,h6=>by
  obtain rfl:e=lo:=by omega
  exact ⟨h5,h6,h3,h4⟩
 | n+1,lo,e,h0,h1,h2,h3,h4,h5,h6=>by
  unfold bsI
  by_cases h:lo<e
  ·obtain ⟨m1,m2⟩:=half_in h0 h
   rw [if_pos h]
   by_cases hc:C (Int.tdiv (lo+e) 2)=true
   ·rw [if_pos hc]
    exact bsI_ok C l0 e0 n lo _ h0 m1 (by omega) (.inr hc) h4 h5 (by omega)
   ·rw [if_neg hc]
    refine bsI_ok C l0 e0 n _ e (by omega) (by omega) (by omega) h3 (.inr ?_) (by omega) h6
    rw [Int.add_sub_cancel]
    exact Bool.eq_false_iff.2 hc
  ·rw [if_neg h]
   obtain rfl:e=lo:=by omega
   exact ⟨h5,h6,h3,h4⟩
noncomputable section
def ext130c131:Ext:=[(131,S131)]
theorem ext130c131Ok:ExtOk Tryz.prog ext130c131:=⟨⟨ca131,con131⟩,trivial⟩
noncomputable def b130c131:Code:=bodyOf Tryz.f130
theorem hb130c131:Tryz.f130.body=some b130c131:=by kernel_rfl
def sig130c131:List AT:=[AT.v (.int .i64),AT.v (.int .i64),AT.fn 131 [(true,(.cons (.int .i64) (.cons (.int .i64) (.cons (.int .i64) (.cons (.int .i64) .unit))))),(true,(.int .i64))]]
def tys130c131:List Ty:=[.int .i64]
def kds130c131:List RK:=[]
def oks130c131:List AT:=owns sig130c131
def E130c131_2 (v7:Int) (x0:Int) (x2:Int×Int×Int×Int×Unit) (x2c:Int):Env:=[(0,.a (.val (.int .i64 x0))),(2,PV.fn 131 [Atom.ptr YA4 x2,Atom.ptr (.int .i64) x2c]),(7,.a (.val (.int .i64 v7)))]
def L130c131_2 (v7:Int) (x0:Int) (x2:Int×Int×Int×Int×Unit) (x2c:Int):Heap:=[]
mutual
def R130c131:Nat→Int→Int→Int×Int×Int×Int×Unit→Int→List Dyn→Prop
 | 0,_,_,_,_,_=>False
 | n+1,x0,x1,x2,x2c,ds=>((InR .i64 (x1+1))∧(R130c131_2 n (x1+1) (x0) (x2) (x2c) ds))
def R130c131_2:Nat→Int→Int→Int×Int×Int×Int×Unit→Int→List Dyn→Prop
 | 0,_,_,_,_,_=>False
 | n+1,v7,x0,x2,x2c,ds=>(if (decide (x0<v7))=true then ((InR .i64 (x0+v7))∧((InR .i64 (Int.tdiv (x0+v7) 2))∧((P131 (Int.tdiv (x0+v7) 2) x2 x2c)∧(if (g131_0 (Int.tdiv (x0+v7) 2) x2 x2c)=true then (R130c131_2 n (Int.tdiv (x0+v7) 2) (x0) (x2) (x2c) ds) else ((InR .i64 (Int.tdiv (x0+v7) 2+1))∧(R130c131_2 n (v7) (Int.tdiv (x0+v7) 2+1) (x2) (x2c) ds)))))) else (ds=[Dyn.mk (.int .i64) x0]))
end
theorem snd130c131:∀ n,(∀ (x0:Int) (x1:Int) (x2:Int×Int×Int×Int×Unit) (x2c:Int) ds,R130c131 n x0 x1 x2 x2c ds→∀ K q,AtV Tryz.prog 130 (PostR kds130c131 oks130c131 ds [] [] q K) 25 K q [] [.code b130c131] (entE 0 0 sig130c131 (x0,x1,(x2,x2c,()),())) (entL sig130c131 (x0,x1,(x2,x2c,()),())))∧(∀ (v7:Int) (x0:Int) (x2:Int×Int×Int×Int×Unit) (x2c:Int) ds,R130c131_2 n v7 x0 x2 x2c ds→∀ K q,AtV Tryz.prog 130 (PostR kds130c131 oks130c131 ds [] [] q K) 25 K q [] (cutAt b130c131 2) (E130c131_2 v7 x0 x2 x2c) (L130c131_2 v7 x0 x2 x2c)):=by
 intro n
 induction n with
 | zero=>exact ⟨fun _ _ _ _ _ h=>by simp only [R130c131] at h,fun _ _ _ _ _ h=>by simp only [R130c131_2] at h⟩
 | succ n ih =>
 obtain ⟨ih,ih2⟩:=ih
 refine ⟨?_,?_⟩
 ·intro x0 x1 x2 x2c ds h K q
  rw [R130c131] at h
  obtain ⟨s0,h⟩:=h
  exact AtV.go tabOk ext130c131Ok mixed false [] [] [0,2,7] [] [] (a1 s0 trivial) (ih2 _ _ _ _ _ h K q) (by kernel_rfl)
 ·intro v7 x0 x2 x2c ds h K q
  rw [R130c131_2] at h
  by_cases b0:(decide (x0<v7))=true
  ·rw [if_pos b0] at h
   obtain ⟨s0,h⟩:=h
   obtain ⟨s1,h⟩:=h
   obtain ⟨s2,h⟩:=h
   by_cases b1:(g131_0 (Int.tdiv (x0+v7) 2) x2 x2c)=true
   ·rw [if_pos b1] at h
    exact AtV.go tabOk ext130c131Ok mixed false [] [] [0,2,7] [] [true,true] (a1 b0 (a1 s0 (a1 ((by decide):(2:Int)≠(0:Int)) (a1 s1 (a1 s2 (a1 b1 trivial)))))) (ih2 _ _ _ _ _ h K q) (by kernel_rfl)
   ·rw [if_neg b1] at h
    replace b1:=bf_ b1
    obtain ⟨s3,h⟩:=h
    exact AtV.go tabOk ext130c131Ok mixed false [] [] [0,2,7] [] [true,false] (a1 b0 (a1 s0 (a1 ((by decide):(2:Int)≠(0:Int)) (a1 s1 (a1 s2 (a1 b1 (a1 s3 trivial))))))) (ih2 _ _ _ _ _ h K q) (by kernel_rfl)
  ·rw [if_neg b0] at h
   replace b0:=bf_ b0
   subst h
   exact AtV.ret Tryz.func130 tabOk ext130c131Ok mixed false [] tys130c131 [false] (a1 b0 trivial) (by kernel_rfl)
def g130c131_0 (x0 x1:Int) (y0:Int×Int×Int×Int×Unit) (y1:Int):Int:=bsI (fun x=>g131_0 x y0 y1) (x1+1 - x0).toNat x0 (x1+1)
def P130c131 (x0 x1:Int) (y0:Int×Int×Int×Int×Unit) (y1:Int):Prop:=(0≤x0∧x0≤x1+1∧x1≤1000000000)∧∀ v,0≤v→v≤x1→P131 v y0 y1
theorem run130c131 (y0:Int×Int×Int×Int×Unit) (y1:Int) (e9:Int) (he:e9≤1000000000) (hp:∀ v,0≤v→v≤e9→P131 v y0 y1):∀ (k:Nat) (lo e:Int),0≤lo→lo≤e→e≤e9+1→e - lo≤(k:Int)→R130c131_2 (k+1) e lo y0 y1 [⟨.int .i64,bsI (fun x=>g131_0 x y0 y1) k lo e⟩]:=by
 intro k
 induction k with
 | zero =>
  intro lo e h0 h1 h2 h3
  rw [R130c131_2,if_neg (by simp only [decide_eq_true_eq];omega)]
  rfl
 | succ k ih =>
  intro lo e h0 h1 h2 h3
  unfold bsI
  by_cases hlt:lo<e
  ·obtain ⟨m1,m2⟩:=half_in h0 hlt
   rw [R130c131_2,if_pos (by simpa using hlt),if_pos hlt]
   refine ⟨by rw [i64_iff];omega,by rw [i64_iff];omega,hp _ (by omega) (by omega),?_⟩
   split
   ·exact ih lo _ h0 m1 (by omega) (by omega)
   ·exact ⟨by rw [i64_iff];omega,ih _ e (by omega) (by omega) h2 (by omega)⟩
  ·rw [R130c131_2,if_neg (by simpa using hlt),if_neg hlt]
theorem top130c131 (x0 x1:Int) (y0:Int×Int×Int×Int×Unit) (y1:Int) (h:P130c131 x0 x1 y0 y1):R130c131 ((x1+1 - x0).toNat+1+1) x0 x1 y0 y1 [⟨.int .i64,g130c131_0 x0 x1 y0 y1⟩]:=by
 obtain ⟨⟨h1,h2,h3⟩,hp⟩:=h
 rw [R130c131]
 exact ⟨by rw [i64_iff];omega,run130c131 y0 y1 x1 h3 hp _ _ _ h1 h2 (by omega) (by omega)⟩
def S130c131:Am.Spec:={ sig:=sig130c131,pre:=fun ⟨x0,x1,⟨y0,y1,_⟩,_⟩=>P130c131 x0 x1 y0 y1,res:=fun ⟨x0,x1,⟨y0,y1,_⟩,_⟩=>[⟨.int .i64,g130c131_0 x0 x1 y0 y1⟩] }
theorem con130c131:Contract Tryz.prog 130 S130c131:=contract_of Tryz.func130 hb130c131 (bl_ (by kernel_rfl)) (fun ⟨x0,x1,⟨y0,y1,_⟩,_⟩ h hwf K q =>
 (snd130c131 _).1 x0 x1 y0 y1 _ (top130c131 x0 x1 y0 y1 h) K q)
end
noncomputable section
def ext109:Ext:=[(130,S130c131)]
theorem ext109Ok:ExtOk Tryz.prog ext109:=⟨⟨ca130,con130c131⟩,trivial⟩
noncomputable def b109:Code:=bodyOf Tryz.f109
theorem hb109:Tryz.f109.body=some b109:=by kernel_rfl
def sig109:List AT:=[AT.v YA4,AT.v (.int .i64),AT.v (.int .i64)]
def tys109:List Ty:=[.int .i64]
def kds109:List RK:=[]
def oks109:List AT:=owns sig109
def P109 (x0:Int×Int×Int×Int×Unit) (x1:Int) (x2:Int):Prop:=((InR .i64 (x1+x0.1))∧(if (decide ((if x1+x0.1<x0.2.1 then x1+x0.1 else x0.2.1)>x0.2.2.1))=true then ((P130c131 x0.2.2.1 (if x1+x0.1<x0.2.1 then x1+x0.1 else x0.2.1) x0 x2)∧((InR .i64 (g130c131_0 x0.2.2.1 (if x1+x0.1<x0.2.1 then x1+x0.1 else x0.2.1) x0 x2 - 1))∧True)) else True))
def g109_0 (x0:Int×Int×Int×Int×Unit) (x1:Int) (x2:Int):Int:=(if (decide ((if x1+x0.1<x0.2.1 then x1+x0.1 else x0.2.1)>x0.2.2.1))=true then if x2<g130c131_0 x0.2.2.1 (if x1+x0.1<x0.2.1 then x1+x0.1 else x0.2.1) x0 x2 - 1 then x2 else g130c131_0 x0.2.2.1 (if x1+x0.1<x0.2.1 then x1+x0.1 else x0.2.1) x0 x2 - 1 else if x2<x0.2.2.1 then x2 else x0.2.2.1)
theorem at109 (x0:Int×Int×Int×Int×Unit) (x1:Int) (x2:Int) (h:P109 x0 x1 x2) (K:Ctx) (q:Nat→Value):AtV Tryz.prog 109 (PostR kds109 oks109 [⟨.int .i64,g109_0 x0 x1 x2⟩] [] [] q K) 31 K q [] [.code b109] (entE 0 0 sig109 (x0,x1,x2,())) (entL sig109 (x0,x1,x2,())):=by
 unfold P109 at h
 unfold g109_0
 obtain ⟨s0,h⟩:=h
 by_cases b0:(decide ((if x1+x0.1<x0.2.1 then x1+x0.1 else x0.2.1)>x0.2.2.1))=true
 ·try simp only [if_pos b0] at h ⊢
  obtain ⟨s1,h⟩:=h
  obtain ⟨s2,h⟩:=h
  exact AtV.ret Tryz.func109 tabOk ext109Ok mixed false [] tys109 [true] (a1 s0 (a1 b0 (a1 s1 (a1 s2 trivial)))) (by kernel_rfl)
 ·try simp only [if_neg b0] at h ⊢
  replace b0:=bf_ b0
  exact AtV.ret Tryz.func109 tabOk ext109Ok mixed false [] tys109 [false] (a1 s0 (a1 b0 trivial)) (by kernel_rfl)
def S109:Am.Spec:={ sig:=sig109,pre:=fun ⟨x0,x1,x2,_⟩=>P109 x0 x1 x2,res:=fun ⟨x0,x1,x2,_⟩=>[⟨.int .i64,g109_0 x0 x1 x2⟩],kds:=kds109 }
theorem con109:Contract Tryz.prog 109 S109:=contract_of Tryz.func109 hb109 (bl_ (by kernel_rfl)) (fun ⟨x0,x1,x2,_⟩ h _ K q=>at109 x0 x1 x2 h K q)
end
def worstL (down:Bool) (g:Int) (xs:List TyB4):Int:=xs.foldl (fun g x=>if down=true then (if g<x.2.1 then x.2.1 else g) else (if x.2.1<g then x.2.1 else g)) g
theorem worst_cons (down:Bool) (g:Int) (x:Int×Int×Unit) (xs:List TyB4):worstL down g (x :: xs)=worstL down (if down=true then (if g<x.2.1 then x.2.1 else g) else (if x.2.1<g then x.2.1 else g)) xs:=rfl
theorem worst_mem (down:Bool):∀ (xs:List TyB4) (g:Int),worstL down g xs=g∨∃ x∈xs,worstL down g xs=x.2.1
 | [],g => .inl rfl
 | x :: xs,g=>by
  rw [worst_cons]
  rcases worst_mem down xs (if down=true then (if g<x.2.1 then x.2.1 else g) else (if x.2.1<g then x.2.1 else g)) with h | ⟨y,hy,h⟩
  ·rw [h]
   split
   ·split
    ·exact .inr ⟨x,List.mem_cons_self .., rfl⟩
    ·exact .inl rfl
   ·split
    ·exact .inr ⟨x,List.mem_cons_self .., rfl⟩
    ·exact .inl rfl
  ·exact .inr ⟨y,List.mem_cons_of_mem _ hy,h⟩
noncomputable section
def ext111:Ext:=[]
theorem ext111Ok:ExtOk Tryz.prog ext111:=trivial
noncomputable def b111:Code:=bodyOf Tryz.f111
theorem hb111:Tryz.f111.body=some b111:=by kernel_rfl
def sig111:List AT:=[AT.v YA2,AT.v (.bool)]
def tys111:List Ty:=[.int .i64]
def kds111:List RK:=[]
def oks111:List AT:=owns sig111
def E111_3 (v5:Int) (v16:Int) (x1:Bool) (x0:List TyB4×Int×Int×Unit):Env:=[(1,.a (.val (.bool x1))),(5,.a (.val (.int .i64 v5))),(14,.a (.sl YA11 x0.1)),(15,.a (.val (.int .i64 (x0.1.length:Int)))),(16,.a (.val (.int .i64 v16)))]
def L111_3 (v5:Int) (v16:Int) (x1:Bool) (x0:List TyB4×Int×Int×Unit):Heap:=[]
mutual
def R111:Nat→List TyB4×Int×Int×Unit→Bool→List Dyn→Prop
 | 0,_,_,_=>False
 | n+1,x0,x1,ds=>((0<(x0.1.length:Int))∧(R111_3 n (List.getD x0.1 0 (0,0,())).2.1 (0) (x1) (x0) ds))
def R111_3:Nat→Int→Int→Bool→List TyB4×Int×Int×Unit→List Dyn→Prop
 | 0,_,_,_,_,_=>False
 | n+1,v5,v16,x1,x0,ds=>(if (decide (v16<(x0.1.length:Int)))=true then ((0≤v16)∧(v16<(x0.1.length:Int))∧(if (x1)=true then ((InR .i64 (v16+1))∧(R111_3 n (if v5<(List.getD x0.1 (Int.toNat v16) (0,0,())).2.1 then (List.getD x0.1 (Int.toNat v16) (0,0,())).2.1 else v5) (v16+1) (x1) (x0) ds)) else ((InR .i64 (v16+1))∧(R111_3 n (if (List.getD x0.1 (Int.toNat v16) (0,0,())).2.1<v5 then (List.getD x0.1 (Int.toNat v16) (0,0,())).2.1 else v5) (v16+1) (x1) (x0) ds)))) else (ds=[Dyn.mk (.int .i64) v5]))
end
theorem snd111:∀ n,(∀ (x0:List TyB4×Int×Int×Unit) (x1:Bool) ds,R111 n x0 x1 ds→∀ K q,AtV Tryz.prog 111 (PostR kds111 oks111 ds [] [] q K) 31 K q [] [.code b111] (entE 0 0 sig111 (x0,x1,())) (entL sig111 (x0,x1,())))∧(∀ (v5:Int) (v16:Int) (x1:Bool) (x0:List TyB4×Int×Int×Unit) ds,R111_3 n v5 v16 x1 x0 ds→∀ K q,AtV Tryz.prog 111 (PostR kds111 oks111 ds [] [] q K) 31 K q [] (cutAt b111 3) (E111_3 v5 v16 x1 x0) (L111_3 v5 v16 x1 x0)):=by
 intro n
 induction n with
 | zero=>exact ⟨fun _ _ _ h=>by simp only [R111] at h,fun _ _ _ _ _ h=>by simp only [R111_3] at h⟩
 | succ n ih =>
 obtain ⟨ih,ih3⟩:=ih
 refine ⟨?_,?_⟩
 ·intro x0 x1 ds h K q
  rw [R111] at h
  obtain ⟨s0,h⟩:=h
  exact AtV.go tabOk ext111Ok mixed false [] [] [1,5,14,15,16] [] [] (a1 ((by decide):(0:Int)≤(0:Int)) (a1 s0 trivial)) (ih3 _ _ _ _ _ h K q) (by kernel_rfl)
 ·intro v5 v16 x1 x0 ds h K q
  rw [R111_3] at h
  by_cases b0:(decide (v16<(x0.1.length:Int)))=true
  ·rw [if_pos b0] at h
   obtain ⟨s0,s1,h⟩:=h
   by_cases b1:(x1)=true
   ·rw [if_pos b1] at h
    obtain ⟨s2,h⟩:=h
    exact AtV.go tabOk ext111Ok mixed false [] [] [1,5,14,15,16] [] [true,true] (a1 b0 (a1 s0 (a1 s1 (a1 b1 (a1 s2 trivial))))) (ih3 _ _ _ _ _ h K q) (by kernel_rfl)
   ·rw [if_neg b1] at h
    replace b1:=bf_ b1
    obtain ⟨s2,h⟩:=h
    exact AtV.go tabOk ext111Ok mixed false [] [] [1,5,14,15,16] [] [true,false] (a1 b0 (a1 s0 (a1 s1 (a1 b1 (a1 s2 trivial))))) (ih3 _ _ _ _ _ h K q) (by kernel_rfl)
  ·rw [if_neg b0] at h
   replace b0:=bf_ b0
   subst h
   exact AtV.ret Tryz.func111 tabOk ext111Ok mixed false [] tys111 [false] (a1 b0 trivial) (by kernel_rfl)
def g111_0 (x0:List TyB4×Int×Int×Unit) (x1:Bool):Int:=worstL x1 (x0.1.getD 0 ((0:Int),(0:Int),())).2.1 x0.1
def P111 (x0:List TyB4×Int×Int×Unit) (x1:Bool):Prop:=1≤x0.1.length∧x0.1.length≤1000
theorem run111 (x0:List TyB4×Int×Int×Unit) (x1:Bool) (hl:x0.1.length≤1000):∀ (k i:Nat) (g:Int),i+k=x0.1.length→R111_3 (k+1) g (i:Int) x1 x0 [⟨.int .i64,worstL x1 g (x0.1.drop i)⟩]:=by
 intro k
 induction k with
 | zero =>
  intro i g hi
  rw [R111_3,if_neg (by simp only [decide_eq_true_eq];omega),List.drop_eq_nil_of_le (by omega)]
  rfl
 | succ k ih =>
  intro i g hi
  have hlt:i<x0.1.length:=by omega
  have e:(i:Int)+1=((i+1:Nat):Int):=by omega
  rw [R111_3,if_pos (by simp only [decide_eq_true_eq];omega),List.drop_eq_getElem_cons hlt,worst_cons]
  simp only [Int.toNat_natCast,getD_lt x0.1 i _ hlt]
  refine ⟨by omega,by omega,?_⟩
  have h:=fun g=>ih (i+1) g (by omega)
  cases x1 with
  | true =>
   simp only [if_true]
   rw [e]
   exact ⟨by rw [i64_iff];omega,h _⟩
  | false =>
   simp only [Bool.false_eq_true,if_false]
   rw [e]
   exact ⟨by rw [i64_iff];omega,h _⟩
theorem top111 (x0:List TyB4×Int×Int×Unit) (x1:Bool) (h:P111 x0 x1):R111 (x0.1.length+1+1) x0 x1 [⟨.int .i64,g111_0 x0 x1⟩]:=by
 rw [R111]
 exact ⟨by have:=h.1;omega,run111 x0 x1 h.2 x0.1.length 0 _ (by omega)⟩
def S111:Am.Spec:={ sig:=sig111,pre:=fun ⟨x0,x1,_⟩=>P111 x0 x1,res:=fun ⟨x0,x1,_⟩=>[⟨.int .i64,g111_0 x0 x1⟩] }
theorem con111:Contract Tryz.prog 111 S111:=contract_of Tryz.func111 hb111 (bl_ (by kernel_rfl)) (fun ⟨x0,x1,_⟩ h hwf K q =>
 (snd111 _).1 x0 x1 _ (top111 x0 x1 h) K q)
end
noncomputable section
def ext153:Ext:=[(107,S107)]
theorem ext153Ok:ExtOk Tryz.prog ext153:=⟨⟨ca107,con107⟩,trivial⟩
noncomputable def b153:Code:=bodyOf Tryz.f153
theorem hb153:Tryz.f153.body=some b153:=by kernel_rfl
def sig153:List AT:=[AT.v (.int .i64),AT.v (.int .i64)]
def tys153:List Ty:=[.int .i64]
def kds153:List RK:=[]
def oks153:List AT:=owns sig153
def P153 (x0:Int) (x1:Int):Prop:=((x1≠0)∧(InR .i64 (Int.tdiv x0 x1))∧((x1≠0)∧(InR .i64 (Int.tmod x0 x1))∧((P107 (Int.tmod x0 x1))∧((P107 x1)∧((InR .i64 (g107_0 x1 - g107_0 (Int.tmod x0 x1)))∧(if (decide (g107_0 (Int.tmod x0 x1)≥g107_0 x1 - g107_0 (Int.tmod x0 x1)))=true then (if (!decide (x0<0)==decide (x1<0))=true then ((InR .i64 (Int.tdiv x0 x1 - 1))∧True) else ((InR .i64 (Int.tdiv x0 x1+1))∧True)) else True))))))
def g153_0 (x0:Int) (x1:Int):Int:=(if (decide (g107_0 (Int.tmod x0 x1)≥g107_0 x1 - g107_0 (Int.tmod x0 x1)))=true then (if (!decide (x0<0)==decide (x1<0))=true then Int.tdiv x0 x1 - 1 else Int.tdiv x0 x1+1) else Int.tdiv x0 x1)
theorem at153 (x0:Int) (x1:Int) (h:P153 x0 x1) (K:Ctx) (q:Nat→Value):AtV Tryz.prog 153 (PostR kds153 oks153 [⟨.int .i64,g153_0 x0 x1⟩] [] [] q K) 30 K q [] [.code b153] (entE 0 0 sig153 (x0,x1,())) (entL sig153 (x0,x1,())):=by
 unfold P153 at h
 unfold g153_0
 obtain ⟨s0,s1,h⟩:=h
 obtain ⟨s2,s3,h⟩:=h
 obtain ⟨s4,h⟩:=h
 obtain ⟨s5,h⟩:=h
 obtain ⟨s6,h⟩:=h
 by_cases b0:(decide (g107_0 (Int.tmod x0 x1)≥g107_0 x1 - g107_0 (Int.tmod x0 x1)))=true
 ·try simp only [if_pos b0] at h ⊢
  by_cases b1:(!decide (x0<0)==decide (x1<0))=true
  ·try simp only [if_pos b1] at h ⊢
   obtain ⟨s7,h⟩:=h
   exact AtV.ret Tryz.func153 tabOk ext153Ok mixed false [] tys153 [true,true] (a1 s0 (a1 s1 (a1 s2 (a1 s3 (a1 s4 (a1 s5 (a1 s6 (a1 b0 (a1 b1 (a1 s7 trivial)))))))))) (by kernel_rfl)
  ·try simp only [if_neg b1] at h ⊢
   replace b1:=bf_ b1
   obtain ⟨s7,h⟩:=h
   exact AtV.ret Tryz.func153 tabOk ext153Ok mixed false [] tys153 [true,false] (a1 s0 (a1 s1 (a1 s2 (a1 s3 (a1 s4 (a1 s5 (a1 s6 (a1 b0 (a1 b1 (a1 s7 trivial)))))))))) (by kernel_rfl)
 ·try simp only [if_neg b0] at h ⊢
  replace b0:=bf_ b0
  exact AtV.ret Tryz.func153 tabOk ext153Ok mixed false [] tys153 [false] (a1 s0 (a1 s1 (a1 s2 (a1 s3 (a1 s4 (a1 s5 (a1 s6 (a1 b0 trivial)))))))) (by kernel_rfl)
def S153:Am.Spec:={ sig:=sig153,pre:=fun ⟨x0,x1,_⟩=>P153 x0 x1,res:=fun ⟨x0,x1,_⟩=>[⟨.int .i64,g153_0 x0 x1⟩],kds:=kds153 }
theorem con153:Contract Tryz.prog 153 S153:=contract_of Tryz.func153 hb153 (bl_ (by kernel_rfl)) (fun ⟨x0,x1,_⟩ h _ K q=>at153 x0 x1 h K q)
end
noncomputable section
def ext145:Ext:=[(153,S153)]
theorem ext145Ok:ExtOk Tryz.prog ext145:=⟨⟨ca153,con153⟩,trivial⟩
noncomputable def b145:Code:=bodyOf Tryz.f145
theorem hb145:Tryz.f145.body=some b145:=by kernel_rfl
def sig145:List AT:=[AT.v YA11,AT.v (.int .i64),AT.v (.bool)]
def tys145:List Ty:=[.int .i64]
def kds145:List RK:=[]
def oks145:List AT:=owns sig145
def P145 (x0:Int×Int×Unit) (x1:Int) (x2:Bool):Prop:=((InR .i64 (x1*981))∧((P153 (x1*981) 100)∧(if (x2)=true then ((InR .i64 (x0.2.1 - g153_0 (x1*981) 100))∧True) else ((InR .i64 (x0.2.1+g153_0 (x1*981) 100))∧True))))
def g145_0 (x0:Int×Int×Unit) (x1:Int) (x2:Bool):Int:=(if (x2)=true then x0.2.1 - g153_0 (x1*981) 100 else x0.2.1+g153_0 (x1*981) 100)
theorem at145 (x0:Int×Int×Unit) (x1:Int) (x2:Bool) (h:P145 x0 x1 x2) (K:Ctx) (q:Nat→Value):AtV Tryz.prog 145 (PostR kds145 oks145 [⟨.int .i64,g145_0 x0 x1 x2⟩] [] [] q K) 20 K q [] [.code b145] (entE 0 0 sig145 (x0,x1,x2,())) (entL sig145 (x0,x1,x2,())):=by
 unfold P145 at h
 unfold g145_0
 obtain ⟨s0,h⟩:=h
 obtain ⟨s1,h⟩:=h
 by_cases b0:(x2)=true
 ·try simp only [if_pos b0] at h ⊢
  obtain ⟨s2,h⟩:=h
  exact AtV.ret Tryz.func145 tabOk ext145Ok mixed false [] tys145 [true] (a1 s0 (a1 s1 (a1 b0 (a1 s2 trivial)))) (by kernel_rfl)
 ·try simp only [if_neg b0] at h ⊢
  replace b0:=bf_ b0
  obtain ⟨s2,h⟩:=h
  exact AtV.ret Tryz.func145 tabOk ext145Ok mixed false [] tys145 [false] (a1 s0 (a1 s1 (a1 b0 (a1 s2 trivial)))) (by kernel_rfl)
def S145:Am.Spec:={ sig:=sig145,pre:=fun ⟨x0,x1,x2,_⟩=>P145 x0 x1 x2,res:=fun ⟨x0,x1,x2,_⟩=>[⟨.int .i64,g145_0 x0 x1 x2⟩],kds:=kds145 }
theorem con145:Contract Tryz.prog 145 S145:=contract_of Tryz.func145 hb145 (bl_ (by kernel_rfl)) (fun ⟨x0,x1,x2,_⟩ h _ K q=>at145 x0 x1 x2 h K q)
end
noncomputable section
def ext146:Ext:=[]
theorem ext146Ok:ExtOk Tryz.prog ext146:=trivial
noncomputable def b146:Code:=bodyOf Tryz.f146
theorem hb146:Tryz.f146.body=some b146:=by kernel_rfl
def sig146:List AT:=[AT.v (.int .i64),AT.v (.int .i64)]
def tys146:List Ty:=[.int .i64]
def kds146:List RK:=[]
def oks146:List AT:=owns sig146
def P146 (x0:Int) (x1:Int):Prop:=((InR .i64 (x0+x1))∧((InR .i64 (x0+x1 - 1))∧((x1≠0)∧(InR .i64 (Int.tdiv (x0+x1 - 1) x1))∧True)))
def g146_0 (x0:Int) (x1:Int):Int:=Int.tdiv (x0+x1 - 1) x1
theorem at146 (x0:Int) (x1:Int) (h:P146 x0 x1) (K:Ctx) (q:Nat→Value):AtV Tryz.prog 146 (PostR kds146 oks146 [⟨.int .i64,g146_0 x0 x1⟩] [] [] q K) 11 K q [] [.code b146] (entE 0 0 sig146 (x0,x1,())) (entL sig146 (x0,x1,())):=by
 unfold P146 at h
 unfold g146_0
 obtain ⟨s0,h⟩:=h
 obtain ⟨s1,h⟩:=h
 obtain ⟨s2,s3,h⟩:=h
 exact AtV.ret Tryz.func146 tabOk ext146Ok mixed false [] tys146 [] (a1 s0 (a1 s1 (a1 s2 (a1 s3 trivial)))) (by kernel_rfl)
def S146:Am.Spec:={ sig:=sig146,pre:=fun ⟨x0,x1,_⟩=>P146 x0 x1,res:=fun ⟨x0,x1,_⟩=>[⟨.int .i64,g146_0 x0 x1⟩],kds:=kds146 }
theorem con146:Contract Tryz.prog 146 S146:=contract_of Tryz.func146 hb146 (bl_ (by kernel_rfl)) (fun ⟨x0,x1,_⟩ h _ K q=>at146 x0 x1 h K q)
end
noncomputable section
def ext132:Ext:=[(145,S145),(146,S146)]
theorem ext132Ok:ExtOk Tryz.prog ext132:=⟨⟨ca145,con145⟩,⟨ca146,con146⟩,trivial⟩
noncomputable def b132:Code:=bodyOf Tryz.f132
theorem hb132:Tryz.f132.body=some b132:=by kernel_rfl
def sig132:List AT:=[AT.v YA11,AT.v (.int .i64),AT.v (.int .i64),AT.v (.bool)]
def tys132:List Ty:=[.int .i64,.bool]
def kds132:List RK:=[]
def oks132:List AT:=owns sig132
def P132 (x0:Int×Int×Unit) (x1:Int) (x2:Int) (x3:Bool):Prop:=((P145 x0 x2 x3)∧(if (decide (g145_0 x0 x2 x3≤0))=true then True else ((InR .i64 (x1*x0.1))∧((P146 (x1*x0.1) 10)∧((InR .i64 (x1*x1))∧((InR .i64 (2*g145_0 x0 x2 x3))∧((P146 (x1*x1) (2*g145_0 x0 x2 x3))∧((InR .i64 (g146_0 (x1*x0.1) 10+g146_0 (x1*x1) (2*g145_0 x0 x2 x3)))∧True))))))))
def g132_0 (x0:Int×Int×Unit) (x1:Int) (x2:Int) (x3:Bool):Int:=(if (decide (g145_0 x0 x2 x3≤0))=true then 0 else g146_0 (x1*x0.1) 10+g146_0 (x1*x1) (2*g145_0 x0 x2 x3))
def g132_1 (x0:Int×Int×Unit) (x1:Int) (x2:Int) (x3:Bool):Bool:=(if (decide (g145_0 x0 x2 x3≤0))=true then false else true)
theorem at132 (x0:Int×Int×Unit) (x1:Int) (x2:Int) (x3:Bool) (h:P132 x0 x1 x2 x3) (K:Ctx) (q:Nat→Value):AtV Tryz.prog 132 (PostR kds132 oks132 [⟨.int .i64,g132_0 x0 x1 x2 x3⟩,⟨.bool,g132_1 x0 x1 x2 x3⟩] [] [] q K) 29 K q [] [.code b132] (entE 0 0 sig132 (x0,x1,x2,x3,())) (entL sig132 (x0,x1,x2,x3,())):=by
 unfold P132 at h
 unfold g132_0 g132_1
 obtain ⟨s0,h⟩:=h
 by_cases b0:(decide (g145_0 x0 x2 x3≤0))=true
 ·try simp only [if_pos b0] at h ⊢
  exact AtV.ret Tryz.func132 tabOk ext132Ok mixed false [] tys132 [true] (a1 s0 (a1 b0 trivial)) (by kernel_rfl)
 ·try simp only [if_neg b0] at h ⊢
  replace b0:=bf_ b0
  obtain ⟨s1,h⟩:=h
  obtain ⟨s2,h⟩:=h
  obtain ⟨s3,h⟩:=h
  obtain ⟨s4,h⟩:=h
  obtain ⟨s5,h⟩:=h
  obtain ⟨s6,h⟩:=h
  exact AtV.ret Tryz.func132 tabOk ext132Ok mixed false [] tys132 [false] (a1 s0 (a1 b0 (a1 s1 (a1 s2 (a1 s3 (a1 s4 (a1 s5 (a1 s6 trivial)))))))) (by kernel_rfl)
def S132:Am.Spec:={ sig:=sig132,pre:=fun ⟨x0,x1,x2,x3,_⟩=>P132 x0 x1 x2 x3,res:=fun ⟨x0,x1,x2,x3,_⟩=>[⟨.int .i64,g132_0 x0 x1 x2 x3⟩,⟨.bool,g132_1 x0 x1 x2 x3⟩],kds:=kds132 }
theorem con132:Contract Tryz.prog 132 S132:=contract_of Tryz.func132 hb132 (bl_ (by kernel_rfl)) (fun ⟨x0,x1,x2,x3,_⟩ h _ K q=>at132 x0 x1 x2 x3 h K q)
end
noncomputable section
def ext110:Ext:=[(132,S132)]
theorem ext110Ok:ExtOk Tryz.prog ext110:=⟨⟨ca132,con132⟩,trivial⟩
noncomputable def b110:Code:=bodyOf Tryz.f110
theorem hb110:Tryz.f110.body=some b110:=by kernel_rfl
def sig110:List AT:=[AT.v YA11,AT.v (.int .i64),AT.v (.int .i64),AT.v (.int .i64),AT.v (.bool)]
def tys110:List Ty:=[.bool]
def kds110:List RK:=[]
def oks110:List AT:=owns sig110
def P110 (x0:Int×Int×Unit) (x1:Int) (x2:Int) (x3:Int) (x4:Bool):Prop:=((P132 x0 x1 x3 x4)∧True)
def g110_0 (x0:Int×Int×Unit) (x1:Int) (x2:Int) (x3:Int) (x4:Bool):Bool:=(if (g132_1 x0 x1 x3 x4)=true then decide (g132_0 x0 x1 x3 x4≤x2) else false)
theorem at110 (x0:Int×Int×Unit) (x1:Int) (x2:Int) (x3:Int) (x4:Bool) (h:P110 x0 x1 x2 x3 x4) (K:Ctx) (q:Nat→Value):AtV Tryz.prog 110 (PostR kds110 oks110 [⟨.bool,g110_0 x0 x1 x2 x3 x4⟩] [] [] q K) 27 K q [] [.code b110] (entE 0 0 sig110 (x0,x1,x2,x3,x4,())) (entL sig110 (x0,x1,x2,x3,x4,())):=by
 unfold P110 at h
 unfold g110_0
 obtain ⟨s0,h⟩:=h
 by_cases b0:(g132_1 x0 x1 x3 x4)=true
 ·try simp only [if_pos b0] at h ⊢
  exact AtV.ret Tryz.func110 tabOk ext110Ok mixed false [] tys110 [true] (a1 s0 (a1 b0 trivial)) (by kernel_rfl)
 ·try simp only [if_neg b0] at h ⊢
  replace b0:=bf_ b0
  exact AtV.ret Tryz.func110 tabOk ext110Ok mixed false [] tys110 [false] (a1 s0 (a1 b0 trivial)) (by kernel_rfl)
def S110:Am.Spec:={ sig:=sig110,pre:=fun ⟨x0,x1,x2,x3,x4,_⟩=>P110 x0 x1 x2 x3 x4,res:=fun ⟨x0,x1,x2,x3,x4,_⟩=>[⟨.bool,g110_0 x0 x1 x2 x3 x4⟩],kds:=kds110 }
theorem con110:Contract Tryz.prog 110 S110:=contract_of Tryz.func110 hb110 (bl_ (by kernel_rfl)) (fun ⟨x0,x1,x2,x3,x4,_⟩ h _ K q=>at110 x0 x1 x2 x3 x4 h K q)
end
noncomputable section
def ext85:Ext:=[(80,S80),(111,S111),(110,S110)]
theorem ext85Ok:ExtOk Tryz.prog ext85:=⟨⟨ca80,con80⟩,⟨ca111,con111⟩,⟨ca110,con110⟩,trivial⟩
noncomputable def b85:Code:=bodyOf Tryz.f85
theorem hb85:Tryz.f85.body=some b85:=by kernel_rfl
def sig85:List AT:=[AT.v YA2,AT.v YA11,AT.v (.int .i64),AT.v (.int .i64),AT.v (.bool)]
def tys85:List Ty:=[.bool]
def kds85:List RK:=[]
def oks85:List AT:=owns sig85
def P85 (x0:List TyB4×Int×Int×Unit) (x1:Int×Int×Unit) (x2:Int) (x3:Int) (x4:Bool):Prop:=((P80 x0)∧((InR .i64 (g80_0 x0 - x2))∧(if (x4)=true then ((P111 x0 x4)∧((P110 x1 x3 x2 (g111_0 x0 x4) x4)∧True)) else ((P111 x0 x4)∧((P110 x1 x3 (g80_0 x0 - x2) (g111_0 x0 x4) x4)∧True)))))
def g85_0 (x0:List TyB4×Int×Int×Unit) (x1:Int×Int×Unit) (x2:Int) (x3:Int) (x4:Bool):Bool:=(if (x4)=true then g110_0 x1 x3 x2 (g111_0 x0 x4) x4 else g110_0 x1 x3 (g80_0 x0 - x2) (g111_0 x0 x4) x4)
theorem at85 (x0:List TyB4×Int×Int×Unit) (x1:Int×Int×Unit) (x2:Int) (x3:Int) (x4:Bool) (h:P85 x0 x1 x2 x3 x4) (K:Ctx) (q:Nat→Value):AtV Tryz.prog 85 (PostR kds85 oks85 [⟨.bool,g85_0 x0 x1 x2 x3 x4⟩] [] [] q K) 26 K q [] [.code b85] (entE 0 0 sig85 (x0,x1,x2,x3,x4,())) (entL sig85 (x0,x1,x2,x3,x4,())):=by
 unfold P85 at h
 unfold g85_0
 obtain ⟨s0,h⟩:=h
 obtain ⟨s1,h⟩:=h
 by_cases b0:(x4)=true
 ·try simp only [if_pos b0] at h ⊢
  obtain ⟨s2,h⟩:=h
  obtain ⟨s3,h⟩:=h
  exact AtV.ret Tryz.func85 tabOk ext85Ok mixed false [] tys85 [true] (a1 s0 (a1 s1 (a1 b0 (a1 s2 (a1 s3 trivial))))) (by kernel_rfl)
 ·try simp only [if_neg b0] at h ⊢
  replace b0:=bf_ b0
  obtain ⟨s2,h⟩:=h
  obtain ⟨s3,h⟩:=h
  exact AtV.ret Tryz.func85 tabOk ext85Ok mixed false [] tys85 [false] (a1 s0 (a1 s1 (a1 b0 (a1 s2 (a1 s3 trivial))))) (by kernel_rfl)
def S85:Am.Spec:={ sig:=sig85,pre:=fun ⟨x0,x1,x2,x3,x4,_⟩=>P85 x0 x1 x2 x3 x4,res:=fun ⟨x0,x1,x2,x3,x4,_⟩=>[⟨.bool,g85_0 x0 x1 x2 x3 x4⟩],kds:=kds85 }
theorem con85:Contract Tryz.prog 85 S85:=contract_of Tryz.func85 hb85 (bl_ (by kernel_rfl)) (fun ⟨x0,x1,x2,x3,x4,_⟩ h _ K q=>at85 x0 x1 x2 x3 x4 h K q)
end
noncomputable section
def ext84:Ext:=[(85,S85)]
theorem ext84Ok:ExtOk Tryz.prog ext84:=⟨⟨ca85,con85⟩,trivial⟩
noncomputable def b84:Code:=bodyOf Tryz.f84
theorem hb84:Tryz.f84.body=some b84:=by kernel_rfl
def sig84:List AT:=[AT.v (.int .i64),AT.v (.int .i64),AT.pb (.int .i64),AT.p .bool,AT.p (.int .i64),AT.p (.cons (.sl (.cons (.int .i64) (.cons (.int .i64) .unit))) (.cons (.int .i64) (.cons (.int .i64) .unit))),AT.p (.cons (.int .i64) (.cons (.int .i64) .unit)),AT.pb .bool]
def tys84:List Ty:=[.bool]
def kds84:List RK:=[]
def oks84:List AT:=owns sig84
def P84 (x0:Int) (x1:Int) (x2:Int) (x3:Bool) (x4:Int) (x5:List TyB4×Int×Int×Unit) (x6:Int×Int×Unit) (x7:Bool):Prop:=((InR .i64 (x2+1))∧(if (x3)=true then ((InR .i64 (x4 - x0))∧(if (decide (x0<x4))=true then ((P85 x5 x6 (x4 - x0) x1 x3)∧True) else True)) else (if (decide (x0<x4))=true then ((P85 x5 x6 x0 x1 x3)∧True) else True)))
def g84_0 (x0:Int) (x1:Int) (x2:Int) (x3:Bool) (x4:Int) (x5:List TyB4×Int×Int×Unit) (x6:Int×Int×Unit) (x7:Bool):Bool:=(if (x3)=true then (if (decide (x0<x4))=true then !!g85_0 x5 x6 (x4 - x0) x1 x3 else true) else (if (decide (x0<x4))=true then !!g85_0 x5 x6 x0 x1 x3 else true))
def u84_0 (x0:Int) (x1:Int) (x2:Int) (x3:Bool) (x4:Int) (x5:List TyB4×Int×Int×Unit) (x6:Int×Int×Unit) (x7:Bool):Int:=(if (x3)=true then (if (decide (x0<x4))=true then x2+1 else x2+1) else (if (decide (x0<x4))=true then x2+1 else x2+1))
def u84_1 (x0:Int) (x1:Int) (x2:Int) (x3:Bool) (x4:Int) (x5:List TyB4×Int×Int×Unit) (x6:Int×Int×Unit) (x7:Bool):Bool:=(if (x3)=true then (if (decide (x0<x4))=true then !g85_0 x5 x6 (x4 - x0) x1 x3 else false) else (if (decide (x0<x4))=true then !g85_0 x5 x6 x0 x1 x3 else false))
theorem at84 (x0:Int) (x1:Int) (x2:Int) (x3:Bool) (x4:Int) (x5:List TyB4×Int×Int×Unit) (x6:Int×Int×Unit) (x7:Bool) (h:P84 x0 x1 x2 x3 x4 x5 x6 x7) (K:Ctx) (q:Nat→Value):AtV Tryz.prog 84 (PostR kds84 oks84 [⟨.bool,g84_0 x0 x1 x2 x3 x4 x5 x6 x7⟩] [some ⟨.int .i64,[u84_0 x0 x1 x2 x3 x4 x5 x6 x7]⟩,some ⟨.bool,[u84_1 x0 x1 x2 x3 x4 x5 x6 x7]⟩] [2,7] q K) 33 K q [2,7] [.code b84] (entE 0 0 sig84 (x0,x1,x2,x3,x4,x5,x6,x7,())) (entL sig84 (x0,x1,x2,x3,x4,x5,x6,x7,())):=by
 unfold P84 at h
 unfold g84_0 u84_0 u84_1
 obtain ⟨s0,h⟩:=h
 by_cases b0:(x3)=true
 ·try simp only [if_pos b0] at h ⊢
  obtain ⟨s1,h⟩:=h
  by_cases b1:(decide (x0<x4))=true
  ·try simp only [if_pos b1] at h ⊢
   obtain ⟨s2,h⟩:=h
   exact AtV.weak (AtV.ret (us:=[Option.some (Lst.mk (.int .i64) [x2+1]),Option.some (Lst.mk .bool [!g85_0 x5 x6 (x4 - x0) x1 x3])]) Tryz.func84 tabOk ext84Ok mixed false [] tys84 [true,true] (a1 s0 (a1 b0 (a1 s1 (a1 b1 (a1 s2 trivial))))) (by kernel_rfl)) ⟨.inl rfl,.inl rfl,trivial⟩
  ·try simp only [if_neg b1] at h ⊢
   replace b1:=bf_ b1
   exact AtV.weak (AtV.ret (us:=[Option.some (Lst.mk (.int .i64) [x2+1]),Option.some (Lst.mk .bool [false])]) Tryz.func84 tabOk ext84Ok mixed false [] tys84 [true,false] (a1 s0 (a1 b0 (a1 s1 (a1 b1 trivial)))) (by kernel_rfl)) ⟨.inl rfl,.inl rfl,trivial⟩
 ·try simp only [if_neg b0] at h ⊢
  replace b0:=bf_ b0
  by_cases b1:(decide (x0<x4))=true
  ·try simp only [if_pos b1] at h ⊢
   obtain ⟨s1,h⟩:=h
   exact AtV.weak (AtV.ret (us:=[Option.some (Lst.mk (.int .i64) [x2+1]),Option.some (Lst.mk .bool [!g85_0 x5 x6 x0 x1 x3])]) Tryz.func84 tabOk ext84Ok mixed false [] tys84 [false,true] (a1 s0 (a1 b0 (a1 b1 (a1 s1 trivial)))) (by kernel_rfl)) ⟨.inl rfl,.inl rfl,trivial⟩
  ·try simp only [if_neg b1] at h ⊢
   replace b1:=bf_ b1
   exact AtV.weak (AtV.ret (us:=[Option.some (Lst.mk (.int .i64) [x2+1]),Option.some (Lst.mk .bool [false])]) Tryz.func84 tabOk ext84Ok mixed false [] tys84 [false,false] (a1 s0 (a1 b0 (a1 b1 trivial))) (by kernel_rfl)) ⟨.inl rfl,.inl rfl,trivial⟩
def S84:Am.Spec:={ sig:=sig84,pre:=fun ⟨x0,x1,x2,x3,x4,x5,x6,x7,_⟩=>P84 x0 x1 x2 x3 x4 x5 x6 x7,upd:=fun ⟨x0,x1,x2,x3,x4,x5,x6,x7,_⟩=>[some ⟨.int .i64,[u84_0 x0 x1 x2 x3 x4 x5 x6 x7]⟩,some ⟨.bool,[u84_1 x0 x1 x2 x3 x4 x5 x6 x7]⟩],res:=fun ⟨x0,x1,x2,x3,x4,x5,x6,x7,_⟩=>[⟨.bool,g84_0 x0 x1 x2 x3 x4 x5 x6 x7⟩],kds:=kds84 }
theorem con84:Contract Tryz.prog 84 S84:=contract_of Tryz.func84 hb84 (bl_ (by kernel_rfl)) (fun ⟨x0,x1,x2,x3,x4,x5,x6,x7,_⟩ h _ K q=>at84 x0 x1 x2 x3 x4 x5 x6 x7 h K q)
end
def rideL (nx:Int→Int→Int) (bad:Int→Int→Bool) (n:Int):Nat→Int→Int→Int→Option Int
 | 0,_,_,_=>none
 | f+1,place,speed,k=>if place<n then (if (decide (place+nx speed (n - place)<n)&&bad (place+nx speed (n - place)) (nx speed (n - place)))=true then some (k+1) else rideL nx bad n f (place+nx speed (n - place)) (nx speed (n - place)) (k+1)) else none
end Go.Proofs.YtpojfdgfpamapaaGreatDoor
-- facts: rideLoop
set_option linter.unusedVariables false
set_option linter.unusedSimpArgs false
set_option maxRecDepth 100000
namespace Go.Proofs.YtpojfdgfpamapaaGreatDoor
open Go Go.Am Go.Proofs Go.RowKit
abbrev TR45:=List TyB4×Int×Int×Unit
abbrev TY45:Ty := .cons (.sl (.cons (.int .i64) (.cons (.int .i64) .unit))) (.cons (.int .i64) (.cons (.int .i64) .unit))
abbrev BR45:=Int×Int×Unit
abbrev BY45:Ty := .cons (.int .i64) (.cons (.int .i64) .unit)
abbrev PR45:=Int×Int×Int×Int×Unit
abbrev PY45:Ty := .cons (.int .i64) (.cons (.int .i64) (.cons (.int .i64) (.cons (.int .i64) .unit)))
abbrev ptr45 (b:Nat):Value := .pointer (some ⟨b,0,none⟩)
def Box45 (w:World) (b:Nat) (u:Value):Prop:=∃ cur ty fz,w.heap[b]? = some (.cells cur ty fz)∧cur[0]? = some u∧FreeS 1 fz cur.size
theorem Box45.cell {w:World} {b:Nat} {u:Value} (h:Box45 w b u):w.cell? ⟨b,0,none⟩=some u:=by
 obtain ⟨cur,ty,fz,h1,h2,_⟩:=h
 unfold World.cell?
 rw [show w.heap[(⟨b,0,none⟩:Addr).block]? = _ from h1]
 exact h2
theorem Box45.lt {w:World} {b:Nat} {u:Value} (h:Box45 w b u):b<w.heap.size:=by
 obtain ⟨cur,ty,fz,h1,_⟩:=h
 exact (Array.getElem?_eq_some_iff.1 h1).1
theorem Box45.keep {w w':World} {b:Nat} {u:Value} (h:Box45 w b u) (he:w'.heap[b]? = w.heap[b]?):Box45 w' b u:=by
 obtain ⟨cur,ty,fz,h1,h2⟩:=h
 exact ⟨cur,ty,fz,he.trans h1,h2⟩
theorem Box45.pb {w:World} {G0:Nat→Prop} {b:Nat} {t:Ty} {x:t.den} {u:Value} (hs:t.size=1) (h:Box45 w b u) (hr:RepC w G0 t x [u]):PbAt w G0 t x (ptr45 b) [b]:=by
 obtain ⟨cur,ty,fz,h1,h2,h3⟩:=h
 have hc:0<cur.size:=(Array.getElem?_eq_some_iff.1 h2).1
 refine ⟨b,0,rfl,by show 1≤maxLen;decide,.inr ⟨b,0,1,cur,ty,fz,[[]],rfl,Nat.le_refl _,by decide,?_,h1,?_,rfl,rfl,fun i y bi hx hbi => ?_⟩⟩
 ·show 0+1*t.size≤cur.size
  rw [hs];omega
 ·show FreeS t.size fz cur.size
  rw [hs];exact h3
 ·rcases i with _ | i
  ·simp at hx hbi
   subst hx hbi
   refine ⟨[u],by show 1=t.size;rw [hs],fun j c hj => ?_,hr,rfl⟩
   rcases j with _ | j
   ·simp at hj;subst hj
    rw [Nat.zero_mul];exact h2
   ·simp at hj
  ·simp at hx
theorem pbBox45 {w:World} {G0:Nat→Prop} {b:Nat} {t:Ty} {x:t.den} {u:Value} {bs:List Nat} (hs:t.size=1) (h:PbAt w G0 t x (ptr45 b) bs) (hu:∀ cs,RepC w G0 t x cs→cs=[u]):Box45 w b u:=by
 obtain ⟨b',off',he,hm,h⟩:=h
 cases he
 rcases h with ⟨ad,_,h0,_⟩ | ⟨b2,off2,cap,cur,ty,fz,bss,hv,hc,_,hz,hh,hf,hl,_,hr⟩
 ·cases h0
 ·simp only [Value.slice.injEq,Option.some.injEq,Addr.mk.injEq,and_true] at hv
  obtain ⟨⟨rfl,rfl⟩,_,rfl⟩:=hv
  obtain ⟨bi,hbi⟩:∃ bi,bss[0]? = some bi:=⟨_,List.getElem?_eq_getElem (by rw [hl];exact Nat.zero_lt_one)⟩
  obtain ⟨cs,h1,h2,h3,_⟩:=hr 0 x bi rfl hbi
  rw [hu cs h3] at h2
  have h4:=h2 0 u rfl
  simp only [Nat.zero_mul,Nat.add_zero] at h4
  refine ⟨cur,ty,fz,hh,h4,?_⟩
  have:FreeS t.size fz cur.size:=hf
  rw [hs] at this
  exact this
def bad45 (tr:TR45) (br:BR45) (down:Bool) (way place speed:Int):Bool := !g85_0 tr br (if down=true then way - place else place) speed down
theorem clo45 (W:World) (S D Wy T Bk F:Nat) (place speed k:Int) (fd down:Bool) (way:Int) (tr:TR45) (br:BR45) (hgo:GOk W [S,F]) (hne:S≠F) (hS:Box45 W S (.int .i64 k)) (ik:InR .i64 k) (hF:Box45 W F (.bool fd))
  (hD:PtrAt W (Am.Good W [S,F]) .bool down (ptr45 D)) (hW:PtrAt W (Am.Good W [S,F]) (.int .i64) way (ptr45 Wy)) (hT:PtrAt W (Am.Good W [S,F]) TY45 tr (ptr45 T)) (hB:PtrAt W (Am.Good W [S,F]) BY45 br (ptr45 Bk)) (ip:InR .i64 place) (is:InR .i64 speed) (hp:P84 place speed k down way tr br fd) :
  Calls Tryz.prog 84 #[.int .i64 place,.int .i64 speed,ptr45 S,ptr45 D,ptr45 Wy,ptr45 T,ptr45 Bk,ptr45 F] W fun e w'=>e = .returned (.bool (!(decide (place<way)&&bad45 tr br down way place speed)))∧Kept [S,F] W w'∧Box45 w' S (.int .i64 (k+1))∧Box45 w' F (.bool (decide (place<way)&&bad45 tr br down way place speed)):=by
 have h:=con84 W (Am.Good W [S,F]) (Am.Good W [S,F]) (place,speed,k,down,way,tr,br,fd,()) [.int .i64 place,.int .i64 speed,ptr45 S,ptr45 D,ptr45 Wy,ptr45 T,ptr45 Bk,ptr45 F] [[],[],[S],[],[],[],[],[F]] hgo (fun _ h=>h) (fun _ h=>h) hp
  ⟨_,_,_,_,rfl,rfl,⟨rfl,rfl,ip⟩,_,_,_,_,rfl,rfl,⟨rfl,rfl,is⟩,_,_,_,_,rfl,rfl,hS.pb rfl ⟨rfl,ik⟩,_,_,_,_,rfl,rfl,⟨rfl,hD⟩,_,_,_,_,rfl,rfl,⟨rfl,hW⟩,_,_,_,_,rfl,rfl,⟨rfl,hT⟩,_,_,_,_,rfl,rfl,⟨rfl,hB⟩,_,_,_,_,rfl,rfl,hF.pb rfl rfl,rfl,rfl⟩
  (by simpa using hne)
 have eg:g84_0 place speed k down way tr br fd = !(decide (place<way)&&bad45 tr br down way place speed):=by
  unfold g84_0 bad45
  by_cases hl:place<way
  ·simp only [decide_eq_true hl,if_true,Bool.true_and]
   cases down <;> rfl
  ·simp only [decide_eq_false hl,Bool.false_eq_true,if_false,Bool.false_and]
   cases down <;> rfl
 have eu:u84_0 place speed k down way tr br fd=k+1:=by
  unfold u84_0
  split <;> split <;> rfl
 have ef:u84_1 place speed k down way tr br fd=(decide (place<way)&&bad45 tr br down way place speed):=by
  unfold u84_1 bad45
  by_cases hl:place<way
  ·simp only [decide_eq_true hl,if_true,Bool.true_and]
   cases down <;> rfl
  ·simp only [decide_eq_false hl,Bool.false_eq_true,if_false,Bool.false_and]
   cases down <;> rfl
 refine h.mono ?_
 rintro e w' ⟨rs,ubs,rbs,Fz,rfl,hk,⟨v,s,b,bs,rfl,rfl,⟨cs,ho,hi⟩,rfl,rfl⟩,⟨v1,s1,b1,bs1,hv1,rfl,⟨y1,hy1,hp1⟩,v2,s2,b2,bs2,hv2,rfl,⟨y2,hy2,hp2⟩,_⟩,_⟩
 obtain ⟨ho,_⟩:=ho
 have hi:cs=[v]:=hi
 rw [ho] at hi
 cases hi
 cases hv1
 cases hv2
 cases hy1
 cases hy2
 rw [eu] at hp1
 rw [ef] at hp2
 refine ⟨by rw [← eg];rfl,hk,pbBox45 rfl hp1 (fun cs h=>h.1),pbBox45 rfl hp2 (fun cs h=>h)⟩
theorem nxt45 (W:World) (pf:PR45) (s l:Int) (hgo:GOk W []) (hw:Wf PY45 pf) (is:InR .i64 s) (il:InR .i64 l) (hp:P109 pf s l) :
  Calls Tryz.prog 109 #[.agg #[.int .i64 pf.1,.int .i64 pf.2.1,.int .i64 pf.2.2.1,.int .i64 pf.2.2.2.1],.int .i64 s,.int .i64 l] W fun e w'=>e = .returned (.int .i64 (g109_0 pf s l))∧Below W.heap.size W w':=by
 have hr:RepC W (Am.Good W []) PY45 pf (fcells PY45 pf):=(OwnC.flat (w:=W) (w':=W) (G:=Am.Good W []) rfl (own_of_wf rfl hw)).1
 have h:=con109.down rfl W (pf,s,l,()) [.agg #[.int .i64 pf.1,.int .i64 pf.2.1,.int .i64 pf.2.2.1,.int .i64 pf.2.2.2.1],.int .i64 s,.int .i64 l] [[],[],[]] hgo hp ⟨_,_,_,_,rfl,rfl,⟨rfl,fcells PY45 pf,rfl,hr⟩,_,_,_,_,rfl,rfl,⟨rfl,rfl,is⟩,_,_,_,_,rfl,rfl,⟨rfl,rfl,il⟩,rfl,rfl⟩ (by simp)
 refine h.mono ?_
 rintro e w' ⟨rs,ubs,rbs,rfl,hk,⟨u,s,b1,bs1,cs,rfl,rfl,ho,hv,rfl,rfl⟩,_⟩
 obtain ⟨ho,_⟩:=ho
 have hv:cs=[u]:=hv
 rw [ho] at hv
 cases hv
 exact ⟨rfl,hk.below⟩
theorem gokK45 {O:List Nat} {w W:World} (h:GOk w O) (hk:Kept O w W):GOk W O where
 inv:=h.inv.keep fun b hb hs=>hk.block b hs fun ho=>by have:=h.out b ho;omega
 size:=Nat.le_trans h.size hk.size
 out:=h.out
theorem good45 {O:List Nat} {w W:World} (hk:Kept O w W):∀ b,Am.Good w O b→Am.Good W O b:=fun b h=>⟨Nat.lt_of_lt_of_le h.1 hk.size,h.2⟩
theorem ptrK45 {O:List Nat} {w W:World} (hk:Kept O w W) {t:Ty} {x:t.den} {v:Value} (h:PtrAt w (Am.Good w O) t x v):PtrAt W (Am.Good W O) t x v:=h.keepB (good45 hk) (fun b hb=>hk.block b hb.1 hb.2)
def Fin45 (w:World) (S F:Nat):Option Int→Prop
 | some r=>Box45 w S (.int .i64 r)∧Box45 w F (.bool true)
 | none=>Box45 w F (.bool false)
theorem rideEnd45 (nx:Int→Int→Int) (bad:Int→Int→Bool) (n:Int) (f:Nat) (place speed k:Int) (h:¬ place<n):rideL nx bad n f place speed k=none:=by
 cases f with
 | zero=>rfl
 | succ f=>rw [rideL,if_neg h]
theorem cel45 {w:World} {b:Nat} {cs:Array Value} {ty:TypeId} (h:w.heap[b]? = some (.cells cs ty)) (j:Nat) (u:Value) (hj:cs[j]? = some u):w.cell? ⟨b,j,none⟩=some u:=by
 unfold World.cell?
 rw [show w.heap[(⟨b,j,none⟩:Addr).block]? = _ from h]
 exact hj
set_option maxHeartbeats 4000000 in
theorem ride45 (W:World) (S D Wy T Bk F:Nat) (down:Bool) (way:Int) (tr:TR45) (br:BR45) (pf:PR45) (fu:Nat) (hgo:GOk W [S,F]) (hne:S≠F) (hS:Box45 W S (.int .i64 0)) (hF:Box45 W F (.bool false))
  (hD:PtrAt W (Am.Good W [S,F]) .bool down (ptr45 D)) (hW:PtrAt W (Am.Good W [S,F]) (.int .i64) way (ptr45 Wy)) (hT:PtrAt W (Am.Good W [S,F]) TY45 tr (ptr45 T)) (hB:PtrAt W (Am.Good W [S,F]) BY45 br (ptr45 Bk)) (hw:Wf PY45 pf) (hway:0≤way∧way≤3000000) (hfu:way≤(fu:Int))
  (hnx:∀ s l,0≤s→s≤15000→1≤l→l≤way→P109 pf s l∧1≤g109_0 pf s l∧g109_0 pf s l≤l∧g109_0 pf s l≤15000)
  (hcl:∀ place s k fd,0≤place→place≤way→0≤s→s≤15000→0≤k→k≤3000000→P84 place s k down way tr br fd) :
  Calls Tryz.prog 83 #[.agg #[.int .i64 pf.1,.int .i64 pf.2.1,.int .i64 pf.2.2.1,.int .i64 pf.2.2.2.1],.int .i64 way,.func (.func 84) #[] #[ptr45 S,ptr45 D,ptr45 Wy,ptr45 T,ptr45 Bk,ptr45 F]] W fun e w'=>e = .returned (.tuple #[])∧Kept [S,F] W w' ∧
   Fin45 w' S F (rideL (g109_0 pf) (bad45 tr br down way) way fu 0 0 0):=by
 have lS:=hS.lt
 have lF:=hF.lt
 have HG:Aside (GOk W [S,F]):=hgo
 have HD:Aside (PtrAt W (Am.Good W [S,F]) .bool down (ptr45 D)):=hD
 have HW:Aside (PtrAt W (Am.Good W [S,F]) (.int .i64) way (ptr45 Wy)):=hW
 have HT:Aside (PtrAt W (Am.Good W [S,F]) TY45 tr (ptr45 T)):=hT
 have HB:Aside (PtrAt W (Am.Good W [S,F]) BY45 br (ptr45 Bk)):=hB
 have HS0:Aside (Box45 W S (.int .i64 0)):=hS
 have HF0:Aside (Box45 W F (.bool false)):=hF
 clear hgo hD hW hT hB hS hF
 go_enter Tryz.func83,Tryz.ntmps83
 go_wp2
 go_loopw [6,7] (fun pl sp wr=>∃ (place speed k:Int) (f:Nat),pl = .int .i64 place∧sp = .int .i64 speed∧(0≤place∧place≤way)∧(0≤speed∧speed≤15000)∧(0≤k∧k≤place)∧way - place≤(f:Int)∧Kept [S,F] W wr ∧
   wr.heap[W.heap.size]? = some (.cells #[.int .i64 pf.1,.int .i64 pf.2.1,.int .i64 pf.2.2.1,.int .i64 pf.2.2.2.1] 29)∧Box45 wr S (.int .i64 k)∧Box45 wr F (.bool false) ∧
   rideL (g109_0 pf) (bad45 tr br down way) way f place speed k=rideL (g109_0 pf) (bad45 tr br down way) way fu 0 0 0) (fun pl _ _=>(way - intOf pl).toNat)
 case atStart=>exact ⟨0,0,0,fu,rfl,rfl,by omega,by omega,by omega,by omega,(Kept.refl _ W).alloc _,heap_alloc_new W _,HS0.out.keep (Below.heap_alloc _ _ _ lS),HF0.out.keep (Below.heap_alloc _ _ _ lF),rfl⟩
 case round =>
  obtain ⟨place,speed,k,f,rfl,rfl,hpl,hsp,hk,hf,hkp,hpb,hbs,hbf,hr⟩:=hrel
  have HK:Aside (Kept [S,F] W wr):=hkp
  have HBS:Aside (Box45 wr S (.int .i64 k)):=hbs
  have HBF:Aside (Box45 wr F (.bool false)):=hbf
  have HR:Aside (rideL (g109_0 pf) (bad45 tr br down way) way f place speed k=rideL (g109_0 pf) (bad45 tr br down way) way fu 0 0 0):=hr
  have lS2:S<wr.heap.size:=hbs.lt
  have lF2:F<wr.heap.size:=hbf.lt
  have G1:Aside (GOk wr []):=⟨(gokK45 HG.out hkp).inv,(gokK45 HG.out hkp).size,fun b h=>by cases h⟩
  have lW:W.heap.size<wr.heap.size:=(Array.getElem?_eq_some_iff.1 hpb).1
  have q0:wr.cell? ⟨W.heap.size,0,none⟩=some (.int .i64 pf.1):=cel45 hpb 0 _ rfl
  have q1:wr.cell? ⟨W.heap.size,1,none⟩=some (.int .i64 pf.2.1):=cel45 hpb 1 _ rfl
  have q2:wr.cell? ⟨W.heap.size,2,none⟩=some (.int .i64 pf.2.2.1):=cel45 hpb 2 _ rfl
  have q3:wr.cell? ⟨W.heap.size,3,none⟩=some (.int .i64 pf.2.2.2.1):=cel45 hpb 3 _ rfl
  have HPB:Aside (wr.heap[W.heap.size]? = some (.cells #[.int .i64 pf.1,.int .i64 pf.2.1,.int .i64 pf.2.2.1,.int .i64 pf.2.2.2.1] 29)):=hpb
  clear hkp hbs hbf hr hpb
  by_cases hlt:place<way
  ·obtain ⟨np,n1,n2,n3⟩:=hnx speed (way - place) hsp.1 hsp.2 (by omega) (by omega)
   have HN:Aside (∀ W1,GOk W1 []→Calls Tryz.prog 109 #[.agg #[.int .i64 pf.1,.int .i64 pf.2.1,.int .i64 pf.2.2.1,.int .i64 pf.2.2.2.1],.int .i64 speed,.int .i64 (way - place)] W1 fun e w'=>e = .returned (.int .i64 (g109_0 pf speed (way - place)))∧Below W1.heap.size W1 w'):=fun W1 h=>nxt45 W1 pf speed (way - place) h hw (by rw [i64_iff];omega) (by rw [i64_iff];omega) np
   obtain ⟨f,rfl⟩:∃ f',f=f'+1:=⟨f - 1,by omega⟩
   have HR2:Aside (rideL (g109_0 pf) (bad45 tr br down way) way fu 0 0 0=if (decide (place+g109_0 pf speed (way - place)<way)&&bad45 tr br down way (place+g109_0 pf speed (way - place)) (g109_0 pf speed (way - place)))=true then some (k+1) else rideL (g109_0 pf) (bad45 tr br down way) way f (place+g109_0 pf speed (way - place)) (g109_0 pf speed (way - place)) (k+1)):=by
    have h:=HR.out
    rw [rideL,if_pos hlt] at h
    exact h.symm
   generalize g109_0 pf speed (way - place)=s at *
   have HC:Aside (∀ W2,Kept [S,F] W W2→Box45 W2 S (.int .i64 k)→Box45 W2 F (.bool false)→Calls Tryz.prog 84 #[.int .i64 (place+s),.int .i64 s,ptr45 S,ptr45 D,ptr45 Wy,ptr45 T,ptr45 Bk,ptr45 F] W2 fun e w'=>e = .returned (.bool (!(decide (place+s<way)&&bad45 tr br down way (place+s) s)))∧Kept [S,F] W2 w'∧Box45 w' S (.int .i64 (k+1))∧Box45 w' F (.bool (decide (place+s<way)&&bad45 tr br down way (place+s) s))) :=
    fun W2 hk2 h1 h2=>clo45 W2 S D Wy T Bk F (place+s) s k false down way tr br (gokK45 HG.out hk2) hne h1 (by rw [i64_iff];omega) h2 (ptrK45 hk2 HD.out) (ptrK45 hk2 HW.out) (ptrK45 hk2 HT.out) (ptrK45 hk2 HB.out) (by rw [i64_iff];omega) (by rw [i64_iff];omega) (hcl _ _ _ _ (by omega) (by omega) (by omega) (by omega) (by omega) (by omega))
   have hq1:IntKind.i64.wrap (way - place)=way - place:=by rw [IntKind.wrap_i64];omega
   have hq2:IntKind.i64.wrap (place+s)=place+s:=by rw [IntKind.wrap_i64];omega
   have hnx:True:=trivial
   have hcl:True:=trivial
   generalize (decide (place+s<way)&&bad45 tr br down way (place+s) s)=bb at *
   cases bb with
   | true =>
    go_wp2_with (first
     | (go_at_call 109;refine (HN.out wr G1.out).mono ?_;rintro e w4 ⟨rfl,b4⟩;have K4:Aside (Kept [S,F] W w4):=HK.out.trans (Kept.of_below b4).of_nil;have S4:Aside (Box45 w4 S (.int .i64 k)):=HBS.out.keep (b4.block S lS2);have F4:Aside (Box45 w4 F (.bool false)):=HBF.out.keep (b4.block F lF2))
     | (go_at_call 84;refine (HC.out w4 K4.out S4.out F4.out).mono ?_;rintro e w5 ⟨rfl,k5,s5,f5⟩;have K5:Aside (Kept [S,F] W w5):=K4.out.trans k5;have S5:Aside (Box45 w5 S (.int .i64 (k+1))):=s5;have F5:Aside (Box45 w5 F (.bool true)):=f5;clear k5 s5 f5))
    (try simp only [Exit.inBlock,Exit.then])
    refine bodyPost_ret (results_none rfl _ _ _) rfl ?_
    exact ⟨rfl,K5.out,by rw [HR2.out,if_pos (by first | exact rfl | exact trivial)];exact ⟨S5.out,F5.out⟩⟩
   | false =>
    go_wp2_with (first
     | (go_at_call 109;refine (HN.out wr G1.out).mono ?_;rintro e w4 ⟨rfl,b4⟩;have K4:Aside (Kept [S,F] W w4):=HK.out.trans (Kept.of_below b4).of_nil;have S4:Aside (Box45 w4 S (.int .i64 k)):=HBS.out.keep (b4.block S lS2);have F4:Aside (Box45 w4 F (.bool false)):=HBF.out.keep (b4.block F lF2);have P4:Aside (w4.heap[W.heap.size]? = some (.cells #[.int .i64 pf.1,.int .i64 pf.2.1,.int .i64 pf.2.2.1,.int .i64 pf.2.2.2.1] 29)):=(b4.block _ lW).trans HPB.out;have lW4:W.heap.size<w4.heap.size:=Nat.lt_of_lt_of_le lW b4.size)
     | (go_at_call 84;refine (HC.out w4 K4.out S4.out F4.out).mono ?_;rintro e w5 ⟨rfl,k5,s5,f5⟩;have K5:Aside (Kept [S,F] W w5):=K4.out.trans k5;have S5:Aside (Box45 w5 S (.int .i64 (k+1))):=s5;have F5:Aside (Box45 w5 F (.bool false)):=f5;have P5:Aside (w5.heap[W.heap.size]? = some (.cells #[.int .i64 pf.1,.int .i64 pf.2.1,.int .i64 pf.2.2.1,.int .i64 pf.2.2.2.1] 29)):=(k5.block _ lW4 (by simp;omega)).trans P4.out;clear k5 s5 f5))
    exact ⟨⟨place+s,s,k+1,f,rfl,rfl,by omega,by omega,by omega,by omega,K5.out,P5.out,S5.out,F5.out,by rw [HR2.out,if_neg (by simp)]⟩,by simp [intOf];omega⟩
  ·go_wp2
   go_end0
   exact ⟨rfl,HK.out,by rw [← HR.out,rideEnd45 _ _ _ _ _ _ _ (by omega)];exact HBF.out⟩
def P45 (x0:TR45) (x1:BR45) (x2:PR45) (x3:Bool):Prop:=g69_0 x0=true→g71_0 x1=true→g72_0 x2=true→P80 x0∧(0≤g80_0 x0∧g80_0 x0≤3000000) ∧
 (∀ s l,0≤s→s≤15000→1≤l→l≤g80_0 x0→P109 x2 s l∧1≤g109_0 x2 s l∧g109_0 x2 s l≤l∧g109_0 x2 s l≤15000) ∧
 (∀ place s k fd,0≤place→place≤g80_0 x0→0≤s→s≤15000→0≤k→k≤3000000→P84 place s k x3 (g80_0 x0) x0 x1 fd)
def code45:Option Int→Int
 | some _=>0
 | none=>3
def run45 (x0:TR45) (x1:BR45) (x2:PR45) (x3:Bool):Option Int:=rideL (g109_0 x2) (bad45 x0 x1 x3 (g80_0 x0)) (g80_0 x0) (g80_0 x0).toNat 0 0 0
def g45_0 (x0:TR45) (x1:BR45) (x2:PR45) (x3:Bool):Int:=if (g69_0 x0&&g71_0 x1&&g72_0 x2)=true then (run45 x0 x1 x2 x3).getD 0 else 0
def g45_1 (x0:TR45) (x1:BR45) (x2:PR45) (x3:Bool):Int:=if (g69_0 x0&&g71_0 x1&&g72_0 x2)=true then code45 (run45 x0 x1 x2 x3) else 1
theorem rideNon45 {nx:Int→Int→Int} {bad:Int→Int→Bool} {n:Int}:∀ {f:Nat} {p s k r:Int},0≤k→rideL nx bad n f p s k=some r→0≤r∧r≤k+(f:Int)
 | 0,_,_,_,_,_,h=>by cases h
 | f+1,p,s,k,r,hk,h=>by
  rw [rideL] at h
  split at h
  ·split at h
   ·cases h;omega
   ·have:=rideNon45 (by omega) h
    omega
  ·cases h
theorem trk45 (W:World) (tr:TR45) (v:Value) (hgo:GOk W []) (hv:∃ cs,v = .agg cs.toArray∧RepC W (Am.Good W []) TY45 tr cs) :
  Calls Tryz.prog 69 #[v] W fun e w'=>e = .returned (.bool (g69_0 tr))∧Below W.heap.size W w':=by
 have h:=con69.down rfl W (tr,()) [v] [[]] hgo trivial ⟨_,_,_,_,rfl,rfl,⟨rfl,hv⟩,rfl,rfl⟩ (by simp)
 refine h.mono ?_
 rintro e w' ⟨rs,ubs,rbs,rfl,hk,⟨u,s,b1,bs1,cs,rfl,rfl,ho,hv,rfl,rfl⟩,_⟩
 obtain ⟨ho,_⟩:=ho
 have hv:cs=[u]:=hv
 rw [ho] at hv
 cases hv
 exact ⟨rfl,hk.below⟩
theorem len45 (W:World) (tr:TR45) (v:Value) (hgo:GOk W []) (hv:∃ cs,v = .agg cs.toArray∧RepC W (Am.Good W []) TY45 tr cs) (hp:P80 tr) :
  Calls Tryz.prog 80 #[v] W fun e w'=>e = .returned (.int .i64 (g80_0 tr))∧Below W.heap.size W w':=by
 have h:=con80.down rfl W (tr,()) [v] [[]] hgo hp ⟨_,_,_,_,rfl,rfl,⟨rfl,hv⟩,rfl,rfl⟩ (by simp)
 refine h.mono ?_
 rintro e w' ⟨rs,ubs,rbs,rfl,hk,⟨u,s,b1,bs1,cs,rfl,rfl,ho,hv,rfl,rfl⟩,_⟩
 obtain ⟨ho,_⟩:=ho
 have hv:cs=[u]:=hv
 rw [ho] at hv
 cases hv
 exact ⟨rfl,hk.below⟩
theorem brk45 (W:World) (br:BR45) (hgo:GOk W []) (hw:Wf BY45 br) :
  Calls Tryz.prog 71 #[.agg #[.int .i64 br.1,.int .i64 br.2.1]] W fun e w'=>e = .returned (.bool (g71_0 br))∧Below W.heap.size W w':=by
 have hr:RepC W (Am.Good W []) BY45 br (fcells BY45 br):=(OwnC.flat (w:=W) (w':=W) (G:=Am.Good W []) rfl (own_of_wf rfl hw)).1
 have h:=con71.down rfl W (br,()) [.agg #[.int .i64 br.1,.int .i64 br.2.1]] [[]] hgo trivial ⟨_,_,_,_,rfl,rfl,⟨rfl,fcells BY45 br,rfl,hr⟩,rfl,rfl⟩ (by simp)
 refine h.mono ?_
 rintro e w' ⟨rs,ubs,rbs,rfl,hk,⟨u,s,b1,bs1,cs,rfl,rfl,ho,hv,rfl,rfl⟩,_⟩
 obtain ⟨ho,_⟩:=ho
 have hv:cs=[u]:=hv
 rw [ho] at hv
 cases hv
 exact ⟨rfl,hk.below⟩
theorem prf45 (W:World) (pf:PR45) (hgo:GOk W []) (hw:Wf PY45 pf) :
  Calls Tryz.prog 72 #[.agg #[.int .i64 pf.1,.int .i64 pf.2.1,.int .i64 pf.2.2.1,.int .i64 pf.2.2.2.1]] W fun e w'=>e = .returned (.bool (g72_0 pf))∧Below W.heap.size W w':=by
 have hr:RepC W (Am.Good W []) PY45 pf (fcells PY45 pf):=(OwnC.flat (w:=W) (w':=W) (G:=Am.Good W []) rfl (own_of_wf rfl hw)).1
 have h:=con72.down rfl W (pf,()) [.agg #[.int .i64 pf.1,.int .i64 pf.2.1,.int .i64 pf.2.2.1,.int .i64 pf.2.2.2.1]] [[]] hgo trivial ⟨_,_,_,_,rfl,rfl,⟨rfl,fcells PY45 pf,rfl,hr⟩,rfl,rfl⟩ (by simp)
 refine h.mono ?_
 rintro e w' ⟨rs,ubs,rbs,rfl,hk,⟨u,s,b1,bs1,cs,rfl,rfl,ho,hv,rfl,rfl⟩,_⟩
 obtain ⟨ho,_⟩:=ho
 have hv:cs=[u]:=hv
 rw [ho] at hv
 cases hv
 exact ⟨rfl,hk.below⟩
theorem gokB45 {w W:World} (h:GOk w []) (hb:Below w.heap.size w W):GOk W []:=gokK45 h (Kept.of_below hb)
theorem trkB45 {w W:World} (hb:Below w.heap.size w W) {tr:TR45} {v:Value} (hv:∃ cs,v = .agg cs.toArray∧RepC w (Am.Good w []) TY45 tr cs):∃ cs,v = .agg cs.toArray∧RepC W (Am.Good W []) TY45 tr cs:=by
 obtain ⟨cs,rfl,h⟩:=hv
 exact ⟨cs,rfl,h.keep (good45 (Kept.of_below hb)) (fun b hb'=>hb.block b hb'.1)⟩
structure Env45 (w:World) (sl:Value) (tr:TR45) (br:BR45) (pf:PR45) (down:Bool) (W:World):Prop where
 low:Below w.heap.size w W
 t:W.heap[w.heap.size]? = some (.cells #[sl,.int .i64 tr.2.1,.int .i64 tr.2.2.1] 25)
 b:W.heap[w.heap.size+1]? = some (.cells #[.int .i64 br.1,.int .i64 br.2.1] 27)
 p:W.heap[w.heap.size+1+1]? = some (.cells #[.int .i64 pf.1,.int .i64 pf.2.1,.int .i64 pf.2.2.1,.int .i64 pf.2.2.2.1] 29)
 d:W.heap[w.heap.size+1+1+1]? = some (.cells #[.bool down] 4)
theorem Env45.keep {w W W':World} {sl:Value} {tr:TR45} {br:BR45} {pf:PR45} {down:Bool} (h:Env45 w sl tr br pf down W) (hb:Below W.heap.size W W'):Env45 w sl tr br pf down W' where
 low:=h.low.trans (hb.mono h.low.size)
 t:=(hb.block _ (Array.getElem?_eq_some_iff.1 h.t).1).trans h.t
 b:=(hb.block _ (Array.getElem?_eq_some_iff.1 h.b).1).trans h.b
 p:=(hb.block _ (Array.getElem?_eq_some_iff.1 h.p).1).trans h.p
 d:=(hb.block _ (Array.getElem?_eq_some_iff.1 h.d).1).trans h.d
theorem new45 (w:World) (o:Obj) (n:Nat) (hn:w.heap.size=n):(w.alloc o).heap[n]? = some o:=by
 subst hn
 exact heap_alloc_new w o
abbrev W445 (w:World) (sl:Value) (tr:TR45) (br:BR45) (pf:PR45) (down:Bool):World:=((((w.alloc (.cells #[sl,.int .i64 tr.2.1,.int .i64 tr.2.2.1] 25)).alloc (.cells #[.int .i64 br.1,.int .i64 br.2.1] 27)).alloc (.cells #[.int .i64 pf.1,.int .i64 pf.2.1,.int .i64 pf.2.2.1,.int .i64 pf.2.2.2.1] 29)).alloc (.cells #[.bool down] 4))
theorem env45 (w:World) (sl:Value) (tr:TR45) (br:BR45) (pf:PR45) (down:Bool) :
  Env45 w sl tr br pf down (W445 w sl tr br pf down):=by
 refine ⟨((((Below.refl _ w).alloc (Nat.le_refl _) _).alloc (by simp) _).alloc (by simp <;> omega) _).alloc (by simp <;> omega) _,?_,?_,?_,?_⟩
 ·rw [Below.heap_alloc _ _ _ (by simp <;> omega),Below.heap_alloc _ _ _ (by simp <;> omega),Below.heap_alloc _ _ _ (by simp)]
  exact heap_alloc_new w _
 ·rw [Below.heap_alloc _ _ _ (by simp <;> omega),Below.heap_alloc _ _ _ (by simp)]
  exact new45 _ _ _ (by simp)
 ·rw [Below.heap_alloc _ _ _ (by simp)]
  exact new45 _ _ _ (by simp)
 ·exact new45 _ _ _ (by simp)
theorem boxOf45 {W:World} {b:Nat} {u:Value} {ty:TypeId} (h:W.heap[b]? = some (.cells #[u] ty)):Box45 W b u:=⟨#[u],ty,(0,0),h,rfl,fun j _ hj=>by have:=hj.2;omega,.inl rfl⟩
abbrev W745 (w4:World) (way:Int):World:=((w4.alloc (.cells #[.int .i64 way] 2)).alloc (.cells #[.int .i64 0] 2)).alloc (.cells #[.bool false] 4)
theorem low745 (w4:World) (way:Int):Below w4.heap.size w4 (W745 w4 way):=(((Below.refl _ w4).alloc (Nat.le_refl _) _).alloc (by simp) _).alloc (by simp <;> omega) _
theorem way745 (w4:World) (way:Int):(W745 w4 way).heap[w4.heap.size]? = some (.cells #[.int .i64 way] 2):=by
 rw [Below.heap_alloc _ _ _ (by simp <;> omega),Below.heap_alloc _ _ _ (by simp)]
 exact heap_alloc_new w4 _
theorem sec745 (w4:World) (way:Int):(W745 w4 way).heap[w4.heap.size+1]? = some (.cells #[.int .i64 0] 2):=by
 rw [Below.heap_alloc _ _ _ (by simp)]
 exact new45 _ _ _ (by simp)
theorem fnd745 (w4:World) (way:Int):(W745 w4 way).heap[w4.heap.size+1+1]? = some (.cells #[.bool false] 4):=new45 _ _ _ (by simp)
theorem call45 {w w4:World} {sl:Value} {tr:TR45} {br:BR45} {pf:PR45} {down:Bool} (E4:Env45 w sl tr br pf down w4) (hgo:GOk w []) (hv:∃ cs,Value.agg #[sl,.int .i64 tr.2.1,.int .i64 tr.2.2.1] = .agg cs.toArray∧RepC w (Am.Good w []) TY45 tr cs) (hw1:Wf BY45 br) (hw2:Wf PY45 pf)
  (p2:0≤g80_0 tr∧g80_0 tr≤3000000)
  (p3:∀ s l,0≤s→s≤15000→1≤l→l≤g80_0 tr→P109 pf s l∧1≤g109_0 pf s l∧g109_0 pf s l≤l∧g109_0 pf s l≤15000)
  (p4:∀ place s k fd,0≤place→place≤g80_0 tr→0≤s→s≤15000→0≤k→k≤3000000→P84 place s k down (g80_0 tr) tr br fd) :
  Calls Tryz.prog 83 #[.agg #[.int .i64 pf.1,.int .i64 pf.2.1,.int .i64 pf.2.2.1,.int .i64 pf.2.2.2.1],.int .i64 (g80_0 tr),.func (.func 84) #[] #[ptr45 (w4.heap.size+1),ptr45 (w.heap.size+1+1+1),ptr45 w4.heap.size,ptr45 w.heap.size,ptr45 (w.heap.size+1),ptr45 (w4.heap.size+1+1)]] (W745 w4 (g80_0 tr)) fun e w' =>
   e = .returned (.tuple #[])∧Below w.heap.size w w'∧Fin45 w' (w4.heap.size+1) (w4.heap.size+1+1) (run45 tr br pf down):=by
 have low:=low745 w4 (g80_0 tr)
 have E7:=E4.keep low
 have ls:(W745 w4 (g80_0 tr)).heap.size=w4.heap.size+3:=by simp
 have l4:w.heap.size+4≤w4.heap.size:=by have:=(Array.getElem?_eq_some_iff.1 E4.d).1;omega
 have g7:GOk (W745 w4 (g80_0 tr)) []:=gokB45 hgo E7.low
 have g4:GOk w4 []:=gokB45 hgo E4.low
 have gs:=g4.size
 obtain ⟨cs,hcs,hrep⟩:=hv
 obtain rfl:cs=[sl,.int .i64 tr.2.1,.int .i64 tr.2.2.1]:=by
  have:=congrArg Value.cells hcs
  simpa [Value.cells] using congrArg Array.toList (show cs.toArray = #[sl,.int .i64 tr.2.1,.int .i64 tr.2.2.1] by cases hcs;rfl)
 have hr:=ride45 (W745 w4 (g80_0 tr)) (w4.heap.size+1) (w.heap.size+1+1+1) w4.heap.size w.heap.size (w.heap.size+1) (w4.heap.size+1+1) down (g80_0 tr) tr br pf (g80_0 tr).toNat
  ⟨g7.inv,g7.size,fun b hb=>by simp at hb;omega⟩ (by omega) (boxOf45 (sec745 _ _)) (boxOf45 (fnd745 _ _))
  ⟨_,_,[.bool down],rfl,⟨by rw [ls];omega,by simp <;> omega⟩,fun j c hj => ?_,rfl⟩
  ⟨_,_,[.int .i64 (g80_0 tr)],rfl,⟨by rw [ls];omega,by simp <;> omega⟩,fun j c hj => ?_,rfl,by rw [i64_iff];omega⟩
  ⟨_,_,[sl,.int .i64 tr.2.1,.int .i64 tr.2.2.1],rfl,⟨by rw [ls];omega,by simp <;> omega⟩,fun j c hj => ?_,hrep.keep (fun b hb=>⟨by rw [ls];have:=hb.1;omega,by have:=hb.1;simp;omega⟩) (fun b hb=>E7.low.block b hb.1)⟩
  ⟨_,_,fcells BY45 br,rfl,⟨by rw [ls];omega,by simp <;> omega⟩,fun j c hj => ?_,(OwnC.flat (w:=w) (G:=Am.Good (W745 w4 (g80_0 tr)) [w4.heap.size+1,w4.heap.size+1+1]) rfl (own_of_wf rfl hw1)).1⟩
  hw2 p2 (by omega) p3 p4
 ·refine hr.mono ?_
  rintro e w' ⟨rfl,hk,hf⟩
  refine ⟨rfl,⟨hk.os.trans E7.low.os,hk.tape.trans E7.low.tape,hk.output.trans E7.low.output,Nat.le_trans E7.low.size hk.size,fun q hq => ?_⟩,hf⟩
  exact (hk.block q (by rw [ls];omega) (by simp <;> omega)).trans (E7.low.block q hq)
 ·rcases j with _ | j
  ·simp at hj;subst hj
   exact cel45 E7.d 0 _ rfl
  ·simp at hj
 ·rcases j with _ | j
  ·simp at hj;subst hj
   exact cel45 (way745 _ _) 0 _ rfl
  ·simp at hj
 ·rw [Nat.zero_add]
  exact cel45 E7.t j c (by simpa using hj)
 ·rw [Nat.zero_add]
  exact cel45 E7.b j c (by simpa [fcells] using hj)
set_option maxHeartbeats 8000000 in
theorem walk45 (w:World) (sl:Value) (tr:TR45) (br:BR45) (pf:PR45) (down:Bool) (hgo:GOk w []) (hv:∃ cs,Value.agg #[sl,.int .i64 tr.2.1,.int .i64 tr.2.2.1] = .agg cs.toArray∧RepC w (Am.Good w []) TY45 tr cs) (hw1:Wf BY45 br) (hw2:Wf PY45 pf)
  (h1:g69_0 tr=true) (h2:g71_0 br=true) (h3:g72_0 pf=true) (hp:P45 tr br pf down) :
  Calls Tryz.prog 45 #[.agg #[sl,.int .i64 tr.2.1,.int .i64 tr.2.2.1],.agg #[.int .i64 br.1,.int .i64 br.2.1],.agg #[.int .i64 pf.1,.int .i64 pf.2.1,.int .i64 pf.2.2.1,.int .i64 pf.2.2.2.1],.bool down] w fun e w' =>
   e = .returned (.tuple #[.int .i64 ((run45 tr br pf down).getD 0),.int .i64 (code45 (run45 tr br pf down))])∧Below w.heap.size w w':=by
 obtain ⟨p1,p2,p3,p4⟩:=hp h1 h2 h3
 have HG:Aside (GOk w []):=hgo
 have HV:Aside (∃ cs,Value.agg #[sl,.int .i64 tr.2.1,.int .i64 tr.2.2.1] = .agg cs.toArray∧RepC w (Am.Good w []) TY45 tr cs):=hv
 clear hgo hv hp
 have hmf:∀ (fn:Fn) (first cap:Array Value) (w:World),(Instr.makeFunc fn first cap).run Tryz.prog w = .ok (.func fn first cap) w:=fun _ _ _ _=>rfl
 go_enter Tryz.func45,Tryz.ntmps45
 have E0:Aside (Env45 w sl tr br pf down (W445 w sl tr br pf down)):=env45 w sl tr br pf down
 go_wp2_with (go_at_call 69;refine (trk45 _ tr _ (gokB45 HG.out E0.out.low) (trkB45 E0.out.low HV.out)).mono ?_;rintro e w1 ⟨rfl,b1⟩;rw [h1];have E1:Aside (Env45 w sl tr br pf down w1):=E0.out.keep b1;clear b1;have c0:w1.cell? ⟨w.heap.size+1,0,none⟩=some (.int .i64 br.1):=cel45 E1.out.b 0 _ rfl;have c1:w1.cell? ⟨w.heap.size+1,1,none⟩=some (.int .i64 br.2.1):=cel45 E1.out.b 1 _ rfl)
 go_wp2_with (go_at_call 71;refine (brk45 w1 br (gokB45 HG.out E1.out.low) hw1).mono ?_;rintro e w2 ⟨rfl,b2⟩;rw [h2];have E2:Aside (Env45 w sl tr br pf down w2):=E1.out.keep b2;clear b2 c0 c1;have c0:w2.cell? ⟨w.heap.size+1+1,0,none⟩=some (.int .i64 pf.1):=cel45 E2.out.p 0 _ rfl;have c1:w2.cell? ⟨w.heap.size+1+1,1,none⟩=some (.int .i64 pf.2.1):=cel45 E2.out.p 1 _ rfl;have c2:w2.cell? ⟨w.heap.size+1+1,2,none⟩=some (.int .i64 pf.2.2.1):=cel45 E2.out.p 2 _ rfl;have c3:w2.cell? ⟨w.heap.size+1+1,3,none⟩=some (.int .i64 pf.2.2.2.1):=cel45 E2.out.p 3 _ rfl)
 go_wp2_with (go_at_call 72;refine (prf45 w2 pf (gokB45 HG.out E2.out.low) hw2).mono ?_;rintro e w3 ⟨rfl,b3⟩;rw [h3];have E3:Aside (Env45 w sl tr br pf down w3):=E2.out.keep b3;clear b3 c0 c1 c2 c3;have c0:w3.cell? ⟨w.heap.size,0,none⟩=some sl:=cel45 E3.out.t 0 _ rfl;have c1:w3.cell? ⟨w.heap.size,1,none⟩=some (.int .i64 tr.2.1):=cel45 E3.out.t 1 _ rfl;have c2:w3.cell? ⟨w.heap.size,2,none⟩=some (.int .i64 tr.2.2.1):=cel45 E3.out.t 2 _ rfl)
 go_wp2_with (go_at_call 80;refine (len45 w3 tr _ (gokB45 HG.out E3.out.low) (trkB45 E3.out.low HV.out) p1).mono ?_;rintro e w4 ⟨rfl,b4⟩;have E4:Aside (Env45 w sl tr br pf down w4):=E3.out.keep b4;clear b4 c0 c1 c2;have E7:Aside (Env45 w sl tr br pf down (W745 w4 (g80_0 tr))):=E4.out.keep (low745 w4 _);have c0:(W745 w4 (g80_0 tr)).cell? ⟨w.heap.size+1+1,0,none⟩=some (.int .i64 pf.1):=cel45 E7.out.p 0 _ rfl;have c1:(W745 w4 (g80_0 tr)).cell? ⟨w.heap.size+1+1,1,none⟩=some (.int .i64 pf.2.1):=cel45 E7.out.p 1 _ rfl;have c2:(W745 w4 (g80_0 tr)).cell? ⟨w.heap.size+1+1,2,none⟩=some (.int .i64 pf.2.2.1):=cel45 E7.out.p 2 _ rfl;have c3:(W745 w4 (g80_0 tr)).cell? ⟨w.heap.size+1+1,3,none⟩=some (.int .i64 pf.2.2.2.1):=cel45 E7.out.p 3 _ rfl;have c4:(W745 w4 (g80_0 tr)).cell? ⟨w4.heap.size,0,none⟩=some (.int .i64 (g80_0 tr)):=cel45 (way745 w4 _) 0 _ rfl)
 cases hrun:run45 tr br pf down with
 | none =>
  go_wp2_with (go_at_call 83;refine (call45 E4.out HG.out HV.out hw1 hw2 p2 p3 p4).mono ?_;rintro e w5 ⟨rfl,b5,f5⟩;rw [hrun] at f5;have B5:Aside (Below w.heap.size w w5):=b5;have c5:w5.cell? ⟨w4.heap.size+1+1,0,none⟩=some (.bool false):=Box45.cell f5;clear b5 f5)
  go_ret2
  exact ⟨by rw [hrun];rfl,B5.out⟩
 | some r =>
  go_wp2_with (go_at_call 83;refine (call45 E4.out HG.out HV.out hw1 hw2 p2 p3 p4).mono ?_;rintro e w5 ⟨rfl,b5,f5⟩;rw [hrun] at f5;have B5:Aside (Below w.heap.size w w5):=b5;have c5:w5.cell? ⟨w4.heap.size+1+1,0,none⟩=some (.bool true):=Box45.cell f5.2;have c6:w5.cell? ⟨w4.heap.size+1,0,none⟩=some (.int .i64 r):=Box45.cell f5.1;clear b5 f5)
  go_ret2
  exact ⟨by rw [hrun];rfl,B5.out⟩
set_option maxHeartbeats 4000000 in
theorem bad145 (w:World) (sl:Value) (tr:TR45) (br:BR45) (pf:PR45) (down:Bool) (hgo:GOk w []) (hv:∃ cs,Value.agg #[sl,.int .i64 tr.2.1,.int .i64 tr.2.2.1] = .agg cs.toArray∧RepC w (Am.Good w []) TY45 tr cs) (h1:g69_0 tr=false) :
  Calls Tryz.prog 45 #[.agg #[sl,.int .i64 tr.2.1,.int .i64 tr.2.2.1],.agg #[.int .i64 br.1,.int .i64 br.2.1],.agg #[.int .i64 pf.1,.int .i64 pf.2.1,.int .i64 pf.2.2.1,.int .i64 pf.2.2.2.1],.bool down] w fun e w'=>e = .returned (.tuple #[.int .i64 0,.int .i64 1])∧Below w.heap.size w w':=by
 have HG:Aside (GOk w []):=hgo
 have HV:Aside (∃ cs,Value.agg #[sl,.int .i64 tr.2.1,.int .i64 tr.2.2.1] = .agg cs.toArray∧RepC w (Am.Good w []) TY45 tr cs):=hv
 clear hgo hv
 go_enter Tryz.func45,Tryz.ntmps45
 have E0:Aside (Env45 w sl tr br pf down (W445 w sl tr br pf down)):=env45 w sl tr br pf down
 go_wp2_with (go_at_call 69;refine (trk45 _ tr _ (gokB45 HG.out E0.out.low) (trkB45 E0.out.low HV.out)).mono ?_;rintro e w1 ⟨rfl,b1⟩;rw [h1];have E1:Aside (Env45 w sl tr br pf down w1):=E0.out.keep b1;clear b1)
 go_ret2
 exact ⟨rfl,E1.out.low⟩
set_option maxHeartbeats 4000000 in
theorem bad245 (w:World) (sl:Value) (tr:TR45) (br:BR45) (pf:PR45) (down:Bool) (hgo:GOk w []) (hv:∃ cs,Value.agg #[sl,.int .i64 tr.2.1,.int .i64 tr.2.2.1] = .agg cs.toArray∧RepC w (Am.Good w []) TY45 tr cs) (hw1:Wf BY45 br) (h1:g69_0 tr=true) (h2:g71_0 br=false) :
  Calls Tryz.prog 45 #[.agg #[sl,.int .i64 tr.2.1,.int .i64 tr.2.2.1],.agg #[.int .i64 br.1,.int .i64 br.2.1],.agg #[.int .i64 pf.1,.int .i64 pf.2.1,.int .i64 pf.2.2.1,.int .i64 pf.2.2.2.1],.bool down] w fun e w'=>e = .returned (.tuple #[.int .i64 0,.int .i64 1])∧Below w.heap.size w w':=by
 have HG:Aside (GOk w []):=hgo
 have HV:Aside (∃ cs,Value.agg #[sl,.int .i64 tr.2.1,.int .i64 tr.2.2.1] = .agg cs.toArray∧RepC w (Am.Good w []) TY45 tr cs):=hv
 clear hgo hv
 go_enter Tryz.func45,Tryz.ntmps45
 have E0:Aside (Env45 w sl tr br pf down (W445 w sl tr br pf down)):=env45 w sl tr br pf down
 go_wp2_with (go_at_call 69;refine (trk45 _ tr _ (gokB45 HG.out E0.out.low) (trkB45 E0.out.low HV.out)).mono ?_;rintro e w1 ⟨rfl,b1⟩;rw [h1];have E1:Aside (Env45 w sl tr br pf down w1):=E0.out.keep b1;clear b1;have c0:w1.cell? ⟨w.heap.size+1,0,none⟩=some (.int .i64 br.1):=cel45 E1.out.b 0 _ rfl;have c1:w1.cell? ⟨w.heap.size+1,1,none⟩=some (.int .i64 br.2.1):=cel45 E1.out.b 1 _ rfl)
 go_wp2_with (go_at_call 71;refine (brk45 w1 br (gokB45 HG.out E1.out.low) hw1).mono ?_;rintro e w2 ⟨rfl,b2⟩;rw [h2];have E2:Aside (Env45 w sl tr br pf down w2):=E1.out.keep b2;clear b2 c0 c1)
 go_ret2
 exact ⟨rfl,E2.out.low⟩
set_option maxHeartbeats 4000000 in
theorem bad345 (w:World) (sl:Value) (tr:TR45) (br:BR45) (pf:PR45) (down:Bool) (hgo:GOk w []) (hv:∃ cs,Value.agg #[sl,.int .i64 tr.2.1,.int .i64 tr.2.2.1] = .agg cs.toArray∧RepC w (Am.Good w []) TY45 tr cs) (hw1:Wf BY45 br) (hw2:Wf PY45 pf) (h1:g69_0 tr=true) (h2:g71_0 br=true) (h3:g72_0 pf=false) :
  Calls Tryz.prog 45 #[.agg #[sl,.int .i64 tr.2.1,.int .i64 tr.2.2.1],.agg #[.int .i64 br.1,.int .i64 br.2.1],.agg #[.int .i64 pf.1,.int .i64 pf.2.1,.int .i64 pf.2.2.1,.int .i64 pf.2.2.2.1],.bool down] w fun e w'=>e = .returned (.tuple #[.int .i64 0,.int .i64 1])∧Below w.heap.size w w':=by
 have HG:Aside (GOk w []):=hgo
 have HV:Aside (∃ cs,Value.agg #[sl,.int .i64 tr.2.1,.int .i64 tr.2.2.1] = .agg cs.toArray∧RepC w (Am.Good w []) TY45 tr cs):=hv
 clear hgo hv
 go_enter Tryz.func45,Tryz.ntmps45
 have E0:Aside (Env45 w sl tr br pf down (W445 w sl tr br pf down)):=env45 w sl tr br pf down
 go_wp2_with (go_at_call 69;refine (trk45 _ tr _ (gokB45 HG.out E0.out.low) (trkB45 E0.out.low HV.out)).mono ?_;rintro e w1 ⟨rfl,b1⟩;rw [h1];have E1:Aside (Env45 w sl tr br pf down w1):=E0.out.keep b1;clear b1;have c0:w1.cell? ⟨w.heap.size+1,0,none⟩=some (.int .i64 br.1):=cel45 E1.out.b 0 _ rfl;have c1:w1.cell? ⟨w.heap.size+1,1,none⟩=some (.int .i64 br.2.1):=cel45 E1.out.b 1 _ rfl)
 go_wp2_with (go_at_call 71;refine (brk45 w1 br (gokB45 HG.out E1.out.low) hw1).mono ?_;rintro e w2 ⟨rfl,b2⟩;rw [h2];have E2:Aside (Env45 w sl tr br pf down w2):=E1.out.keep b2;clear b2 c0 c1;have c0:w2.cell? ⟨w.heap.size+1+1,0,none⟩=some (.int .i64 pf.1):=cel45 E2.out.p 0 _ rfl;have c1:w2.cell? ⟨w.heap.size+1+1,1,none⟩=some (.int .i64 pf.2.1):=cel45 E2.out.p 1 _ rfl;have c2:w2.cell? ⟨w.heap.size+1+1,2,none⟩=some (.int .i64 pf.2.2.1):=cel45 E2.out.p 2 _ rfl;have c3:w2.cell? ⟨w.heap.size+1+1,3,none⟩=some (.int .i64 pf.2.2.2.1):=cel45 E2.out.p 3 _ rfl)
 go_wp2_with (go_at_call 72;refine (prf45 w2 pf (gokB45 HG.out E2.out.low) hw2).mono ?_;rintro e w3 ⟨rfl,b3⟩;rw [h3];have E3:Aside (Env45 w sl tr br pf down w3):=E2.out.keep b3;clear b3 c0 c1 c2 c3)
 go_ret2
 exact ⟨rfl,E3.out.low⟩
def sig45:List AT:=[AT.v TY45,AT.v BY45,AT.v PY45,AT.v Ty.bool]
def S45:Am.Spec:={ sig:=sig45,pre:=fun ⟨x0,x1,x2,x3,_⟩=>P45 x0 x1 x2 x3,res:=fun ⟨x0,x1,x2,x3,_⟩=>[⟨.int .i64,g45_0 x0 x1 x2 x3⟩,⟨.int .i64,g45_1 x0 x1 x2 x3⟩] }
theorem rng45 (x0:TR45) (x1:BR45) (x2:PR45) (x3:Bool) (hp:P45 x0 x1 x2 x3):InR .i64 (g45_0 x0 x1 x2 x3)∧InR .i64 (g45_1 x0 x1 x2 x3):=by
 unfold g45_0 g45_1
 by_cases h:(g69_0 x0&&g71_0 x1&&g72_0 x2)=true
 ·rw [if_pos h,if_pos h]
  simp only [Bool.and_eq_true] at h
  obtain ⟨_,p2,_⟩:=hp h.1.1 h.1.2 h.2
  cases hr:run45 x0 x1 x2 x3 with
  | none=>exact ⟨by rw [i64_iff];show _≤(0:Int)∧(0:Int)≤_;omega,by rw [i64_iff];show _≤(3:Int)∧(3:Int)≤_;omega⟩
  | some r =>
   have:=rideNon45 (Int.le_refl 0) hr
   exact ⟨by rw [i64_iff];show _≤r∧r≤_;omega,by rw [i64_iff];show _≤(0:Int)∧(0:Int)≤_;omega⟩
 ·rw [if_neg h,if_neg h]
  exact ⟨by rw [i64_iff];omega,by rw [i64_iff];omega⟩
theorem core45 (w:World) (x0:TR45) (x1:BR45) (x2:PR45) (x3:Bool) (v v1 v2:Value) (hgo:GOk w []) (hp:P45 x0 x1 x2 x3) (h0:∃ cs,v = .agg cs.toArray∧RepC w (Am.Good w []) TY45 x0 cs) (h1:∃ cs,v1 = .agg cs.toArray∧RepC w (Am.Good w []) BY45 x1 cs) (h2:∃ cs,v2 = .agg cs.toArray∧RepC w (Am.Good w []) PY45 x2 cs) :
  Calls Tryz.prog 45 #[v,v1,v2,.bool x3] w fun e w'=>e = .returned (.tuple #[.int .i64 (g45_0 x0 x1 x2 x3),.int .i64 (g45_1 x0 x1 x2 x3)])∧Below w.heap.size w w':=by
 obtain ⟨cs,rfl,c1,c2,rfl,⟨sl,rfl,hsl⟩,c3,c4,rfl,⟨rfl,ia⟩,c5,c6,rfl,⟨rfl,ib⟩,rfl⟩:=h0
 obtain ⟨cs1,rfl,d1,d2,rfl,⟨rfl,ic⟩,d3,d4,rfl,⟨rfl,id⟩,rfl⟩:=h1
 obtain ⟨cs2,rfl,e1,e2,rfl,⟨rfl,ie⟩,e3,e4,rfl,⟨rfl,if'⟩,e5,e6,rfl,⟨rfl,ig⟩,e7,e8,rfl,⟨rfl,ih⟩,rfl⟩:=h2
 have hv:∃ cs,Value.agg #[sl,.int .i64 x0.2.1,.int .i64 x0.2.2.1] = .agg cs.toArray∧RepC w (Am.Good w []) TY45 x0 cs:=⟨_,rfl,_,_,rfl,⟨sl,rfl,hsl⟩,_,_,rfl,⟨rfl,ia⟩,_,_,rfl,⟨rfl,ib⟩,rfl⟩
 have hw1:Wf BY45 x1:=⟨ic,id,trivial⟩
 have hw2:Wf PY45 x2:=⟨ie,if',ig,ih,trivial⟩
 unfold g45_0 g45_1
 cases t1:g69_0 x0 with
 | false=>exact bad145 w sl x0 x1 x2 x3 hgo hv t1
 | true =>
  cases t2:g71_0 x1 with
  | false=>exact bad245 w sl x0 x1 x2 x3 hgo hv hw1 t1 t2
  | true =>
   cases t3:g72_0 x2 with
   | false=>exact bad345 w sl x0 x1 x2 x3 hgo hv hw1 hw2 t1 t2 t3
   | true=>exact walk45 w sl x0 x1 x2 x3 hgo hv hw1 hw2 t1 t2 t3 hp
theorem con45:Contract Tryz.prog 45 S45:=by
 refine Contract0.up rfl rfl ?_
 rintro w ⟨x0,x1,x2,x3,u⟩ vs bss hgo hp ⟨v,s,b,bs,rfl,rfl,⟨rfl,h0⟩,v1,s1,b1,bs1,rfl,rfl,⟨rfl,h1⟩,v2,s2,b2,bs2,rfl,rfl,⟨rfl,h2⟩,v3,s3,b3,bs3,rfl,rfl,⟨rfl,h3⟩,rfl,rfl⟩ hnd
 obtain ⟨rfl,_⟩:v3 = .bool x3∧True:=⟨h3.1,trivial⟩
 refine (core45 w x0 x1 x2 x3 v v1 v2 hgo hp h0 h1 h2).mono ?_
 rintro e w' ⟨rfl,hb⟩
 have hi:InR .i64 (g45_0 x0 x1 x2 x3)∧InR .i64 (g45_1 x0 x1 x2 x3):=rng45 x0 x1 x2 x3 hp
 exact ⟨[.int .i64 (g45_0 x0 x1 x2 x3),.int .i64 (g45_1 x0 x1 x2 x3)],[],[[],[]],rfl,Kept.of_below hb,⟨_,_,_,_,_,rfl,rfl,⟨rfl,hi.1,rfl⟩,rfl,_,_,_,_,_,rfl,rfl,⟨rfl,hi.2,rfl⟩,rfl,rfl,rfl⟩,⟨rfl,rfl⟩,by simp,fun b hb=>by simp at hb⟩
noncomputable section
def ext18:Ext:=[(42,S42),(43,S43),(44,S44),(45,S45)]
theorem ext18Ok:ExtOk Tryz.prog ext18:=⟨⟨ca42,con42⟩,⟨ca43,con43⟩,⟨ca44,con44⟩,⟨ca45,con45⟩,trivial⟩
noncomputable def b18:Code:=bodyOf Tryz.f18
theorem hb18:Tryz.f18.body=some b18:=by kernel_rfl
def sig18:List AT:=[AT.v YA0]
def tys18:List Ty:=[.sl YA9]
def kds18:List RK:=[]
def oks18:List AT:=owns sig18
def E18_6 (v30:Int) (h1:List TyB3) (x0:TyA0):Env:=[(1,.a (.optr 0 0 [])),(3,.a (.osl 1 Option.none)),(28,.a (.osl 2 Option.none)),(29,.a (.val (.int .i64 2))),(30,.a (.val (.int .i64 v30)))]
def L18_6 (v30:Int) (h1:List TyB3) (x0:TyA0):Heap:=[Option.some (Arr.mk YA0 [x0] true Option.none (Option.some false)),Option.some (Arr.mk YA9 h1 false Option.none Option.none),Option.some (Arr.mk .str [ByteArray.mk #[117,112],ByteArray.mk #[100,111,119,110]] false Option.none Option.none)]
mutual
def R18:Nat→TyA0→List Dyn→Prop
 | 0,_,_=>False
 | n+1,x0,ds=>((P42 x0.1 x0.2.1)∧(if (!g42_0 x0.1 x0.2.1)=true then ((P43 x0.1)∧((P44 (g43_0 x0.1))∧(R18_6 n (0) ([(1,ByteArray.mk #[99,97,114,115],g44_0 (g43_0 x0.1),())]) (x0) ds))) else (R18_6 n (0) ([]) (x0) ds)))
def R18_6:Nat→Int→List TyB3→TyA0→List Dyn→Prop
 | 0,_,_,_,_=>False
 | n+1,v30,h1,x0,ds=>(if (decide (v30<2))=true then ((0≤v30)∧(v30<2)∧((P45 x0.1 x0.2.2.1 x0.2.2.2.1 (ByteArray.toList (List.getD [ByteArray.mk #[117,112],ByteArray.mk #[100,111,119,110]] (Int.toNat v30) ByteArray.empty)==ByteArray.toList (ByteArray.mk #[100,111,119,110])))∧(if (g45_1 x0.1 x0.2.2.1 x0.2.2.2.1 (ByteArray.toList (List.getD [ByteArray.mk #[117,112],ByteArray.mk #[100,111,119,110]] (Int.toNat v30) ByteArray.empty)==ByteArray.toList (ByteArray.mk #[100,111,119,110]))==0)=true then ((P44 (g45_0 x0.1 x0.2.2.1 x0.2.2.2.1 (ByteArray.toList (List.getD [ByteArray.mk #[117,112],ByteArray.mk #[100,111,119,110]] (Int.toNat v30) ByteArray.empty)==ByteArray.toList (ByteArray.mk #[100,111,119,110]))))∧(((List.length h1+1)*40≤140737488355328)∧((InR .i64 (v30+1))∧(R18_6 n (v30+1) (h1++[(2,List.getD [ByteArray.mk #[117,112],ByteArray.mk #[100,111,119,110]] (Int.toNat v30) ByteArray.empty,g44_0 (g45_0 x0.1 x0.2.2.1 x0.2.2.2.1 (ByteArray.toList (List.getD [ByteArray.mk #[117,112],ByteArray.mk #[100,111,119,110]] (Int.toNat v30) ByteArray.empty)==ByteArray.toList (ByteArray.mk #[100,111,119,110]))),())]) (x0) ds)))) else ((InR .i64 (v30+1))∧(R18_6 n (v30+1) (h1) (x0) ds))))) else (ds=[Dyn.mk (.sl YA9) h1]))
end
theorem snd18:∀ n,(∀ (x0:TyA0) ds,R18 n x0 ds→∀ K q,AtV Tryz.prog 18 (PostR kds18 oks18 ds [] [] q K) 57 K q [] [.code b18] (entE 0 0 sig18 (x0,())) (entL sig18 (x0,())))∧(∀ (v30:Int) (h1:List TyB3) (x0:TyA0) ds,R18_6 n v30 h1 x0 ds→∀ K q,AtV Tryz.prog 18 (PostR kds18 oks18 ds [] [] q K) 57 K q [] (cutAt b18 6) (E18_6 v30 h1 x0) (L18_6 v30 h1 x0)):=by
 intro n
 induction n with
 | zero=>exact ⟨fun _ _ h=>by simp only [R18] at h,fun _ _ _ _ h=>by simp only [R18_6] at h⟩
 | succ n ih =>
 obtain ⟨ih,ih6⟩:=ih
 refine ⟨?_,?_⟩
 ·intro x0 ds h K q
  rw [R18] at h
  obtain ⟨s0,h⟩:=h
  by_cases b0:(!g42_0 x0.1 x0.2.1)=true
  ·rw [if_pos b0] at h
   obtain ⟨s1,h⟩:=h
   obtain ⟨s2,h⟩:=h
   exact AtV.go tabOk ext18Ok mixed false [] [(3,.cons (.int .i64) YA12)] [1,3,28,29,30] [0,2,3] [true] (a1 s0 (a1 b0 (a1 s1 (a1 s2 (a1 ((by decide):(1:Nat)*(40:Nat)≤(140737488355328:Nat)) trivial))))) (ih6 _ _ _ _ h K q) (by kernel_rfl)
  ·rw [if_neg b0] at h
   replace b0:=bf_ b0
   exact AtV.go tabOk ext18Ok mixed false [] [(3,.cons (.int .i64) YA12)] [1,3,28,29,30] [0,2,1] [false] (a1 s0 (a1 b0 trivial)) (ih6 _ _ _ _ h K q) (by kernel_rfl)
 ·intro v30 h1 x0 ds h K q
  rw [R18_6] at h
  by_cases b0:(decide (v30<2))=true
  ·rw [if_pos b0] at h
   obtain ⟨s0,s1,h⟩:=h
   obtain ⟨s2,h⟩:=h
   by_cases b1:(g45_1 x0.1 x0.2.2.1 x0.2.2.2.1 (ByteArray.toList (List.getD [ByteArray.mk #[117,112],ByteArray.mk #[100,111,119,110]] (Int.toNat v30) ByteArray.empty)==ByteArray.toList (ByteArray.mk #[100,111,119,110]))==0)=true
   ·rw [if_pos b1] at h
    obtain ⟨s3,h⟩:=h
    obtain ⟨s4,h⟩:=h
    obtain ⟨s5,h⟩:=h
    exact AtV.go tabOk ext18Ok mixed false [] [(3,.cons (.int .i64) YA12)] [1,3,28,29,30] [0,1,2] [true,true] (a1 b0 (a1 s0 (a1 s1 (a1 s2 (a1 b1 (a1 s3 (a1 s4 (a1 s5 trivial)))))))) (ih6 _ _ _ _ h K q) (by kernel_rfl)
   ·rw [if_neg b1] at h
    replace b1:=bf_ b1
    obtain ⟨s3,h⟩:=h
    exact AtV.go tabOk ext18Ok mixed false [] [(3,.cons (.int .i64) YA12)] [1,3,28,29,30] [0,1,2] [true,false] (a1 b0 (a1 s0 (a1 s1 (a1 s2 (a1 b1 (a1 s3 trivial)))))) (ih6 _ _ _ _ h K q) (by kernel_rfl)
  ·rw [if_neg b0] at h
   replace b0:=bf_ b0
   subst h
   exact AtV.ret Tryz.func18 tabOk ext18Ok mixed false [] tys18 [false] (a1 b0 trivial) (by kernel_rfl)
def one18 (x0:(TyA0)) (who:ByteArray) (d:Bool):List TyB3:=if (g45_1 x0.1 x0.2.2.1 x0.2.2.2.1 d==0)=true then [(2,who,g44_0 (g45_0 x0.1 x0.2.2.1 x0.2.2.2.1 d),())] else []
def trk018 (x0:(TyA0)):List TyB3:=if (!g42_0 x0.1 x0.2.1)=true then [(1,ByteArray.mk #[99,97,114,115],g44_0 (g43_0 x0.1),())] else []
def g18_0 (x0:(TyA0)):List TyB3:=trk018 x0++one18 x0 (ByteArray.mk #[117,112]) false++one18 x0 (ByteArray.mk #[100,111,119,110]) true
def Pd18 (x0:(TyA0)) (d:Bool):Prop:=P45 x0.1 x0.2.2.1 x0.2.2.2.1 d∧((g45_1 x0.1 x0.2.2.1 x0.2.2.2.1 d==0)=true→P44 (g45_0 x0.1 x0.2.2.1 x0.2.2.2.1 d))
def P18 (x0:(TyA0)):Prop:=P42 x0.1 x0.2.1∧((!g42_0 x0.1 x0.2.1)=true→P43 x0.1∧P44 (g43_0 x0.1))∧Pd18 x0 false∧Pd18 x0 true
theorem r218 (n:Nat) (h:List TyB3) (x0:(TyA0)):R18_6 (n+1) 2 h x0 [⟨.sl (.cons (.int .i64) (.cons .str (.cons .str .unit))),h⟩]:=by
 rw [R18_6,if_neg (by decide)]
theorem r118 (n:Nat) (h:List TyB3) (x0:(TyA0)) (hl:h.length≤5) (hp:Pd18 x0 true):R18_6 (n+1+1) 1 h x0 [⟨.sl (.cons (.int .i64) (.cons .str (.cons .str .unit))),h++one18 x0 (ByteArray.mk #[100,111,119,110]) true⟩]:=by
 have e1:List.getD [ByteArray.mk #[117,112],ByteArray.mk #[100,111,119,110]] (Int.toNat 1) ByteArray.empty=ByteArray.mk #[100,111,119,110]:=rfl
 have e2:(ByteArray.toList (ByteArray.mk #[100,111,119,110])==ByteArray.toList (ByteArray.mk #[100,111,119,110]))=true:=by rw [beq_self_eq_true]
 rw [R18_6,if_pos (by decide),e1,e2]
 refine ⟨by decide,by decide,hp.1,?_⟩
 unfold one18
 by_cases c:(g45_1 x0.1 x0.2.2.1 x0.2.2.2.1 true==0)=true
 ·rw [if_pos c,if_pos c]
  exact ⟨hp.2 c,by omega,by rw [i64_iff];omega,r218 n _ x0⟩
 ·rw [if_neg c,if_neg c,List.append_nil]
  exact ⟨by rw [i64_iff];omega,r218 n _ x0⟩
theorem r018 (n:Nat) (h:List TyB3) (x0:(TyA0)) (hl:h.length≤4) (hp0:Pd18 x0 false) (hp:Pd18 x0 true):R18_6 (n+1+1+1) 0 h x0 [⟨.sl (.cons (.int .i64) (.cons .str (.cons .str .unit))),h++one18 x0 (ByteArray.mk #[117,112]) false++one18 x0 (ByteArray.mk #[100,111,119,110]) true⟩]:=by
 have e1:List.getD [ByteArray.mk #[117,112],ByteArray.mk #[100,111,119,110]] (Int.toNat 0) ByteArray.empty=ByteArray.mk #[117,112]:=rfl
 have e2:(ByteArray.toList (ByteArray.mk #[117,112])==ByteArray.toList (ByteArray.mk #[100,111,119,110]))=false:=by
  rw [Bool.eq_false_iff]
  intro h
  rw [bytes_eq] at h
  exact absurd (congrArg (fun b=>b.data.size) h) (by decide)
 rw [R18_6,if_pos (by decide),e1,e2]
 refine ⟨by decide,by decide,hp0.1,?_⟩
 by_cases c:(g45_1 x0.1 x0.2.2.1 x0.2.2.2.1 false==0)=true
 ·have eo:one18 x0 (ByteArray.mk #[117,112]) false=[(2,ByteArray.mk #[117,112],g44_0 (g45_0 x0.1 x0.2.2.1 x0.2.2.2.1 false),())]:=by
   unfold one18
   rw [if_pos c]
  rw [if_pos c,eo]
  exact ⟨hp0.2 c,by omega,by rw [i64_iff];omega,r118 n _ x0 (by rw [List.length_append,List.length_singleton];omega) hp⟩
 ·have eo:one18 x0 (ByteArray.mk #[117,112]) false=[]:=by
   unfold one18
   rw [if_neg c]
  rw [if_neg c,eo,List.append_nil]
  exact ⟨by rw [i64_iff];omega,r118 n _ x0 (by omega) hp⟩
theorem top18 (x0:(TyA0)) (h:P18 x0):R18 5 x0 [⟨.sl (.cons (.int .i64) (.cons .str (.cons .str .unit))),g18_0 x0⟩]:=by
 obtain ⟨p1,p2,p3,p4⟩:=h
 rw [R18]
 refine ⟨p1,?_⟩
 unfold g18_0 trk018
 by_cases c:(!g42_0 x0.1 x0.2.1)=true
 ·rw [if_pos c,if_pos c]
  exact ⟨(p2 c).1,(p2 c).2,r018 1 _ x0 (by simp) p3 p4⟩
 ·rw [if_neg c,if_neg c]
  exact r018 1 _ x0 (by simp) p3 p4
def S18:Am.Spec:={ sig:=sig18,pre:=fun ⟨x0,_⟩=>P18 x0,res:=fun ⟨x0,_⟩=>[⟨.sl (.cons (.int .i64) (.cons .str (.cons .str .unit))),g18_0 x0⟩] }
theorem con18:Contract Tryz.prog 18 S18:=contract_of Tryz.func18 hb18 (bl_ (by kernel_rfl)) (fun ⟨x0,_⟩ h hwf K q =>
 (snd18 _).1 x0 _ (top18 x0 h) K q)
end
noncomputable section
def ext47:Ext:=[]
theorem ext47Ok:ExtOk Tryz.prog ext47:=trivial
noncomputable def b47:Code:=bodyOf Tryz.f47
theorem hb47:Tryz.f47.body=some b47:=by kernel_rfl
def sig47:List AT:=[AT.v YA5]
def tys47:List Ty:=[.cons (.int .i64) YA11]
def kds47:List RK:=[]
def oks47:List AT:=owns sig47
def P47 (x0:ByteArray×Int×Int×Int×Unit):Prop:=((InR .i64 (75*x0.2.1))∧((InR .i64 (15*x0.2.2.1))∧((InR .i64 (75*x0.2.1+15*x0.2.2.1))∧((InR .i64 (75*x0.2.1+15*x0.2.2.1+x0.2.2.2.1))∧True))))
def g47_0 (x0:ByteArray×Int×Int×Int×Unit):Int×Int×Int×Unit:=(x0.2.1,x0.2.2.1,75*x0.2.1+15*x0.2.2.1+x0.2.2.2.1,())
theorem at47 (x0:ByteArray×Int×Int×Int×Unit) (h:P47 x0) (K:Ctx) (q:Nat→Value):AtV Tryz.prog 47 (PostR kds47 oks47 [⟨.cons (.int .i64) YA11,g47_0 x0⟩] [] [] q K) 18 K q [] [.code b47] (entE 0 0 sig47 (x0,())) (entL sig47 (x0,())):=by
 unfold P47 at h
 unfold g47_0
 obtain ⟨s0,h⟩:=h
 obtain ⟨s1,h⟩:=h
 obtain ⟨s2,h⟩:=h
 obtain ⟨s3,h⟩:=h
 exact AtV.ret Tryz.func47 tabOk ext47Ok mixed false [] tys47 [] (a1 s0 (a1 s1 (a1 s2 (a1 s3 trivial)))) (by kernel_rfl)
def S47:Am.Spec:={ sig:=sig47,pre:=fun ⟨x0,_⟩=>P47 x0,res:=fun ⟨x0,_⟩=>[⟨.cons (.int .i64) YA11,g47_0 x0⟩],kds:=kds47 }
theorem con47:Contract Tryz.prog 47 S47:=contract_of Tryz.func47 hb47 (bl_ (by kernel_rfl)) (fun ⟨x0,_⟩ h _ K q=>at47 x0 h K q)
end
noncomputable section
def ext46:Ext:=[]
theorem ext46Ok:ExtOk Tryz.prog ext46:=trivial
noncomputable def b46:Code:=bodyOf Tryz.f46
theorem hb46:Tryz.f46.body=some b46:=by kernel_rfl
def sig46:List AT:=[AT.v YA8,AT.v YA8]
def tys46:List Ty:=[.bool]
def kds46:List RK:=[]
def oks46:List AT:=owns sig46
def P46 (x0:Int×Int×Int×Unit) (x1:Int×Int×Int×Unit):Prop:=True
def g46_0 (x0:Int×Int×Int×Unit) (x1:Int×Int×Int×Unit):Bool:=(if (decide (x0.1≤x1.1))=true then (if (decide (x0.2.1≤x1.2.1))=true then decide (x0.2.2.1≤x1.2.2.1) else false) else false)
theorem at46 (x0:Int×Int×Int×Unit) (x1:Int×Int×Int×Unit) (h:P46 x0 x1) (K:Ctx) (q:Nat→Value):AtV Tryz.prog 46 (PostR kds46 oks46 [⟨.bool,g46_0 x0 x1⟩] [] [] q K) 24 K q [] [.code b46] (entE 0 0 sig46 (x0,x1,())) (entL sig46 (x0,x1,())):=by
 unfold P46 at h
 unfold g46_0
 by_cases b0:(decide (x0.1≤x1.1))=true
 ·try simp only [if_pos b0] at h ⊢
  by_cases b1:(decide (x0.2.1≤x1.2.1))=true
  ·try simp only [if_pos b1] at h ⊢
   exact AtV.ret Tryz.func46 tabOk ext46Ok mixed false [] tys46 [true,true] (a1 b0 (a1 b1 trivial)) (by kernel_rfl)
  ·try simp only [if_neg b1] at h ⊢
   replace b1:=bf_ b1
   exact AtV.ret Tryz.func46 tabOk ext46Ok mixed false [] tys46 [true,false] (a1 b0 (a1 b1 trivial)) (by kernel_rfl)
 ·try simp only [if_neg b0] at h ⊢
  replace b0:=bf_ b0
  exact AtV.ret Tryz.func46 tabOk ext46Ok mixed false [] tys46 [false,false] (a1 b0 (a1 (rfl:false=false) trivial)) (by kernel_rfl)
def S46:Am.Spec:={ sig:=sig46,pre:=fun ⟨x0,x1,_⟩=>P46 x0 x1,res:=fun ⟨x0,x1,_⟩=>[⟨.bool,g46_0 x0 x1⟩],kds:=kds46 }
theorem con46:Contract Tryz.prog 46 S46:=contract_of Tryz.func46 hb46 (bl_ (by kernel_rfl)) (fun ⟨x0,x1,_⟩ h _ K q=>at46 x0 x1 h K q)
end
noncomputable section
def ext86:Ext:=[]
theorem ext86Ok:ExtOk Tryz.prog ext86:=trivial
noncomputable def b86:Code:=bodyOf Tryz.f86
theorem hb86:Tryz.f86.body=some b86:=by kernel_rfl
def sig86:List AT:=[AT.v YA3,AT.v (.int .i64),AT.v (.int .i64)]
def tys86:List Ty:=[.int .i64,.int .i64]
def kds86:List RK:=[]
def oks86:List AT:=owns sig86
def P86 (x0:ByteArray×Int×Int×Int×Int×Unit) (x1:Int) (x2:Int):Prop:=((InR .i64 (x0.2.2.2.1+x0.2.1))∧((InR .i64 (x0.2.2.2.1+x0.2.1 - x1))∧((InR .i64 (x0.2.2.2.2.1+x0.2.2.1))∧((InR .i64 (x0.2.2.2.2.1+x0.2.2.1 - x2))∧True))))
def g86_0 (x0:ByteArray×Int×Int×Int×Int×Unit) (x1:Int) (x2:Int):Int:=x0.2.2.2.1+x0.2.1 - x1
def g86_1 (x0:ByteArray×Int×Int×Int×Int×Unit) (x1:Int) (x2:Int):Int:=x0.2.2.2.2.1+x0.2.2.1 - x2
theorem at86 (x0:ByteArray×Int×Int×Int×Int×Unit) (x1:Int) (x2:Int) (h:P86 x0 x1 x2) (K:Ctx) (q:Nat→Value):AtV Tryz.prog 86 (PostR kds86 oks86 [⟨.int .i64,g86_0 x0 x1 x2⟩,⟨.int .i64,g86_1 x0 x1 x2⟩] [] [] q K) 22 K q [] [.code b86] (entE 0 0 sig86 (x0,x1,x2,())) (entL sig86 (x0,x1,x2,())):=by
 unfold P86 at h
 unfold g86_0 g86_1
 obtain ⟨s0,h⟩:=h
 obtain ⟨s1,h⟩:=h
 obtain ⟨s2,h⟩:=h
 obtain ⟨s3,h⟩:=h
 exact AtV.ret Tryz.func86 tabOk ext86Ok mixed false [] tys86 [] (a1 s0 (a1 s1 (a1 s2 (a1 s3 trivial)))) (by kernel_rfl)
def S86:Am.Spec:={ sig:=sig86,pre:=fun ⟨x0,x1,x2,_⟩=>P86 x0 x1 x2,res:=fun ⟨x0,x1,x2,_⟩=>[⟨.int .i64,g86_0 x0 x1 x2⟩,⟨.int .i64,g86_1 x0 x1 x2⟩],kds:=kds86 }
theorem con86:Contract Tryz.prog 86 S86:=contract_of Tryz.func86 hb86 (bl_ (by kernel_rfl)) (fun ⟨x0,x1,x2,_⟩ h _ K q=>at86 x0 x1 x2 h K q)
end
noncomputable section
def ext48:Ext:=[(86,S86)]
theorem ext48Ok:ExtOk Tryz.prog ext48:=⟨⟨ca86,con86⟩,trivial⟩
noncomputable def b48:Code:=bodyOf Tryz.f48
theorem hb48:Tryz.f48.body=some b48:=by kernel_rfl
def sig48:List AT:=[AT.v YA3,AT.v (.int .i64),AT.v (.int .i64)]
def tys48:List Ty:=[.bool]
def kds48:List RK:=[]
def oks48:List AT:=owns sig48
def P48 (x0:ByteArray×Int×Int×Int×Int×Unit) (x1:Int) (x2:Int):Prop:=((P86 x0 x1 x2)∧True)
def g48_0 (x0:ByteArray×Int×Int×Int×Int×Unit) (x1:Int) (x2:Int):Bool:=(if (decide (g86_0 x0 x1 x2<0))=true then true else decide (g86_1 x0 x1 x2<0))
theorem at48 (x0:ByteArray×Int×Int×Int×Int×Unit) (x1:Int) (x2:Int) (h:P48 x0 x1 x2) (K:Ctx) (q:Nat→Value):AtV Tryz.prog 48 (PostR kds48 oks48 [⟨.bool,g48_0 x0 x1 x2⟩] [] [] q K) 22 K q [] [.code b48] (entE 0 0 sig48 (x0,x1,x2,())) (entL sig48 (x0,x1,x2,())):=by
 unfold P48 at h
 unfold g48_0
 obtain ⟨s0,h⟩:=h
 by_cases b0:(decide (g86_0 x0 x1 x2<0))=true
 ·try simp only [if_pos b0] at h ⊢
  exact AtV.ret Tryz.func48 tabOk ext48Ok mixed false [] tys48 [true] (a1 s0 (a1 b0 trivial)) (by kernel_rfl)
 ·try simp only [if_neg b0] at h ⊢
  replace b0:=bf_ b0
  exact AtV.ret Tryz.func48 tabOk ext48Ok mixed false [] tys48 [false] (a1 s0 (a1 b0 trivial)) (by kernel_rfl)
def S48:Am.Spec:={ sig:=sig48,pre:=fun ⟨x0,x1,x2,_⟩=>P48 x0 x1 x2,res:=fun ⟨x0,x1,x2,_⟩=>[⟨.bool,g48_0 x0 x1 x2⟩],kds:=kds48 }
theorem con48:Contract Tryz.prog 48 S48:=contract_of Tryz.func48 hb48 (bl_ (by kernel_rfl)) (fun ⟨x0,x1,x2,_⟩ h _ K q=>at48 x0 x1 x2 h K q)
end
noncomputable section
def ext87:Ext:=[(76,S76)]
theorem ext87Ok:ExtOk Tryz.prog ext87:=⟨⟨ca76,con76⟩,trivial⟩
noncomputable def b87:Code:=bodyOf Tryz.f87
theorem hb87:Tryz.f87.body=some b87:=by kernel_rfl
def sig87:List AT:=[AT.v (.sl YA11),AT.v (.bool)]
def tys87:List Ty:=[.int .i64]
def kds87:List RK:=[]
def oks87:List AT:=owns sig87
def P87 (x0:List TyB4) (x1:Bool):Prop:=True
def g87_0 (x0:List TyB4) (x1:Bool):Int:=(if (!g76_0 x0)=true then 1 else (if (!x1)=true then 2 else 0))
theorem at87 (x0:List TyB4) (x1:Bool) (h:P87 x0 x1) (K:Ctx) (q:Nat→Value):AtV Tryz.prog 87 (PostR kds87 oks87 [⟨.int .i64,g87_0 x0 x1⟩] [] [] q K) 12 K q [] [.code b87] (entE 0 0 sig87 (x0,x1,())) (entL sig87 (x0,x1,())):=by
 unfold P87 at h
 unfold g87_0
 by_cases b0:(!g76_0 x0)=true
 ·try simp only [if_pos b0] at h ⊢
  exact AtV.ret Tryz.func87 tabOk ext87Ok mixed false [] tys87 [true] (a1 trivial (a1 b0 trivial)) (by kernel_rfl)
 ·try simp only [if_neg b0] at h ⊢
  replace b0:=bf_ b0
  by_cases b1:(!x1)=true
  ·try simp only [if_pos b1] at h ⊢
   exact AtV.ret Tryz.func87 tabOk ext87Ok mixed false [] tys87 [false,true] (a1 trivial (a1 b0 (a1 b1 trivial))) (by kernel_rfl)
  ·try simp only [if_neg b1] at h ⊢
   replace b1:=bf_ b1
   exact AtV.ret Tryz.func87 tabOk ext87Ok mixed false [] tys87 [false,false] (a1 trivial (a1 b0 (a1 b1 trivial))) (by kernel_rfl)
def S87:Am.Spec:={ sig:=sig87,pre:=fun ⟨x0,x1,_⟩=>P87 x0 x1,res:=fun ⟨x0,x1,_⟩=>[⟨.int .i64,g87_0 x0 x1⟩],kds:=kds87 }
theorem con87:Contract Tryz.prog 87 S87:=contract_of Tryz.func87 hb87 (bl_ (by kernel_rfl)) (fun ⟨x0,x1,_⟩ h _ K q=>at87 x0 x1 h K q)
end
noncomputable section
def ext49:Ext:=[(77,S77),(87,S87),(88,S88)]
theorem ext49Ok:ExtOk Tryz.prog ext49:=⟨⟨ca77,con77⟩,⟨ca87,con87⟩,⟨ca88,con88⟩,trivial⟩
noncomputable def b49:Code:=bodyOf Tryz.f49
theorem hb49:Tryz.f49.body=some b49:=by kernel_rfl
def sig49:List AT:=[AT.v (.sl YA11),AT.v (.int .i64)]
def tys49:List Ty:=[.sl (.int .i64),.int .i64]
def kds49:List RK:=[]
def oks49:List AT:=owns sig49
def E49_6 (v8:Int) (h0:List Int) (x0:List TyB4) (x1:Int):Env:=[(0,.a (.sl YA11 x0)),(1,.a (.val (.int .i64 x1))),(7,.a (.osl 0 Option.none)),(8,.a (.val (.int .i64 v8)))]
def L49_6 (v8:Int) (h0:List Int) (x0:List TyB4) (x1:Int):Heap:=[Option.some (Arr.mk (.int .i64) h0 false Option.none Option.none)]
mutual
def R49:Nat→List TyB4→Int→List Dyn→Prop
 | 0,_,_,_=>False
 | n+1,x0,x1,ds=>(if (g87_0 x0 (g77_0 x1) != 0)=true then (ds=[Dyn.mk (.sl (.int .i64)) [],Dyn.mk (.int .i64) (g87_0 x0 (g77_0 x1))]) else (R49_6 n (1) ([]) (x0) (x1) ds))
def R49_6:Nat→Int→List Int→List TyB4→Int→List Dyn→Prop
 | 0,_,_,_,_,_=>False
 | n+1,v8,h0,x0,x1,ds=>(if (decide (v8<(x0.length:Int)))=true then ((0≤v8)∧(v8<(x0.length:Int))∧((InR .i64 (v8 - 1))∧((0≤v8 - 1)∧(v8 - 1<(x0.length:Int))∧((P88 (List.getD x0 (Int.toNat (v8 - 1)) (0,0,())))∧((InR .i64 ((List.getD x0 (Int.toNat v8) (0,0,())).1 - g88_0 (List.getD x0 (Int.toNat (v8 - 1)) (0,0,()))))∧((InR .i64 ((List.getD x0 (Int.toNat v8) (0,0,())).1 - g88_0 (List.getD x0 (Int.toNat (v8 - 1)) (0,0,())) - x1))∧(((List.length h0+1)*8≤140737488355328)∧((InR .i64 (v8+1))∧(R49_6 n (v8+1) (h0++[(List.getD x0 (Int.toNat v8) (0,0,())).1 - g88_0 (List.getD x0 (Int.toNat (v8 - 1)) (0,0,())) - x1]) (x0) (x1) ds))))))))) else (ds=[Dyn.mk (.sl (.int .i64)) h0,Dyn.mk (.int .i64) 0]))
end
theorem snd49:∀ n,(∀ (x0:List TyB4) (x1:Int) ds,R49 n x0 x1 ds→∀ K q,AtV Tryz.prog 49 (PostR kds49 oks49 ds [] [] q K) 40 K q [] [.code b49] (entE 0 0 sig49 (x0,x1,())) (entL sig49 (x0,x1,())))∧(∀ (v8:Int) (h0:List Int) (x0:List TyB4) (x1:Int) ds,R49_6 n v8 h0 x0 x1 ds→∀ K q,AtV Tryz.prog 49 (PostR kds49 oks49 ds [] [] q K) 40 K q [] (cutAt b49 6) (E49_6 v8 h0 x0 x1) (L49_6 v8 h0 x0 x1)):=by
 intro n
 induction n with
 | zero=>exact ⟨fun _ _ _ h=>by simp only [R49] at h,fun _ _ _ _ _ h=>by simp only [R49_6] at h⟩
 | succ n ih =>
 obtain ⟨ih,ih6⟩:=ih
 refine ⟨?_,?_⟩
 ·intro x0 x1 ds h K q
  rw [R49] at h
  by_cases b0:(g87_0 x0 (g77_0 x1) != 0)=true
  ·rw [if_pos b0] at h
   subst h
   exact AtV.ret Tryz.func49 tabOk ext49Ok mixed false [] tys49 [true] (a1 trivial (a1 trivial (a1 b0 trivial))) (by kernel_rfl)
  ·rw [if_neg b0] at h
   replace b0:=bf_ b0
   exact AtV.go tabOk ext49Ok mixed false [] [(7,.int .i64)] [0,1,7,8] [0] [false] (a1 trivial (a1 trivial (a1 b0 trivial))) (ih6 _ _ _ _ _ h K q) (by kernel_rfl)
 ·intro v8 h0 x0 x1 ds h K q
  rw [R49_6] at h
  by_cases b0:(decide (v8<(x0.length:Int)))=true
  ·rw [if_pos b0] at h
   obtain ⟨s0,s1,h⟩:=h
   obtain ⟨s2,h⟩:=h
   obtain ⟨s3,s4,h⟩:=h
   obtain ⟨s5,h⟩:=h
   obtain ⟨s6,h⟩:=h
   obtain ⟨s7,h⟩:=h
   obtain ⟨s8,h⟩:=h
   obtain ⟨s9,h⟩:=h
   exact AtV.go tabOk ext49Ok mixed false [] [(7,.int .i64)] [0,1,7,8] [0] [true] (a1 b0 (a1 s0 (a1 s1 (a1 s2 (a1 s3 (a1 s4 (a1 s5 (a1 s6 (a1 s7 (a1 s8 (a1 s9 trivial))))))))))) (ih6 _ _ _ _ _ h K q) (by kernel_rfl)
  ·rw [if_neg b0] at h
   replace b0:=bf_ b0
   subst h
   exact AtV.ret Tryz.func49 tabOk ext49Ok mixed false [] tys49 [false] (a1 b0 trivial) (by kernel_rfl)
def sk49 (x1:Int):List TyB4→List Int
 | x :: y :: r=>(y.1 - g88_0 x - x1) :: sk49 x1 (y :: r)
 | _=>[]
def g49_0 (x0:List TyB4) (x1:Int):List Int:=if (g87_0 x0 (g77_0 x1) != 0)=true then [] else sk49 x1 x0
def g49_1 (x0:List TyB4) (x1:Int):Int:=if (g87_0 x0 (g77_0 x1) != 0)=true then g87_0 x0 (g77_0 x1) else 0
def ok49 (x:Int×Int×Unit):Prop:=P88 x∧0≤x.1∧x.1≤100000∧0≤g88_0 x∧g88_0 x≤1000000
def P49 (x0:List TyB4) (x1:Int):Prop:=(g87_0 x0 (g77_0 x1) != 0)=true∨x0.length≤1048576∧0≤x1∧x1≤100000∧∀ x∈x0,ok49 x
theorem run49 (x0:List TyB4) (x1:Int) (hl:x0.length≤1048576) (h0:0≤x1) (h1:x1≤100000) (hp:∀ x∈x0,ok49 x):∀ (k i:Nat) (h:List Int),i+k=x0.length→1≤i→h.length≤i →
  R49_6 (k+1) (i:Int) h x0 x1 [⟨.sl (.int .i64),h++sk49 x1 (x0.drop (i - 1))⟩,⟨.int .i64,(0:Int)⟩]:=by
 intro k
 induction k with
 | zero =>
  intro i h hi h2 hh
  have e:=drop_get x0 (i - 1) ((0:Int),(0:Int),()) (by omega)
  rw [show i - 1+1=i by omega,drop_end x0 i (by omega)] at e
  rw [R49_6,if_neg (by simp only [decide_eq_true_eq];omega),e]
  simp [sk49]
 | succ k ih =>
  intro i h hi h2 hh
  have hlt:i<x0.length:=by omega
  have hm:x0.length≤maxLen:=Nat.le_trans hl (by decide)
  have e:=drop_get x0 (i - 1) ((0:Int),(0:Int),()) (by omega)
  rw [show i - 1+1=i by omega] at e
  have e2:=drop_get x0 i ((0:Int),(0:Int),()) hlt
  have et:((i:Int) - 1).toNat=i - 1:=by omega
  obtain ⟨p1,a1,a2,a3,a4⟩:=hp _ (mem_getD x0 (i - 1) ((0:Int),(0:Int),()) (by omega))
  obtain ⟨q1,b1,b2,b3,b4⟩:=hp _ (mem_getD x0 i ((0:Int),(0:Int),()) hlt)
  have h3:=ih (i+1) (h++[(x0.getD i ((0:Int),(0:Int),())).1 - g88_0 (x0.getD (i - 1) ((0:Int),(0:Int),())) - x1]) (by omega) (by omega) (by simp;omega)
  rw [R49_6,if_pos (by simp only [decide_eq_true_eq];omega),e,e2]
  simp only [Int.toNat_natCast,et,sk49]
  rw [show i+1 - 1=i by omega,e2,List.append_assoc] at h3
  exact ⟨by omega,by omega,by rw [i64_iff];omega,by omega,by omega,p1,by rw [i64_iff];omega,by rw [i64_iff];omega,by omega,inR_up hm hlt,h3⟩
theorem top49 (x0:List TyB4) (x1:Int) (h:P49 x0 x1):∃ n,R49 n x0 x1 [⟨.sl (.int .i64),g49_0 x0 x1⟩,⟨.int .i64,g49_1 x0 x1⟩]:=by
 unfold g49_0 g49_1
 by_cases hc:(g87_0 x0 (g77_0 x1) != 0)=true
 ·exact ⟨1,by rw [R49,if_pos hc,if_pos hc,if_pos hc]⟩
 ·rw [if_neg hc,if_neg hc]
  obtain ⟨h1,h2,h3,h4⟩:=h.resolve_left hc
  cases x0 with
  | nil=>exact ⟨2,by rw [R49,if_neg hc,R49_6,if_neg (by simp)];rfl⟩
  | cons x r =>
   have:=run49 (x :: r) x1 h1 h2 h3 h4 r.length 1 [] (by simp;omega) (by omega) (by simp)
   simp only [List.nil_append,Nat.sub_self,List.drop_zero] at this
   exact ⟨r.length+1+1,by rw [R49,if_neg hc];exact this⟩
def S49:Am.Spec:={ sig:=sig49,pre:=fun ⟨x0,x1,_⟩=>P49 x0 x1,res:=fun ⟨x0,x1,_⟩=>[⟨.sl (.int .i64),g49_0 x0 x1⟩,⟨.int .i64,g49_1 x0 x1⟩] }
theorem con49:Contract Tryz.prog 49 S49:=contract_of Tryz.func49 hb49 (bl_ (by kernel_rfl)) (fun ⟨x0,x1,_⟩ h hwf K q =>
 let ⟨_,hn⟩:=top49 x0 x1 h
 (snd49 _).1 x0 x1 _ hn K q)
end
def bl {α β:Type} (f:Nat→α→List β):Nat→List α→List β
 | _,[]=>[]
 | i,x :: r=>f i x++bl f (i+1) r
theorem bl_len {α β:Type} (f:Nat→α→List β) (hf:∀ i x,(f i x).length≤1):∀ (l:List α) (i:Nat),(bl f i l).length≤l.length
 | [],_=>Nat.le_refl _
 | x :: r,i=>by
  have:=bl_len f hf r (i+1)
  have:=hf i x
  simp only [bl,List.length_append,List.length_cons]
  omega
theorem loop_build {α β:Type} (xs:List α) (d:α) (f:Nat→α→List β) (hf:∀ i x,(f i x).length≤1) (c:Nat) (R:Nat→Int→List β→Prop)
  (step:∀ (n i:Nat) (h:List β),i<xs.length→h.length≤c+i→R n ((i:Int)+1) (h++f i (xs.getD i d))→R (n+1) (i:Int) h) (m:Nat) :
  ∀ (k i:Nat) (h:List β),i+k=xs.length→h.length≤c+i→R m (xs.length:Int) (h++bl f i (xs.drop i))→R (m+k) (i:Int) h:=by
 intro k
 induction k with
 | zero =>
  intro i h hi hh hr
  have:i=xs.length:=by omega
  subst this
  rw [drop_end xs _ (Nat.le_refl _)] at hr
  simpa [bl] using hr
 | succ k ih =>
  intro i h hi hh hr
  have hlt:i<xs.length:=by omega
  refine step (m+k) i h hlt hh ?_
  have h2:=ih (i+1) (h++f i (xs.getD i d)) (by omega) (by have:=hf i (xs.getD i d);simp only [List.length_append];omega) (by
   rw [drop_get xs i d hlt] at hr
   simpa [bl,List.append_assoc] using hr)
  simpa using h2
theorem loop_build0 {α β:Type} (xs:List α) (d:α) (f:Nat→α→List β) (hf:∀ i x,(f i x).length≤1) (c:Nat) (R:Nat→Int→List β→Prop)
  (step:∀ (n i:Nat) (h:List β),i<xs.length→h.length≤c+i→R n ((i:Int)+1) (h++f i (xs.getD i d))→R (n+1) (i:Int) h) (m:Nat) (h:List β) (hh:h.length≤c) (hr:R m (xs.length:Int) (h++bl f 0 xs)):R (m+xs.length) 0 h:=by
 have:=loop_build xs d f hf c R step m xs.length 0 h (by omega) (by omega) (by simpa using hr)
 simpa using this
noncomputable section
def ext19:Ext:=[(47,S47),(46,S46),(44,S44),(48,S48),(49,S49)]
theorem ext19Ok:ExtOk Tryz.prog ext19:=⟨⟨ca47,con47⟩,⟨ca46,con46⟩,⟨ca44,con44⟩,⟨ca48,con48⟩,⟨ca49,con49⟩,trivial⟩
noncomputable def b19:Code:=bodyOf Tryz.f19
theorem hb19:Tryz.f19.body=some b19:=by kernel_rfl
def sig19:List AT:=[AT.v YA0]
def tys19:List Ty:=[.sl YA9]
def kds19:List RK:=[]
def oks19:List AT:=owns sig19
def E19_3 (v15:Int) (h1:List TyB3) (x0:TyA0):Env:=[(1,.a (.optr 0 0 [])),(3,.a (.osl 1 Option.none)),(13,.a (.sl YA5 x0.2.2.2.2.1)),(14,.a (.val (.int .i64 (x0.2.2.2.2.1.length:Int)))),(15,.a (.val (.int .i64 v15)))]
def L19_3 (v15:Int) (h1:List TyB3) (x0:TyA0):Heap:=[Option.some (Arr.mk YA0 [x0] true Option.none (Option.some false)),Option.some (Arr.mk YA9 h1 false Option.none Option.none)]
def E19_9 (v39:Int) (h1:List TyB3) (x0:TyA0):Env:=[(1,.a (.optr 0 0 [])),(3,.a (.osl 1 Option.none)),(37,.a (.sl YA3 x0.2.2.2.2.2.2.1)),(38,.a (.val (.int .i64 (x0.2.2.2.2.2.2.1.length:Int)))),(39,.a (.val (.int .i64 v39)))]
def L19_9 (v39:Int) (h1:List TyB3) (x0:TyA0):Heap:=[Option.some (Arr.mk YA0 [x0] true Option.none (Option.some false)),Option.some (Arr.mk YA9 h1 false Option.none Option.none)]
def E19_16 (v66:Int) (h0:List TyB3) (x0:TyA0):Env:=[(3,.a (.osl 0 Option.none)),(64,.a (.osl 1 Option.none)),(65,.a (.val (.int .i64 (↑(List.length (g49_0 x0.2.2.2.2.2.2.2.2.2.1 x0.2.2.2.2.2.2.2.2.2.2.1)):Int)))),(66,.a (.val (.int .i64 v66)))]
def L19_16 (v66:Int) (h0:List TyB3) (x0:TyA0):Heap:=[Option.some (Arr.mk YA9 h0 false Option.none Option.none),Option.some (Arr.mk (.int .i64) (g49_0 x0.2.2.2.2.2.2.2.2.2.1 x0.2.2.2.2.2.2.2.2.2.2.1) false Option.none Option.none)]
mutual
def R19:Nat→TyA0→List Dyn→Prop
 | 0,_,_=>False
 | n+1,x0,ds=>(R19_3 n (0) ([]) (x0) ds)
def R19_3:Nat→Int→List TyB3→TyA0→List Dyn→Prop
 | 0,_,_,_,_=>False
 | n+1,v15,h1,x0,ds=>(if (decide (v15<(x0.2.2.2.2.1.length:Int)))=true then ((0≤v15)∧(v15<(x0.2.2.2.2.1.length:Int))∧((P47 (List.getD x0.2.2.2.2.1 (Int.toNat v15) (ByteArray.empty,0,0,0,())))∧(if (!g46_0 ((List.getD x0.2.2.2.2.1 (Int.toNat v15) (ByteArray.empty,0,0,0,())).2.1,(List.getD x0.2.2.2.2.1 (Int.toNat v15) (ByteArray.empty,0,0,0,())).2.2.1,75*(List.getD x0.2.2.2.2.1 (Int.toNat v15) (ByteArray.empty,0,0,0,())).2.1+15*(List.getD x0.2.2.2.2.1 (Int.toNat v15) (ByteArray.empty,0,0,0,())).2.2.1+(List.getD x0.2.2.2.2.1 (Int.toNat v15) (ByteArray.empty,0,0,0,())).2.2.2.1,()) x0.2.2.2.2.2.1)=true then ((P47 (List.getD x0.2.2.2.2.1 (Int.toNat v15) (ByteArray.empty,0,0,0,())))∧((P44 (75*(List.getD x0.2.2.2.2.1 (Int.toNat v15) (ByteArray.empty,0,0,0,())).2.1+15*(List.getD x0.2.2.2.2.1 (Int.toNat v15) (ByteArray.empty,0,0,0,())).2.2.1+(List.getD x0.2.2.2.2.1 (Int.toNat v15) (ByteArray.empty,0,0,0,())).2.2.2.1))∧(((List.length h1+1)*40≤140737488355328)∧((InR .i64 (v15+1))∧(R19_3 n (v15+1) (h1++[(3,(List.getD x0.2.2.2.2.1 (Int.toNat v15) (ByteArray.empty,0,0,0,())).1,g44_0 (75*(List.getD x0.2.2.2.2.1 (Int.toNat v15) (ByteArray.empty,0,0,0,())).2.1+15*(List.getD x0.2.2.2.2.1 (Int.toNat v15) (ByteArray.empty,0,0,0,())).2.2.1+(List.getD x0.2.2.2.2.1 (Int.toNat v15) (ByteArray.empty,0,0,0,())).2.2.2.1),())]) (x0) ds))))) else ((InR .i64 (v15+1))∧(R19_3 n (v15+1) (h1) (x0) ds))))) else (R19_9 n (0) (h1) (x0) ds))
def R19_9:Nat→Int→List TyB3→TyA0→List Dyn→Prop
 | 0,_,_,_,_=>False
 | n+1,v39,h1,x0,ds=>(if (decide (v39<(x0.2.2.2.2.2.2.1.length:Int)))=true then ((0≤v39)∧(v39<(x0.2.2.2.2.2.2.1.length:Int))∧((P48 (List.getD x0.2.2.2.2.2.2.1 (Int.toNat v39) (ByteArray.empty,0,0,0,0,())) x0.2.2.2.2.2.2.2.1 x0.2.2.2.2.2.2.2.2.1)∧(if (g48_0 (List.getD x0.2.2.2.2.2.2.1 (Int.toNat v39) (ByteArray.empty,0,0,0,0,())) x0.2.2.2.2.2.2.2.1 x0.2.2.2.2.2.2.2.2.1)=true then (((List.length h1+1)*40≤140737488355328)∧((InR .i64 (v39+1))∧(R19_9 n (v39+1) (h1++[(4,(List.getD x0.2.2.2.2.2.2.1 (Int.toNat v39) (ByteArray.empty,0,0,0,0,())).1,ByteArray.mk #[111,118,101,114,100,117,101],())]) (x0) ds))) else ((InR .i64 (v39+1))∧(R19_9 n (v39+1) (h1) (x0) ds))))) else ((P49 x0.2.2.2.2.2.2.2.2.2.1 x0.2.2.2.2.2.2.2.2.2.2.1)∧(R19_16 n (0) (h1) (x0) ds)))
def R19_16:Nat→Int→List TyB3→TyA0→List Dyn→Prop
 | 0,_,_,_,_=>False
 | n+1,v66,h0,x0,ds=>(if (decide (v66<(↑(List.length (g49_0 x0.2.2.2.2.2.2.2.2.2.1 x0.2.2.2.2.2.2.2.2.2.2.1)):Int)))=true then ((0≤v66)∧(v66<(↑(List.length (g49_0 x0.2.2.2.2.2.2.2.2.2.1 x0.2.2.2.2.2.2.2.2.2.2.1)):Int))∧(if (decide (List.getD (g49_0 x0.2.2.2.2.2.2.2.2.2.1 x0.2.2.2.2.2.2.2.2.2.2.1) (Int.toNat v66) 0<0))=true then ((InR .i64 (v66+1))∧((P44 (v66+1))∧((P44 (List.getD (g49_0 x0.2.2.2.2.2.2.2.2.2.1 x0.2.2.2.2.2.2.2.2.2.2.1) (Int.toNat v66) 0))∧(((List.length h0+1)*40≤140737488355328)∧((InR .i64 (v66+1))∧(R19_16 n (v66+1) (h0++[(5,g44_0 (v66+1),g44_0 (List.getD (g49_0 x0.2.2.2.2.2.2.2.2.2.1 x0.2.2.2.2.2.2.2.2.2.2.1) (Int.toNat v66) 0),())]) (x0) ds)))))) else ((InR .i64 (v66+1))∧(R19_16 n (v66+1) (h0) (x0) ds)))) else (ds=[Dyn.mk (.sl YA9) h0]))
end
theorem snd19:∀ n,(∀ (x0:TyA0) ds,R19 n x0 ds→∀ K q,AtV Tryz.prog 19 (PostR kds19 oks19 ds [] [] q K) 84 K q [] [.code b19] (entE 0 0 sig19 (x0,())) (entL sig19 (x0,())))∧(∀ (v15:Int) (h1:List TyB3) (x0:TyA0) ds,R19_3 n v15 h1 x0 ds→∀ K q,AtV Tryz.prog 19 (PostR kds19 oks19 ds [] [] q K) 84 K q [] (cutAt b19 3) (E19_3 v15 h1 x0) (L19_3 v15 h1 x0))∧(∀ (v39:Int) (h1:List TyB3) (x0:TyA0) ds,R19_9 n v39 h1 x0 ds→∀ K q,AtV Tryz.prog 19 (PostR kds19 oks19 ds [] [] q K) 84 K q [] (cutAt b19 9) (E19_9 v39 h1 x0) (L19_9 v39 h1 x0))∧(∀ (v66:Int) (h0:List TyB3) (x0:TyA0) ds,R19_16 n v66 h0 x0 ds→∀ K q,AtV Tryz.prog 19 (PostR kds19 oks19 ds [] [] q K) 84 K q [] (cutAt b19 16) (E19_16 v66 h0 x0) (L19_16 v66 h0 x0)):=by
 intro n
 induction n with
 | zero=>exact ⟨fun _ _ h=>by simp only [R19] at h,fun _ _ _ _ h=>by simp only [R19_3] at h,fun _ _ _ _ h=>by simp only [R19_9] at h,fun _ _ _ _ h=>by simp only [R19_16] at h⟩
 | succ n ih =>
 obtain ⟨ih,ih3,ih9,ih16⟩:=ih
 refine ⟨?_,?_,?_,?_⟩
 ·intro x0 ds h K q
  rw [R19] at h
  exact AtV.go tabOk ext19Ok mixed false [] [(3,.cons (.int .i64) YA12)] [1,3,13,14,15] [0,1] [] trivial (ih3 _ _ _ _ h K q) (by kernel_rfl)
 ·intro v15 h1 x0 ds h K q
  rw [R19_3] at h
  by_cases b0:(decide (v15<(x0.2.2.2.2.1.length:Int)))=true
  ·rw [if_pos b0] at h
   obtain ⟨s0,s1,h⟩:=h
   obtain ⟨s2,h⟩:=h
   by_cases b1:(!g46_0 ((List.getD x0.2.2.2.2.1 (Int.toNat v15) (ByteArray.empty,0,0,0,())).2.1,(List.getD x0.2.2.2.2.1 (Int.toNat v15) (ByteArray.empty,0,0,0,())).2.2.1,75*(List.getD x0.2.2.2.2.1 (Int.toNat v15) (ByteArray.empty,0,0,0,())).2.1+15*(List.getD x0.2.2.2.2.1 (Int.toNat v15) (ByteArray.empty,0,0,0,())).2.2.1+(List.getD x0.2.2.2.2.1 (Int.toNat v15) (ByteArray.empty,0,0,0,())).2.2.2.1,()) x0.2.2.2.2.2.1)=true
   ·rw [if_pos b1] at h
    obtain ⟨s3,h⟩:=h
    obtain ⟨s4,h⟩:=h
    obtain ⟨s5,h⟩:=h
    obtain ⟨s6,h⟩:=h
    exact AtV.go tabOk ext19Ok mixed false [] [(3,.cons (.int .i64) YA12)] [1,3,13,14,15] [0,1] [true,true] (a1 b0 (a1 s0 (a1 s1 (a1 s2 (a1 trivial (a1 b1 (a1 s3 (a1 s4 (a1 s5 (a1 s6 trivial)))))))))) (ih3 _ _ _ _ h K q) (by kernel_rfl)
   ·rw [if_neg b1] at h
    replace b1:=bf_ b1
    obtain ⟨s3,h⟩:=h
    exact AtV.go tabOk ext19Ok mixed false [] [(3,.cons (.int .i64) YA12)] [1,3,13,14,15] [0,1] [true,false] (a1 b0 (a1 s0 (a1 s1 (a1 s2 (a1 trivial (a1 b1 (a1 s3 trivial))))))) (ih3 _ _ _ _ h K q) (by kernel_rfl)
  ·rw [if_neg b0] at h
   replace b0:=bf_ b0
   exact AtV.go tabOk ext19Ok mixed false [] [(3,.cons (.int .i64) YA12)] [1,3,37,38,39] [0,1] [false] (a1 b0 trivial) (ih9 _ _ _ _ h K q) (by kernel_rfl)
 ·intro v39 h1 x0 ds h K q
  rw [R19_9] at h
  by_cases b0:(decide (v39<(x0.2.2.2.2.2.2.1.length:Int)))=true
  ·rw [if_pos b0] at h
   obtain ⟨s0,s1,h⟩:=h
   obtain ⟨s2,h⟩:=h
   by_cases b1:(g48_0 (List.getD x0.2.2.2.2.2.2.1 (Int.toNat v39) (ByteArray.empty,0,0,0,0,())) x0.2.2.2.2.2.2.2.1 x0.2.2.2.2.2.2.2.2.1)=true
   ·rw [if_pos b1] at h
    obtain ⟨s3,h⟩:=h
    obtain ⟨s4,h⟩:=h
    exact AtV.go tabOk ext19Ok mixed false [] [(3,.cons (.int .i64) YA12)] [1,3,37,38,39] [0,1] [true,true] (a1 b0 (a1 s0 (a1 s1 (a1 s2 (a1 b1 (a1 s3 (a1 s4 trivial))))))) (ih9 _ _ _ _ h K q) (by kernel_rfl)
   ·rw [if_neg b1] at h
    replace b1:=bf_ b1
    obtain ⟨s3,h⟩:=h
    exact AtV.go tabOk ext19Ok mixed false [] [(3,.cons (.int .i64) YA12)] [1,3,37,38,39] [0,1] [true,false] (a1 b0 (a1 s0 (a1 s1 (a1 s2 (a1 b1 (a1 s3 trivial)))))) (ih9 _ _ _ _ h K q) (by kernel_rfl)
  ·rw [if_neg b0] at h
   replace b0:=bf_ b0
   obtain ⟨s0,h⟩:=h
   exact AtV.go tabOk ext19Ok mixed false [] [(3,.cons (.int .i64) YA12)] [3,64,65,66] [1,2] [false] (a1 b0 (a1 s0 trivial)) (ih16 _ _ _ _ h K q) (by kernel_rfl)
 ·intro v66 h0 x0 ds h K q
  rw [R19_16] at h
  by_cases b0:(decide (v66<(↑(List.length (g49_0 x0.2.2.2.2.2.2.2.2.2.1 x0.2.2.2.2.2.2.2.2.2.2.1)):Int)))=true
  ·rw [if_pos b0] at h
   obtain ⟨s0,s1,h⟩:=h
   by_cases b1:(decide (List.getD (g49_0 x0.2.2.2.2.2.2.2.2.2.1 x0.2.2.2.2.2.2.2.2.2.2.1) (Int.toNat v66) 0<0))=true
   ·rw [if_pos b1] at h
    obtain ⟨s2,h⟩:=h
    obtain ⟨s3,h⟩:=h
    obtain ⟨s4,h⟩:=h
    obtain ⟨s5,h⟩:=h
    obtain ⟨s6,h⟩:=h
    exact AtV.go tabOk ext19Ok mixed false [] [(3,.cons (.int .i64) YA12)] [3,64,65,66] [0,1] [true,true] (a1 b0 (a1 s0 (a1 s1 (a1 b1 (a1 s2 (a1 s3 (a1 s4 (a1 s5 (a1 s6 trivial))))))))) (ih16 _ _ _ _ h K q) (by kernel_rfl)
   ·rw [if_neg b1] at h
    replace b1:=bf_ b1
    obtain ⟨s2,h⟩:=h
    exact AtV.go tabOk ext19Ok mixed false [] [(3,.cons (.int .i64) YA12)] [3,64,65,66] [0,1] [true,false] (a1 b0 (a1 s0 (a1 s1 (a1 b1 (a1 s2 trivial))))) (ih16 _ _ _ _ h K q) (by kernel_rfl)
  ·rw [if_neg b0] at h
   replace b0:=bf_ b0
   subst h
   exact AtV.ret Tryz.func19 tabOk ext19Ok mixed false [] tys19 [false] (a1 b0 trivial) (by kernel_rfl)
def fG19 (r:Int×Int×Int×Unit) (_:Nat) (x:ByteArray×Int×Int×Int×Unit):List TyB3 :=
 if (!g46_0 (x.2.1,x.2.2.1,75*x.2.1+15*x.2.2.1+x.2.2.2.1,()) r)=true then [(3,x.1,g44_0 (75*x.2.1+15*x.2.2.1+x.2.2.2.1),())] else []
def fC19 (d r:Int) (_:Nat) (x:TyB0):List TyB3:=if g48_0 x d r=true then [(4,x.1,ByteArray.mk #[111,118,101,114,100,117,101],())] else []
def fS19 (i:Nat) (n:Int):List TyB3:=if decide (n<0)=true then [(5,g44_0 ((i:Int)+1),g44_0 n,())] else []
def g19_0 (x0:(TyA0)):List TyB3 :=
 bl (fG19 x0.2.2.2.2.2.1) 0 x0.2.2.2.2.1++bl (fC19 x0.2.2.2.2.2.2.2.1 x0.2.2.2.2.2.2.2.2.1) 0 x0.2.2.2.2.2.2.1++bl fS19 0 (g49_0 x0.2.2.2.2.2.2.2.2.2.1 x0.2.2.2.2.2.2.2.2.2.2.1)
def P19 (x0:(TyA0)):Prop:=x0.2.2.2.2.1.length≤1048576∧x0.2.2.2.2.2.2.1.length≤1048576∧(g49_0 x0.2.2.2.2.2.2.2.2.2.1 x0.2.2.2.2.2.2.2.2.2.2.1).length≤1048576 ∧
 (∀ x∈x0.2.2.2.2.1,P47 x)∧(∀ x∈x0.2.2.2.2.2.2.1,P48 x x0.2.2.2.2.2.2.2.1 x0.2.2.2.2.2.2.2.2.1)∧P49 x0.2.2.2.2.2.2.2.2.2.1 x0.2.2.2.2.2.2.2.2.2.2.1
theorem dec19 (n:Int):P44 n:=⟨rfl,trivial⟩
theorem top19 (x0:(TyA0)) (h:P19 x0):∃ n,R19 n x0 [⟨.sl (.cons (.int .i64) (.cons .str (.cons .str .unit))),g19_0 x0⟩]:=by
 obtain ⟨h1,h2,h3,h4,h5,h6⟩:=h
 have hm:1048576≤maxLen:=by decide
 have hmx:maxLen≤9223372036854775807:=by decide
 have l1:∀ i x,(fG19 x0.2.2.2.2.2.1 i x).length≤1:=fun i x=>by unfold fG19;split <;> simp
 have l2:∀ i x,(fC19 x0.2.2.2.2.2.2.2.1 x0.2.2.2.2.2.2.2.2.1 i x).length≤1:=fun i x=>by unfold fC19;split <;> simp
 have l3:∀ i x,(fS19 i x).length≤1:=fun i x=>by unfold fS19;split <;> simp
 have b1:=bl_len _ l1 x0.2.2.2.2.1 0
 have b2:=bl_len _ l2 x0.2.2.2.2.2.2.1 0
 have k3:=loop_build0 (g49_0 x0.2.2.2.2.2.2.2.2.2.1 x0.2.2.2.2.2.2.2.2.2.2.1) 0 fS19 l3 2097152 (fun n i h=>R19_16 n i h x0 [⟨.sl (.cons (.int .i64) (.cons .str (.cons .str .unit))),g19_0 x0⟩]) (fun n i h hi hh hr=>by
  rw [R19_16,if_pos (by simp only [decide_eq_true_eq];omega)]
  simp only [Int.toNat_natCast]
  refine ⟨by omega,by omega,?_⟩
  unfold fS19 at hr
  by_cases hc:decide ((g49_0 x0.2.2.2.2.2.2.2.2.2.1 x0.2.2.2.2.2.2.2.2.2.2.1).getD i 0<0)=true
  ·rw [if_pos hc] at hr ⊢
   exact ⟨by rw [i64_iff];omega,dec19 _,dec19 _,by omega,by rw [i64_iff];omega,hr⟩
  ·rw [if_neg hc] at hr ⊢
   rw [List.append_nil] at hr
   exact ⟨by rw [i64_iff];omega,hr⟩) 1 (bl (fG19 x0.2.2.2.2.2.1) 0 x0.2.2.2.2.1++bl (fC19 x0.2.2.2.2.2.2.2.1 x0.2.2.2.2.2.2.2.2.1) 0 x0.2.2.2.2.2.2.1) (by simp only [List.length_append];omega) (by
  rw [R19_16,if_neg (by simp)]
  rfl)
 have k2:=loop_build0 x0.2.2.2.2.2.2.1 (ByteArray.empty,(0:Int),(0:Int),(0:Int),(0:Int),()) (fC19 x0.2.2.2.2.2.2.2.1 x0.2.2.2.2.2.2.2.2.1) l2 1048576 (fun n i h=>R19_9 n i h x0 [⟨.sl (.cons (.int .i64) (.cons .str (.cons .str .unit))),g19_0 x0⟩]) (fun n i h hi hh hr=>by
  rw [R19_9,if_pos (by simp only [decide_eq_true_eq];omega)]
  simp only [Int.toNat_natCast]
  refine ⟨by omega,by omega,h5 _ (mem_getD _ i (ByteArray.empty,(0:Int),(0:Int),(0:Int),(0:Int),()) hi),?_⟩
  unfold fC19 at hr
  by_cases hc:g48_0 (x0.2.2.2.2.2.2.1.getD i (ByteArray.empty,(0:Int),(0:Int),(0:Int),(0:Int),())) x0.2.2.2.2.2.2.2.1 x0.2.2.2.2.2.2.2.2.1=true
  ·rw [if_pos hc] at hr ⊢
   exact ⟨by omega,by rw [i64_iff];omega,hr⟩
  ·rw [if_neg hc] at hr ⊢
   rw [List.append_nil] at hr
   exact ⟨by rw [i64_iff];omega,hr⟩) (1+(g49_0 x0.2.2.2.2.2.2.2.2.2.1 x0.2.2.2.2.2.2.2.2.2.2.1).length+1) (bl (fG19 x0.2.2.2.2.2.1) 0 x0.2.2.2.2.1) (by omega) (by
  rw [R19_9,if_neg (by simp)]
  exact ⟨h6,k3⟩)
 have k1:=loop_build0 x0.2.2.2.2.1 (ByteArray.empty,(0:Int),(0:Int),(0:Int),()) (fG19 x0.2.2.2.2.2.1) l1 0 (fun n i h=>R19_3 n i h x0 [⟨.sl (.cons (.int .i64) (.cons .str (.cons .str .unit))),g19_0 x0⟩]) (fun n i h hi hh hr=>by
  rw [R19_3,if_pos (by simp only [decide_eq_true_eq];omega)]
  simp only [Int.toNat_natCast]
  have p:=h4 _ (mem_getD _ i (ByteArray.empty,(0:Int),(0:Int),(0:Int),()) hi)
  refine ⟨by omega,by omega,p,?_⟩
  unfold fG19 at hr
  generalize hy:x0.2.2.2.2.1.getD i (ByteArray.empty,(0:Int),(0:Int),(0:Int),())=y at p hr ⊢
  by_cases hc:(!g46_0 (y.2.1,y.2.2.1,75*y.2.1+15*y.2.2.1+y.2.2.2.1,()) x0.2.2.2.2.2.1)=true
  ·rw [if_pos hc] at hr ⊢
   exact ⟨p,dec19 _,by omega,by rw [i64_iff];omega,hr⟩
  ·rw [if_neg hc] at hr ⊢
   rw [List.append_nil] at hr
   exact ⟨by rw [i64_iff];omega,hr⟩) (1+(g49_0 x0.2.2.2.2.2.2.2.2.2.1 x0.2.2.2.2.2.2.2.2.2.2.1).length+1+x0.2.2.2.2.2.2.1.length+1) [] (by simp) (by
  rw [R19_3,if_neg (by simp)]
  exact k2)
 exact ⟨1+(g49_0 x0.2.2.2.2.2.2.2.2.2.1 x0.2.2.2.2.2.2.2.2.2.2.1).length+1+x0.2.2.2.2.2.2.1.length+1+x0.2.2.2.2.1.length+1,by rw [R19];exact k1⟩
def S19:Am.Spec:={ sig:=sig19,pre:=fun ⟨x0,_⟩=>P19 x0,res:=fun ⟨x0,_⟩=>[⟨.sl (.cons (.int .i64) (.cons .str (.cons .str .unit))),g19_0 x0⟩] }
theorem con19:Contract Tryz.prog 19 S19:=contract_of Tryz.func19 hb19 (bl_ (by kernel_rfl)) (fun ⟨x0,_⟩ h hwf K q =>
 let ⟨_,hn⟩:=top19 x0 h
 (snd19 _).1 x0 _ hn K q)
end
set_option maxHeartbeats 2000000 in
theorem nil112 (w:World):Calls Tryz.prog 112 #[.slice none 0 0] w fun e w'=>e = .returned (.slice none 0 0)∧w'=w:=by
 have mixed:=mixed
 have q22:∀ (w:World) (a:Option Addr) (n c n' c':Nat),(binOp .eql 35 (.slice a n c) (.slice none n' c')).run Tryz.prog w = .ok (.bool a.isNone) w:=fun w a n c n' c'=>Lib.run_eql_slice_nil w _ _ a n c n' c' Tryz.underlying35
 go_enter Tryz.func112,Tryz.ntmps112
 go_wp2
 go_ret
 exact ⟨rfl,rfl⟩
set_option maxHeartbeats 4000000 in
theorem some112 (w:World) (a:Addr) (n c:Nat) (news:List Value) (hl:news.length=n*(Ty.size YA6)) (hn:n≤1048576) (hc:∀ (j:Nat) (u:Value),news[j]? = some u→w.cell? (a.add j)=some u) (h1:∀ u∈news,u.oneCell'=true) :
  Calls Tryz.prog 112 #[.slice (some a) n c] w fun r w'=>∃ v',r = .returned v'∧w'.ownsRow w.heap.size 50 (Ty.size YA6) v' n news∧Go.RowKit.Below w.heap.size w w':=by
 have mixed:=mixed
 have q22:∀ (w:World) (a:Option Addr) (n c n' c':Nat),(binOp .eql 35 (.slice a n c) (.slice none n' c')).run Tryz.prog w = .ok (.bool a.isNone) w:=fun w a n c n' c'=>Lib.run_eql_slice_nil w _ _ a n c n' c' Tryz.underlying35
 have hinfo:TIOk Tryz.prog 35 (tabGet tab 35):=tabOk 35
 obtain ⟨_,_,⟨_,⟨i0,hi0,hz1,z,hz0,hzs,_⟩⟩,hby⟩:=hinfo
 rw [hi0] at hby
 simp only [Option.map_some,Option.some.injEq] at hby
 have hzs':z.cells.size=Ty.size YA6:=by rw [← Array.length_toList,hzs];rfl
 have A:Aside (∀ (j:Nat) (u:Value),news[j]? = some u→w.cell? (a.add j)=some u):=hc
 clear hc
 go_enter Tryz.func112,Tryz.ntmps112
 go_wp2_with (at_builtin;refine wpList_append_own _ rfl _ _ 35 rfl w.heap.size 50 i0 z (Ty.size YA6) i0.bytes Tryz.underlying35 hi0 hz0 hz1 rfl hzs' (by decide) _ _ _ rfl (World.ownsRow_made w #[] 0 (Nat.le_refl _) (Nat.zero_le _) (by simp)) a n c news rfl ?qc1 ?qc2 ?qc3 ?qc4 ?qc5 ?qc6 ?_)
 case qc1=>exact hl
 case qc2=>intro j u hj;exact Lib.cell?_alloc_some _ (A.out j u hj)
 case qc3=>exact h1
 case qc4=>unfold maxLen;omega
 case qc5=>rw [hby];omega
 case qc6=>simp
 intro v' w1 hown hgrow hnil
 go_wp2
 go_ret
 exact ⟨v',rfl,by simpa using hown,((Go.RowKit.Below.refl _ w).alloc (Nat.le_refl _) _).grown hgrow (by simp) (by intro k hk;simp [Value.ownBlock] at hk;omega)⟩
def sig112:List AT:=[AT.v (Ty.sl YA6)]
def g112_0 (x0:List TyB2):List TyB2:=x0
def P112 (x0:List TyB2):Prop:=x0.length≤1048576
def S112:Am.Spec:={ sig:=sig112,pre:=fun ⟨x0,_⟩=>P112 x0,res:=fun ⟨x0,_⟩=>[⟨Ty.sl YA6,g112_0 x0⟩] }
theorem con112:Contract Tryz.prog 112 S112:=clone_contract (t:=YA6) (e:=50) rfl nil112 some112
noncomputable section
def ext134:Ext:=[(44,S44)]
theorem ext134Ok:ExtOk Tryz.prog ext134:=⟨⟨ca44,con44⟩,trivial⟩
noncomputable def b134:Code:=bodyOf Tryz.f134
theorem hb134:Tryz.f134.body=some b134:=by kernel_rfl
def sig134:List AT:=[AT.v YA6]
def tys134:List Ty:=[.str]
def kds134:List RK:=[]
def oks134:List AT:=owns sig134
def P134 (x0:Int×Int×ByteArray×Int×Unit):Prop:=((P44 x0.1)∧((ByteArray.size (g44_0 x0.1)+1≤9223372036854775807)∧((P44 x0.2.1)∧((ByteArray.size (g44_0 x0.1++ByteArray.mk #[32])+ByteArray.size (g44_0 x0.2.1)≤9223372036854775807)∧((ByteArray.size (g44_0 x0.1++ByteArray.mk #[32]++g44_0 x0.2.1)+1≤9223372036854775807)∧((ByteArray.size (g44_0 x0.1++ByteArray.mk #[32]++g44_0 x0.2.1++ByteArray.mk #[32])+ByteArray.size x0.2.2.1≤9223372036854775807)∧True))))))
def g134_0 (x0:Int×Int×ByteArray×Int×Unit):ByteArray:=g44_0 x0.1++ByteArray.mk #[32]++g44_0 x0.2.1++ByteArray.mk #[32]++x0.2.2.1
theorem at134 (x0:Int×Int×ByteArray×Int×Unit) (h:P134 x0) (K:Ctx) (q:Nat→Value):AtV Tryz.prog 134 (PostR kds134 oks134 [⟨.str,g134_0 x0⟩] [] [] q K) 15 K q [] [.code b134] (entE 0 0 sig134 (x0,())) (entL sig134 (x0,())):=by
 unfold P134 at h
 unfold g134_0
 obtain ⟨s0,h⟩:=h
 obtain ⟨s1,h⟩:=h
 obtain ⟨s2,h⟩:=h
 obtain ⟨s3,h⟩:=h
 obtain ⟨s4,h⟩:=h
 obtain ⟨s5,h⟩:=h
 exact AtV.ret Tryz.func134 tabOk ext134Ok mixed false [] tys134 [] (a1 s0 (a1 s1 (a1 s2 (a1 s3 (a1 s4 (a1 s5 trivial)))))) (by kernel_rfl)
def S134:Am.Spec:={ sig:=sig134,pre:=fun ⟨x0,_⟩=>P134 x0,res:=fun ⟨x0,_⟩=>[⟨.str,g134_0 x0⟩],kds:=kds134 }
theorem con134:Contract Tryz.prog 134 S134:=contract_of Tryz.func134 hb134 (bl_ (by kernel_rfl)) (fun ⟨x0,_⟩ h _ K q=>at134 x0 h K q)
end
noncomputable section
def ext133:Ext:=[(52,S52)]
theorem ext133Ok:ExtOk Tryz.prog ext133:=⟨⟨ca52,con52⟩,trivial⟩
noncomputable def b133:Code:=bodyOf Tryz.f133
theorem hb133:Tryz.f133.body=some b133:=by kernel_rfl
def sig133:List AT:=[AT.v (.str),AT.v (.int .i64)]
def tys133:List Ty:=[.int .i64]
def kds133:List RK:=[]
def oks133:List AT:=owns sig133
def E133_5 (v15:Int) (x1:Int) (x0:ByteArray):Env:=[(5,.a (.val (.int .i64 x1))),(13,.a (.osl 0 Option.none)),(14,.a (.val (.int .i64 (↑(List.length (bytesOf x0)):Int)))),(15,.a (.val (.int .i64 v15)))]
def L133_5 (v15:Int) (x1:Int) (x0:ByteArray):Heap:=[Option.some (Arr.mk (.int .u8) (bytesOf x0) false Option.none Option.none)]
def E133_9 (v5:Int) (v24:Int) (x0:ByteArray) (v15:Int):Env:=[(5,.a (.val (.int .i64 v5))),(13,.a (.osl 0 Option.none)),(14,.a (.val (.int .i64 (↑(List.length (bytesOf x0)):Int)))),(15,.a (.val (.int .i64 v15))),(24,.a (.val (.int .i64 v24)))]
def L133_9 (v5:Int) (v24:Int) (x0:ByteArray) (v15:Int):Heap:=[Option.some (Arr.mk (.int .u8) (bytesOf x0) false Option.none Option.none)]
mutual
def R133:Nat→ByteArray→Int→List Dyn→Prop
 | 0,_,_,_=>False
 | n+1,x0,x1,ds=>(if (!g52_0 x1 0 65535)=true then (ds=[Dyn.mk (.int .i64) 0]) else (R133_5 n (0) (x1) (x0) ds))
def R133_5:Nat→Int→Int→ByteArray→List Dyn→Prop
 | 0,_,_,_,_=>False
 | n+1,v15,x1,x0,ds=>(if (decide (v15<(↑(List.length (bytesOf x0)):Int)))=true then ((0≤v15)∧(v15<(↑(List.length (bytesOf x0)):Int))∧((InR .i64 (List.getD (bytesOf x0) (Int.toNat v15) 0))∧(R133_9 n (IntKind.wrap IntKind.i64 (↑(BitVec.toNat (BitVec.ofInt 64 x1 ^^^ BitVec.ofInt 64 (IntKind.wrap IntKind.i64 (List.getD (bytesOf x0) (Int.toNat v15) 0*256)))):Int)) (0) (x0) (v15) ds))) else (ds=[Dyn.mk (.int .i64) x1]))
def R133_9:Nat→Int→Int→ByteArray→Int→List Dyn→Prop
 | 0,_,_,_,_,_=>False
 | n+1,v5,v24,x0,v15,ds=>(if (decide (v24<8))=true then (if (decide (IntKind.wrap IntKind.i64 (v5*2)>65535))=true then ((InR .i64 (v24+1))∧(R133_9 n (IntKind.wrap IntKind.i64 (↑(BitVec.toNat (BitVec.ofInt 64 (IntKind.wrap IntKind.i64 (↑(BitVec.toNat (BitVec.ofInt 64 (IntKind.wrap IntKind.i64 (v5*2)) &&& BitVec.ofInt 64 65535)):Int)) ^^^ BitVec.ofInt 64 4129)):Int)) (v24+1) (x0) (v15) ds)) else ((InR .i64 (v24+1))∧(R133_9 n (IntKind.wrap IntKind.i64 (v5*2)) (v24+1) (x0) (v15) ds))) else ((InR .i64 (v15+1))∧(R133_5 n (v15+1) (v5) (x0) ds)))
end
theorem snd133:∀ n,(∀ (x0:ByteArray) (x1:Int) ds,R133 n x0 x1 ds→∀ K q,AtV Tryz.prog 133 (PostR kds133 oks133 ds [] [] q K) 36 K q [] [.code b133] (entE 0 0 sig133 (x0,x1,())) (entL sig133 (x0,x1,())))∧(∀ (v15:Int) (x1:Int) (x0:ByteArray) ds,R133_5 n v15 x1 x0 ds→∀ K q,AtV Tryz.prog 133 (PostR kds133 oks133 ds [] [] q K) 36 K q [] (cutAt b133 5) (E133_5 v15 x1 x0) (L133_5 v15 x1 x0))∧(∀ (v5:Int) (v24:Int) (x0:ByteArray) (v15:Int) ds,R133_9 n v5 v24 x0 v15 ds→∀ K q,AtV Tryz.prog 133 (PostR kds133 oks133 ds [] [] q K) 36 K q [] (cutAt b133 9) (E133_9 v5 v24 x0 v15) (L133_9 v5 v24 x0 v15)):=by
 intro n
 induction n with
 | zero=>exact ⟨fun _ _ _ h=>by simp only [R133] at h,fun _ _ _ _ h=>by simp only [R133_5] at h,fun _ _ _ _ _ h=>by simp only [R133_9] at h⟩
 | succ n ih =>
 obtain ⟨ih,ih5,ih9⟩:=ih
 refine ⟨?_,?_,?_⟩
 ·intro x0 x1 ds h K q
  rw [R133] at h
  by_cases b0:(!g52_0 x1 0 65535)=true
  ·rw [if_pos b0] at h
   subst h
   exact AtV.ret Tryz.func133 tabOk ext133Ok mixed false [] tys133 [true] (a1 trivial (a1 b0 trivial)) (by kernel_rfl)
  ·rw [if_neg b0] at h
   replace b0:=bf_ b0
   exact AtV.go tabOk ext133Ok mixed false [] [] [5,13,14,15] [0] [false] (a1 trivial (a1 b0 trivial)) (ih5 _ _ _ _ h K q) (by kernel_rfl)
 ·intro v15 x1 x0 ds h K q
  rw [R133_5] at h
  by_cases b0:(decide (v15<(↑(List.length (bytesOf x0)):Int)))=true
  ·rw [if_pos b0] at h
   obtain ⟨s0,s1,h⟩:=h
   obtain ⟨s2,h⟩:=h
   exact AtV.go tabOk ext133Ok mixed false [] [] [5,13,14,15,24] [0] [true] (a1 b0 (a1 s0 (a1 s1 (a1 s2 (a1 ((by decide):(0:Int)≤(8:Int)) trivial))))) (ih9 _ _ _ _ _ h K q) (by kernel_rfl)
  ·rw [if_neg b0] at h
   replace b0:=bf_ b0
   subst h
   exact AtV.ret Tryz.func133 tabOk ext133Ok mixed false [] tys133 [false] (a1 b0 trivial) (by kernel_rfl)
 ·intro v5 v24 x0 v15 ds h K q
  rw [R133_9] at h
  by_cases b0:(decide (v24<8))=true
  ·rw [if_pos b0] at h
   by_cases b1:(decide (IntKind.wrap IntKind.i64 (v5*2)>65535))=true
   ·rw [if_pos b1] at h
    obtain ⟨s0,h⟩:=h
    exact AtV.go tabOk ext133Ok mixed false [] [] [5,13,14,15,24] [0] [true,true] (a1 b0 (a1 ((by decide):(0:Int)≤(1:Int)) (a1 b1 (a1 s0 trivial)))) (ih9 _ _ _ _ _ h K q) (by kernel_rfl)
   ·rw [if_neg b1] at h
    replace b1:=bf_ b1
    obtain ⟨s0,h⟩:=h
    exact AtV.go tabOk ext133Ok mixed false [] [] [5,13,14,15,24] [0] [true,false] (a1 b0 (a1 ((by decide):(0:Int)≤(1:Int)) (a1 b1 (a1 s0 trivial)))) (ih9 _ _ _ _ _ h K q) (by kernel_rfl)
  ·rw [if_neg b0] at h
   replace b0:=bf_ b0
   obtain ⟨s0,h⟩:=h
   exact AtV.go tabOk ext133Ok mixed false [] [] [5,13,14,15] [0] [false] (a1 b0 (a1 s0 trivial)) (ih5 _ _ _ _ h K q) (by kernel_rfl)
def bit133 (s:Int):Int:=if (decide (IntKind.wrap IntKind.i64 (s*2)>65535))=true then (IntKind.wrap IntKind.i64 (↑(BitVec.toNat (BitVec.ofInt 64 (IntKind.wrap IntKind.i64 (↑(BitVec.toNat (BitVec.ofInt 64 (IntKind.wrap IntKind.i64 (s*2)) &&& BitVec.ofInt 64 65535)):Int)) ^^^ BitVec.ofInt 64 4129)):Int)) else (IntKind.wrap IntKind.i64 (s*2))
def bits133:Nat→Int→Int
 | 0,s=>s
 | k+1,s=>bits133 k (bit133 s)
def byte133 (s c:Int):Int:=bits133 8 (IntKind.wrap IntKind.i64 (↑(BitVec.toNat (BitVec.ofInt 64 s ^^^ BitVec.ofInt 64 (IntKind.wrap IntKind.i64 (c*256)))):Int))
def g133_0 (x0:ByteArray) (x1:Int):Int:=if (!g52_0 x1 0 65535)=true then 0 else (bytesOf x0).foldl byte133 x1
def P133 (x0:ByteArray) (x1:Int):Prop:=True
theorem inner133 (x0:ByteArray) (hm:(bytesOf x0).length≤maxLen) (i n:Nat) (hi:i<(bytesOf x0).length) (ds:List Dyn):∀ (k j:Nat) (s:Int),j+k=8→R133_5 n ((i:Int)+1) (bits133 k s) x0 ds→R133_9 (n+1+k) s (j:Int) x0 (i:Int) ds:=by
 intro k
 induction k with
 | zero =>
  intro j s hj hr
  rw [R133_9,if_neg (by simp;omega)]
  exact ⟨inR_up hm hi,hr⟩
 | succ k ih =>
  intro j s hj hr
  have e2:(j:Int)+1=((j+1:Nat):Int):=by omega
  rw [show n+1+(k+1)=(n+1+k)+1 by omega,R133_9,if_pos (by simp;omega)]
  unfold bits133 bit133 at hr
  by_cases hc:(decide (IntKind.wrap IntKind.i64 (s*2)>65535))=true
  ·rw [if_pos hc] at hr ⊢
   rw [e2]
   exact ⟨by rw [i64_iff];omega,ih (j+1) _ (by omega) hr⟩
  ·rw [if_neg hc] at hr ⊢
   rw [e2]
   exact ⟨by rw [i64_iff];omega,ih (j+1) _ (by omega) hr⟩
theorem run133 (x0:ByteArray) (hm:x0.size≤maxLen):∀ (k i:Nat) (s:Int),i+k=x0.size→∃ n,R133_5 n (i:Int) s x0 [⟨.int .i64,((bytesOf x0).drop i).foldl byte133 s⟩]:=by
 intro k
 have hl:=bytesOf_length x0
 induction k with
 | zero =>
  intro i s hi
  refine ⟨1,?_⟩
  rw [R133_5,if_neg (by rw [hl];simp;omega),List.drop_of_length_le (by omega)]
  rfl
 | succ k ih =>
  intro i s hi
  have hlt:i<(bytesOf x0).length:=by omega
  have hcons:=drop_get (bytesOf x0) i 0 hlt
  obtain ⟨n,hn⟩:=ih (i+1) (byte133 s ((bytesOf x0).getD i 0)) (by omega)
  refine ⟨n+1+8+1,?_⟩
  have hb:=bytesOf_range x0 _ (mem_getD (bytesOf x0) i 0 hlt)
  rw [R133_5,if_pos (by rw [hl];simp;omega)]
  simp only [Int.toNat_natCast]
  rw [hcons,List.foldl_cons]
  exact ⟨by omega,by omega,by rw [i64_iff];omega,inner133 x0 (by rw [hl];exact hm) i n hlt _ 8 0 _ (by omega) hn⟩
theorem top133 (x0:ByteArray) (x1:Int) (hm:x0.size≤maxLen):∃ n,R133 n x0 x1 [⟨.int .i64,g133_0 x0 x1⟩]:=by
 obtain ⟨n,hn⟩:=run133 x0 hm x0.size 0 x1 (by omega)
 refine ⟨n+1,?_⟩
 rw [R133]
 unfold g133_0
 by_cases hc:(!g52_0 x1 0 65535)=true
 ·rw [if_pos hc,if_pos hc]
 ·rw [if_neg hc,if_neg hc]
  exact hn
def S133:Am.Spec:={ sig:=sig133,pre:=fun ⟨x0,x1,_⟩=>P133 x0 x1,res:=fun ⟨x0,x1,_⟩=>[⟨.int .i64,g133_0 x0 x1⟩] }
theorem con133:Contract Tryz.prog 133 S133:=contract_of Tryz.func133 hb133 (bl_ (by kernel_rfl)) (fun ⟨x0,x1,_⟩ h hwf K q =>
 let ⟨n,hn⟩:=top133 x0 x1 hwf.1
 (snd133 n).1 x0 x1 _ hn K q)
end
noncomputable section
def ext113:Ext:=[(134,S134),(133,S133)]
theorem ext113Ok:ExtOk Tryz.prog ext113:=⟨⟨ca134,con134⟩,⟨ca133,con133⟩,trivial⟩
noncomputable def b113:Code:=bodyOf Tryz.f113
theorem hb113:Tryz.f113.body=some b113:=by kernel_rfl
def sig113:List AT:=[AT.v (.int .i64),AT.v YA6]
def tys113:List Ty:=[.int .i64]
def kds113:List RK:=[]
def oks113:List AT:=owns sig113
def P113 (x0:Int) (x1:Int×Int×ByteArray×Int×Unit):Prop:=((P134 x1)∧True)
def g113_0 (x0:Int) (x1:Int×Int×ByteArray×Int×Unit):Int:=g133_0 (g134_0 x1) x0
theorem at113 (x0:Int) (x1:Int×Int×ByteArray×Int×Unit) (h:P113 x0 x1) (K:Ctx) (q:Nat→Value):AtV Tryz.prog 113 (PostR kds113 oks113 [⟨.int .i64,g113_0 x0 x1⟩] [] [] q K) 9 K q [] [.code b113] (entE 0 0 sig113 (x0,x1,())) (entL sig113 (x0,x1,())):=by
 unfold P113 at h
 unfold g113_0
 obtain ⟨s0,h⟩:=h
 exact AtV.ret Tryz.func113 tabOk ext113Ok mixed false [] tys113 [] (a1 s0 (a1 trivial trivial)) (by kernel_rfl)
def S113:Am.Spec:={ sig:=sig113,pre:=fun ⟨x0,x1,_⟩=>P113 x0 x1,res:=fun ⟨x0,x1,_⟩=>[⟨.int .i64,g113_0 x0 x1⟩],kds:=kds113 }
theorem con113:Contract Tryz.prog 113 S113:=contract_of Tryz.func113 hb113 (bl_ (by kernel_rfl)) (fun ⟨x0,x1,_⟩ h _ K q=>at113 x0 x1 h K q)
end
noncomputable section
def ext89:Ext:=[(112,S112),(113,S113)]
theorem ext89Ok:ExtOk Tryz.prog ext89:=⟨⟨ca112,con112⟩,⟨ca113,con113⟩,trivial⟩
noncomputable def b89:Code:=bodyOf Tryz.f89
theorem hb89:Tryz.f89.body=some b89:=by kernel_rfl
def sig89:List AT:=[AT.v (.sl YA6)]
def tys89:List Ty:=[.sl YA6]
def kds89:List RK:=[]
def oks89:List AT:=owns sig89
def E89_4 (v4:Int) (v11:Int) (h0:List TyB2) (x0:List TyB2):Env:=[(3,.a (.osl 0 Option.none)),(4,.a (.val (.int .i64 v4))),(9,.a (.osl 0 Option.none)),(10,.a (.val (.int .i64 (↑(List.length (g112_0 x0)):Int)))),(11,.a (.val (.int .i64 v11)))]
def L89_4 (v4:Int) (v11:Int) (h0:List TyB2) (x0:List TyB2):Heap:=[Option.some (Arr.mk YA6 h0 false Option.none Option.none)]
mutual
def R89:Nat→List TyB2→List Dyn→Prop
 | 0,_,_=>False
 | n+1,x0,ds=>((P112 x0)∧(R89_4 n (65535) (0) (g112_0 x0) (x0) ds))
def R89_4:Nat→Int→Int→List TyB2→List TyB2→List Dyn→Prop
 | 0,_,_,_,_,_=>False
 | n+1,v4,v11,h0,x0,ds=>(if (decide (v11<(↑(List.length (g112_0 x0)):Int)))=true then ((0≤v11)∧(v11<(h0.length:Int))∧((P113 v4 (List.getD h0 (Int.toNat v11) (0,0,ByteArray.empty,0,())))∧((0≤v11)∧(v11<(h0.length:Int))∧((InR .i64 (v11+1))∧(R89_4 n (g113_0 v4 (List.getD h0 (Int.toNat v11) (0,0,ByteArray.empty,0,()))) (v11+1) (List.set h0 (Int.toNat v11) ((List.getD h0 (Int.toNat v11) (0,0,ByteArray.empty,0,())).1,(List.getD h0 (Int.toNat v11) (0,0,ByteArray.empty,0,())).2.1,(List.getD h0 (Int.toNat v11) (0,0,ByteArray.empty,0,())).2.2.1,g113_0 v4 (List.getD h0 (Int.toNat v11) (0,0,ByteArray.empty,0,())),(List.getD h0 (Int.toNat v11) (0,0,ByteArray.empty,0,())).2.2.2.2)) (x0) ds))))) else (ds=[Dyn.mk (.sl YA6) h0]))
end
theorem snd89:∀ n,(∀ (x0:List TyB2) ds,R89 n x0 ds→∀ K q,AtV Tryz.prog 89 (PostR kds89 oks89 ds [] [] q K) 26 K q [] [.code b89] (entE 0 0 sig89 (x0,())) (entL sig89 (x0,())))∧(∀ (v4:Int) (v11:Int) (h0:List TyB2) (x0:List TyB2) ds,R89_4 n v4 v11 h0 x0 ds→∀ K q,AtV Tryz.prog 89 (PostR kds89 oks89 ds [] [] q K) 26 K q [] (cutAt b89 4) (E89_4 v4 v11 h0 x0) (L89_4 v4 v11 h0 x0)):=by
 intro n
 induction n with
 | zero=>exact ⟨fun _ _ h=>by simp only [R89] at h,fun _ _ _ _ _ h=>by simp only [R89_4] at h⟩
 | succ n ih =>
 obtain ⟨ih,ih4⟩:=ih
 refine ⟨?_,?_⟩
 ·intro x0 ds h K q
  rw [R89] at h
  obtain ⟨s0,h⟩:=h
  exact AtV.go tabOk ext89Ok mixed false [] [] [3,4,9,10,11] [0] [] (a1 s0 trivial) (ih4 _ _ _ _ _ h K q) (by kernel_rfl)
 ·intro v4 v11 h0 x0 ds h K q
  rw [R89_4] at h
  by_cases b0:(decide (v11<(↑(List.length (g112_0 x0)):Int)))=true
  ·rw [if_pos b0] at h
   obtain ⟨s0,s1,h⟩:=h
   obtain ⟨s2,h⟩:=h
   obtain ⟨s3,s4,h⟩:=h
   obtain ⟨s5,h⟩:=h
   exact AtV.go tabOk ext89Ok mixed false [] [] [3,4,9,10,11] [0] [true] (a1 b0 (a1 s0 (a1 s1 (a1 s2 (a1 s3 (a1 s4 (a1 s5 trivial))))))) (ih4 _ _ _ _ _ h K q) (by kernel_rfl)
  ·rw [if_neg b0] at h
   replace b0:=bf_ b0
   subst h
   exact AtV.ret Tryz.func89 tabOk ext89Ok mixed false [] tys89 [false] (a1 b0 trivial) (by kernel_rfl)
def sl89 (c:Int):List TyB2→List TyB2
 | []=>[]
 | x :: r=>(x.1,x.2.1,x.2.2.1,g113_0 c x,x.2.2.2.2) :: sl89 (g113_0 c x) r
def g89_0 (x0:List TyB2):List TyB2:=sl89 65535 x0
def P89 (x0:List TyB2):Prop:=x0.length≤1048576∧∀ x∈x0,∀ c,P113 c x
theorem set_take89 {α:Type} (l:List α) (i:Nat) (y:α) (h:i<l.length):(l.set i y).take (i+1)=l.take i++[y]:=by
 rw [List.set_eq_take_append_cons_drop,if_pos h,List.take_append,List.length_take,Nat.min_eq_left (Nat.le_of_lt h),List.take_of_length_le (by rw [List.length_take];omega),Nat.add_sub_cancel_left]
 rfl
theorem set_drop89 {α:Type} (l:List α) (i:Nat) (y:α):(l.set i y).drop (i+1)=l.drop (i+1):=by
 rw [List.drop_set_of_lt (by omega)]
theorem run89 (x0:List TyB2) (hm:x0.length≤maxLen) (hx:∀ x∈x0,∀ c,P113 c x):∀ (k i:Nat) (c:Int) (h0:List TyB2),i+k=x0.length→h0.length=x0.length→h0.drop i=x0.drop i →
  R89_4 (k+1) c (i:Int) h0 x0 [⟨.sl (.cons (.int .i64) (.cons (.int .i64) (.cons .str (.cons (.int .i64) .unit)))),h0.take i++sl89 c (x0.drop i)⟩]:=by
 intro k
 induction k with
 | zero =>
  intro i c h0 hi hl hd
  rw [R89_4,if_neg (by simp only [decide_eq_true_eq];show ¬ (i:Int)<(x0.length:Int);omega),drop_end x0 _ (by omega)]
  rw [List.take_of_length_le (by omega)]
  simp [sl89]
 | succ k ih =>
  intro i c h0 hi hl hd
  have hlt:i<x0.length:=by omega
  have e0:=drop_get x0 i ((0:Int),(0:Int),ByteArray.empty,(0:Int),()) hlt
  have e1:=drop_get h0 i ((0:Int),(0:Int),ByteArray.empty,(0:Int),()) (by omega)
  have hp:=hx _ (mem_getD x0 i ((0:Int),(0:Int),ByteArray.empty,(0:Int),()) hlt) c
  have e2:h0.getD i ((0:Int),(0:Int),ByteArray.empty,(0:Int),())=x0.getD i ((0:Int),(0:Int),ByteArray.empty,(0:Int),())∧h0.drop (i+1)=x0.drop (i+1):=by
   rw [e0,e1] at hd
   exact List.cons.inj hd
  rw [R89_4,if_pos (by simp only [decide_eq_true_eq];show (i:Int)<(x0.length:Int);omega),e0]
  simp only [Int.toNat_natCast,e2.1]
  generalize hy:x0.getD i ((0:Int),(0:Int),ByteArray.empty,(0:Int),())=y at hp
  refine ⟨by omega,by omega,hp,by omega,by omega,inR_up hm hlt,?_⟩
  have h:=ih (i+1) (g113_0 c y) (h0.set i (y.1,y.2.1,y.2.2.1,g113_0 c y,y.2.2.2.2)) (by omega) (by rw [List.length_set];exact hl) (by rw [set_drop89];exact e2.2)
  rw [set_take89 _ _ _ (by omega),List.append_assoc] at h
  exact h
theorem top89 (x0:List TyB2) (hm:x0.length≤maxLen) (hx:P89 x0):R89 (x0.length+1+1) x0 [⟨.sl (.cons (.int .i64) (.cons (.int .i64) (.cons .str (.cons (.int .i64) .unit)))),g89_0 x0⟩]:=by
 rw [R89]
 exact ⟨hx.1,by simpa [g89_0,g112_0] using run89 x0 hm hx.2 x0.length 0 65535 x0 (by omega) rfl rfl⟩
def S89:Am.Spec:={ sig:=sig89,pre:=fun ⟨x0,_⟩=>P89 x0,res:=fun ⟨x0,_⟩=>[⟨.sl (.cons (.int .i64) (.cons (.int .i64) (.cons .str (.cons (.int .i64) .unit)))),g89_0 x0⟩] }
theorem con89:Contract Tryz.prog 89 S89:=contract_of Tryz.func89 hb89 (bl_ (by kernel_rfl)) (fun ⟨x0,_⟩ h hwf K q =>
 (snd89 _).1 x0 _ (top89 x0 hwf.1.1 h) K q)
theorem sl89_len:∀ (l:List TyB2) (c:Int),(sl89 c l).length=l.length
 | [],_=>rfl
 | x :: r,c=>by simp [sl89,sl89_len r]
end
noncomputable section
def ext50:Ext:=[(78,S78),(89,S89)]
theorem ext50Ok:ExtOk Tryz.prog ext50:=⟨⟨ca78,con78⟩,⟨ca89,con89⟩,trivial⟩
noncomputable def b50:Code:=bodyOf Tryz.f50
theorem hb50:Tryz.f50.body=some b50:=by kernel_rfl
def sig50:List AT:=[AT.v (.sl YA6)]
def tys50:List Ty:=[.int .i64,.int .i64]
def kds50:List RK:=[]
def oks50:List AT:=owns sig50
def E50_4 (v12:Int) (x0:List TyB2):Env:=[(0,.a (.sl YA6 x0)),(10,.a (.osl 0 Option.none)),(11,.a (.val (.int .i64 (↑(List.length (g89_0 x0)):Int)))),(12,.a (.val (.int .i64 v12)))]
def L50_4 (v12:Int) (x0:List TyB2):Heap:=[Option.some (Arr.mk YA6 (g89_0 x0) false Option.none Option.none)]
mutual
def R50:Nat→List TyB2→List Dyn→Prop
 | 0,_,_=>False
 | n+1,x0,ds=>(if (!g78_0 x0)=true then (ds=[Dyn.mk (.int .i64) 0,Dyn.mk (.int .i64) 1]) else ((P89 x0)∧(R50_4 n (0) (x0) ds)))
def R50_4:Nat→Int→List TyB2→List Dyn→Prop
 | 0,_,_,_=>False
 | n+1,v12,x0,ds=>(if (decide (v12<(↑(List.length (g89_0 x0)):Int)))=true then ((0≤v12)∧(v12<(↑(List.length (g89_0 x0)):Int))∧((0≤v12)∧(v12<(x0.length:Int))∧(if (!eqD YA6 (List.getD x0 (Int.toNat v12) (0,0,ByteArray.empty,0,())) (List.getD (g89_0 x0) (Int.toNat v12) (0,0,ByteArray.empty,0,())))=true then (ds=[Dyn.mk (.int .i64) v12,Dyn.mk (.int .i64) 0]) else ((InR .i64 (v12+1))∧(R50_4 n (v12+1) (x0) ds))))) else (ds=[Dyn.mk (.int .i64) 0,Dyn.mk (.int .i64) 3]))
end
theorem snd50:∀ n,(∀ (x0:List TyB2) ds,R50 n x0 ds→∀ K q,AtV Tryz.prog 50 (PostR kds50 oks50 ds [] [] q K) 25 K q [] [.code b50] (entE 0 0 sig50 (x0,())) (entL sig50 (x0,())))∧(∀ (v12:Int) (x0:List TyB2) ds,R50_4 n v12 x0 ds→∀ K q,AtV Tryz.prog 50 (PostR kds50 oks50 ds [] [] q K) 25 K q [] (cutAt b50 4) (E50_4 v12 x0) (L50_4 v12 x0)):=by
 intro n
 induction n with
 | zero=>exact ⟨fun _ _ h=>by simp only [R50] at h,fun _ _ _ h=>by simp only [R50_4] at h⟩
 | succ n ih =>
 obtain ⟨ih,ih4⟩:=ih
 refine ⟨?_,?_⟩
 ·intro x0 ds h K q
  rw [R50] at h
  by_cases b0:(!g78_0 x0)=true
  ·rw [if_pos b0] at h
   subst h
   exact AtV.ret Tryz.func50 tabOk ext50Ok mixed false [] tys50 [true] (a1 trivial (a1 b0 trivial)) (by kernel_rfl)
  ·rw [if_neg b0] at h
   replace b0:=bf_ b0
   obtain ⟨s0,h⟩:=h
   exact AtV.go tabOk ext50Ok mixed false [] [] [0,10,11,12] [0] [false] (a1 trivial (a1 b0 (a1 s0 trivial))) (ih4 _ _ _ h K q) (by kernel_rfl)
 ·intro v12 x0 ds h K q
  rw [R50_4] at h
  by_cases b0:(decide (v12<(↑(List.length (g89_0 x0)):Int)))=true
  ·rw [if_pos b0] at h
   obtain ⟨s0,s1,h⟩:=h
   obtain ⟨s2,s3,h⟩:=h
   by_cases b1:(!eqD YA6 (List.getD x0 (Int.toNat v12) (0,0,ByteArray.empty,0,())) (List.getD (g89_0 x0) (Int.toNat v12) (0,0,ByteArray.empty,0,())))=true
   ·rw [if_pos b1] at h
    subst h
    exact AtV.ret Tryz.func50 tabOk ext50Ok mixed false [] tys50 [true,true] (a1 b0 (a1 s0 (a1 s1 (a1 s2 (a1 s3 (a1 b1 trivial)))))) (by kernel_rfl)
   ·rw [if_neg b1] at h
    replace b1:=bf_ b1
    obtain ⟨s4,h⟩:=h
    exact AtV.go tabOk ext50Ok mixed false [] [] [0,10,11,12] [0] [true,false] (a1 b0 (a1 s0 (a1 s1 (a1 s2 (a1 s3 (a1 b1 (a1 s4 trivial))))))) (ih4 _ _ _ h K q) (by kernel_rfl)
  ·rw [if_neg b0] at h
   replace b0:=bf_ b0
   subst h
   exact AtV.ret Tryz.func50 tabOk ext50Ok mixed false [] tys50 [false] (a1 b0 trivial) (by kernel_rfl)
def fb50 (i:Int):List TyB2→List TyB2→Option Int
 | x :: r,y :: s=>if (!eqD YA6 x y)=true then some i else fb50 (i+1) r s
 | _,_=>none
def out50:Option Int→List Dyn
 | some k=>[⟨.int .i64,k⟩,⟨.int .i64,(0:Int)⟩]
 | none=>[⟨.int .i64,(0:Int)⟩,⟨.int .i64,(3:Int)⟩]
def g50_0 (x0:List TyB2):Int:=if g78_0 x0=true then (match fb50 0 x0 (g89_0 x0) with | some k=>k | none=>0) else 0
def g50_1 (x0:List TyB2):Int:=if g78_0 x0=true then (match fb50 0 x0 (g89_0 x0) with | some _=>0 | none=>3) else 1
def P50 (x0:List TyB2):Prop:=g78_0 x0=true→P89 x0
theorem run50 (x0:List TyB2) (hm:x0.length≤maxLen):∀ (k i:Nat),i+k=x0.length→R50_4 (k+1) (i:Int) x0 (out50 (fb50 i (x0.drop i) ((g89_0 x0).drop i))):=by
 have hl:(g89_0 x0).length=x0.length:=sl89_len x0 _
 intro k
 induction k with
 | zero =>
  intro i hi
  rw [R50_4,if_neg (by simp only [decide_eq_true_eq];omega),drop_end x0 _ (by omega)]
  rfl
 | succ k ih =>
  intro i hi
  have hlt:i<x0.length:=by omega
  rw [R50_4,if_pos (by simp only [decide_eq_true_eq];omega),drop_get x0 i ((0:Int),(0:Int),ByteArray.empty,(0:Int),()) hlt,drop_get (g89_0 x0) i ((0:Int),(0:Int),ByteArray.empty,(0:Int),()) (by omega)]
  simp only [Int.toNat_natCast]
  have h:=ih (i+1) (by omega)
  refine ⟨by omega,by omega,by omega,by omega,?_⟩
  simp only [fb50]
  by_cases hc:(!eqD YA6 (x0.getD i ((0:Int),(0:Int),ByteArray.empty,(0:Int),())) ((g89_0 x0).getD i ((0:Int),(0:Int),ByteArray.empty,(0:Int),())))=true
  ·rw [if_pos hc,if_pos hc];rfl
  ·rw [if_neg hc,if_neg hc]
   exact ⟨inR_up hm hlt,by simpa using h⟩
theorem top50 (x0:List TyB2) (hm:x0.length≤maxLen) (hx:P50 x0):R50 (x0.length+1+1) x0 [⟨.int .i64,g50_0 x0⟩,⟨.int .i64,g50_1 x0⟩]:=by
 rw [R50]
 unfold g50_0 g50_1
 by_cases hv:g78_0 x0=true
 ·rw [if_neg (by rw [hv];simp),if_pos hv,if_pos hv]
  refine ⟨hx hv,?_⟩
  have h:=run50 x0 hm x0.length 0 (by omega)
  simp only [List.drop_zero] at h
  revert h
  show R50_4 _ _ _ (out50 (fb50 0 x0 (g89_0 x0)))→_
  cases fb50 0 x0 (g89_0 x0) <;> exact fun h=>h
 ·rw [if_pos (by rw [bf_ hv];rfl),if_neg hv,if_neg hv]
def S50:Am.Spec:={ sig:=sig50,pre:=fun ⟨x0,_⟩=>P50 x0,res:=fun ⟨x0,_⟩=>[⟨.int .i64,g50_0 x0⟩,⟨.int .i64,g50_1 x0⟩] }
theorem con50:Contract Tryz.prog 50 S50:=contract_of Tryz.func50 hb50 (bl_ (by kernel_rfl)) (fun ⟨x0,_⟩ h hwf K q =>
 (snd50 _).1 x0 _ (top50 x0 hwf.1.1 h) K q)
end
noncomputable section
def ext20:Ext:=[(50,S50),(44,S44)]
theorem ext20Ok:ExtOk Tryz.prog ext20:=⟨⟨ca50,con50⟩,⟨ca44,con44⟩,trivial⟩
noncomputable def b20:Code:=bodyOf Tryz.f20
theorem hb20:Tryz.f20.body=some b20:=by kernel_rfl
def sig20:List AT:=[AT.v YA0]
def tys20:List Ty:=[.sl YA9]
def kds20:List RK:=[]
def oks20:List AT:=owns sig20
def P20 (x0:TyA0):Prop:=((P50 x0.2.2.2.2.2.2.2.2.2.2.2.1)∧(if (g50_1 x0.2.2.2.2.2.2.2.2.2.2.2.1 != 0)=true then True else ((P44 (g50_0 x0.2.2.2.2.2.2.2.2.2.2.2.1))∧((0≤g50_0 x0.2.2.2.2.2.2.2.2.2.2.2.1)∧(g50_0 x0.2.2.2.2.2.2.2.2.2.2.2.1<(x0.2.2.2.2.2.2.2.2.2.2.2.1.length:Int))∧((P44 (List.getD x0.2.2.2.2.2.2.2.2.2.2.2.1 (Int.toNat (g50_0 x0.2.2.2.2.2.2.2.2.2.2.2.1)) (0,0,ByteArray.empty,0,())).2.2.2.1)∧True)))))
def g20_0 (x0:TyA0):List TyB3:=(if (g50_1 x0.2.2.2.2.2.2.2.2.2.2.2.1 != 0)=true then [] else [(6,g44_0 (g50_0 x0.2.2.2.2.2.2.2.2.2.2.2.1),g44_0 (List.getD x0.2.2.2.2.2.2.2.2.2.2.2.1 (Int.toNat (g50_0 x0.2.2.2.2.2.2.2.2.2.2.2.1)) (0,0,ByteArray.empty,0,())).2.2.2.1,())])
theorem at20 (x0:TyA0) (h:P20 x0) (K:Ctx) (q:Nat→Value):AtV Tryz.prog 20 (PostR kds20 oks20 [⟨.sl YA9,g20_0 x0⟩] [] [] q K) 24 K q [] [.code b20] (entE 0 0 sig20 (x0,())) (entL sig20 (x0,())):=by
 unfold P20 at h
 unfold g20_0
 obtain ⟨s0,h⟩:=h
 by_cases b0:(g50_1 x0.2.2.2.2.2.2.2.2.2.2.2.1 != 0)=true
 ·try simp only [if_pos b0] at h ⊢
  exact AtV.ret Tryz.func20 tabOk ext20Ok mixed false [] tys20 [true] (a1 s0 (a1 b0 trivial)) (by kernel_rfl)
 ·try simp only [if_neg b0] at h ⊢
  replace b0:=bf_ b0
  obtain ⟨s1,h⟩:=h
  obtain ⟨s2,s3,h⟩:=h
  obtain ⟨s4,h⟩:=h
  exact AtV.ret Tryz.func20 tabOk ext20Ok mixed false [] tys20 [false] (a1 s0 (a1 b0 (a1 s1 (a1 s2 (a1 s3 (a1 s4 trivial)))))) (by kernel_rfl)
def S20:Am.Spec:={ sig:=sig20,pre:=fun ⟨x0,_⟩=>P20 x0,res:=fun ⟨x0,_⟩=>[⟨.sl YA9,g20_0 x0⟩],kds:=kds20 }
theorem con20:Contract Tryz.prog 20 S20:=contract_of Tryz.func20 hb20 (bl_ (by kernel_rfl)) (fun ⟨x0,_⟩ h _ K q=>at20 x0 h K q)
end
noncomputable section
def ext17c18c19c20:Ext:=[(41,S41),(18,S18),(19,S19),(20,S20)]
theorem ext17c18c19c20Ok:ExtOk Tryz.prog ext17c18c19c20:=⟨⟨ca41,con41⟩,⟨ca18,con18⟩,⟨ca19,con19⟩,⟨ca20,con20⟩,trivial⟩
noncomputable def b17c18c19c20:Code:=bodyOf Tryz.f17
theorem hb17c18c19c20:Tryz.f17.body=some b17c18c19c20:=by kernel_rfl
def sig17c18c19c20:List AT:=[AT.v YA0,AT.fns [18,19,20]]
def tys17c18c19c20:List Ty:=[.sl YA9,.int .i64]
def kds17c18c19c20:List RK:=[]
def oks17c18c19c20:List AT:=owns sig17c18c19c20
def P17c18c19c20 (x0:TyA0):Prop:=(if (!g41_0 x0)=true then True else ((P18 x0)∧((List.length (g18_0 x0)*40≤140737488355328)∧((P19 x0)∧(((List.length (g18_0 x0)+List.length (g19_0 x0))*40≤140737488355328)∧((P20 x0)∧(((List.length (g18_0 x0++g19_0 x0)+List.length (g20_0 x0))*40≤140737488355328)∧True)))))))
def g17c18c19c20_0 (x0:TyA0):List TyB3:=(if (!g41_0 x0)=true then [] else g18_0 x0++g19_0 x0++g20_0 x0)
def g17c18c19c20_1 (x0:TyA0):Int:=(if (!g41_0 x0)=true then 1 else 0)
theorem at17c18c19c20 (x0:TyA0) (h:P17c18c19c20 x0) (K:Ctx) (q:Nat→Value):AtV Tryz.prog 17 (PostR kds17c18c19c20 oks17c18c19c20 [⟨.sl YA9,g17c18c19c20_0 x0⟩,⟨.int .i64,g17c18c19c20_1 x0⟩] [] [] q K) 25 K q [] [.code b17c18c19c20] (entE 0 0 sig17c18c19c20 (x0,(),())) (entL sig17c18c19c20 (x0,(),())):=by
 unfold P17c18c19c20 at h
 unfold g17c18c19c20_0 g17c18c19c20_1
 by_cases b0:(!g41_0 x0)=true
 ·try simp only [if_pos b0] at h ⊢
  exact AtV.ret Tryz.func17 tabOk ext17c18c19c20Ok mixed false [1000007] tys17c18c19c20 [true] (a1 trivial (a1 b0 trivial)) (by kernel_rfl)
 ·try simp only [if_neg b0] at h ⊢
  replace b0:=bf_ b0
  obtain ⟨s0,h⟩:=h
  obtain ⟨s1,h⟩:=h
  obtain ⟨s2,h⟩:=h
  obtain ⟨s3,h⟩:=h
  obtain ⟨s4,h⟩:=h
  obtain ⟨s5,h⟩:=h
  exact AtV.ret Tryz.func17 tabOk ext17c18c19c20Ok mixed false [1000007] tys17c18c19c20 [false,true,true,true,false] (a1 trivial (a1 b0 (a1 (rfl:true=true) (a1 ((by decide):(0:Int)≤(0:Int)) (a1 ((by decide):(0:Int)<(3:Int)) (a1 s0 (a1 s1 (a1 ((by decide):InR .i64 1) (a1 (rfl:true=true) (a1 ((by decide):(0:Int)≤(1:Int)) (a1 ((by decide):(1:Int)<(3:Int)) (a1 s2 (a1 s3 (a1 ((by decide):InR .i64 2) (a1 (rfl:true=true) (a1 ((by decide):(0:Int)≤(2:Int)) (a1 ((by decide):(2:Int)<(3:Int)) (a1 s4 (a1 s5 (a1 ((by decide):InR .i64 3) (a1 (rfl:false=false) trivial))))))))))))))))))))) (by kernel_rfl)
def S17c18c19c20:Am.Spec:={ sig:=sig17c18c19c20,pre:=fun ⟨x0,_⟩=>P17c18c19c20 x0,res:=fun ⟨x0,_⟩=>[⟨.sl YA9,g17c18c19c20_0 x0⟩,⟨.int .i64,g17c18c19c20_1 x0⟩],kds:=kds17c18c19c20 }
theorem con17c18c19c20:Contract Tryz.prog 17 S17c18c19c20:=contract_of Tryz.func17 hb17c18c19c20 (bl_ (by kernel_rfl)) (fun ⟨x0,_⟩ h _ K q=>at17c18c19c20 x0 h K q)
end
noncomputable section
def ext7:Ext:=[(17,S17c18c19c20)]
theorem ext7Ok:ExtOk Tryz.prog ext7:=⟨⟨ca17,con17c18c19c20⟩,trivial⟩
noncomputable def b7:Code:=bodyOf Tryz.f7
theorem hb7:Tryz.f7.body=some b7:=by kernel_rfl
def sig7:List AT:=[AT.v YA0]
def tys7:List Ty:=[.sl YA9,.int .i64]
def kds7:List RK:=[]
def oks7:List AT:=owns sig7
def P7 (x0:TyA0):Prop:=((P17c18c19c20 x0)∧True)
def g7_0 (x0:TyA0):List TyB3:=g17c18c19c20_0 x0
def g7_1 (x0:TyA0):Int:=g17c18c19c20_1 x0
theorem at7 (x0:TyA0) (h:P7 x0) (K:Ctx) (q:Nat→Value):AtV Tryz.prog 7 (PostR kds7 oks7 [⟨.sl YA9,g7_0 x0⟩,⟨.int .i64,g7_1 x0⟩] [] [] q K) 9 K q [] [.code b7] (entE 0 0 sig7 (x0,())) (entL sig7 (x0,())):=by
 unfold P7 at h
 unfold g7_0 g7_1
 obtain ⟨s0,h⟩:=h
 exact AtV.ret Tryz.func7 tabOk ext7Ok mixed false [] tys7 [] (a1 s0 trivial) (by kernel_rfl)
def S7:Am.Spec:={ sig:=sig7,pre:=fun ⟨x0,_⟩=>P7 x0,res:=fun ⟨x0,_⟩=>[⟨.sl YA9,g7_0 x0⟩,⟨.int .i64,g7_1 x0⟩],kds:=kds7 }
theorem con7:Contract Tryz.prog 7 S7:=contract_of Tryz.func7 hb7 (bl_ (by kernel_rfl)) (fun ⟨x0,_⟩ h _ K q=>at7 x0 h K q)
end
noncomputable section
def ext6:Ext:=[(7,S7)]
theorem ext6Ok:ExtOk Tryz.prog ext6:=⟨⟨ca7,con7⟩,trivial⟩
noncomputable def b6:Code:=bodyOf Tryz.f6
theorem hb6:Tryz.f6.body=some b6:=by kernel_rfl
def sig6:List AT:=[AT.v YA0]
def tys6:List Ty:=[.bool]
def kds6:List RK:=[]
def oks6:List AT:=owns sig6
def P6 (x0:TyA0):Prop:=((P7 x0)∧True)
def g6_0 (x0:TyA0):Bool:=(if (g7_1 x0==0)=true then (↑(List.length (g7_0 x0)):Int)==0 else false)
theorem at6 (x0:TyA0) (h:P6 x0) (K:Ctx) (q:Nat→Value):AtV Tryz.prog 6 (PostR kds6 oks6 [⟨.bool,g6_0 x0⟩] [] [] q K) 17 K q [] [.code b6] (entE 0 0 sig6 (x0,())) (entL sig6 (x0,())):=by
 unfold P6 at h
 unfold g6_0
 obtain ⟨s0,h⟩:=h
 by_cases b0:(g7_1 x0==0)=true
 ·try simp only [if_pos b0] at h ⊢
  exact AtV.ret Tryz.func6 tabOk ext6Ok mixed false [] tys6 [true] (a1 s0 (a1 b0 trivial)) (by kernel_rfl)
 ·try simp only [if_neg b0] at h ⊢
  replace b0:=bf_ b0
  exact AtV.ret Tryz.func6 tabOk ext6Ok mixed false [] tys6 [false] (a1 s0 (a1 b0 trivial)) (by kernel_rfl)
def S6:Am.Spec:={ sig:=sig6,pre:=fun ⟨x0,_⟩=>P6 x0,res:=fun ⟨x0,_⟩=>[⟨.bool,g6_0 x0⟩],kds:=kds6 }
theorem con6:Contract Tryz.prog 6 S6:=contract_of Tryz.func6 hb6 (bl_ (by kernel_rfl)) (fun ⟨x0,_⟩ h _ K q=>at6 x0 h K q)
end
noncomputable section
def ext17c18:Ext:=[(41,S41),(18,S18)]
theorem ext17c18Ok:ExtOk Tryz.prog ext17c18:=⟨⟨ca41,con41⟩,⟨ca18,con18⟩,trivial⟩
noncomputable def b17c18:Code:=bodyOf Tryz.f17
theorem hb17c18:Tryz.f17.body=some b17c18:=by kernel_rfl
def sig17c18:List AT:=[AT.v YA0,AT.fns [18]]
def tys17c18:List Ty:=[.sl YA9,.int .i64]
def kds17c18:List RK:=[]
def oks17c18:List AT:=owns sig17c18
def P17c18 (x0:TyA0):Prop:=(if (!g41_0 x0)=true then True else ((P18 x0)∧((List.length (g18_0 x0)*40≤140737488355328)∧True)))
def g17c18_0 (x0:TyA0):List TyB3:=(if (!g41_0 x0)=true then [] else g18_0 x0)
def g17c18_1 (x0:TyA0):Int:=(if (!g41_0 x0)=true then 1 else 0)
theorem at17c18 (x0:TyA0) (h:P17c18 x0) (K:Ctx) (q:Nat→Value):AtV Tryz.prog 17 (PostR kds17c18 oks17c18 [⟨.sl YA9,g17c18_0 x0⟩,⟨.int .i64,g17c18_1 x0⟩] [] [] q K) 25 K q [] [.code b17c18] (entE 0 0 sig17c18 (x0,(),())) (entL sig17c18 (x0,(),())):=by
 unfold P17c18 at h
 unfold g17c18_0 g17c18_1
 by_cases b0:(!g41_0 x0)=true
 ·try simp only [if_pos b0] at h ⊢
  exact AtV.ret Tryz.func17 tabOk ext17c18Ok mixed false [1000007] tys17c18 [true] (a1 trivial (a1 b0 trivial)) (by kernel_rfl)
 ·try simp only [if_neg b0] at h ⊢
  replace b0:=bf_ b0
  obtain ⟨s0,h⟩:=h
  obtain ⟨s1,h⟩:=h
  exact AtV.ret Tryz.func17 tabOk ext17c18Ok mixed false [1000007] tys17c18 [false,true,false] (a1 trivial (a1 b0 (a1 (rfl:true=true) (a1 ((by decide):(0:Int)≤(0:Int)) (a1 ((by decide):(0:Int)<(1:Int)) (a1 s0 (a1 s1 (a1 ((by decide):InR .i64 1) (a1 (rfl:false=false) trivial))))))))) (by kernel_rfl)
def S17c18:Am.Spec:={ sig:=sig17c18,pre:=fun ⟨x0,_⟩=>P17c18 x0,res:=fun ⟨x0,_⟩=>[⟨.sl YA9,g17c18_0 x0⟩,⟨.int .i64,g17c18_1 x0⟩],kds:=kds17c18 }
theorem con17c18:Contract Tryz.prog 17 S17c18:=contract_of Tryz.func17 hb17c18 (bl_ (by kernel_rfl)) (fun ⟨x0,_⟩ h _ K q=>at17c18 x0 h K q)
end
noncomputable section
def ext8:Ext:=[(17,S17c18)]
theorem ext8Ok:ExtOk Tryz.prog ext8:=⟨⟨ca17,con17c18⟩,trivial⟩
noncomputable def b8:Code:=bodyOf Tryz.f8
theorem hb8:Tryz.f8.body=some b8:=by kernel_rfl
def sig8:List AT:=[AT.v YA0]
def tys8:List Ty:=[.sl YA9,.int .i64]
def kds8:List RK:=[]
def oks8:List AT:=owns sig8
def P8 (x0:TyA0):Prop:=((P17c18 x0)∧True)
def g8_0 (x0:TyA0):List TyB3:=g17c18_0 x0
def g8_1 (x0:TyA0):Int:=g17c18_1 x0
theorem at8 (x0:TyA0) (h:P8 x0) (K:Ctx) (q:Nat→Value):AtV Tryz.prog 8 (PostR kds8 oks8 [⟨.sl YA9,g8_0 x0⟩,⟨.int .i64,g8_1 x0⟩] [] [] q K) 9 K q [] [.code b8] (entE 0 0 sig8 (x0,())) (entL sig8 (x0,())):=by
 unfold P8 at h
 unfold g8_0 g8_1
 obtain ⟨s0,h⟩:=h
 exact AtV.ret Tryz.func8 tabOk ext8Ok mixed false [] tys8 [] (a1 s0 trivial) (by kernel_rfl)
def S8:Am.Spec:={ sig:=sig8,pre:=fun ⟨x0,_⟩=>P8 x0,res:=fun ⟨x0,_⟩=>[⟨.sl YA9,g8_0 x0⟩,⟨.int .i64,g8_1 x0⟩],kds:=kds8 }
theorem con8:Contract Tryz.prog 8 S8:=contract_of Tryz.func8 hb8 (bl_ (by kernel_rfl)) (fun ⟨x0,_⟩ h _ K q=>at8 x0 h K q)
end
noncomputable section
def ext17c19:Ext:=[(41,S41),(19,S19)]
theorem ext17c19Ok:ExtOk Tryz.prog ext17c19:=⟨⟨ca41,con41⟩,⟨ca19,con19⟩,trivial⟩
noncomputable def b17c19:Code:=bodyOf Tryz.f17
theorem hb17c19:Tryz.f17.body=some b17c19:=by kernel_rfl
def sig17c19:List AT:=[AT.v YA0,AT.fns [19]]
def tys17c19:List Ty:=[.sl YA9,.int .i64]
def kds17c19:List RK:=[]
def oks17c19:List AT:=owns sig17c19
def P17c19 (x0:TyA0):Prop:=(if (!g41_0 x0)=true then True else ((P19 x0)∧((List.length (g19_0 x0)*40≤140737488355328)∧True)))
def g17c19_0 (x0:TyA0):List TyB3:=(if (!g41_0 x0)=true then [] else g19_0 x0)
def g17c19_1 (x0:TyA0):Int:=(if (!g41_0 x0)=true then 1 else 0)
theorem at17c19 (x0:TyA0) (h:P17c19 x0) (K:Ctx) (q:Nat→Value):AtV Tryz.prog 17 (PostR kds17c19 oks17c19 [⟨.sl YA9,g17c19_0 x0⟩,⟨.int .i64,g17c19_1 x0⟩] [] [] q K) 25 K q [] [.code b17c19] (entE 0 0 sig17c19 (x0,(),())) (entL sig17c19 (x0,(),())):=by
 unfold P17c19 at h
 unfold g17c19_0 g17c19_1
 by_cases b0:(!g41_0 x0)=true
 ·try simp only [if_pos b0] at h ⊢
  exact AtV.ret Tryz.func17 tabOk ext17c19Ok mixed false [1000007] tys17c19 [true] (a1 trivial (a1 b0 trivial)) (by kernel_rfl)
 ·try simp only [if_neg b0] at h ⊢
  replace b0:=bf_ b0
  obtain ⟨s0,h⟩:=h
  obtain ⟨s1,h⟩:=h
  exact AtV.ret Tryz.func17 tabOk ext17c19Ok mixed false [1000007] tys17c19 [false,true,false] (a1 trivial (a1 b0 (a1 (rfl:true=true) (a1 ((by decide):(0:Int)≤(0:Int)) (a1 ((by decide):(0:Int)<(1:Int)) (a1 s0 (a1 s1 (a1 ((by decide):InR .i64 1) (a1 (rfl:false=false) trivial))))))))) (by kernel_rfl)
def S17c19:Am.Spec:={ sig:=sig17c19,pre:=fun ⟨x0,_⟩=>P17c19 x0,res:=fun ⟨x0,_⟩=>[⟨.sl YA9,g17c19_0 x0⟩,⟨.int .i64,g17c19_1 x0⟩],kds:=kds17c19 }
theorem con17c19:Contract Tryz.prog 17 S17c19:=contract_of Tryz.func17 hb17c19 (bl_ (by kernel_rfl)) (fun ⟨x0,_⟩ h _ K q=>at17c19 x0 h K q)
end
noncomputable section
def ext9:Ext:=[(17,S17c19)]
theorem ext9Ok:ExtOk Tryz.prog ext9:=⟨⟨ca17,con17c19⟩,trivial⟩
noncomputable def b9:Code:=bodyOf Tryz.f9
theorem hb9:Tryz.f9.body=some b9:=by kernel_rfl
def sig9:List AT:=[AT.v YA0]
def tys9:List Ty:=[.sl YA9,.int .i64]
def kds9:List RK:=[]
def oks9:List AT:=owns sig9
def P9 (x0:TyA0):Prop:=((P17c19 x0)∧True)
def g9_0 (x0:TyA0):List TyB3:=g17c19_0 x0
def g9_1 (x0:TyA0):Int:=g17c19_1 x0
theorem at9 (x0:TyA0) (h:P9 x0) (K:Ctx) (q:Nat→Value):AtV Tryz.prog 9 (PostR kds9 oks9 [⟨.sl YA9,g9_0 x0⟩,⟨.int .i64,g9_1 x0⟩] [] [] q K) 9 K q [] [.code b9] (entE 0 0 sig9 (x0,())) (entL sig9 (x0,())):=by
 unfold P9 at h
 unfold g9_0 g9_1
 obtain ⟨s0,h⟩:=h
 exact AtV.ret Tryz.func9 tabOk ext9Ok mixed false [] tys9 [] (a1 s0 trivial) (by kernel_rfl)
def S9:Am.Spec:={ sig:=sig9,pre:=fun ⟨x0,_⟩=>P9 x0,res:=fun ⟨x0,_⟩=>[⟨.sl YA9,g9_0 x0⟩,⟨.int .i64,g9_1 x0⟩],kds:=kds9 }
theorem con9:Contract Tryz.prog 9 S9:=contract_of Tryz.func9 hb9 (bl_ (by kernel_rfl)) (fun ⟨x0,_⟩ h _ K q=>at9 x0 h K q)
end
noncomputable section
def ext17c20:Ext:=[(41,S41),(20,S20)]
theorem ext17c20Ok:ExtOk Tryz.prog ext17c20:=⟨⟨ca41,con41⟩,⟨ca20,con20⟩,trivial⟩
noncomputable def b17c20:Code:=bodyOf Tryz.f17
theorem hb17c20:Tryz.f17.body=some b17c20:=by kernel_rfl
def sig17c20:List AT:=[AT.v YA0,AT.fns [20]]
def tys17c20:List Ty:=[.sl YA9,.int .i64]
def kds17c20:List RK:=[]
def oks17c20:List AT:=owns sig17c20
def P17c20 (x0:TyA0):Prop:=(if (!g41_0 x0)=true then True else ((P20 x0)∧((List.length (g20_0 x0)*40≤140737488355328)∧True)))
def g17c20_0 (x0:TyA0):List TyB3:=(if (!g41_0 x0)=true then [] else g20_0 x0)
def g17c20_1 (x0:TyA0):Int:=(if (!g41_0 x0)=true then 1 else 0)
theorem at17c20 (x0:TyA0) (h:P17c20 x0) (K:Ctx) (q:Nat→Value):AtV Tryz.prog 17 (PostR kds17c20 oks17c20 [⟨.sl YA9,g17c20_0 x0⟩,⟨.int .i64,g17c20_1 x0⟩] [] [] q K) 25 K q [] [.code b17c20] (entE 0 0 sig17c20 (x0,(),())) (entL sig17c20 (x0,(),())):=by
 unfold P17c20 at h
 unfold g17c20_0 g17c20_1
 by_cases b0:(!g41_0 x0)=true
 ·try simp only [if_pos b0] at h ⊢
  exact AtV.ret Tryz.func17 tabOk ext17c20Ok mixed false [1000007] tys17c20 [true] (a1 trivial (a1 b0 trivial)) (by kernel_rfl)
 ·try simp only [if_neg b0] at h ⊢
  replace b0:=bf_ b0
  obtain ⟨s0,h⟩:=h
  obtain ⟨s1,h⟩:=h
  exact AtV.ret Tryz.func17 tabOk ext17c20Ok mixed false [1000007] tys17c20 [false,true,false] (a1 trivial (a1 b0 (a1 (rfl:true=true) (a1 ((by decide):(0:Int)≤(0:Int)) (a1 ((by decide):(0:Int)<(1:Int)) (a1 s0 (a1 s1 (a1 ((by decide):InR .i64 1) (a1 (rfl:false=false) trivial))))))))) (by kernel_rfl)
def S17c20:Am.Spec:={ sig:=sig17c20,pre:=fun ⟨x0,_⟩=>P17c20 x0,res:=fun ⟨x0,_⟩=>[⟨.sl YA9,g17c20_0 x0⟩,⟨.int .i64,g17c20_1 x0⟩],kds:=kds17c20 }
theorem con17c20:Contract Tryz.prog 17 S17c20:=contract_of Tryz.func17 hb17c20 (bl_ (by kernel_rfl)) (fun ⟨x0,_⟩ h _ K q=>at17c20 x0 h K q)
end
noncomputable section
def ext10:Ext:=[(17,S17c20)]
theorem ext10Ok:ExtOk Tryz.prog ext10:=⟨⟨ca17,con17c20⟩,trivial⟩
noncomputable def b10:Code:=bodyOf Tryz.f10
theorem hb10:Tryz.f10.body=some b10:=by kernel_rfl
def sig10:List AT:=[AT.v YA0]
def tys10:List Ty:=[.sl YA9,.int .i64]
def kds10:List RK:=[]
def oks10:List AT:=owns sig10
def P10 (x0:TyA0):Prop:=((P17c20 x0)∧True)
def g10_0 (x0:TyA0):List TyB3:=g17c20_0 x0
def g10_1 (x0:TyA0):Int:=g17c20_1 x0
theorem at10 (x0:TyA0) (h:P10 x0) (K:Ctx) (q:Nat→Value):AtV Tryz.prog 10 (PostR kds10 oks10 [⟨.sl YA9,g10_0 x0⟩,⟨.int .i64,g10_1 x0⟩] [] [] q K) 9 K q [] [.code b10] (entE 0 0 sig10 (x0,())) (entL sig10 (x0,())):=by
 unfold P10 at h
 unfold g10_0 g10_1
 obtain ⟨s0,h⟩:=h
 exact AtV.ret Tryz.func10 tabOk ext10Ok mixed false [] tys10 [] (a1 s0 trivial) (by kernel_rfl)
def S10:Am.Spec:={ sig:=sig10,pre:=fun ⟨x0,_⟩=>P10 x0,res:=fun ⟨x0,_⟩=>[⟨.sl YA9,g10_0 x0⟩,⟨.int .i64,g10_1 x0⟩],kds:=kds10 }
theorem con10:Contract Tryz.prog 10 S10:=contract_of Tryz.func10 hb10 (bl_ (by kernel_rfl)) (fun ⟨x0,_⟩ h _ K q=>at10 x0 h K q)
end
set_option maxHeartbeats 2000000 in
theorem nil22 (w:World):Calls Tryz.prog 22 #[.slice none 0 0] w fun e w'=>e = .returned (.slice none 0 0)∧w'=w:=by
 have mixed:=mixed
 have q22:∀ (w:World) (a:Option Addr) (n c n' c':Nat),(binOp .eql 40 (.slice a n c) (.slice none n' c')).run Tryz.prog w = .ok (.bool a.isNone) w:=fun w a n c n' c'=>Lib.run_eql_slice_nil w _ _ a n c n' c' Tryz.underlying40
 go_enter Tryz.func22,Tryz.ntmps22
 go_wp2
 go_ret
 exact ⟨rfl,rfl⟩
set_option maxHeartbeats 4000000 in
theorem some22 (w:World) (a:Addr) (n c:Nat) (news:List Value) (hl:news.length=n*(Ty.size YA9)) (hn:n≤1048576) (hc:∀ (j:Nat) (u:Value),news[j]? = some u→w.cell? (a.add j)=some u) (h1:∀ u∈news,u.oneCell'=true) :
  Calls Tryz.prog 22 #[.slice (some a) n c] w fun r w'=>∃ v',r = .returned v'∧w'.ownsRow w.heap.size 47 (Ty.size YA9) v' n news∧Go.RowKit.Below w.heap.size w w':=by
 have mixed:=mixed
 have q22:∀ (w:World) (a:Option Addr) (n c n' c':Nat),(binOp .eql 40 (.slice a n c) (.slice none n' c')).run Tryz.prog w = .ok (.bool a.isNone) w:=fun w a n c n' c'=>Lib.run_eql_slice_nil w _ _ a n c n' c' Tryz.underlying40
 have hinfo:TIOk Tryz.prog 40 (tabGet tab 40):=tabOk 40
 obtain ⟨_,_,⟨_,⟨i0,hi0,hz1,z,hz0,hzs,_⟩⟩,hby⟩:=hinfo
 rw [hi0] at hby
 simp only [Option.map_some,Option.some.injEq] at hby
 have hzs':z.cells.size=Ty.size YA9:=by rw [← Array.length_toList,hzs];rfl
 have A:Aside (∀ (j:Nat) (u:Value),news[j]? = some u→w.cell? (a.add j)=some u):=hc
 clear hc
 go_enter Tryz.func22,Tryz.ntmps22
 go_wp2_with (at_builtin;refine wpList_append_own _ rfl _ _ 40 rfl w.heap.size 47 i0 z (Ty.size YA9) i0.bytes Tryz.underlying40 hi0 hz0 hz1 rfl hzs' (by decide) _ _ _ rfl (World.ownsRow_made w #[] 0 (Nat.le_refl _) (Nat.zero_le _) (by simp)) a n c news rfl ?qc1 ?qc2 ?qc3 ?qc4 ?qc5 ?qc6 ?_)
 case qc1=>exact hl
 case qc2=>intro j u hj;exact Lib.cell?_alloc_some _ (A.out j u hj)
 case qc3=>exact h1
 case qc4=>unfold maxLen;omega
 case qc5=>rw [hby];omega
 case qc6=>simp
 intro v' w1 hown hgrow hnil
 go_wp2
 go_ret
 exact ⟨v',rfl,by simpa using hown,((Go.RowKit.Below.refl _ w).alloc (Nat.le_refl _) _).grown hgrow (by simp) (by intro k hk;simp [Value.ownBlock] at hk;omega)⟩
def sig22:List AT:=[AT.v (Ty.sl YA9)]
def g22_0 (x0:List TyB3):List TyB3:=x0
def P22 (x0:List TyB3):Prop:=x0.length≤1048576
def S22:Am.Spec:={ sig:=sig22,pre:=fun ⟨x0,_⟩=>P22 x0,res:=fun ⟨x0,_⟩=>[⟨Ty.sl YA9,g22_0 x0⟩] }
theorem con22:Contract Tryz.prog 22 S22:=clone_contract (t:=YA9) (e:=47) rfl nil22 some22
noncomputable section
def ext25:Ext:=[]
theorem ext25Ok:ExtOk Tryz.prog ext25:=trivial
noncomputable def b25:Code:=bodyOf Tryz.f25
theorem hb25:Tryz.f25.body=some b25:=by kernel_rfl
def sig25:List AT:=[AT.v (.sl YA9)]
def tys25:List Ty:=[.int .i64]
def kds25:List RK:=[]
def oks25:List AT:=owns sig25
def P25 (x0:List TyB3):Prop:=True
def g25_0 (x0:List TyB3):Int:=(x0.length:Int)
theorem at25 (x0:List TyB3) (h:P25 x0) (K:Ctx) (q:Nat→Value):AtV Tryz.prog 25 (PostR kds25 oks25 [⟨.int .i64,g25_0 x0⟩] [] [] q K) 5 K q [] [.code b25] (entE 0 0 sig25 (x0,())) (entL sig25 (x0,())):=by
 unfold P25 at h
 unfold g25_0
 exact AtV.ret Tryz.func25 tabOk ext25Ok mixed false [] tys25 [] trivial (by kernel_rfl)
def S25:Am.Spec:={ sig:=sig25,pre:=fun ⟨x0,_⟩=>P25 x0,res:=fun ⟨x0,_⟩=>[⟨.int .i64,g25_0 x0⟩],kds:=kds25 }
theorem con25:Contract Tryz.prog 25 S25:=contract_of Tryz.func25 hb25 (bl_ (by kernel_rfl)) (fun ⟨x0,_⟩ h _ K q=>at25 x0 h K q)
end
noncomputable section
def ext24:Ext:=[(52,S52)]
theorem ext24Ok:ExtOk Tryz.prog ext24:=⟨⟨ca52,con52⟩,trivial⟩
noncomputable def b24:Code:=bodyOf Tryz.f24
theorem hb24:Tryz.f24.body=some b24:=by kernel_rfl
def sig24:List AT:=[AT.v (.int .i64)]
def tys24:List Ty:=[.bool]
def kds24:List RK:=[]
def oks24:List AT:=owns sig24
def P24 (x0:Int):Prop:=True
def g24_0 (x0:Int):Bool:=g52_0 x0 1 6
theorem at24 (x0:Int) (h:P24 x0) (K:Ctx) (q:Nat→Value):AtV Tryz.prog 24 (PostR kds24 oks24 [⟨.bool,g24_0 x0⟩] [] [] q K) 5 K q [] [.code b24] (entE 0 0 sig24 (x0,())) (entL sig24 (x0,())):=by
 unfold P24 at h
 unfold g24_0
 exact AtV.ret Tryz.func24 tabOk ext24Ok mixed false [] tys24 [] (a1 trivial trivial) (by kernel_rfl)
def S24:Am.Spec:={ sig:=sig24,pre:=fun ⟨x0,_⟩=>P24 x0,res:=fun ⟨x0,_⟩=>[⟨.bool,g24_0 x0⟩],kds:=kds24 }
theorem con24:Contract Tryz.prog 24 S24:=contract_of Tryz.func24 hb24 (bl_ (by kernel_rfl)) (fun ⟨x0,_⟩ h _ K q=>at24 x0 h K q)
end
noncomputable section
def ext23:Ext:=[(24,S24)]
theorem ext23Ok:ExtOk Tryz.prog ext23:=⟨⟨ca24,con24⟩,trivial⟩
noncomputable def b23:Code:=bodyOf Tryz.f23
theorem hb23:Tryz.f23.body=some b23:=by kernel_rfl
def sig23:List AT:=[AT.v YA9]
def tys23:List Ty:=[.bool]
def kds23:List RK:=[]
def oks23:List AT:=owns sig23
def P23 (x0:Int×ByteArray×ByteArray×Unit):Prop:=True
def g23_0 (x0:Int×ByteArray×ByteArray×Unit):Bool := !g24_0 x0.1
theorem at23 (x0:Int×ByteArray×ByteArray×Unit) (h:P23 x0) (K:Ctx) (q:Nat→Value):AtV Tryz.prog 23 (PostR kds23 oks23 [⟨.bool,g23_0 x0⟩] [] [] q K) 7 K q [] [.code b23] (entE 0 0 sig23 (x0,())) (entL sig23 (x0,())):=by
 unfold P23 at h
 unfold g23_0
 exact AtV.ret Tryz.func23 tabOk ext23Ok mixed false [] tys23 [] (a1 trivial trivial) (by kernel_rfl)
def S23:Am.Spec:={ sig:=sig23,pre:=fun ⟨x0,_⟩=>P23 x0,res:=fun ⟨x0,_⟩=>[⟨.bool,g23_0 x0⟩],kds:=kds23 }
theorem con23:Contract Tryz.prog 23 S23:=contract_of Tryz.func23 hb23 (bl_ (by kernel_rfl)) (fun ⟨x0,_⟩ h _ K q=>at23 x0 h K q)
end
noncomputable section
def ext51c23:Ext:=[(23,S23)]
theorem ext51c23Ok:ExtOk Tryz.prog ext51c23:=⟨⟨ca23,con23⟩,trivial⟩
noncomputable def b51c23:Code:=bodyOf Tryz.f51
theorem hb51c23:Tryz.f51.body=some b51c23:=by kernel_rfl
def sig51c23:List AT:=[AT.v (.sl YA9),AT.fn 23 []]
def tys51c23:List Ty:=[.int .i64]
def kds51c23:List RK:=[]
def oks51c23:List AT:=owns sig51c23
def E51c23_2 (v8:Int) (x0:List TyB3):Env:=[(0,.a (.sl YA9 x0)),(1,PV.fn 23 []),(7,.a (.val (.int .i64 (x0.length:Int)))),(8,.a (.val (.int .i64 v8)))]
def L51c23_2 (v8:Int) (x0:List TyB3):Heap:=[]
mutual
def R51c23:Nat→List TyB3→List Dyn→Prop
 | 0,_,_=>False
 | n+1,x0,ds=>(R51c23_2 n (0) (x0) ds)
def R51c23_2:Nat→Int→List TyB3→List Dyn→Prop
 | 0,_,_,_=>False
 | n+1,v8,x0,ds=>(if (decide (v8<(x0.length:Int)))=true then ((0≤v8)∧(v8<(x0.length:Int))∧(if (g23_0 (List.getD x0 (Int.toNat v8) (0,ByteArray.empty,ByteArray.empty,())))=true then (ds=[Dyn.mk (.int .i64) v8]) else ((InR .i64 (v8+1))∧(R51c23_2 n (v8+1) (x0) ds)))) else (ds=[Dyn.mk (.int .i64) (-1)]))
end
theorem snd51c23:∀ n,(∀ (x0:List TyB3) ds,R51c23 n x0 ds→∀ K q,AtV Tryz.prog 51 (PostR kds51c23 oks51c23 ds [] [] q K) 19 K q [] [.code b51c23] (entE 0 0 sig51c23 (x0,(),())) (entL sig51c23 (x0,(),())))∧(∀ (v8:Int) (x0:List TyB3) ds,R51c23_2 n v8 x0 ds→∀ K q,AtV Tryz.prog 51 (PostR kds51c23 oks51c23 ds [] [] q K) 19 K q [] (cutAt b51c23 2) (E51c23_2 v8 x0) (L51c23_2 v8 x0)):=by
 intro n
 induction n with
 | zero=>exact ⟨fun _ _ h=>by simp only [R51c23] at h,fun _ _ _ h=>by simp only [R51c23_2] at h⟩
 | succ n ih =>
 obtain ⟨ih,ih2⟩:=ih
 refine ⟨?_,?_⟩
 ·intro x0 ds h K q
  rw [R51c23] at h
  exact AtV.go tabOk ext51c23Ok mixed false [] [] [0,1,7,8] [] [] trivial (ih2 _ _ _ h K q) (by kernel_rfl)
 ·intro v8 x0 ds h K q
  rw [R51c23_2] at h
  by_cases b0:(decide (v8<(x0.length:Int)))=true
  ·rw [if_pos b0] at h
   obtain ⟨s0,s1,h⟩:=h
   by_cases b1:(g23_0 (List.getD x0 (Int.toNat v8) (0,ByteArray.empty,ByteArray.empty,())))=true
   ·rw [if_pos b1] at h
    subst h
    exact AtV.ret Tryz.func51 tabOk ext51c23Ok mixed false [] tys51c23 [true,true] (a1 b0 (a1 s0 (a1 s1 (a1 trivial (a1 b1 trivial))))) (by kernel_rfl)
   ·rw [if_neg b1] at h
    replace b1:=bf_ b1
    obtain ⟨s2,h⟩:=h
    exact AtV.go tabOk ext51c23Ok mixed false [] [] [0,1,7,8] [] [true,false] (a1 b0 (a1 s0 (a1 s1 (a1 trivial (a1 b1 (a1 s2 trivial)))))) (ih2 _ _ _ h K q) (by kernel_rfl)
  ·rw [if_neg b0] at h
   replace b0:=bf_ b0
   subst h
   exact AtV.ret Tryz.func51 tabOk ext51c23Ok mixed false [] tys51c23 [false] (a1 b0 trivial) (by kernel_rfl)
def g51c23_0 (x0:List TyB3):Int:=idx (x0.findIdx? g23_0)
def P51c23 (x0:List TyB3):Prop:=True
theorem top51c23 (x0:List TyB3) (hm:x0.length≤maxLen):R51c23 (x0.length+1+1) x0 [⟨.int .i64,g51c23_0 x0⟩]:=by
 rw [R51c23]
 have key:=loop_find x0 ((0:Int),ByteArray.empty,ByteArray.empty,()) g23_0 [(⟨.int .i64, -1⟩:Dyn)] (fun k=>[⟨.int .i64,k⟩]) (fun n i ds=>R51c23_2 n i x0 ds) (fun n => ?_) (fun n i hi hok ds hr => ?_) (fun n i hi hok => ?_)
 ·unfold g51c23_0
  cases h:x0.findIdx? g23_0 <;> rw [h] at key <;> exact key
 ·rw [R51c23_2,if_neg (by simp)]
 ·rw [R51c23_2,if_pos (by simp;omega)]
  simp only [Int.toNat_natCast]
  refine ⟨by omega,by omega,?_⟩
  rw [if_neg (by rw [hok];simp)]
  exact ⟨inR_up hm hi,hr⟩
 ·rw [R51c23_2,if_pos (by simp;omega)]
  simp only [Int.toNat_natCast]
  refine ⟨by omega,by omega,?_⟩
  rw [if_pos hok] <;> trivial
def S51c23:Am.Spec:={ sig:=sig51c23,pre:=fun ⟨x0,_⟩=>P51c23 x0,res:=fun ⟨x0,_⟩=>[⟨.int .i64,g51c23_0 x0⟩] }
theorem con51c23:Contract Tryz.prog 51 S51c23:=contract_of Tryz.func51 hb51c23 (bl_ (by kernel_rfl)) (fun ⟨x0,_⟩ h hwf K q =>
 (snd51c23 _).1 x0 _ (top51c23 x0 hwf.1.1) K q)
end
noncomputable section
def ext21c23:Ext:=[(51,S51c23),(23,S23)]
theorem ext21c23Ok:ExtOk Tryz.prog ext21c23:=⟨⟨ca51,con51c23⟩,⟨ca23,con23⟩,trivial⟩
noncomputable def b21c23:Code:=bodyOf Tryz.f21
theorem hb21c23:Tryz.f21.body=some b21c23:=by kernel_rfl
def sig21c23:List AT:=[AT.own YA9,AT.fn 23 []]
def tys21c23:List Ty:=[.sl YA9]
def kds21c23:List RK:=[]
def oks21c23:List AT:=owns sig21c23
def E21c23_5 (v5:Int) (v6:Int) (x0:List TyB3):Env:=[(0,.a (.osl 0 Option.none)),(1,PV.fn 23 []),(5,.a (.val (.int .i64 v5))),(6,.a (.val (.int .i64 v6)))]
def L21c23_5 (v5:Int) (v6:Int) (x0:List TyB3):Heap:=[Option.some (Arr.mk YA9 x0 false Option.none Option.none)]
mutual
def R21c23:Nat→List TyB3→List Dyn→List (Option Lst)→Prop
 | 0,_,_,_=>False
 | n+1,x0,ds,us=>(if (g51c23_0 x0 == -1)=true then (ds=[Dyn.mk (.sl YA9) x0]∧us=[Option.none]) else ((InR .i64 (g51c23_0 x0+1))∧(R21c23_5 n (g51c23_0 x0) (g51c23_0 x0+1) (x0) ds us)))
def R21c23_5:Nat→Int→Int→List TyB3→List Dyn→List (Option Lst)→Prop
 | 0,_,_,_,_,_=>False
 | n+1,v5,v6,x0,ds,us=>(if (decide (v6<(x0.length:Int)))=true then ((0≤v6)∧(v6<(x0.length:Int))∧(if (!g23_0 (List.getD x0 (Int.toNat v6) (0,ByteArray.empty,ByteArray.empty,())))=true then ((0≤v5)∧(v5<(x0.length:Int))∧((InR .i64 (v5+1))∧((InR .i64 (v6+1))∧(R21c23_5 n (v5+1) (v6+1) (List.set x0 (Int.toNat v5) (List.getD x0 (Int.toNat v6) (0,ByteArray.empty,ByteArray.empty,()))) ds us)))) else ((InR .i64 (v6+1))∧(R21c23_5 n (v5) (v6+1) (x0) ds us)))) else ((0≤v5)∧(v5≤(↑(List.length x0 - 0):Int))∧((0≤v5)∧(v5≤(↑(List.length (List.take (0+Int.toNat v5) x0++List.replicate (0+Int.toNat (↑(List.length x0 - 0):Int) - (0+Int.toNat v5)) (0,ByteArray.empty,ByteArray.empty,())++List.drop (0+Int.toNat (↑(List.length x0 - 0):Int)) x0) - 0):Int))∧(ds=[Dyn.mk (.sl YA9) (List.drop 0 (List.take (0+Int.toNat v5) (List.take (0+Int.toNat v5) x0++List.replicate (0+Int.toNat (↑(List.length x0 - 0):Int) - (0+Int.toNat v5)) (0,ByteArray.empty,ByteArray.empty,())++List.drop (0+Int.toNat (↑(List.length x0 - 0):Int)) x0)))]∧us=[Option.none]))))
end
theorem snd21c23:∀ n,(∀ (x0:List TyB3) ds us,R21c23 n x0 ds us→∀ K q,AtV Tryz.prog 21 (PostR kds21c23 oks21c23 ds us [0] q K) 42 K q [0] [.code b21c23] (entE 0 0 sig21c23 (x0,(),())) (entL sig21c23 (x0,(),())))∧(∀ (v5:Int) (v6:Int) (x0:List TyB3) ds us,R21c23_5 n v5 v6 x0 ds us→∀ K q,AtV Tryz.prog 21 (PostR kds21c23 oks21c23 ds us [0] q K) 42 K q [0] (cutAt b21c23 5) (E21c23_5 v5 v6 x0) (L21c23_5 v5 v6 x0)):=by
 intro n
 induction n with
 | zero=>exact ⟨fun _ _ _ h=>by simp only [R21c23] at h,fun _ _ _ _ _ h=>by simp only [R21c23_5] at h⟩
 | succ n ih =>
 obtain ⟨ih,ih5⟩:=ih
 refine ⟨?_,?_⟩
 ·intro x0 ds us h K q
  rw [R21c23] at h
  by_cases b0:(g51c23_0 x0 == -1)=true
  ·rw [if_pos b0] at h
   obtain ⟨h,h'⟩:=h;subst h;subst h'
   exact AtV.ret Tryz.func21 tabOk ext21c23Ok mixed false [] tys21c23 [true] (a1 trivial (a1 b0 trivial)) (by kernel_rfl)
  ·rw [if_neg b0] at h
   replace b0:=bf_ b0
   obtain ⟨s0,h⟩:=h
   exact AtV.go tabOk ext21c23Ok mixed false [] [] [0,1,5,6] [0] [false] (a1 trivial (a1 b0 (a1 s0 trivial))) (ih5 _ _ _ _ _ h K q) (by kernel_rfl)
 ·intro v5 v6 x0 ds us h K q
  rw [R21c23_5] at h
  by_cases b0:(decide (v6<(x0.length:Int)))=true
  ·rw [if_pos b0] at h
   obtain ⟨s0,s1,h⟩:=h
   by_cases b1:(!g23_0 (List.getD x0 (Int.toNat v6) (0,ByteArray.empty,ByteArray.empty,())))=true
   ·rw [if_pos b1] at h
    obtain ⟨s2,s3,h⟩:=h
    obtain ⟨s4,h⟩:=h
    obtain ⟨s5,h⟩:=h
    exact AtV.go tabOk ext21c23Ok mixed false [] [] [0,1,5,6] [0] [true,true] (a1 b0 (a1 s0 (a1 s1 (a1 trivial (a1 b1 (a1 s2 (a1 s3 (a1 s4 (a1 s5 trivial))))))))) (ih5 _ _ _ _ _ h K q) (by kernel_rfl)
   ·rw [if_neg b1] at h
    replace b1:=bf_ b1
    obtain ⟨s2,h⟩:=h
    exact AtV.go tabOk ext21c23Ok mixed false [] [] [0,1,5,6] [0] [true,false] (a1 b0 (a1 s0 (a1 s1 (a1 trivial (a1 b1 (a1 s2 trivial)))))) (ih5 _ _ _ _ _ h K q) (by kernel_rfl)
  ·rw [if_neg b0] at h
   replace b0:=bf_ b0
   obtain ⟨s0,s1,h⟩:=h
   obtain ⟨s2,s3,h⟩:=h
   obtain ⟨h,h'⟩:=h;subst h;subst h'
   exact AtV.ret Tryz.func21 tabOk ext21c23Ok mixed false [] tys21c23 [false] (a1 b0 (a1 s0 (a1 s1 (a1 s2 (a1 s3 trivial))))) (by kernel_rfl)
def g21c23_0 (x0:List TyB3):List TyB3:=x0.filter fun x => !g23_0 x
def P21c23 (x0:List TyB3):Prop:=True
theorem run21c23:∀ (k i j:Nat) (h:List TyB3),j+k=h.length→i≤j→h.length≤maxLen →
  R21c23_5 (k+1) (i:Int) (j:Int) h [⟨.sl YA9,h.take i++(h.drop j).filter fun x => !g23_0 x⟩] [none]:=by
 intro k
 induction k with
 | zero =>
  intro i j h hj hi hm
  rw [R21c23_5,if_neg (by simp;omega)]
  have e:(h.drop j)=[]:=List.drop_eq_nil_iff.2 (by omega)
  rw [e]
  simp only [Int.toNat_natCast,Nat.zero_add,List.drop_zero,List.filter_nil,List.append_nil]
  refine ⟨by omega,by simp;omega,by omega,?_,?_,trivial⟩
  ·simp;omega
  ·have e2:List.take i (List.take i h++List.replicate (h.length - 0 - i) ((0:Int),ByteArray.empty,ByteArray.empty,())++List.drop (h.length - 0) h)=List.take i h:=by
    rw [List.append_assoc,List.take_append_of_le_length (by simp;omega),List.take_take,Nat.min_self]
   rw [e2]
 | succ k ih =>
  intro i j h hj hi hm
  have hlt:j<h.length:=by omega
  rw [R21c23_5,if_pos (by simp;omega)]
  simp only [Int.toNat_natCast]
  refine ⟨by omega,by omega,?_⟩
  have hd:h.drop j=h.getD j ((0:Int),ByteArray.empty,ByteArray.empty,()) :: h.drop (j+1):=drop_get h j _ hlt
  have up:InR .i64 ((j:Int)+1):=inR_up hm hlt
  by_cases hk:(!g23_0 (h.getD j ((0:Int),ByteArray.empty,ByteArray.empty,())))=true
  ·rw [if_pos hk]
   have hset:(h.set i (h.getD j ((0:Int),ByteArray.empty,ByteArray.empty,()))).length=h.length:=List.length_set
   have:=ih (i+1) (j+1) (h.set i (h.getD j ((0:Int),ByteArray.empty,ByteArray.empty,()))) (by omega) (by omega) (by omega)
   refine ⟨by omega,by omega,inR_up hm (by omega),up,?_⟩
   have e1:(h.set i (h.getD j ((0:Int),ByteArray.empty,ByteArray.empty,()))).take (i+1)=h.take i++[h.getD j ((0:Int),ByteArray.empty,ByteArray.empty,())]:=by
    rw [List.take_add_one,List.take_set_of_le (Nat.le_refl _),List.getElem?_set_self (by omega)];rfl
   have e2:(h.set i (h.getD j ((0:Int),ByteArray.empty,ByteArray.empty,()))).drop (j+1)=h.drop (j+1):=List.drop_set_of_lt (by omega)
   rw [e1,e2] at this
   rw [hd,List.filter_cons,if_pos hk]
   simpa using this
  ·rw [if_neg hk]
   have:=ih i (j+1) h (by omega) (by omega) hm
   refine ⟨up,?_⟩
   rw [hd,List.filter_cons,if_neg hk]
   simpa using this
theorem split21c23:∀ (x0:List TyB3),match x0.findIdx? g23_0 with
  | none=>g21c23_0 x0=x0
  | some i=>i<x0.length∧g21c23_0 x0=x0.take i++(x0.drop (i+1)).filter fun x => !g23_0 x
 | []=>rfl
 | x :: r=>by
  have ih:=split21c23 r
  rw [List.findIdx?_cons]
  unfold g21c23_0 at ih ⊢
  cases hx:g23_0 x with
  | true=>simp [hx]
  | false =>
   simp only [Bool.false_eq_true,if_false]
   cases hf:r.findIdx? g23_0 with
   | none =>
    rw [hf] at ih
    simp only at ih
    simp [hx,ih]
   | some i =>
    rw [hf] at ih
    simp only at ih
    obtain ⟨h1,h2⟩:=ih
    refine ⟨by simp;omega,?_⟩
    simp [hx,h2]
theorem top21c23 (x0:List TyB3) (hm:x0.length≤maxLen):∃ n,R21c23 n x0 [⟨.sl YA9,g21c23_0 x0⟩] [none]:=by
 have hs:=split21c23 x0
 cases hf:x0.findIdx? g23_0 with
 | none =>
  rw [hf] at hs
  simp only at hs
  refine ⟨1,?_⟩
  rw [R21c23,if_pos (by simp [g51c23_0,hf,idx]),hs]
  exact ⟨rfl,rfl⟩
 | some i =>
  rw [hf] at hs
  simp only at hs
  obtain ⟨h1,h2⟩:=hs
  have hg:g51c23_0 x0=(i:Int):=by simp [g51c23_0,hf,idx]
  refine ⟨(x0.length - (i+1))+1+1,?_⟩
  rw [R21c23,hg,if_neg (by simp)]
  refine ⟨inR_up hm h1,?_⟩
  have:=run21c23 (x0.length - (i+1)) i (i+1) x0 (by omega) (by omega) hm
  rw [h2]
  simpa using this
def S21c23:Am.Spec:={ sig:=sig21c23,pre:=fun ⟨x0,_⟩=>P21c23 x0,upd:=fun _=>[none],res:=fun ⟨x0,_⟩=>[⟨.sl YA9,g21c23_0 x0⟩] }
theorem con21c23:Contract Tryz.prog 21 S21c23:=contract_of Tryz.func21 hb21c23 (bl_ (by kernel_rfl)) (fun ⟨x0,_⟩ h hwf K q=>by
 obtain ⟨n,hn⟩:=top21c23 x0 hwf.1.1
 exact (snd21c23 n).1 x0 _ _ hn K q)
end
noncomputable section
def ext11:Ext:=[(22,S22),(25,S25),(21,S21c23)]
theorem ext11Ok:ExtOk Tryz.prog ext11:=⟨⟨ca22,con22⟩,⟨ca25,con25⟩,⟨ca21,con21c23⟩,trivial⟩
noncomputable def b11:Code:=bodyOf Tryz.f11
theorem hb11:Tryz.f11.body=some b11:=by kernel_rfl
def sig11:List AT:=[AT.v (.sl YA9)]
def tys11:List Ty:=[.sl (.int .i64)]
def kds11:List RK:=[]
def oks11:List AT:=owns sig11
def E11_5 (v17:Int) (h0:List Int) (x0:List TyB3):Env:=[(4,.a (.osl 0 Option.none)),(15,.a (.osl 1 Option.none)),(16,.a (.val (.int .i64 (↑(List.length (g21c23_0 (g22_0 x0))):Int)))),(17,.a (.val (.int .i64 v17)))]
def L11_5 (v17:Int) (h0:List Int) (x0:List TyB3):Heap:=[Option.some (Arr.mk (.int .i64) h0 false Option.none Option.none),Option.some (Arr.mk YA9 (g21c23_0 (g22_0 x0)) false Option.none Option.none)]
mutual
def R11:Nat→List TyB3→List Dyn→Prop
 | 0,_,_=>False
 | n+1,x0,ds=>((P22 x0)∧(R11_5 n (0) ([g25_0 (g21c23_0 (g22_0 x0)),0,0,0,0,0,0]) (x0) ds))
def R11_5:Nat→Int→List Int→List TyB3→List Dyn→Prop
 | 0,_,_,_,_=>False
 | n+1,v17,h0,x0,ds=>(if (decide (v17<(↑(List.length (g21c23_0 (g22_0 x0))):Int)))=true then ((0≤v17)∧(v17<(↑(List.length (g21c23_0 (g22_0 x0))):Int))∧((0≤(List.getD (g21c23_0 (g22_0 x0)) (Int.toNat v17) (0,ByteArray.empty,ByteArray.empty,())).1)∧((List.getD (g21c23_0 (g22_0 x0)) (Int.toNat v17) (0,ByteArray.empty,ByteArray.empty,())).1<(h0.length:Int))∧((InR .i64 (List.getD h0 (Int.toNat (List.getD (g21c23_0 (g22_0 x0)) (Int.toNat v17) (0,ByteArray.empty,ByteArray.empty,())).1) 0+1))∧((0≤(List.getD (g21c23_0 (g22_0 x0)) (Int.toNat v17) (0,ByteArray.empty,ByteArray.empty,())).1)∧((List.getD (g21c23_0 (g22_0 x0)) (Int.toNat v17) (0,ByteArray.empty,ByteArray.empty,())).1<(h0.length:Int))∧((InR .i64 (v17+1))∧(R11_5 n (v17+1) (List.set h0 (Int.toNat (List.getD (g21c23_0 (g22_0 x0)) (Int.toNat v17) (0,ByteArray.empty,ByteArray.empty,())).1) (List.getD h0 (Int.toNat (List.getD (g21c23_0 (g22_0 x0)) (Int.toNat v17) (0,ByteArray.empty,ByteArray.empty,())).1) 0+1)) (x0) ds)))))) else (ds=[Dyn.mk (.sl (.int .i64)) h0]))
end
theorem snd11:∀ n,(∀ (x0:List TyB3) ds,R11 n x0 ds→∀ K q,AtV Tryz.prog 11 (PostR kds11 oks11 ds [] [] q K) 30 K q [] [.code b11] (entE 0 0 sig11 (x0,())) (entL sig11 (x0,())))∧(∀ (v17:Int) (h0:List Int) (x0:List TyB3) ds,R11_5 n v17 h0 x0 ds→∀ K q,AtV Tryz.prog 11 (PostR kds11 oks11 ds [] [] q K) 30 K q [] (cutAt b11 5) (E11_5 v17 h0 x0) (L11_5 v17 h0 x0)):=by
 intro n
 induction n with
 | zero=>exact ⟨fun _ _ h=>by simp only [R11] at h,fun _ _ _ _ h=>by simp only [R11_5] at h⟩
 | succ n ih =>
 obtain ⟨ih,ih5⟩:=ih
 refine ⟨?_,?_⟩
 ·intro x0 ds h K q
  rw [R11] at h
  obtain ⟨s0,h⟩:=h
  exact AtV.go tabOk ext11Ok mixed false [] [] [4,15,16,17] [2,1] [] (a1 s0 (a1 trivial (a1 ((by decide):(0:Int)≤(7:Int)) (a1 ((by decide):(7:Int)≤(7:Int)) (a1 ((by decide):(56:Int)≤(281474976710656:Int)) (a1 trivial (a1 ((by decide):(0:Int)≤(0:Int)) (a1 ((by decide):(0:Int)<(7:Int)) trivial)))))))) (ih5 _ _ _ _ h K q) (by kernel_rfl)
 ·intro v17 h0 x0 ds h K q
  rw [R11_5] at h
  by_cases b0:(decide (v17<(↑(List.length (g21c23_0 (g22_0 x0))):Int)))=true
  ·rw [if_pos b0] at h
   obtain ⟨s0,s1,h⟩:=h
   obtain ⟨s2,s3,h⟩:=h
   obtain ⟨s4,h⟩:=h
   obtain ⟨s5,s6,h⟩:=h
   obtain ⟨s7,h⟩:=h
   exact AtV.go tabOk ext11Ok mixed false [] [] [4,15,16,17] [0,1] [true] (a1 b0 (a1 s0 (a1 s1 (a1 s2 (a1 s3 (a1 s4 (a1 s5 (a1 s6 (a1 s7 trivial))))))))) (ih5 _ _ _ _ h K q) (by kernel_rfl)
  ·rw [if_neg b0] at h
   replace b0:=bf_ b0
   subst h
   exact AtV.ret Tryz.func11 tabOk ext11Ok mixed false [] tys11 [false] (a1 b0 trivial) (by kernel_rfl)
def known11 (x0:List TyB3):List TyB3:=g21c23_0 (g22_0 x0)
def g11_0 (x0:List TyB3):List Int:=(known11 x0).foldl (fun h x=>bump1 h x.1) [g25_0 (known11 x0),0,0,0,0,0,0]
def P11 (x0:List TyB3):Prop:=x0.length≤1048576
theorem kind11 (k:Int):g24_0 k=true↔1≤k∧k≤6:=by
 unfold g24_0 g52_0
 by_cases h:1≤k
 ·rw [if_pos (by simpa using h)];simp [h]
 ·rw [if_neg (by simpa using h)];simp [h]
theorem known_eq11 (x0:List TyB3):known11 x0=x0.filter fun x=>g24_0 x.1:=by
 unfold known11 g21c23_0 g22_0 g23_0
 simp
def Inv11 (i:Nat) (h:List Int):Prop:=h.length=7∧∀ c∈h,0≤c∧c≤((1048576+i:Nat):Int)
theorem top11 (x0:List TyB3) (hm0:x0.length≤1048576):∃ n,R11 n x0 [⟨.sl (.int .i64),g11_0 x0⟩]:=by
 have hkl:(known11 x0).length≤1048576:=by
  rw [known_eq11]
  exact Nat.le_trans (List.length_filter_le _ _) hm0
 have hkk:∀ x∈known11 x0,1≤x.1∧x.1≤6:=by
  intro x hx
  rw [known_eq11] at hx
  exact (kind11 _).1 (List.mem_filter.1 hx).2
 have hm:(known11 x0).length≤maxLen:=by unfold maxLen;omega
 refine ⟨(known11 x0).length+1+1,?_⟩
 rw [R11]
 refine ⟨hm0,?_⟩
 refine loop_fold (b:=[g25_0 (known11 x0),0,0,0,0,0,0]) (known11 x0) ((0:Int),ByteArray.empty,ByteArray.empty,()) (fun h x=>bump1 h x.1) (fun h=>[(⟨.sl (.int .i64),h⟩:Dyn)]) Inv11 (fun n i h ds=>R11_5 n i h x0 ds) ⟨rfl,?_⟩ (fun n h hh => ?_) (fun n i h hi hh => ?_)
 ·intro c hc
  unfold g25_0 at hc
  simp only [List.mem_cons,List.not_mem_nil,or_false] at hc
  omega
 ·show R11_5 (n+1) (known11 x0).length h x0 _
  rw [R11_5,if_neg (by simp [known11])]
 ·obtain ⟨h7,hc⟩:=hh
  have hmem:=hkk _ (mem_getD (known11 x0) i ((0:Int),ByteArray.empty,ByteArray.empty,()) hi)
  show Inv11 (i+1) (bump1 h ((known11 x0).getD i ((0:Int),ByteArray.empty,ByteArray.empty,())).1)∧_
  have hx:List.getD (g21c23_0 (g22_0 x0)) i ((0:Int),ByteArray.empty,ByteArray.empty,())=(known11 x0).getD i ((0:Int),ByteArray.empty,ByteArray.empty,()):=rfl
  have hl:List.length (g21c23_0 (g22_0 x0))=(known11 x0).length:=rfl
  generalize (known11 x0).getD i ((0:Int),ByteArray.empty,ByteArray.empty,())=x at *
  obtain ⟨k1,k6⟩:=hmem
  have hc1:=bump1_all hc x.1
  refine ⟨⟨by rw [bump1_length];exact h7,fun c hm'=>by have:=hc1 c hm';omega⟩,fun ds hr => ?_⟩
  rw [R11_5]
  simp only [Int.toNat_natCast,hx,hl]
  rw [if_pos (by simp;omega)]
  have b1:=getD_all (by omega) hc x.1.toNat
  exact ⟨by omega,by omega,by omega,by rw [h7];omega,by rw [i64_iff];omega,by omega,by rw [h7];omega,inR_up hm hi,hr⟩
def S11:Am.Spec:={ sig:=sig11,pre:=fun ⟨x0,_⟩=>P11 x0,res:=fun ⟨x0,_⟩=>[⟨.sl (.int .i64),g11_0 x0⟩] }
theorem con11:Contract Tryz.prog 11 S11:=contract_of Tryz.func11 hb11 (bl_ (by kernel_rfl)) (fun ⟨x0,_⟩ h hwf K q=>by
 obtain ⟨n,hn⟩:=top11 x0 h
 exact (snd11 n).1 x0 _ hn K q)
end
noncomputable section
def ext13:Ext:=[(24,S24)]
theorem ext13Ok:ExtOk Tryz.prog ext13:=⟨⟨ca24,con24⟩,trivial⟩
noncomputable def b13:Code:=bodyOf Tryz.f13
theorem hb13:Tryz.f13.body=some b13:=by kernel_rfl
def sig13:List AT:=[AT.v (.int .i64)]
def tys13:List Ty:=[.str]
def kds13:List RK:=[]
def oks13:List AT:=owns sig13
def P13 (x0:Int):Prop:=(if (!g24_0 x0)=true then True else ((InR .i64 (x0 - 1))∧((0≤x0 - 1)∧(x0 - 1<6)∧True)))
def g13_0 (x0:Int):ByteArray:=(if (!g24_0 x0)=true then ByteArray.mk #[] else List.getD [ByteArray.mk #[116,114,97,99,107],ByteArray.mk #[98,114,97,107,101],ByteArray.mk #[108,111,97,100],ByteArray.mk #[99,104,101,99,107],ByteArray.mk #[116,117,114,110],ByteArray.mk #[115,101,97,108]] (Int.toNat (x0 - 1)) ByteArray.empty)
theorem at13 (x0:Int) (h:P13 x0) (K:Ctx) (q:Nat→Value):AtV Tryz.prog 13 (PostR kds13 oks13 [⟨.str,g13_0 x0⟩] [] [] q K) 11 K q [] [.code b13] (entE 0 0 sig13 (x0,())) (entL sig13 (x0,())):=by
 unfold P13 at h
 unfold g13_0
 by_cases b0:(!g24_0 x0)=true
 ·try simp only [if_pos b0] at h ⊢
  exact AtV.ret Tryz.func13 tabOk ext13Ok mixed false [] tys13 [true] (a1 trivial (a1 b0 trivial)) (by kernel_rfl)
 ·try simp only [if_neg b0] at h ⊢
  replace b0:=bf_ b0
  obtain ⟨s0,h⟩:=h
  obtain ⟨s1,s2,h⟩:=h
  exact AtV.ret Tryz.func13 tabOk ext13Ok mixed false [] tys13 [false] (a1 trivial (a1 b0 (a1 s0 (a1 s1 (a1 s2 trivial))))) (by kernel_rfl)
def S13:Am.Spec:={ sig:=sig13,pre:=fun ⟨x0,_⟩=>P13 x0,res:=fun ⟨x0,_⟩=>[⟨.str,g13_0 x0⟩],kds:=kds13 }
theorem con13:Contract Tryz.prog 13 S13:=contract_of Tryz.func13 hb13 (bl_ (by kernel_rfl)) (fun ⟨x0,_⟩ h _ K q=>at13 x0 h K q)
end
noncomputable section
def ext12:Ext:=[(24,S24),(13,S13)]
theorem ext12Ok:ExtOk Tryz.prog ext12:=⟨⟨ca24,con24⟩,⟨ca13,con13⟩,trivial⟩
noncomputable def b12:Code:=bodyOf Tryz.f12
theorem hb12:Tryz.f12.body=some b12:=by kernel_rfl
def sig12:List AT:=[AT.v YA9]
def tys12:List Ty:=[.str]
def kds12:List RK:=[]
def oks12:List AT:=owns sig12
def P12 (x0:Int×ByteArray×ByteArray×Unit):Prop:=(if (!g24_0 x0.1)=true then True else ((P13 x0.1)∧((ByteArray.size (g13_0 x0.1)+1≤9223372036854775807)∧((ByteArray.size (g13_0 x0.1++ByteArray.mk #[32])+ByteArray.size x0.2.1≤9223372036854775807)∧((ByteArray.size (g13_0 x0.1++ByteArray.mk #[32]++x0.2.1)+1≤9223372036854775807)∧((ByteArray.size (g13_0 x0.1++ByteArray.mk #[32]++x0.2.1++ByteArray.mk #[32])+ByteArray.size x0.2.2.1≤9223372036854775807)∧True))))))
def g12_0 (x0:Int×ByteArray×ByteArray×Unit):ByteArray:=(if (!g24_0 x0.1)=true then ByteArray.mk #[] else g13_0 x0.1++ByteArray.mk #[32]++x0.2.1++ByteArray.mk #[32]++x0.2.2.1)
theorem at12 (x0:Int×ByteArray×ByteArray×Unit) (h:P12 x0) (K:Ctx) (q:Nat→Value):AtV Tryz.prog 12 (PostR kds12 oks12 [⟨.str,g12_0 x0⟩] [] [] q K) 18 K q [] [.code b12] (entE 0 0 sig12 (x0,())) (entL sig12 (x0,())):=by
 unfold P12 at h
 unfold g12_0
 by_cases b0:(!g24_0 x0.1)=true
 ·try simp only [if_pos b0] at h ⊢
  exact AtV.ret Tryz.func12 tabOk ext12Ok mixed false [] tys12 [true] (a1 trivial (a1 b0 trivial)) (by kernel_rfl)
 ·try simp only [if_neg b0] at h ⊢
  replace b0:=bf_ b0
  obtain ⟨s0,h⟩:=h
  obtain ⟨s1,h⟩:=h
  obtain ⟨s2,h⟩:=h
  obtain ⟨s3,h⟩:=h
  obtain ⟨s4,h⟩:=h
  exact AtV.ret Tryz.func12 tabOk ext12Ok mixed false [] tys12 [false] (a1 trivial (a1 b0 (a1 s0 (a1 s1 (a1 s2 (a1 s3 (a1 s4 trivial))))))) (by kernel_rfl)
def S12:Am.Spec:={ sig:=sig12,pre:=fun ⟨x0,_⟩=>P12 x0,res:=fun ⟨x0,_⟩=>[⟨.str,g12_0 x0⟩],kds:=kds12 }
theorem con12:Contract Tryz.prog 12 S12:=contract_of Tryz.func12 hb12 (bl_ (by kernel_rfl)) (fun ⟨x0,_⟩ h _ K q=>at12 x0 h K q)
end
theorem bl_none {α β:Type} (f:Nat→α→List β):∀ (l:List α) (i:Nat),bl f i l=[]→∀ (j:Nat) (y:α),l[j]? = some y→f (i+j) y=[]
 | [],_,_,j,y,h=>by simp at h
 | x :: r,i,h,0,y,hy=>by
  simp only [bl,List.append_eq_nil_iff] at h
  cases hy
  exact h.1
 | x :: r,i,h,j+1,y,hy=>by
  simp only [bl,List.append_eq_nil_iff] at h
  have:=bl_none f r (i+1) h.2 j y (by simpa using hy)
  rw [show i+(j+1)=i+1+j by omega]
  exact this
theorem name_eq (s:ByteArray):g120_0 s=g93_0 s:=by
 have hs:∀ c,g116_0 c=(decide (97≤c)&&decide (c≤122)):=fun c=>by
  unfold g116_0
  by_cases h1:(97:Int)≤c <;> simp [h1]
 have hd:∀ c,g117_0 c=(decide (48≤c)&&decide (c≤57)):=fun c=>by
  unfold g117_0
  by_cases h1:(48:Int)≤c <;> simp [h1]
 unfold g120_0 g93_0
 have hl:=bytesOf_length s
 by_cases h1:1≤s.size
 ·cases hb:bytesOf s with
  | nil=>rw [hb] at hl;simp at hl;omega
  | cons c r =>
   have hr:allI ok120 1 r=r.all fun b=>g116_0 b||g117_0 b:=by
    rw [← allI_plain (fun b=>g116_0 b||g117_0 b) r 1]
    refine allI_congr r 1 fun j x hj => ?_
    have:(j==0)=false:=by simp;omega
    simp only [ok120,this,hs,hd,Bool.not_false,Bool.true_and]
   have h0:ok120 0 c=g116_0 c:=by simp [ok120,hs]
   simp only [allI,hr,h0,List.all_cons,List.getD_cons_zero]
   cases g116_0 c <;> simp
 ·simp [h1]
theorem bl_asym {x y:List UInt8} (h:Op.bytesLess x y=true):Op.bytesLess y x=false:=by
 cases h2:Op.bytesLess y x with
 | false=>rfl
 | true =>
  have:=bl_trans x y x h h2
  rw [bl_irrefl] at this
  cases this
theorem le_not (a b:ByteArray):(!(Op.bytesLess (ByteArray.toList a) (ByteArray.toList b)||ByteArray.toList a==ByteArray.toList b))=Op.bytesLess (ByteArray.toList b) (ByteArray.toList a):=by
 generalize ByteArray.toList a=x
 generalize ByteArray.toList b=y
 cases h1:Op.bytesLess x y with
 | true=>rw [bl_asym h1];rfl
 | false =>
  cases h2:(x==y) with
  | true =>
   have:x=y:=by simpa using h2
   subst this
   rw [bl_irrefl];rfl
  | false =>
   cases h3:Op.bytesLess y x with
   | true=>rfl
   | false =>
    have:=bl_tri x y h1 h3
    subst this
    simp at h2
theorem allI_mem {α:Type} {p:Nat→α→Bool}:∀ (l:List α) (i:Nat),allI p i l=true→∀ x∈l,∃ j,p j x=true
 | [],_,_,x,hx=>by cases hx
 | y :: r,i,h,x,hx=>by
  simp only [allI,Bool.and_eq_true] at h
  rcases List.mem_cons.1 hx with rfl | hx
  ·exact ⟨i,h.1⟩
  ·exact allI_mem r (i+1) h.2 x hx
theorem one_Group (x:TyB1):g97_0 x=g61_0 x:=by
 unfold g97_0 g61_0
 rw [name_eq]
 rfl
theorem list_Group (xs:List TyB1):g73_0 xs=g36_0 xs:=by
 unfold g73_0 g36_0
 congr 1
 refine allI_congr xs 0 fun j y _ => ?_
 unfold ok73 ok36
 rw [one_Group,le_not]
theorem one_Check (x:TyB0):g121_0 x=g94_0 x:=by
 unfold g121_0 g94_0
 rw [name_eq]
 rfl
theorem list_Check (xs:List TyB0):g99_0 xs=g62_0 xs:=by
 unfold g99_0 g62_0
 congr 1
 refine allI_congr xs 0 fun j y _ => ?_
 unfold ok99 ok62
 rw [one_Check,le_not]
theorem word_eq (w : ByteArray) : g139_0 w = g119_0 w := by
  have hb : ∀ b : Int, (!g150_0 b) = ok119 b := fun b => by
    unfold g150_0 ok119 g117_0
    by_cases h1 : b < 97 <;> by_cases h2 : b > 122 <;> by_cases h3 : b < 48 <;> by_cases h4 : b > 57 <;>
      first
        | omega
        | (have e1 : (97 ≤ b) ↔ ¬ b < 97 := by omega
           have e2 : (b ≤ 122) ↔ ¬ b > 122 := by omega
           have e3 : (b ≥ 48) ↔ ¬ b < 48 := by omega
           have e4 : (b ≤ 57) ↔ ¬ b > 57 := by omega
           simp [e1, e2, e3, e4, h1, h2, h3, h4])
  have ha : (!g149c150_0 (bytesOf w)) = (bytesOf w).all ok119 := by
    unfold g149c150_0
    rw [any157c150]
    induction bytesOf w with
    | nil => rfl
    | cons b r ih => rw [List.any_cons, List.all_cons, Bool.not_or, ih, hb]
  unfold g139_0 g119_0
  rw [ha]
  by_cases h : w = ByteArray.mk #[]
  · subst h
    have h1 : (ByteArray.toList (ByteArray.mk #[]) == ByteArray.toList (ByteArray.mk #[])) = true := beq_self_eq_true _
    have h2 : decide (((ByteArray.mk #[]).size : Int) > 0) = false := by decide
    rw [h1, h2, Bool.and_false]
    rfl
  · have h1 : (ByteArray.toList w == ByteArray.toList (ByteArray.mk #[])) = false := by
      rw [Bool.eq_false_iff]; exact fun hh => h ((bytes_eq _ _).1 hh)
    have h2 : decide ((w.size : Int) > 0) = true := by
      refine decide_eq_true ?_
      rcases Nat.lt_or_ge 0 w.size with h3 | h3
      · omega
      · exact absurd (bytesOf_inj (s := w) (t := ByteArray.mk #[]) (List.eq_nil_of_length_eq_zero (by rw [bytesOf_length]; omega))) h
    rw [h1, h2, Bool.and_true]
    rfl
theorem text_eq (s:ByteArray):g124_0 s=g96_0 s:=by
 have e:g137_0 s (ByteArray.mk #[32])=g118_0 s 32:=splitB_one 32 s
 have hw:∀ w,(!g138_0 w)=g119_0 w:=fun w=>by
  unfold g138_0
  rw [Bool.not_not,word_eq]
 have ha:∀ l:List ByteArray,(!g136c138_0 l)=l.all g119_0:=fun l=>by
  unfold g136c138_0
  rw [any147c138]
  induction l with
  | nil=>rfl
  | cons b r ih=>rw [List.any_cons,List.all_cons,Bool.not_or,ih,hw]
 unfold g124_0 g96_0
 rw [e,ha]
 by_cases h0:s.size=0
 ·have hn:s.data.toList=[]:=List.eq_nil_of_length_eq_zero h0
  have es:g118_0 s 32=[⟨⟨[]⟩⟩]:=by
   show bss (splitC (32:UInt8) s.data.toList)=_
   rw [hn];rfl
  rw [es]
  have ew:g119_0 ⟨⟨[]⟩⟩=false:=rfl
  simp [h0,ew]
 ·by_cases h1:(s.size:Int)≤40
  ·have h2:¬ (s.size:Int)>40:=by omega
   have h3:(((s.size:Nat):Int)==0)=false:=by rw [beq_eq_false_iff_ne];omega
   rw [decide_eq_true h1,decide_eq_false h2,h3]
   rfl
  ·have h2:(s.size:Int)>40:=by omega
   rw [decide_eq_false h1,decide_eq_true h2]
   simp
theorem one_Line (x:Int×Int×ByteArray×Int×Unit):g105_0 x=g68_0 x:=by
 unfold g105_0 g68_0
 rw [text_eq]
 rfl
theorem list_Line (xs:List TyB2):g78_0 xs=g40_0 xs:=by
 unfold g78_0 g40_0
 congr 1
 refine allI_congr xs 0 fun j y _ => ?_
 unfold ok78 ok40
 rw [one_Line]
 rfl
theorem track_eq (x:List TyB4×Int×Int×Unit):g69_0 x=g32_0 x:=rfl
theorem brake_eq (x:Int×Int×Unit):g71_0 x=g34_0 x:=rfl
theorem profile_eq (x:Int×Int×Int×Int×Unit):g72_0 x=g35_0 x:=rfl
theorem room_eq (x:Int×Int×Int×Unit):g74_0 x=g37_0 x:=rfl
theorem list_Ride (x:List TyB4):g76_0 x=g66_0 x:=rfl
theorem insp_eq (xs:List TyB0) (d r:Int):g75_0 xs d r 0=g38_0 xs d r:=by
 have h0:g100_0 0=true:=rfl
 have ha:g102c103_0 xs d r = !xs.all (q38 d r):=by
  unfold g102c103_0
  rw [any122c103]
  induction xs with
  | nil=>rfl
  | cons x l ih =>
   have hx:g103_0 x d r = !q38 d r x:=by
    unfold g103_0 q38 g65_0
    by_cases h1:x.2.2.2.1>d
    ·have h1':¬ x.2.2.2.1≤d:=by omega
     simp [h1,h1']
    ·have h1':x.2.2.2.1≤d:=by omega
     by_cases h2:x.2.2.2.2.1>r
     ·have h2':¬ x.2.2.2.2.1≤r:=by omega
      simp [h1,h1',h2,h2']
     ·have h2':x.2.2.2.2.1≤r:=by omega
      simp [h1,h1',h2,h2']
   rw [List.any_cons,List.all_cons,Bool.not_and,ih,hx]
 unfold g75_0 g38_0
 rw [ha,list_Check,h0]
 have e1:g101_0 d=g63_0 d:=rfl
 have e2:g100_0 r=g64_0 r:=rfl
 rw [e1,e2]
 cases g62_0 xs <;> cases g63_0 d <;> cases g64_0 r <;> cases xs.all (q38 d r) <;> rfl
theorem ask_ride (xs:List TyB4) (t:Int):(g39_0 xs t==0)=(g66_0 xs&&g77_0 t):=by
 unfold g39_0
 have e:g77_0 t=g67_0 t:=rfl
 rw [e]
 cases g66_0 xs <;> cases g67_0 t <;> rfl
theorem valid_works (x:(TyA0)):g41_0 x=g16_0 x:=by
 unfold g41_0 g16_0
 rw [track_eq,brake_eq,profile_eq,list_Group,room_eq,insp_eq,list_Ride,list_Line,ask_ride]
 have e:g70_0 x.2.1=g33_0 x.2.1:=rfl
 rw [e]
 generalize g38_0 x.2.2.2.2.2.2.1 x.2.2.2.2.2.2.2.1 x.2.2.2.2.2.2.2.2.1=n
 cases g32_0 x.1 <;> cases g33_0 x.2.1 <;> cases g34_0 x.2.2.1 <;> simp
 cases g35_0 x.2.2.2.1 <;> cases g36_0 x.2.2.2.2.1 <;> cases g37_0 x.2.2.2.2.2.1 <;> simp
 by_cases hn:n=0
 ·simp only [hn,if_true]
  simp [Bool.and_assoc]
 ·simp [hn]
theorem within_m {n a b:Int} (h:g52_0 n a b=true):a≤n∧n≤b:=by
 unfold g52_0 at h
 split at h
 ·rename_i h1
  simp only [decide_eq_true_eq] at h h1
  exact ⟨h1,h⟩
 ·cases h
theorem track_ok {t:List TyB4×Int×Int×Unit} (h:g69_0 t=true):(1≤t.1.length∧t.1.length≤12)∧(∀ x∈t.1,(1≤x.1∧x.1≤3000000)∧(0≤x.2.1∧x.2.1≤900))∧(0≤g80_0 t∧g80_0 t≤3000000)∧(0≤t.2.1∧t.2.1≤g80_0 t)∧(t.2.1≤t.2.2.1∧t.2.2.1≤g80_0 t):=by
 unfold g69_0 at h
 simp only [Bool.and_eq_true,decide_eq_true_eq] at h
 obtain ⟨⟨h1,h2,h3⟩,h4⟩:=h
 have hx:∀ x∈t.1,(1≤x.1∧x.1≤3000000)∧(0≤x.2.1∧x.2.1≤900):=fun x hx=>by
  have:=List.all_eq_true.1 h1 x hx
  unfold ok69 at this
  rw [Bool.and_eq_true] at this
  exact ⟨within_m this.1,within_m this.2⟩
 have hs:=sum80_le t.1 (fun x hm=>by have:=hx x hm;omega)
 unfold fine69 at h4
 split at h4
 ·rename_i h5
  split at h4
  ·rename_i h6
   exact ⟨⟨h2,h3⟩,hx,⟨hs.1,of_decide_eq_true h5⟩,within_m h6,within_m h4⟩
  ·cases h4
 ·cases h4
theorem brake_ok {b:Int×Int×Unit} (h:g71_0 b=true):(0≤b.1∧b.1≤100)∧(1≤b.2.1∧b.2.1≤10000):=by
 unfold g71_0 at h
 split at h
 ·rename_i h1
  exact ⟨within_m h1,within_m h⟩
 ·cases h
theorem profile_ok {p:Int×Int×Int×Int×Unit} (h:g72_0 p=true):(1≤p.1∧p.1≤2000)∧(100≤p.2.1∧p.2.1≤15000)∧(100≤p.2.2.1∧p.2.2.1≤p.2.1)∧(0≤p.2.2.2.1∧p.2.2.2.1≤3000000):=by
 unfold g72_0 g70_0 at h
 split at h
 ·rename_i h1
  split at h
  ·rename_i h2
   split at h
   ·rename_i h3
    exact ⟨within_m h1,within_m h2,within_m h3,within_m h⟩
   ·cases h
  ·cases h
 ·cases h
theorem mul_bd {a b A B:Int} (ha:0≤a) (ha2:a≤A) (hb:0≤b) (hb2:b≤B):0≤a*b∧a*b≤A*B :=
 ⟨Int.mul_nonneg ha hb,Int.mul_le_mul ha2 hb2 hb (Int.le_trans ha ha2)⟩
theorem notT {b y:Bool} (h:(if (!b)=true then false else y)=true):b=true∧y=true:=by cases b <;> simp_all
theorem neT {n:Int} {y:Bool} (h:(if (n != 0)=true then false else y)=true):n=0∧y=true:=by
 by_cases hn:n=0
 ·subst hn;exact ⟨rfl,h⟩
 ·rw [if_pos (by simpa using hn)] at h;cases h
theorem eqT {n:Int} {y:Bool} (h:(if (n==0)=true then y else false)=true):n=0∧y=true:=by
 by_cases hn:n=0
 ·subst hn;exact ⟨rfl,h⟩
 ·rw [if_neg (by simpa using hn)] at h;cases h
theorem works_ok (x:(TyA0)) (h:g16_0 x=true):g32_0 x.1=true∧g33_0 x.2.1=true∧g34_0 x.2.2.1=true∧g35_0 x.2.2.2.1=true∧g36_0 x.2.2.2.2.1=true∧g37_0 x.2.2.2.2.2.1=true∧g38_0 x.2.2.2.2.2.2.1 x.2.2.2.2.2.2.2.1 x.2.2.2.2.2.2.2.2.1=0∧g39_0 x.2.2.2.2.2.2.2.2.2.1 x.2.2.2.2.2.2.2.2.2.2.1=0∧g40_0 x.2.2.2.2.2.2.2.2.2.2.2.1=true:=by
 unfold g16_0 at h
 obtain ⟨h1,h⟩:=notT h
 obtain ⟨h2,h⟩:=notT h
 obtain ⟨h3,h⟩:=notT h
 obtain ⟨h4,h⟩:=notT h
 obtain ⟨h5,h⟩:=notT h
 obtain ⟨h6,h⟩:=notT h
 obtain ⟨h7,h⟩:=neT h
 obtain ⟨h8,h⟩:=eqT h
 exact ⟨h1,h2,h3,h4,h5,h6,h7,h8,h⟩
end Go.Proofs.YtpojfdgfpamapaaGreatDoor
