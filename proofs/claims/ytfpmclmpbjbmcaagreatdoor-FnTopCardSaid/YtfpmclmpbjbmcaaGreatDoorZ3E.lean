/- Several texts in one: the functions that this law reaches, and their laws. -/
import Derived.Test.YtfpmclmpbjbmcaaGreatDoorZ3A
import Derived.Test.YtfpmclmpbjbmcaaGreatDoorZ3B
import Derived.Test.YtfpmclmpbjbmcaaGreatDoorZ3C
import Derived.Test.YtfpmclmpbjbmcaaGreatDoorZ3D
import Derived.WalkKit
import Derived.Lib.Walk
import Derived.Lib.SliceRun
import Derived.Laws.AppendOwn
import Derived.Laws.OwnMore
import Derived.Deep.LoopGhost
import Derived.Shelf.RegionOpenPlain
set_option linter.unusedVariables false
set_option linter.unusedSimpArgs false
set_option maxRecDepth 100000
namespace Go.Proofs.YtfpmclmpbjbmcaaGreatDoor
open Go Go.Am Go.Proofs
noncomputable section
def ext171c162:Ext:=[(162,S162)]
theorem ext171c162Ok:ExtOk Tryz.prog ext171c162:=⟨⟨ca162,con162⟩,trivial⟩
noncomputable def b171c162:Code:=bodyOf Tryz.f171
theorem hb171c162:Tryz.f171.body=some b171c162:=by kernel_rfl
def sig171c162:List AT:=[AT.v (.sl .str),AT.fn 162 []]
def tys171c162:List Ty:=[.int .i64]
def kds171c162:List RK:=[]
def oks171c162:List AT:=owns sig171c162
def E171c162_2 (v8:Int) (x0:List ByteArray):Env:=[(0,.a (.sl .str x0)),(1,PV.fn 162 []),(7,.a (.val (.int .i64 (x0.length:Int)))),(8,.a (.val (.int .i64 v8)))]
def L171c162_2 (v8:Int) (x0:List ByteArray):Heap:=[]
mutual
def R171c162:Nat→List ByteArray→List Dyn→Prop
 | 0,_,_=>False
 | n+1,x0,ds=>(R171c162_2 n (0) (x0) ds)
def R171c162_2:Nat→Int→List ByteArray→List Dyn→Prop
 | 0,_,_,_=>False
 | n+1,v8,x0,ds=>(if (decide (v8<(x0.length:Int)))=true then ((0≤v8)∧(v8<(x0.length:Int))∧(if (g162_0 (List.getD x0 (Int.toNat v8) ByteArray.empty))=true then (ds=[Dyn.mk (.int .i64) v8]) else ((InR .i64 (v8+1))∧(R171c162_2 n (v8+1) (x0) ds)))) else (ds=[Dyn.mk (.int .i64) (-1)]))
end
theorem snd171c162:∀ n,(∀ (x0:List ByteArray) ds,R171c162 n x0 ds→∀ K q,AtV Tryz.prog 171 (PostR kds171c162 oks171c162 ds [] [] q K) 19 K q [] [.code b171c162] (entE 0 0 sig171c162 (x0,(),())) (entL sig171c162 (x0,(),())))∧(∀ (v8:Int) (x0:List ByteArray) ds,R171c162_2 n v8 x0 ds→∀ K q,AtV Tryz.prog 171 (PostR kds171c162 oks171c162 ds [] [] q K) 19 K q [] (cutAt b171c162 2) (E171c162_2 v8 x0) (L171c162_2 v8 x0)):=by
 intro n
 induction n with
 | zero=>exact ⟨fun _ _ h=>by simp only [R171c162] at h,fun _ _ _ h=>by simp only [R171c162_2] at h⟩
 | succ n ih =>
 obtain ⟨ih,ih2⟩:=ih
 refine ⟨?_,?_⟩
 ·intro x0 ds h K q
  rw [R171c162] at h
  exact AtV.go tabOk ext171c162Ok mixed false [] [] [0,1,7,8] [] [] trivial (ih2 _ _ _ h K q) (by kernel_rfl)
 ·intro v8 x0 ds h K q
  rw [R171c162_2] at h
  by_cases b0:(decide (v8<(x0.length:Int)))=true
  ·rw [if_pos b0] at h
   obtain ⟨s0,s1,h⟩:=h
   by_cases b1:(g162_0 (List.getD x0 (Int.toNat v8) ByteArray.empty))=true
   ·rw [if_pos b1] at h
    subst h
    exact AtV.ret Tryz.func171 tabOk ext171c162Ok mixed false [] tys171c162 [true,true] (a1 b0 (a1 s0 (a1 s1 (a1 trivial (a1 b1 trivial))))) (by kernel_rfl)
   ·rw [if_neg b1] at h
    replace b1:=bf_ b1
    obtain ⟨s2,h⟩:=h
    exact AtV.go tabOk ext171c162Ok mixed false [] [] [0,1,7,8] [] [true,false] (a1 b0 (a1 s0 (a1 s1 (a1 trivial (a1 b1 (a1 s2 trivial)))))) (ih2 _ _ _ h K q) (by kernel_rfl)
  ·rw [if_neg b0] at h
   replace b0:=bf_ b0
   subst h
   exact AtV.ret Tryz.func171 tabOk ext171c162Ok mixed false [] tys171c162 [false] (a1 b0 trivial) (by kernel_rfl)
def g171c162_0 (x0:List (ByteArray)):Int:=idx (x0.findIdx? g162_0)
def P171c162 (x0:List (ByteArray)):Prop:=True
theorem top171c162 (x0:List (ByteArray)) (hm:x0.length≤maxLen):R171c162 (x0.length+1+1) x0 [⟨.int .i64,g171c162_0 x0⟩]:=by
 rw [R171c162]
 have key:=loop_find x0 ByteArray.empty g162_0 [(⟨.int .i64, -1⟩:Dyn)] (fun k=>[⟨.int .i64,k⟩]) (fun n i ds=>R171c162_2 n i x0 ds) (fun n => ?_) (fun n i hi hok ds hr => ?_) (fun n i hi hok => ?_)
 ·unfold g171c162_0
  cases h:x0.findIdx? g162_0 <;> rw [h] at key <;> exact key
 ·rw [R171c162_2,if_neg (by simp)]
 ·rw [R171c162_2,if_pos (by simp;omega)]
  simp only [Int.toNat_natCast]
  refine ⟨by omega,by omega,?_⟩
  rw [if_neg (by rw [hok];simp)]
  exact ⟨inR_up hm hi,hr⟩
 ·rw [R171c162_2,if_pos (by simp;omega)]
  simp only [Int.toNat_natCast]
  refine ⟨by omega,by omega,?_⟩
  rw [if_pos hok] <;> trivial
def S171c162:Am.Spec:={ sig:=sig171c162,pre:=fun ⟨x0,_⟩=>P171c162 x0,res:=fun ⟨x0,_⟩=>[⟨.int .i64,g171c162_0 x0⟩] }
theorem con171c162:Contract Tryz.prog 171 S171c162:=contract_of Tryz.func171 hb171c162 (bl_ (by kernel_rfl)) (fun ⟨x0,_⟩ h hwf K q =>
 (snd171c162 _).1 x0 _ (top171c162 x0 hwf.1.1) K q)
theorem any171c162 (x0:List (ByteArray)):decide (g171c162_0 x0≥0)=x0.any g162_0:=by
 have:=findIdx_any g162_0 x0
 unfold g171c162_0
 cases h:x0.any g162_0 with
 | true=>rw [h] at this;simpa using this
 | false=>rw [h] at this;simpa using this
end
noncomputable section
def ext160c162:Ext:=[(171,S171c162),(162,S162)]
theorem ext160c162Ok:ExtOk Tryz.prog ext160c162:=⟨⟨ca171,con171c162⟩,⟨ca162,con162⟩,trivial⟩
noncomputable def b160c162:Code:=bodyOf Tryz.f160
theorem hb160c162:Tryz.f160.body=some b160c162:=by kernel_rfl
def sig160c162:List AT:=[AT.v (.sl .str),AT.fn 162 []]
def tys160c162:List Ty:=[.bool]
def kds160c162:List RK:=[]
def oks160c162:List AT:=owns sig160c162
def P160c162 (x0:List ByteArray):Prop:=True
def g160c162_0 (x0:List ByteArray):Bool:=decide (g171c162_0 x0≥0)
theorem at160c162 (x0:List ByteArray) (h:P160c162 x0) (K:Ctx) (q:Nat→Value):AtV Tryz.prog 160 (PostR kds160c162 oks160c162 [⟨.bool,g160c162_0 x0⟩] [] [] q K) 9 K q [] [.code b160c162] (entE 0 0 sig160c162 (x0,(),())) (entL sig160c162 (x0,(),())):=by
 unfold P160c162 at h
 unfold g160c162_0
 exact AtV.ret Tryz.func160 tabOk ext160c162Ok mixed false [] tys160c162 [] (a1 trivial trivial) (by kernel_rfl)
def S160c162:Am.Spec:={ sig:=sig160c162,pre:=fun ⟨x0,_⟩=>P160c162 x0,res:=fun ⟨x0,_⟩=>[⟨.bool,g160c162_0 x0⟩],kds:=kds160c162 }
theorem con160c162:Contract Tryz.prog 160 S160c162:=contract_of Tryz.func160 hb160c162 (bl_ (by kernel_rfl)) (fun ⟨x0,_⟩ h _ K q=>at160c162 x0 h K q)
end
noncomputable section
def ext147:Ext:=[(161,S161),(160,S160c162)]
theorem ext147Ok:ExtOk Tryz.prog ext147:=⟨⟨ca161,con161⟩,⟨ca160,con160c162⟩,trivial⟩
noncomputable def b147:Code:=bodyOf Tryz.f147
theorem hb147:Tryz.f147.body=some b147:=by kernel_rfl
def sig147:List AT:=[AT.v (.str)]
def tys147:List Ty:=[.bool]
def kds147:List RK:=[]
def oks147:List AT:=owns sig147
def P147 (x0:ByteArray):Prop:=(if (decide ((↑(ByteArray.size x0):Int)≤40))=true then ((P161 x0 (ByteArray.mk #[32]))∧True) else True)
def g147_0 (x0:ByteArray):Bool:=(if (decide ((↑(ByteArray.size x0):Int)≤40))=true then !g160c162_0 (g161_0 x0 (ByteArray.mk #[32])) else false)
theorem at147 (x0:ByteArray) (h:P147 x0) (K:Ctx) (q:Nat→Value):AtV Tryz.prog 147 (PostR kds147 oks147 [⟨.bool,g147_0 x0⟩] [] [] q K) 12 K q [] [.code b147] (entE 0 0 sig147 (x0,())) (entL sig147 (x0,())):=by
 unfold P147 at h
 unfold g147_0
 by_cases b0:(decide ((↑(ByteArray.size x0):Int)≤40))=true
 ·try simp only [if_pos b0] at h ⊢
  obtain ⟨s0,h⟩:=h
  exact AtV.ret Tryz.func147 tabOk ext147Ok mixed false [] tys147 [true] (a1 b0 (a1 s0 (a1 trivial trivial))) (by kernel_rfl)
 ·try simp only [if_neg b0] at h ⊢
  replace b0:=bf_ b0
  exact AtV.ret Tryz.func147 tabOk ext147Ok mixed false [] tys147 [false] (a1 b0 trivial) (by kernel_rfl)
def S147:Am.Spec:={ sig:=sig147,pre:=fun ⟨x0,_⟩=>P147 x0,res:=fun ⟨x0,_⟩=>[⟨.bool,g147_0 x0⟩],kds:=kds147 }
theorem con147:Contract Tryz.prog 147 S147:=contract_of Tryz.func147 hb147 (bl_ (by kernel_rfl)) (fun ⟨x0,_⟩ h _ K q=>at147 x0 h K q)
end
noncomputable section
def ext148:Ext:=[(116,S116)]
theorem ext148Ok:ExtOk Tryz.prog ext148:=⟨⟨ca116,con116⟩,trivial⟩
noncomputable def b148:Code:=bodyOf Tryz.f148
theorem hb148:Tryz.f148.body=some b148:=by kernel_rfl
def sig148:List AT:=[AT.v (.int .i64)]
def tys148:List Ty:=[.bool]
def kds148:List RK:=[]
def oks148:List AT:=owns sig148
def P148 (x0:Int):Prop:=True
def g148_0 (x0:Int):Bool:=g116_0 x0 0 65535
theorem at148 (x0:Int) (h:P148 x0) (K:Ctx) (q:Nat→Value):AtV Tryz.prog 148 (PostR kds148 oks148 [⟨.bool,g148_0 x0⟩] [] [] q K) 5 K q [] [.code b148] (entE 0 0 sig148 (x0,())) (entL sig148 (x0,())):=by
 unfold P148 at h
 unfold g148_0
 exact AtV.ret Tryz.func148 tabOk ext148Ok mixed false [] tys148 [] (a1 trivial trivial) (by kernel_rfl)
def S148:Am.Spec:={ sig:=sig148,pre:=fun ⟨x0,_⟩=>P148 x0,res:=fun ⟨x0,_⟩=>[⟨.bool,g148_0 x0⟩],kds:=kds148 }
theorem con148:Contract Tryz.prog 148 S148:=contract_of Tryz.func148 hb148 (bl_ (by kernel_rfl)) (fun ⟨x0,_⟩ h _ K q=>at148 x0 h K q)
end
noncomputable section
def ext125:Ext:=[(121,S121),(146,S146),(147,S147),(148,S148)]
theorem ext125Ok:ExtOk Tryz.prog ext125:=⟨⟨ca121,con121⟩,⟨ca146,con146⟩,⟨ca147,con147⟩,⟨ca148,con148⟩,trivial⟩
noncomputable def b125:Code:=bodyOf Tryz.f125
theorem hb125:Tryz.f125.body=some b125:=by kernel_rfl
def sig125:List AT:=[AT.v YA6]
def tys125:List Ty:=[.bool]
def kds125:List RK:=[]
def oks125:List AT:=owns sig125
def P125 (x0:Int×Int×ByteArray×Int×Unit):Prop:=(if (g121_0 x0.1)=true then (if (g146_0 x0.2.1)=true then ((P147 x0.2.2.1)∧True) else True) else True)
def g125_0 (x0:Int×Int×ByteArray×Int×Unit):Bool:=(if (g121_0 x0.1)=true then (if (g146_0 x0.2.1)=true then (if (g147_0 x0.2.2.1)=true then g148_0 x0.2.2.2.1 else false) else false) else false)
theorem at125 (x0:Int×Int×ByteArray×Int×Unit) (h:P125 x0) (K:Ctx) (q:Nat→Value):AtV Tryz.prog 125 (PostR kds125 oks125 [⟨.bool,g125_0 x0⟩] [] [] q K) 21 K q [] [.code b125] (entE 0 0 sig125 (x0,())) (entL sig125 (x0,())):=by
 unfold P125 at h
 unfold g125_0
 by_cases b0:(g121_0 x0.1)=true
 ·try simp only [if_pos b0] at h ⊢
  by_cases b1:(g146_0 x0.2.1)=true
  ·try simp only [if_pos b1] at h ⊢
   obtain ⟨s0,h⟩:=h
   by_cases b2:(g147_0 x0.2.2.1)=true
   ·try simp only [if_pos b2] at h ⊢
    exact AtV.ret Tryz.func125 tabOk ext125Ok mixed false [] tys125 [true,true,true] (a1 trivial (a1 b0 (a1 trivial (a1 b1 (a1 s0 (a1 b2 (a1 trivial trivial))))))) (by kernel_rfl)
   ·try simp only [if_neg b2] at h ⊢
    replace b2:=bf_ b2
    exact AtV.ret Tryz.func125 tabOk ext125Ok mixed false [] tys125 [true,true,false] (a1 trivial (a1 b0 (a1 trivial (a1 b1 (a1 s0 (a1 b2 trivial)))))) (by kernel_rfl)
  ·try simp only [if_neg b1] at h ⊢
   replace b1:=bf_ b1
   exact AtV.ret Tryz.func125 tabOk ext125Ok mixed false [] tys125 [true,false,false] (a1 trivial (a1 b0 (a1 trivial (a1 b1 (a1 (rfl:false=false) trivial))))) (by kernel_rfl)
 ·try simp only [if_neg b0] at h ⊢
  replace b0:=bf_ b0
  exact AtV.ret Tryz.func125 tabOk ext125Ok mixed false [] tys125 [false,false,false] (a1 trivial (a1 b0 (a1 (rfl:false=false) (a1 (rfl:false=false) trivial)))) (by kernel_rfl)
def S125:Am.Spec:={ sig:=sig125,pre:=fun ⟨x0,_⟩=>P125 x0,res:=fun ⟨x0,_⟩=>[⟨.bool,g125_0 x0⟩],kds:=kds125 }
theorem con125:Contract Tryz.prog 125 S125:=contract_of Tryz.func125 hb125 (bl_ (by kernel_rfl)) (fun ⟨x0,_⟩ h _ K q=>at125 x0 h K q)
end
noncomputable section
def ext126:Ext:=[]
theorem ext126Ok:ExtOk Tryz.prog ext126:=trivial
noncomputable def b126:Code:=bodyOf Tryz.f126
theorem hb126:Tryz.f126.body=some b126:=by kernel_rfl
def sig126:List AT:=[AT.v YA6,AT.v YA6]
def tys126:List Ty:=[.bool]
def kds126:List RK:=[]
def oks126:List AT:=owns sig126
def P126 (x0:Int×Int×ByteArray×Int×Unit) (x1:Int×Int×ByteArray×Int×Unit):Prop:=True
def g126_0 (x0:Int×Int×ByteArray×Int×Unit) (x1:Int×Int×ByteArray×Int×Unit):Bool:=(if (decide (x0.1>x1.1))=true then true else (if (x0.1==x1.1)=true then decide (x0.2.1>x1.2.1) else false))
theorem at126 (x0:Int×Int×ByteArray×Int×Unit) (x1:Int×Int×ByteArray×Int×Unit) (h:P126 x0 x1) (K:Ctx) (q:Nat→Value):AtV Tryz.prog 126 (PostR kds126 oks126 [⟨.bool,g126_0 x0 x1⟩] [] [] q K) 24 K q [] [.code b126] (entE 0 0 sig126 (x0,x1,())) (entL sig126 (x0,x1,())):=by
 unfold P126 at h
 unfold g126_0
 by_cases b0:(decide (x0.1>x1.1))=true
 ·try simp only [if_pos b0] at h ⊢
  exact AtV.ret Tryz.func126 tabOk ext126Ok mixed false [] tys126 [true] (a1 b0 trivial) (by kernel_rfl)
 ·try simp only [if_neg b0] at h ⊢
  replace b0:=bf_ b0
  by_cases b1:(x0.1==x1.1)=true
  ·try simp only [if_pos b1] at h ⊢
   exact AtV.ret Tryz.func126 tabOk ext126Ok mixed false [] tys126 [false,true] (a1 b0 (a1 b1 trivial)) (by kernel_rfl)
  ·try simp only [if_neg b1] at h ⊢
   replace b1:=bf_ b1
   exact AtV.ret Tryz.func126 tabOk ext126Ok mixed false [] tys126 [false,false] (a1 b0 (a1 b1 trivial)) (by kernel_rfl)
def S126:Am.Spec:={ sig:=sig126,pre:=fun ⟨x0,x1,_⟩=>P126 x0 x1,res:=fun ⟨x0,x1,_⟩=>[⟨.bool,g126_0 x0 x1⟩],kds:=kds126 }
theorem con126:Contract Tryz.prog 126 S126:=contract_of Tryz.func126 hb126 (bl_ (by kernel_rfl)) (fun ⟨x0,x1,_⟩ h _ K q=>at126 x0 x1 h K q)
end
noncomputable section
def ext94:Ext:=[(125,S125),(126,S126)]
theorem ext94Ok:ExtOk Tryz.prog ext94:=⟨⟨ca125,con125⟩,⟨ca126,con126⟩,trivial⟩
noncomputable def b94:Code:=bodyOf Tryz.f94
theorem hb94:Tryz.f94.body=some b94:=by kernel_rfl
def sig94:List AT:=[AT.v (.sl YA6)]
def tys94:List Ty:=[.bool]
def kds94:List RK:=[]
def oks94:List AT:=owns sig94
def E94_2 (v7:Int) (x0:List TyB2):Env:=[(0,.a (.sl YA6 x0)),(5,.a (.sl YA6 x0)),(6,.a (.val (.int .i64 (x0.length:Int)))),(7,.a (.val (.int .i64 v7)))]
def L94_2 (v7:Int) (x0:List TyB2):Heap:=[]
mutual
def R94:Nat→List TyB2→List Dyn→Prop
 | 0,_,_=>False
 | n+1,x0,ds=>(R94_2 n (0) (x0) ds)
def R94_2:Nat→Int→List TyB2→List Dyn→Prop
 | 0,_,_,_=>False
 | n+1,v7,x0,ds=>(if (decide (v7<(x0.length:Int)))=true then ((0≤v7)∧(v7<(x0.length:Int))∧((P125 (List.getD x0 (Int.toNat v7) (0,0,ByteArray.empty,0,())))∧(if (!g125_0 (List.getD x0 (Int.toNat v7) (0,0,ByteArray.empty,0,())))=true then (ds=[Dyn.mk .bool false]) else (if (decide (v7>0))=true then ((InR .i64 (v7 - 1))∧((0≤v7 - 1)∧(v7 - 1<(x0.length:Int))∧(if (g126_0 (List.getD x0 (Int.toNat (v7 - 1)) (0,0,ByteArray.empty,0,())) (List.getD x0 (Int.toNat v7) (0,0,ByteArray.empty,0,())))=true then (ds=[Dyn.mk .bool false]) else ((InR .i64 (v7+1))∧(R94_2 n (v7+1) (x0) ds))))) else ((InR .i64 (v7+1))∧(R94_2 n (v7+1) (x0) ds)))))) else (ds=[Dyn.mk .bool (decide ((x0.length:Int)≤40))]))
end
theorem snd94:∀ n,(∀ (x0:List TyB2) ds,R94 n x0 ds→∀ K q,AtV Tryz.prog 94 (PostR kds94 oks94 ds [] [] q K) 32 K q [] [.code b94] (entE 0 0 sig94 (x0,())) (entL sig94 (x0,())))∧(∀ (v7:Int) (x0:List TyB2) ds,R94_2 n v7 x0 ds→∀ K q,AtV Tryz.prog 94 (PostR kds94 oks94 ds [] [] q K) 32 K q [] (cutAt b94 2) (E94_2 v7 x0) (L94_2 v7 x0)):=by
 intro n
 induction n with
 | zero=>exact ⟨fun _ _ h=>by simp only [R94] at h,fun _ _ _ h=>by simp only [R94_2] at h⟩
 | succ n ih =>
 obtain ⟨ih,ih2⟩:=ih
 refine ⟨?_,?_⟩
 ·intro x0 ds h K q
  rw [R94] at h
  exact AtV.go tabOk ext94Ok mixed false [] [] [0,5,6,7] [] [] trivial (ih2 _ _ _ h K q) (by kernel_rfl)
 ·intro v7 x0 ds h K q
  rw [R94_2] at h
  by_cases b0:(decide (v7<(x0.length:Int)))=true
  ·rw [if_pos b0] at h
   obtain ⟨s0,s1,h⟩:=h
   obtain ⟨s2,h⟩:=h
   by_cases b1:(!g125_0 (List.getD x0 (Int.toNat v7) (0,0,ByteArray.empty,0,())))=true
   ·rw [if_pos b1] at h
    subst h
    exact AtV.ret Tryz.func94 tabOk ext94Ok mixed false [] tys94 [true,true,true] (a1 b0 (a1 s0 (a1 s1 (a1 s2 (a1 b1 (a1 (rfl:true=true) trivial)))))) (by kernel_rfl)
   ·rw [if_neg b1] at h
    replace b1:=bf_ b1
    by_cases b2:(decide (v7>0))=true
    ·rw [if_pos b2] at h
     obtain ⟨s3,h⟩:=h
     obtain ⟨s4,s5,h⟩:=h
     by_cases b3:(g126_0 (List.getD x0 (Int.toNat (v7 - 1)) (0,0,ByteArray.empty,0,())) (List.getD x0 (Int.toNat v7) (0,0,ByteArray.empty,0,())))=true
     ·rw [if_pos b3] at h
      subst h
      exact AtV.ret Tryz.func94 tabOk ext94Ok mixed false [] tys94 [true,false,true,true] (a1 b0 (a1 s0 (a1 s1 (a1 s2 (a1 b1 (a1 b2 (a1 s3 (a1 s4 (a1 s5 (a1 trivial (a1 b3 trivial))))))))))) (by kernel_rfl)
     ·rw [if_neg b3] at h
      replace b3:=bf_ b3
      obtain ⟨s6,h⟩:=h
      exact AtV.go tabOk ext94Ok mixed false [] [] [0,5,6,7] [] [true,false,true,false] (a1 b0 (a1 s0 (a1 s1 (a1 s2 (a1 b1 (a1 b2 (a1 s3 (a1 s4 (a1 s5 (a1 trivial (a1 b3 (a1 s6 trivial)))))))))))) (ih2 _ _ _ h K q) (by kernel_rfl)
    ·rw [if_neg b2] at h
     replace b2:=bf_ b2
     obtain ⟨s3,h⟩:=h
     exact AtV.go tabOk ext94Ok mixed false [] [] [0,5,6,7] [] [true,false,false,false] (a1 b0 (a1 s0 (a1 s1 (a1 s2 (a1 b1 (a1 b2 (a1 (rfl:false=false) (a1 s3 trivial)))))))) (ih2 _ _ _ h K q) (by kernel_rfl)
  ·rw [if_neg b0] at h
   replace b0:=bf_ b0
   subst h
   exact AtV.ret Tryz.func94 tabOk ext94Ok mixed false [] tys94 [false] (a1 b0 trivial) (by kernel_rfl)
def ok94 (x0:List TyB2) (i:Nat) (x:TyB2):Bool:=g125_0 x&&(i==0 || !g126_0 (x0.getD (i - 1) ((0:Int),(0:Int),ByteArray.empty,(0:Int),())) x)
def g94_0 (x0:List TyB2):Bool:=allI (ok94 x0) 0 x0&&decide ((x0.length:Int)≤40)
def P94 (x0:List TyB2):Prop:=True
theorem one94_pre (x:TyB2):P125 x:=by
 unfold P125
 split
 ·split
  ·refine ⟨?_,trivial⟩
   unfold P147
   split
   ·rename_i h
    have h:(x.2.2.1.size:Int)≤40:=by simpa using h
    have h':x.2.2.1.size≤281474976710656:=by omega
    repeat' (first | apply And.intro | exact trivial | split)
    all_goals (first | omega | decide | trivial)
   ·trivial
  ·trivial
 ·trivial
theorem step94 (n i:Nat) (x0:List TyB2) (hm:x0.length≤maxLen) (hi:i<x0.length) (ds:List Dyn)
  (h:if ok94 x0 i (x0.getD i ((0:Int),(0:Int),ByteArray.empty,(0:Int),()))=true then R94_2 n ((i:Int)+1) x0 ds else ds=[⟨.bool,false⟩]):R94_2 (n+1) (i:Int) x0 ds:=by
 have hu:=inR_up hm hi
 have hmx:maxLen≤9223372036854775807:=by decide
 rw [R94_2,if_pos (by simp only [decide_eq_true_eq];omega)]
 simp only [Int.toNat_natCast]
 refine ⟨by omega,by omega,one94_pre _,?_⟩
 unfold ok94 at h
 by_cases hv:g125_0 (x0.getD i ((0:Int),(0:Int),ByteArray.empty,(0:Int),()))=true
 case neg=>rw [bf_ hv] at h;rw [if_pos (by rw [bf_ hv];rfl)];simpa using h
 rw [if_neg (by rw [hv];simp)]
 rw [hv] at h
 by_cases h0:(i:Int)>0
 case neg =>
  rw [if_neg (by simpa using h0)]
  have hi0:(i==0)=true:=by simp;omega
  rw [hi0] at h
  exact ⟨hu,by simpa using h⟩
 rw [if_pos (by simpa using h0)]
 have hi0:(i==0)=false:=by simp;omega
 have e:((i:Int) - 1).toNat=i - 1:=by omega
 have hd:InR .i64 ((i:Int) - 1):=by rw [i64_iff];omega
 rw [hi0] at h
 simp only [e]
 refine ⟨hd,by omega,by omega,?_⟩
 by_cases c0:g126_0 (x0.getD (i - 1) ((0:Int),(0:Int),ByteArray.empty,(0:Int),())) (x0.getD i ((0:Int),(0:Int),ByteArray.empty,(0:Int),()))=true
 ·rw [if_pos c0]
  rw [c0] at h
  simpa using h
 ·rw [if_neg c0]
  rw [bf_ c0] at h
  exact ⟨hu,by simpa using h⟩
theorem top94 (x0:List TyB2) (hw:x0.length≤maxLen):R94 (x0.length+1+1) x0 [⟨.bool,g94_0 x0⟩]:=by
 rw [R94]
 have key:=loop_testI x0 ((0:Int),(0:Int),ByteArray.empty,(0:Int),()) (ok94 x0) [(⟨.bool,false⟩:Dyn)] [⟨.bool,decide ((x0.length:Int)≤40)⟩] (fun n i ds=>R94_2 n i x0 ds) (fun n => ?_) (fun n i hi hok ds hr => ?_) (fun n i hi hok => ?_)
 ·unfold g94_0
  cases h:allI (ok94 x0) 0 x0 with
  | true=>rw [if_pos h] at key;simpa using key
  | false=>rw [if_neg (by rw [h];simp)] at key;simpa using key
 ·rw [R94_2,if_neg (by simp)]
 ·exact step94 n i x0 hw hi ds (by rw [if_pos hok];exact hr)
 ·exact step94 n i x0 hw hi _ (by rw [if_neg (by rw [hok];simp)])
def S94:Am.Spec:={ sig:=sig94,pre:=fun ⟨x0,_⟩=>P94 x0,res:=fun ⟨x0,_⟩=>[⟨.bool,g94_0 x0⟩] }
theorem con94:Contract Tryz.prog 94 S94:=contract_of Tryz.func94 hb94 (bl_ (by kernel_rfl)) (fun ⟨x0,_⟩ h hwf K q =>
 (snd94 _).1 x0 _ (top94 x0 hwf.1.1) K q)
end
noncomputable section
def ext52:Ext:=[(85,S85),(86,S86),(87,S87),(88,S88),(89,S89),(90,S90),(91,S91),(92,S92),(93,S93),(94,S94)]
theorem ext52Ok:ExtOk Tryz.prog ext52:=⟨⟨ca85,con85⟩,⟨ca86,con86⟩,⟨ca87,con87⟩,⟨ca88,con88⟩,⟨ca89,con89⟩,⟨ca90,con90⟩,⟨ca91,con91⟩,⟨ca92,con92⟩,⟨ca93,con93⟩,⟨ca94,con94⟩,trivial⟩
noncomputable def b52:Code:=bodyOf Tryz.f52
theorem hb52:Tryz.f52.body=some b52:=by kernel_rfl
def sig52:List AT:=[AT.v YA0]
def tys52:List Ty:=[.bool]
def kds52:List RK:=[]
def oks52:List AT:=owns sig52
def P52 (x0:TyA0):Prop:=True
def g52_0 (x0:TyA0):Bool:=(if (g85_0 x0.1)=true then (if (g86_0 x0.2.1)=true then (if (g87_0 x0.2.2.1)=true then (if (g89_0 x0.2.2.2.2.1)=true then (if (g90_0 x0.2.2.2.2.2.1)=true then (if (g88_0 x0.2.2.2.1)=true then (if (g91_0 x0.2.2.2.2.2.2.1 x0.2.2.2.2.2.2.2.1 x0.2.2.2.2.2.2.2.2.1 0==0)=true then (if (g92_0 x0.2.2.2.2.2.2.2.2.2.1)=true then (if (g93_0 x0.2.2.2.2.2.2.2.2.2.2.1)=true then g94_0 x0.2.2.2.2.2.2.2.2.2.2.2.1 else false) else false) else false) else false) else (if (g88_0 x0.2.2.2.1)=true then false else false)) else (if (g88_0 x0.2.2.2.1)=true then false else false)) else (if (g89_0 x0.2.2.2.2.1)=true then (if (g90_0 x0.2.2.2.2.2.1)=true then false else false) else false)) else (if (g89_0 x0.2.2.2.2.1)=true then (if (g90_0 x0.2.2.2.2.2.1)=true then false else false) else false)) else (if (g89_0 x0.2.2.2.2.1)=true then (if (g90_0 x0.2.2.2.2.2.1)=true then false else false) else false))
theorem at52 (x0:TyA0) (h:P52 x0) (K:Ctx) (q:Nat→Value):AtV Tryz.prog 52 (PostR kds52 oks52 [⟨.bool,g52_0 x0⟩] [] [] q K) 60 K q [] [.code b52] (entE 0 0 sig52 (x0,())) (entL sig52 (x0,())):=by
 unfold P52 at h
 unfold g52_0
 by_cases b0:(g85_0 x0.1)=true
 ·try simp only [if_pos b0] at h ⊢
  by_cases b1:(g86_0 x0.2.1)=true
  ·try simp only [if_pos b1] at h ⊢
   by_cases b2:(g87_0 x0.2.2.1)=true
   ·try simp only [if_pos b2] at h ⊢
    by_cases b3:(g89_0 x0.2.2.2.2.1)=true
    ·try simp only [if_pos b3] at h ⊢
     by_cases b4:(g90_0 x0.2.2.2.2.2.1)=true
     ·try simp only [if_pos b4] at h ⊢
      by_cases b5:(g88_0 x0.2.2.2.1)=true
      ·try simp only [if_pos b5] at h ⊢
       by_cases b6:(g91_0 x0.2.2.2.2.2.2.1 x0.2.2.2.2.2.2.2.1 x0.2.2.2.2.2.2.2.2.1 0==0)=true
       ·try simp only [if_pos b6] at h ⊢
        by_cases b7:(g92_0 x0.2.2.2.2.2.2.2.2.2.1)=true
        ·try simp only [if_pos b7] at h ⊢
         by_cases b8:(g93_0 x0.2.2.2.2.2.2.2.2.2.2.1)=true
         ·try simp only [if_pos b8] at h ⊢
          exact AtV.ret Tryz.func52 tabOk ext52Ok mixed false [] tys52 [true,true,true,true,true,true,true,true,true] (a1 trivial (a1 b0 (a1 trivial (a1 b1 (a1 trivial (a1 b2 (a1 trivial (a1 trivial (a1 b3 (a1 trivial (a1 b4 (a1 trivial (a1 b5 (a1 b6 (a1 trivial (a1 b7 (a1 trivial (a1 b8 (a1 trivial trivial))))))))))))))))))) (by kernel_rfl)
         ·try simp only [if_neg b8] at h ⊢
          replace b8:=bf_ b8
          exact AtV.ret Tryz.func52 tabOk ext52Ok mixed false [] tys52 [true,true,true,true,true,true,true,true,false] (a1 trivial (a1 b0 (a1 trivial (a1 b1 (a1 trivial (a1 b2 (a1 trivial (a1 trivial (a1 b3 (a1 trivial (a1 b4 (a1 trivial (a1 b5 (a1 b6 (a1 trivial (a1 b7 (a1 trivial (a1 b8 trivial)))))))))))))))))) (by kernel_rfl)
        ·try simp only [if_neg b7] at h ⊢
         replace b7:=bf_ b7
         exact AtV.ret Tryz.func52 tabOk ext52Ok mixed false [] tys52 [true,true,true,true,true,true,true,false,false] (a1 trivial (a1 b0 (a1 trivial (a1 b1 (a1 trivial (a1 b2 (a1 trivial (a1 trivial (a1 b3 (a1 trivial (a1 b4 (a1 trivial (a1 b5 (a1 b6 (a1 trivial (a1 b7 (a1 (rfl:false=false) trivial))))))))))))))))) (by kernel_rfl)
       ·try simp only [if_neg b6] at h ⊢
        replace b6:=bf_ b6
        exact AtV.ret Tryz.func52 tabOk ext52Ok mixed false [] tys52 [true,true,true,true,true,true,false,false,false] (a1 trivial (a1 b0 (a1 trivial (a1 b1 (a1 trivial (a1 b2 (a1 trivial (a1 trivial (a1 b3 (a1 trivial (a1 b4 (a1 trivial (a1 b5 (a1 b6 (a1 (rfl:false=false) (a1 (rfl:false=false) trivial)))))))))))))))) (by kernel_rfl)
      ·try simp only [if_neg b5] at h ⊢
       replace b5:=bf_ b5
       exact AtV.ret Tryz.func52 tabOk ext52Ok mixed false [] tys52 [true,true,true,true,true,false,false,false,false] (a1 trivial (a1 b0 (a1 trivial (a1 b1 (a1 trivial (a1 b2 (a1 trivial (a1 trivial (a1 b3 (a1 trivial (a1 b4 (a1 trivial (a1 b5 (a1 (rfl:false=false) (a1 (rfl:false=false) (a1 (rfl:false=false) trivial)))))))))))))))) (by kernel_rfl)
     ·try simp only [if_neg b4] at h ⊢
      replace b4:=bf_ b4
      by_cases b5:(g88_0 x0.2.2.2.1)=true
      ·try simp only [if_pos b5] at h ⊢
       exact AtV.ret Tryz.func52 tabOk ext52Ok mixed false [] tys52 [true,true,true,true,false,true,false,false,false] (a1 trivial (a1 b0 (a1 trivial (a1 b1 (a1 trivial (a1 b2 (a1 trivial (a1 trivial (a1 b3 (a1 trivial (a1 b4 (a1 b5 (a1 (rfl:false=false) (a1 (rfl:false=false) (a1 (rfl:false=false) trivial))))))))))))))) (by kernel_rfl)
      ·try simp only [if_neg b5] at h ⊢
       replace b5:=bf_ b5
       exact AtV.ret Tryz.func52 tabOk ext52Ok mixed false [] tys52 [true,true,true,true,false,false,false,false,false] (a1 trivial (a1 b0 (a1 trivial (a1 b1 (a1 trivial (a1 b2 (a1 trivial (a1 trivial (a1 b3 (a1 trivial (a1 b4 (a1 b5 (a1 (rfl:false=false) (a1 (rfl:false=false) (a1 (rfl:false=false) trivial))))))))))))))) (by kernel_rfl)
    ·try simp only [if_neg b3] at h ⊢
     replace b3:=bf_ b3
     by_cases b4:(g88_0 x0.2.2.2.1)=true
     ·try simp only [if_pos b4] at h ⊢
      exact AtV.ret Tryz.func52 tabOk ext52Ok mixed false [] tys52 [true,true,true,false,false,true,false,false,false] (a1 trivial (a1 b0 (a1 trivial (a1 b1 (a1 trivial (a1 b2 (a1 trivial (a1 trivial (a1 b3 (a1 (rfl:false=false) (a1 b4 (a1 (rfl:false=false) (a1 (rfl:false=false) (a1 (rfl:false=false) trivial)))))))))))))) (by kernel_rfl)
     ·try simp only [if_neg b4] at h ⊢
      replace b4:=bf_ b4
      exact AtV.ret Tryz.func52 tabOk ext52Ok mixed false [] tys52 [true,true,true,false,false,false,false,false,false] (a1 trivial (a1 b0 (a1 trivial (a1 b1 (a1 trivial (a1 b2 (a1 trivial (a1 trivial (a1 b3 (a1 (rfl:false=false) (a1 b4 (a1 (rfl:false=false) (a1 (rfl:false=false) (a1 (rfl:false=false) trivial)))))))))))))) (by kernel_rfl)
   ·try simp only [if_neg b2] at h ⊢
    replace b2:=bf_ b2
    by_cases b3:(g89_0 x0.2.2.2.2.1)=true
    ·try simp only [if_pos b3] at h ⊢
     by_cases b4:(g90_0 x0.2.2.2.2.2.1)=true
     ·try simp only [if_pos b4] at h ⊢
      exact AtV.ret Tryz.func52 tabOk ext52Ok mixed false [] tys52 [true,true,false,true,true,false,false,false,false] (a1 trivial (a1 b0 (a1 trivial (a1 b1 (a1 trivial (a1 b2 (a1 trivial (a1 b3 (a1 trivial (a1 b4 (a1 trivial (a1 (rfl:false=false) (a1 (rfl:false=false) (a1 (rfl:false=false) (a1 (rfl:false=false) trivial))))))))))))))) (by kernel_rfl)
     ·try simp only [if_neg b4] at h ⊢
      replace b4:=bf_ b4
      exact AtV.ret Tryz.func52 tabOk ext52Ok mixed false [] tys52 [true,true,false,true,false,false,false,false,false] (a1 trivial (a1 b0 (a1 trivial (a1 b1 (a1 trivial (a1 b2 (a1 trivial (a1 b3 (a1 trivial (a1 b4 (a1 (rfl:false=false) (a1 (rfl:false=false) (a1 (rfl:false=false) (a1 (rfl:false=false) trivial)))))))))))))) (by kernel_rfl)
    ·try simp only [if_neg b3] at h ⊢
     replace b3:=bf_ b3
     exact AtV.ret Tryz.func52 tabOk ext52Ok mixed false [] tys52 [true,true,false,false,false,false,false,false,false] (a1 trivial (a1 b0 (a1 trivial (a1 b1 (a1 trivial (a1 b2 (a1 trivial (a1 b3 (a1 (rfl:false=false) (a1 (rfl:false=false) (a1 (rfl:false=false) (a1 (rfl:false=false) (a1 (rfl:false=false) trivial))))))))))))) (by kernel_rfl)
  ·try simp only [if_neg b1] at h ⊢
   replace b1:=bf_ b1
   by_cases b2:(g89_0 x0.2.2.2.2.1)=true
   ·try simp only [if_pos b2] at h ⊢
    by_cases b3:(g90_0 x0.2.2.2.2.2.1)=true
    ·try simp only [if_pos b3] at h ⊢
     exact AtV.ret Tryz.func52 tabOk ext52Ok mixed false [] tys52 [true,false,false,true,true,false,false,false,false] (a1 trivial (a1 b0 (a1 trivial (a1 b1 (a1 (rfl:false=false) (a1 trivial (a1 b2 (a1 trivial (a1 b3 (a1 trivial (a1 (rfl:false=false) (a1 (rfl:false=false) (a1 (rfl:false=false) (a1 (rfl:false=false) trivial)))))))))))))) (by kernel_rfl)
    ·try simp only [if_neg b3] at h ⊢
     replace b3:=bf_ b3
     exact AtV.ret Tryz.func52 tabOk ext52Ok mixed false [] tys52 [true,false,false,true,false,false,false,false,false] (a1 trivial (a1 b0 (a1 trivial (a1 b1 (a1 (rfl:false=false) (a1 trivial (a1 b2 (a1 trivial (a1 b3 (a1 (rfl:false=false) (a1 (rfl:false=false) (a1 (rfl:false=false) (a1 (rfl:false=false) trivial))))))))))))) (by kernel_rfl)
   ·try simp only [if_neg b2] at h ⊢
    replace b2:=bf_ b2
    exact AtV.ret Tryz.func52 tabOk ext52Ok mixed false [] tys52 [true,false,false,false,false,false,false,false,false] (a1 trivial (a1 b0 (a1 trivial (a1 b1 (a1 (rfl:false=false) (a1 trivial (a1 b2 (a1 (rfl:false=false) (a1 (rfl:false=false) (a1 (rfl:false=false) (a1 (rfl:false=false) (a1 (rfl:false=false) trivial)))))))))))) (by kernel_rfl)
 ·try simp only [if_neg b0] at h ⊢
  replace b0:=bf_ b0
  by_cases b1:(g89_0 x0.2.2.2.2.1)=true
  ·try simp only [if_pos b1] at h ⊢
   by_cases b2:(g90_0 x0.2.2.2.2.2.1)=true
   ·try simp only [if_pos b2] at h ⊢
    exact AtV.ret Tryz.func52 tabOk ext52Ok mixed false [] tys52 [false,false,false,true,true,false,false,false,false] (a1 trivial (a1 b0 (a1 (rfl:false=false) (a1 (rfl:false=false) (a1 trivial (a1 b1 (a1 trivial (a1 b2 (a1 trivial (a1 (rfl:false=false) (a1 (rfl:false=false) (a1 (rfl:false=false) (a1 (rfl:false=false) trivial))))))))))))) (by kernel_rfl)
   ·try simp only [if_neg b2] at h ⊢
    replace b2:=bf_ b2
    exact AtV.ret Tryz.func52 tabOk ext52Ok mixed false [] tys52 [false,false,false,true,false,false,false,false,false] (a1 trivial (a1 b0 (a1 (rfl:false=false) (a1 (rfl:false=false) (a1 trivial (a1 b1 (a1 trivial (a1 b2 (a1 (rfl:false=false) (a1 (rfl:false=false) (a1 (rfl:false=false) (a1 (rfl:false=false) trivial)))))))))))) (by kernel_rfl)
  ·try simp only [if_neg b1] at h ⊢
   replace b1:=bf_ b1
   exact AtV.ret Tryz.func52 tabOk ext52Ok mixed false [] tys52 [false,false,false,false,false,false,false,false,false] (a1 trivial (a1 b0 (a1 (rfl:false=false) (a1 (rfl:false=false) (a1 trivial (a1 b1 (a1 (rfl:false=false) (a1 (rfl:false=false) (a1 (rfl:false=false) (a1 (rfl:false=false) (a1 (rfl:false=false) trivial))))))))))) (by kernel_rfl)
def S52:Am.Spec:={ sig:=sig52,pre:=fun ⟨x0,_⟩=>P52 x0,res:=fun ⟨x0,_⟩=>[⟨.bool,g52_0 x0⟩],kds:=kds52 }
theorem con52:Contract Tryz.prog 52 S52:=contract_of Tryz.func52 hb52 (bl_ (by kernel_rfl)) (fun ⟨x0,_⟩ h _ K q=>at52 x0 h K q)
end
noncomputable section
def ext95:Ext:=[(96,S96)]
theorem ext95Ok:ExtOk Tryz.prog ext95:=⟨⟨ca96,con96⟩,trivial⟩
noncomputable def b95:Code:=bodyOf Tryz.f95
theorem hb95:Tryz.f95.body=some b95:=by kernel_rfl
def sig95:List AT:=[AT.v YA2]
def tys95:List Ty:=[.int .i64,.int .i64,.bool]
def kds95:List RK:=[]
def oks95:List AT:=owns sig95
def P95 (x0:List TyB4×Int×Int×Unit):Prop:=((P96 x0)∧((InR .i64 (g96_0 x0 - x0.2.2.1))∧((P96 x0)∧((InR .i64 (g96_0 x0 - x0.2.1))∧True))))
def g95_0 (x0:List TyB4×Int×Int×Unit):Int:=if x0.2.1<g96_0 x0 - x0.2.2.1 then g96_0 x0 - x0.2.2.1 else x0.2.1
def g95_1 (x0:List TyB4×Int×Int×Unit):Int:=if g96_0 x0 - x0.2.1<x0.2.2.1 then g96_0 x0 - x0.2.1 else x0.2.2.1
def g95_2 (x0:List TyB4×Int×Int×Unit):Bool:=decide ((if x0.2.1<g96_0 x0 - x0.2.2.1 then g96_0 x0 - x0.2.2.1 else x0.2.1)≤if g96_0 x0 - x0.2.1<x0.2.2.1 then g96_0 x0 - x0.2.1 else x0.2.2.1)
theorem at95 (x0:List TyB4×Int×Int×Unit) (h:P95 x0) (K:Ctx) (q:Nat→Value):AtV Tryz.prog 95 (PostR kds95 oks95 [⟨.int .i64,g95_0 x0⟩,⟨.int .i64,g95_1 x0⟩,⟨.bool,g95_2 x0⟩] [] [] q K) 28 K q [] [.code b95] (entE 0 0 sig95 (x0,())) (entL sig95 (x0,())):=by
 unfold P95 at h
 unfold g95_0 g95_1 g95_2
 obtain ⟨s0,h⟩:=h
 obtain ⟨s1,h⟩:=h
 obtain ⟨s2,h⟩:=h
 obtain ⟨s3,h⟩:=h
 exact AtV.ret Tryz.func95 tabOk ext95Ok mixed false [] tys95 [] (a1 s0 (a1 s1 (a1 s2 (a1 s3 trivial)))) (by kernel_rfl)
def S95:Am.Spec:={ sig:=sig95,pre:=fun ⟨x0,_⟩=>P95 x0,res:=fun ⟨x0,_⟩=>[⟨.int .i64,g95_0 x0⟩,⟨.int .i64,g95_1 x0⟩,⟨.bool,g95_2 x0⟩],kds:=kds95 }
theorem con95:Contract Tryz.prog 95 S95:=contract_of Tryz.func95 hb95 (bl_ (by kernel_rfl)) (fun ⟨x0,_⟩ h _ K q=>at95 x0 h K q)
end
noncomputable section
def ext127:Ext:=[]
theorem ext127Ok:ExtOk Tryz.prog ext127:=trivial
noncomputable def b127:Code:=bodyOf Tryz.f127
theorem hb127:Tryz.f127.body=some b127:=by kernel_rfl
def sig127:List AT:=[AT.v (.int .i64)]
def tys127:List Ty:=[.int .i64]
def kds127:List RK:=[]
def oks127:List AT:=owns sig127
def P127 (x0:Int):Prop:=(if (decide (x0<0))=true then ((InR .i64 (0 - x0))∧True) else True)
def g127_0 (x0:Int):Int:=(if (decide (x0<0))=true then 0 - x0 else x0)
theorem at127 (x0:Int) (h:P127 x0) (K:Ctx) (q:Nat→Value):AtV Tryz.prog 127 (PostR kds127 oks127 [⟨.int .i64,g127_0 x0⟩] [] [] q K) 8 K q [] [.code b127] (entE 0 0 sig127 (x0,())) (entL sig127 (x0,())):=by
 unfold P127 at h
 unfold g127_0
 by_cases b0:(decide (x0<0))=true
 ·try simp only [if_pos b0] at h ⊢
  obtain ⟨s0,h⟩:=h
  exact AtV.ret Tryz.func127 tabOk ext127Ok mixed false [] tys127 [true] (a1 b0 (a1 s0 trivial)) (by kernel_rfl)
 ·try simp only [if_neg b0] at h ⊢
  replace b0:=bf_ b0
  exact AtV.ret Tryz.func127 tabOk ext127Ok mixed false [] tys127 [false] (a1 b0 trivial) (by kernel_rfl)
def S127:Am.Spec:={ sig:=sig127,pre:=fun ⟨x0,_⟩=>P127 x0,res:=fun ⟨x0,_⟩=>[⟨.int .i64,g127_0 x0⟩],kds:=kds127 }
theorem con127:Contract Tryz.prog 127 S127:=contract_of Tryz.func127 hb127 (bl_ (by kernel_rfl)) (fun ⟨x0,_⟩ h _ K q=>at127 x0 h K q)
end
noncomputable section
def ext97:Ext:=[(96,S96),(127,S127)]
theorem ext97Ok:ExtOk Tryz.prog ext97:=⟨⟨ca96,con96⟩,⟨ca127,con127⟩,trivial⟩
noncomputable def b97:Code:=bodyOf Tryz.f97
theorem hb97:Tryz.f97.body=some b97:=by kernel_rfl
def sig97:List AT:=[AT.v YA2,AT.v (.int .i64)]
def tys97:List Ty:=[.int .i64]
def kds97:List RK:=[]
def oks97:List AT:=owns sig97
def P97 (x0:List TyB4×Int×Int×Unit) (x1:Int):Prop:=((P96 x0)∧((InR .i64 (2*x1))∧((InR .i64 (g96_0 x0 - 2*x1))∧((P127 (g96_0 x0 - 2*x1))∧True))))
def g97_0 (x0:List TyB4×Int×Int×Unit) (x1:Int):Int:=g127_0 (g96_0 x0 - 2*x1)
theorem at97 (x0:List TyB4×Int×Int×Unit) (x1:Int) (h:P97 x0 x1) (K:Ctx) (q:Nat→Value):AtV Tryz.prog 97 (PostR kds97 oks97 [⟨.int .i64,g97_0 x0 x1⟩] [] [] q K) 11 K q [] [.code b97] (entE 0 0 sig97 (x0,x1,())) (entL sig97 (x0,x1,())):=by
 unfold P97 at h
 unfold g97_0
 obtain ⟨s0,h⟩:=h
 obtain ⟨s1,h⟩:=h
 obtain ⟨s2,h⟩:=h
 obtain ⟨s3,h⟩:=h
 exact AtV.ret Tryz.func97 tabOk ext97Ok mixed false [] tys97 [] (a1 s0 (a1 s1 (a1 s2 (a1 s3 trivial)))) (by kernel_rfl)
def S97:Am.Spec:={ sig:=sig97,pre:=fun ⟨x0,x1,_⟩=>P97 x0 x1,res:=fun ⟨x0,x1,_⟩=>[⟨.int .i64,g97_0 x0 x1⟩],kds:=kds97 }
theorem con97:Contract Tryz.prog 97 S97:=contract_of Tryz.func97 hb97 (bl_ (by kernel_rfl)) (fun ⟨x0,x1,_⟩ h _ K q=>at97 x0 x1 h K q)
end
noncomputable section
def ext54:Ext:=[(95,S95),(96,S96),(97,S97)]
theorem ext54Ok:ExtOk Tryz.prog ext54:=⟨⟨ca95,con95⟩,⟨ca96,con96⟩,⟨ca97,con97⟩,trivial⟩
noncomputable def b54:Code:=bodyOf Tryz.f54
theorem hb54:Tryz.f54.body=some b54:=by kernel_rfl
def sig54:List AT:=[AT.v YA2]
def tys54:List Ty:=[.int .i64,.bool]
def kds54:List RK:=[]
def oks54:List AT:=owns sig54
def P54 (x0:List TyB4×Int×Int×Unit):Prop:=((P95 x0)∧(if (!g95_2 x0)=true then ((P96 x0)∧((InR .i64 (Int.tmod (g96_0 x0) 2))∧True)) else (if (g95_0 x0==0)=true then True else ((InR .i64 (g95_0 x0 - 1))∧((P97 x0 (g95_0 x0 - 1))∧True)))))
def g54_0 (x0:List TyB4×Int×Int×Unit):Int:=(if (!g95_2 x0)=true then Int.tmod (g96_0 x0) 2 else (if (g95_0 x0==0)=true then 0 else g97_0 x0 (g95_0 x0 - 1)))
def g54_1 (x0:List TyB4×Int×Int×Unit):Bool:=(if (!g95_2 x0)=true then true else (if (g95_0 x0==0)=true then false else true))
theorem at54 (x0:List TyB4×Int×Int×Unit) (h:P54 x0) (K:Ctx) (q:Nat→Value):AtV Tryz.prog 54 (PostR kds54 oks54 [⟨.int .i64,g54_0 x0⟩,⟨.bool,g54_1 x0⟩] [] [] q K) 26 K q [] [.code b54] (entE 0 0 sig54 (x0,())) (entL sig54 (x0,())):=by
 unfold P54 at h
 unfold g54_0 g54_1
 obtain ⟨s0,h⟩:=h
 by_cases b0:(!g95_2 x0)=true
 ·try simp only [if_pos b0] at h ⊢
  obtain ⟨s1,h⟩:=h
  obtain ⟨s2,h⟩:=h
  exact AtV.ret Tryz.func54 tabOk ext54Ok mixed false [] tys54 [true] (a1 s0 (a1 b0 (a1 s1 (a1 ((by decide):(2:Int)≠(0:Int)) (a1 s2 trivial))))) (by kernel_rfl)
 ·try simp only [if_neg b0] at h ⊢
  replace b0:=bf_ b0
  by_cases b1:(g95_0 x0==0)=true
  ·try simp only [if_pos b1] at h ⊢
   exact AtV.ret Tryz.func54 tabOk ext54Ok mixed false [] tys54 [false,true] (a1 s0 (a1 b0 (a1 b1 trivial))) (by kernel_rfl)
  ·try simp only [if_neg b1] at h ⊢
   replace b1:=bf_ b1
   obtain ⟨s1,h⟩:=h
   obtain ⟨s2,h⟩:=h
   exact AtV.ret Tryz.func54 tabOk ext54Ok mixed false [] tys54 [false,false] (a1 s0 (a1 b0 (a1 b1 (a1 s1 (a1 s2 trivial))))) (by kernel_rfl)
def S54:Am.Spec:={ sig:=sig54,pre:=fun ⟨x0,_⟩=>P54 x0,res:=fun ⟨x0,_⟩=>[⟨.int .i64,g54_0 x0⟩,⟨.bool,g54_1 x0⟩],kds:=kds54 }
theorem con54:Contract Tryz.prog 54 S54:=contract_of Tryz.func54 hb54 (bl_ (by kernel_rfl)) (fun ⟨x0,_⟩ h _ K q=>at54 x0 h K q)
end
noncomputable section
def ext53:Ext:=[(95,S95),(54,S54)]
theorem ext53Ok:ExtOk Tryz.prog ext53:=⟨⟨ca95,con95⟩,⟨ca54,con54⟩,trivial⟩
noncomputable def b53:Code:=bodyOf Tryz.f53
theorem hb53:Tryz.f53.body=some b53:=by kernel_rfl
def sig53:List AT:=[AT.v YA2,AT.v (.int .i64)]
def tys53:List Ty:=[.bool]
def kds53:List RK:=[]
def oks53:List AT:=owns sig53
def P53 (x0:List TyB4×Int×Int×Unit) (x1:Int):Prop:=((P95 x0)∧((P54 x0)∧True))
def g53_0 (x0:List TyB4×Int×Int×Unit) (x1:Int):Bool:=(if (g95_2 x0)=true then (if (!g54_1 x0)=true then true else decide (g54_0 x0≥x1)) else false)
theorem at53 (x0:List TyB4×Int×Int×Unit) (x1:Int) (h:P53 x0 x1) (K:Ctx) (q:Nat→Value):AtV Tryz.prog 53 (PostR kds53 oks53 [⟨.bool,g53_0 x0 x1⟩] [] [] q K) 31 K q [] [.code b53] (entE 0 0 sig53 (x0,x1,())) (entL sig53 (x0,x1,())):=by
 unfold P53 at h
 unfold g53_0
 obtain ⟨s0,h⟩:=h
 obtain ⟨s1,h⟩:=h
 by_cases b0:(g95_2 x0)=true
 ·try simp only [if_pos b0] at h ⊢
  by_cases b1:(!g54_1 x0)=true
  ·try simp only [if_pos b1] at h ⊢
   exact AtV.ret Tryz.func53 tabOk ext53Ok mixed false [] tys53 [true,true] (a1 s0 (a1 s1 (a1 b0 (a1 b1 trivial)))) (by kernel_rfl)
  ·try simp only [if_neg b1] at h ⊢
   replace b1:=bf_ b1
   exact AtV.ret Tryz.func53 tabOk ext53Ok mixed false [] tys53 [true,false] (a1 s0 (a1 s1 (a1 b0 (a1 b1 trivial)))) (by kernel_rfl)
 ·try simp only [if_neg b0] at h ⊢
  replace b0:=bf_ b0
  exact AtV.ret Tryz.func53 tabOk ext53Ok mixed false [] tys53 [false] (a1 s0 (a1 s1 (a1 b0 trivial))) (by kernel_rfl)
def S53:Am.Spec:={ sig:=sig53,pre:=fun ⟨x0,x1,_⟩=>P53 x0 x1,res:=fun ⟨x0,x1,_⟩=>[⟨.bool,g53_0 x0 x1⟩],kds:=kds53 }
theorem con53:Contract Tryz.prog 53 S53:=contract_of Tryz.func53 hb53 (bl_ (by kernel_rfl)) (fun ⟨x0,x1,_⟩ h _ K q=>at53 x0 x1 h K q)
end
def sig98:List AT:=[AT.v (Ty.int .i64),AT.v (Ty.int .i64)]
def g98_0 (x0 x1:Int):ByteArray:=numB x0
def P98 (x0 x1:Int):Prop:=x1=10
def S98:Am.Spec:={ sig:=sig98,pre:=fun ⟨x0,x1,_⟩=>P98 x0 x1,res:=fun ⟨x0,x1,_⟩=>[⟨Ty.str,g98_0 x0 x1⟩] }
theorem con98:Contract Tryz.prog 98 S98:=contract_flat rfl fun w ⟨x0,x1,_⟩ vs bss hg hp hw ha=>by
 obtain ⟨v0,s0,_,_,rfl,_,⟨_,rfl,hi⟩,v1,s1,_,_,rfl,_,⟨_,rfl,_⟩,rfl,_⟩:=ha
 obtain rfl:x1=10:=hp
 have hi:InR .i64 x0:=hi
 rw [i64_iff] at hi
 refine ⟨fun d hd => ?_,?_⟩
 ·rw [List.mem_singleton.1 hd]
  refine ⟨rfl,?_⟩
  show (numB x0).size≤maxLen
  have:=numB_size x0 hi.1 hi.2
  unfold maxLen;omega
 ·refine (Tryz.strconv_FormatInt_10 x0 hi.1 hi.2 w (pow10G hg)).mono ?_
  rintro e w' ⟨rfl,n,os,rfl⟩
  exact ⟨rfl,kept_grow _ _ _⟩
noncomputable section
def ext55:Ext:=[(98,S98)]
theorem ext55Ok:ExtOk Tryz.prog ext55:=⟨⟨ca98,con98⟩,trivial⟩
noncomputable def b55:Code:=bodyOf Tryz.f55
theorem hb55:Tryz.f55.body=some b55:=by kernel_rfl
def sig55:List AT:=[AT.v (.int .i64)]
def tys55:List Ty:=[.str]
def kds55:List RK:=[]
def oks55:List AT:=owns sig55
def P55 (x0:Int):Prop:=((P98 x0 10)∧True)
def g55_0 (x0:Int):ByteArray:=g98_0 x0 10
theorem at55 (x0:Int) (h:P55 x0) (K:Ctx) (q:Nat→Value):AtV Tryz.prog 55 (PostR kds55 oks55 [⟨.str,g55_0 x0⟩] [] [] q K) 5 K q [] [.code b55] (entE 0 0 sig55 (x0,())) (entL sig55 (x0,())):=by
 unfold P55 at h
 unfold g55_0
 obtain ⟨s0,h⟩:=h
 exact AtV.ret Tryz.func55 tabOk ext55Ok mixed false [] tys55 [] (a1 s0 trivial) (by kernel_rfl)
def S55:Am.Spec:={ sig:=sig55,pre:=fun ⟨x0,_⟩=>P55 x0,res:=fun ⟨x0,_⟩=>[⟨.str,g55_0 x0⟩],kds:=kds55 }
theorem con55:Contract Tryz.prog 55 S55:=contract_of Tryz.func55 hb55 (bl_ (by kernel_rfl)) (fun ⟨x0,_⟩ h _ K q=>at55 x0 h K q)
end
noncomputable section
def ext154:Ext:=[]
theorem ext154Ok:ExtOk Tryz.prog ext154:=trivial
noncomputable def b154:Code:=bodyOf Tryz.f154
theorem hb154:Tryz.f154.body=some b154:=by kernel_rfl
def sig154:List AT:=[AT.v (.int .i64),AT.p (.cons (.int .i64) (.cons (.int .i64) (.cons (.int .i64) (.cons (.int .i64) .unit)))),AT.p (.int .i64)]
def tys154:List Ty:=[.bool]
def kds154:List RK:=[]
def oks154:List AT:=owns sig154
def P154 (x0:Int) (x1:Int×Int×Int×Int×Unit) (x2:Int):Prop:=((InR .i64 (x0*x0))∧((InR .i64 (x1.2.2.1*x1.2.2.1))∧((InR .i64 (2*x1.1))∧((InR .i64 (x2 - x0))∧((InR .i64 (x2 - x0 - x1.2.2.2.1))∧((InR .i64 (2*x1.1*if 0<x2 - x0 - x1.2.2.2.1 then x2 - x0 - x1.2.2.2.1 else 0))∧((InR .i64 (x1.2.2.1*x1.2.2.1+2*x1.1*if 0<x2 - x0 - x1.2.2.2.1 then x2 - x0 - x1.2.2.2.1 else 0))∧True)))))))
def g154_0 (x0:Int) (x1:Int×Int×Int×Int×Unit) (x2:Int):Bool:=decide (x0*x0>x1.2.2.1*x1.2.2.1+2*x1.1*if 0<x2 - x0 - x1.2.2.2.1 then x2 - x0 - x1.2.2.2.1 else 0)
theorem at154 (x0:Int) (x1:Int×Int×Int×Int×Unit) (x2:Int) (h:P154 x0 x1 x2) (K:Ctx) (q:Nat→Value):AtV Tryz.prog 154 (PostR kds154 oks154 [⟨.bool,g154_0 x0 x1 x2⟩] [] [] q K) 26 K q [] [.code b154] (entE 0 0 sig154 (x0,x1,x2,())) (entL sig154 (x0,x1,x2,())):=by
 unfold P154 at h
 unfold g154_0
 obtain ⟨s0,h⟩:=h
 obtain ⟨s1,h⟩:=h
 obtain ⟨s2,h⟩:=h
 obtain ⟨s3,h⟩:=h
 obtain ⟨s4,h⟩:=h
 obtain ⟨s5,h⟩:=h
 obtain ⟨s6,h⟩:=h
 exact AtV.ret Tryz.func154 tabOk ext154Ok mixed false [] tys154 [] (a1 s0 (a1 s1 (a1 s2 (a1 s3 (a1 s4 (a1 s5 (a1 s6 trivial))))))) (by kernel_rfl)
def S154:Am.Spec:={ sig:=sig154,pre:=fun ⟨x0,x1,x2,_⟩=>P154 x0 x1 x2,res:=fun ⟨x0,x1,x2,_⟩=>[⟨.bool,g154_0 x0 x1 x2⟩],kds:=kds154 }
theorem con154:Contract Tryz.prog 154 S154:=contract_of Tryz.func154 hb154 (bl_ (by kernel_rfl)) (fun ⟨x0,x1,x2,_⟩ h _ K q=>at154 x0 x1 x2 h K q)
end
def bsI (C:Int→Bool):Nat→Int→Int→Int
 | 0,lo,_=>lo
 | n+1,lo,e=>if lo<e then (if C (Int.tdiv (lo+e) 2)=true then bsI C n lo (Int.tdiv (lo+e) 2) else bsI C n (Int.tdiv (lo+e) 2+1) e) else lo
theorem half_in {lo e:Int} (h0:0≤lo) (h:lo<e):lo≤Int.tdiv (lo+e) 2∧Int.tdiv (lo+e) 2<e:=by
 rw [Int.tdiv_eq_ediv_of_nonneg (by omega)]
 omega
theorem bsI_ok (C:Int→Bool) (l0 e0:Int):∀ (n:Nat) (lo e:Int),0≤lo→lo≤e→e - lo≤(n:Int)→(e=e0∨C e=true)→(lo=l0∨C (lo - 1)=false)→l0≤lo→e≤e0 →
  l0≤bsI C n lo e∧bsI C n lo e≤e0∧(bsI C n lo e=e0∨C (bsI C n lo e)=true)∧(bsI C n lo e=l0∨C (bsI C n lo e - 1)=false)
 | 0,lo,e,h0,h1,h2,h3,h4,h5,h6=>by
  obtain rfl:e=lo:=by omega
  exact ⟨h5,h6,h3,h4⟩
 | n+1,lo,e,h0,h1,h2,h3,h4,h5,h6=>by
  unfold bsI
  by_cases h:lo<e
  ·obtain ⟨m1,m2⟩:=half_in h0 h
   rw [if_pos h]
   by_cases hc:C (Int.tdiv (lo+e) 2)=true
   ·rw [if_pos hc]
    exact bsI_ok C l0 e0 n lo _ h0 m1 (by omega) (.inr hc) h4 h5 (by omega)
   ·rw [if_neg hc]
    refine bsI_ok C l0 e0 n _ e (by omega) (by omega) (by omega) h3 (.inr ?_) (by omega) h6
    rw [Int.add_sub_cancel]
    exact Bool.eq_false_iff.2 hc
  ·rw [if_neg h]
   obtain rfl:e=lo:=by omega
   exact ⟨h5,h6,h3,h4⟩
def bsS (M:Int→Bool):Nat→Int→Int→Int
 | 0,lo,_=>lo
 | n+1,lo,hi=>if lo<hi then (if M (Int.tdiv (lo+hi+1) 2)=true then bsS M n (Int.tdiv (lo+hi+1) 2) hi else bsS M n lo (Int.tdiv (lo+hi+1) 2 - 1)) else lo
theorem half_up {lo hi:Int} (h0:0≤lo) (h:lo<hi):lo<Int.tdiv (lo+hi+1) 2∧Int.tdiv (lo+hi+1) 2≤hi:=by
 rw [Int.tdiv_eq_ediv_of_nonneg (by omega)]
 omega
theorem bsS_ok (M:Int→Bool) (l0 h9:Int):∀ (n:Nat) (lo hi:Int),0≤lo→lo≤hi→hi - lo≤(n:Int)→(lo=l0∨M lo=true)→(hi=h9∨M (hi+1)=false)→l0≤lo→hi≤h9 →
  l0≤bsS M n lo hi∧bsS M n lo hi≤h9∧(bsS M n lo hi=l0∨M (bsS M n lo hi)=true)∧(bsS M n lo hi=h9∨M (bsS M n lo hi+1)=false)
 | 0,lo,hi,h0,h1,h2,h3,h4,h5,h6=>by
  obtain rfl:hi=lo:=by omega
  exact ⟨h5,h6,h3,h4⟩
 | n+1,lo,hi,h0,h1,h2,h3,h4,h5,h6=>by
  unfold bsS
  by_cases h:lo<hi
  ·obtain ⟨m1,m2⟩:=half_up h0 h
   rw [if_pos h]
   by_cases hc:M (Int.tdiv (lo+hi+1) 2)=true
   ·rw [if_pos hc]
    exact bsS_ok M l0 h9 n _ hi (by omega) m2 (by omega) (.inr hc) h4 (by omega) h6
   ·rw [if_neg hc]
    refine bsS_ok M l0 h9 n lo _ h0 (by omega) (by omega) h3 (.inr ?_) h5 (by omega)
    rw [Int.sub_add_cancel]
    exact Bool.eq_false_iff.2 hc
  ·rw [if_neg h]
   obtain rfl:hi=lo:=by omega
   exact ⟨h5,h6,h3,h4⟩
theorem bs_same (M C:Int→Bool) (c h:Int) (n m:Nat) (hc:0≤c) (hh:c<h) (hn:h+1 - c≤(n:Int)) (hm:h - c≤(m:Int)) (hCM:∀ v,c≤v→v≤h→C v = !M v) (h0:M c=true) (hmono:∀ v v',c≤v→v≤v'→v'≤h→M v'=true→M v=true) :
  bsI C n c (h+1) - 1=bsS M m c h:=by
 obtain ⟨a1,a2,a3,a4⟩:=bsI_ok C c (h+1) n c (h+1) hc (by omega) hn (.inl rfl) (.inl rfl) (Int.le_refl _) (Int.le_refl _)
 obtain ⟨b1,b2,b3,b4⟩:=bsS_ok M c h m c h hc (by omega) hm (.inl rfl) (.inl rfl) (Int.le_refl _) (Int.le_refl _)
 generalize bsI C n c (h+1)=r at *
 generalize bsS M m c h=s at *
 have hs:M s=true:=by
  rcases b3 with rfl | b3
  ·exact h0
  ·exact b3
 have hr:r≠c:=by
  rintro rfl
  rcases a3 with a3 | a3
  ·omega
  ·rw [hCM r (Int.le_refl _) (by omega),h0] at a3
   cases a3
 have hr1:M (r - 1)=true:=by
  rcases a4 with a4 | a4
  ·exact absurd a4 hr
  ·rw [hCM (r - 1) (by omega) (by omega)] at a4
   simpa using a4
 rcases Int.lt_trichotomy (r - 1) s with hlt | heq | hgt
 ·rcases a3 with a3 | a3
  ·omega
  ·rw [hCM r (by omega) (by omega)] at a3
   rw [hmono r s (by omega) (by omega) b2 hs] at a3
   cases a3
 ·exact heq
 ·rcases b4 with b4 | b4
  ·omega
  ·rw [hmono (s+1) (r - 1) (by omega) (by omega) (by omega) hr1] at b4
   cases b4
noncomputable section
def ext153c154:Ext:=[(154,S154)]
theorem ext153c154Ok:ExtOk Tryz.prog ext153c154:=⟨⟨ca154,con154⟩,trivial⟩
noncomputable def b153c154:Code:=bodyOf Tryz.f153
theorem hb153c154:Tryz.f153.body=some b153c154:=by kernel_rfl
def sig153c154:List AT:=[AT.v (.int .i64),AT.v (.int .i64),AT.fn 154 [(true,(.cons (.int .i64) (.cons (.int .i64) (.cons (.int .i64) (.cons (.int .i64) .unit))))),(true,(.int .i64))]]
def tys153c154:List Ty:=[.int .i64]
def kds153c154:List RK:=[]
def oks153c154:List AT:=owns sig153c154
def E153c154_2 (v7:Int) (x0:Int) (x2:Int×Int×Int×Int×Unit) (x2c:Int):Env:=[(0,.a (.val (.int .i64 x0))),(2,PV.fn 154 [Atom.ptr YA4 x2,Atom.ptr (.int .i64) x2c]),(7,.a (.val (.int .i64 v7)))]
def L153c154_2 (v7:Int) (x0:Int) (x2:Int×Int×Int×Int×Unit) (x2c:Int):Heap:=[]
mutual
def R153c154:Nat→Int→Int→Int×Int×Int×Int×Unit→Int→List Dyn→Prop
 | 0,_,_,_,_,_=>False
 | n+1,x0,x1,x2,x2c,ds=>((InR .i64 (x1+1))∧(R153c154_2 n (x1+1) (x0) (x2) (x2c) ds))
def R153c154_2:Nat→Int→Int→Int×Int×Int×Int×Unit→Int→List Dyn→Prop
 | 0,_,_,_,_,_=>False
 | n+1,v7,x0,x2,x2c,ds=>(if (decide (x0<v7))=true then ((InR .i64 (x0+v7))∧((InR .i64 (Int.tdiv (x0+v7) 2))∧((P154 (Int.tdiv (x0+v7) 2) x2 x2c)∧(if (g154_0 (Int.tdiv (x0+v7) 2) x2 x2c)=true then (R153c154_2 n (Int.tdiv (x0+v7) 2) (x0) (x2) (x2c) ds) else ((InR .i64 (Int.tdiv (x0+v7) 2+1))∧(R153c154_2 n (v7) (Int.tdiv (x0+v7) 2+1) (x2) (x2c) ds)))))) else (ds=[Dyn.mk (.int .i64) x0]))
end
theorem snd153c154:∀ n,(∀ (x0:Int) (x1:Int) (x2:Int×Int×Int×Int×Unit) (x2c:Int) ds,R153c154 n x0 x1 x2 x2c ds→∀ K q,AtV Tryz.prog 153 (PostR kds153c154 oks153c154 ds [] [] q K) 25 K q [] [.code b153c154] (entE 0 0 sig153c154 (x0,x1,(x2,x2c,()),())) (entL sig153c154 (x0,x1,(x2,x2c,()),())))∧(∀ (v7:Int) (x0:Int) (x2:Int×Int×Int×Int×Unit) (x2c:Int) ds,R153c154_2 n v7 x0 x2 x2c ds→∀ K q,AtV Tryz.prog 153 (PostR kds153c154 oks153c154 ds [] [] q K) 25 K q [] (cutAt b153c154 2) (E153c154_2 v7 x0 x2 x2c) (L153c154_2 v7 x0 x2 x2c)):=by
 intro n
 induction n with
 | zero=>exact ⟨fun _ _ _ _ _ h=>by simp only [R153c154] at h,fun _ _ _ _ _ h=>by simp only [R153c154_2] at h⟩
 | succ n ih =>
 obtain ⟨ih,ih2⟩:=ih
 refine ⟨?_,?_⟩
 ·intro x0 x1 x2 x2c ds h K q
  rw [R153c154] at h
  obtain ⟨s0,h⟩:=h
  exact AtV.go tabOk ext153c154Ok mixed false [] [] [0,2,7] [] [] (a1 s0 trivial) (ih2 _ _ _ _ _ h K q) (by kernel_rfl)
 ·intro v7 x0 x2 x2c ds h K q
  rw [R153c154_2] at h
  by_cases b0:(decide (x0<v7))=true
  ·rw [if_pos b0] at h
   obtain ⟨s0,h⟩:=h
   obtain ⟨s1,h⟩:=h
   obtain ⟨s2,h⟩:=h
   by_cases b1:(g154_0 (Int.tdiv (x0+v7) 2) x2 x2c)=true
   ·rw [if_pos b1] at h
    exact AtV.go tabOk ext153c154Ok mixed false [] [] [0,2,7] [] [true,true] (a1 b0 (a1 s0 (a1 ((by decide):(2:Int)≠(0:Int)) (a1 s1 (a1 s2 (a1 b1 trivial)))))) (ih2 _ _ _ _ _ h K q) (by kernel_rfl)
   ·rw [if_neg b1] at h
    replace b1:=bf_ b1
    obtain ⟨s3,h⟩:=h
    exact AtV.go tabOk ext153c154Ok mixed false [] [] [0,2,7] [] [true,false] (a1 b0 (a1 s0 (a1 ((by decide):(2:Int)≠(0:Int)) (a1 s1 (a1 s2 (a1 b1 (a1 s3 trivial))))))) (ih2 _ _ _ _ _ h K q) (by kernel_rfl)
  ·rw [if_neg b0] at h
   replace b0:=bf_ b0
   subst h
   exact AtV.ret Tryz.func153 tabOk ext153c154Ok mixed false [] tys153c154 [false] (a1 b0 trivial) (by kernel_rfl)
def g153c154_0 (x0 x1:Int) (y0:Int×Int×Int×Int×Unit) (y1:Int):Int:=bsI (fun x=>g154_0 x y0 y1) (x1+1 - x0).toNat x0 (x1+1)
def P153c154 (x0 x1:Int) (y0:Int×Int×Int×Int×Unit) (y1:Int):Prop:=(0≤x0∧x0≤x1+1∧x1≤1000000000)∧∀ v,0≤v→v≤x1→P154 v y0 y1
theorem run153c154 (y0:Int×Int×Int×Int×Unit) (y1:Int) (e9:Int) (he:e9≤1000000000) (hp:∀ v,0≤v→v≤e9→P154 v y0 y1):∀ (k:Nat) (lo e:Int),0≤lo→lo≤e→e≤e9+1→e - lo≤(k:Int)→R153c154_2 (k+1) e lo y0 y1 [⟨.int .i64,bsI (fun x=>g154_0 x y0 y1) k lo e⟩]:=by
 intro k
 induction k with
 | zero =>
  intro lo e h0 h1 h2 h3
  rw [R153c154_2,if_neg (by simp only [decide_eq_true_eq];omega)]
  rfl
 | succ k ih =>
  intro lo e h0 h1 h2 h3
  unfold bsI
  by_cases hlt:lo<e
  ·obtain ⟨m1,m2⟩:=half_in h0 hlt
   rw [R153c154_2,if_pos (by simpa using hlt),if_pos hlt]
   refine ⟨by rw [i64_iff];omega,by rw [i64_iff];omega,hp _ (by omega) (by omega),?_⟩
   split
   ·exact ih lo _ h0 m1 (by omega) (by omega)
   ·exact ⟨by rw [i64_iff];omega,ih _ e (by omega) (by omega) h2 (by omega)⟩
  ·rw [R153c154_2,if_neg (by simpa using hlt),if_neg hlt]
theorem top153c154 (x0 x1:Int) (y0:Int×Int×Int×Int×Unit) (y1:Int) (h:P153c154 x0 x1 y0 y1):R153c154 ((x1+1 - x0).toNat+1+1) x0 x1 y0 y1 [⟨.int .i64,g153c154_0 x0 x1 y0 y1⟩]:=by
 obtain ⟨⟨h1,h2,h3⟩,hp⟩:=h
 rw [R153c154]
 exact ⟨by rw [i64_iff];omega,run153c154 y0 y1 x1 h3 hp _ _ _ h1 h2 (by omega) (by omega)⟩
def S153c154:Am.Spec:={ sig:=sig153c154,pre:=fun ⟨x0,x1,⟨y0,y1,_⟩,_⟩=>P153c154 x0 x1 y0 y1,res:=fun ⟨x0,x1,⟨y0,y1,_⟩,_⟩=>[⟨.int .i64,g153c154_0 x0 x1 y0 y1⟩] }
theorem con153c154:Contract Tryz.prog 153 S153c154:=contract_of Tryz.func153 hb153c154 (bl_ (by kernel_rfl)) (fun ⟨x0,x1,⟨y0,y1,_⟩,_⟩ h hwf K q =>
 (snd153c154 _).1 x0 x1 y0 y1 _ (top153c154 x0 x1 y0 y1 h) K q)
end
noncomputable section
def ext129:Ext:=[(153,S153c154)]
theorem ext129Ok:ExtOk Tryz.prog ext129:=⟨⟨ca153,con153c154⟩,trivial⟩
noncomputable def b129:Code:=bodyOf Tryz.f129
theorem hb129:Tryz.f129.body=some b129:=by kernel_rfl
def sig129:List AT:=[AT.v YA4,AT.v (.int .i64),AT.v (.int .i64)]
def tys129:List Ty:=[.int .i64]
def kds129:List RK:=[]
def oks129:List AT:=owns sig129
def P129 (x0:Int×Int×Int×Int×Unit) (x1:Int) (x2:Int):Prop:=((InR .i64 (x1+x0.1))∧(if (decide ((if x1+x0.1<x0.2.1 then x1+x0.1 else x0.2.1)>x0.2.2.1))=true then ((P153c154 x0.2.2.1 (if x1+x0.1<x0.2.1 then x1+x0.1 else x0.2.1) x0 x2)∧((InR .i64 (g153c154_0 x0.2.2.1 (if x1+x0.1<x0.2.1 then x1+x0.1 else x0.2.1) x0 x2 - 1))∧True)) else True))
def g129_0 (x0:Int×Int×Int×Int×Unit) (x1:Int) (x2:Int):Int:=(if (decide ((if x1+x0.1<x0.2.1 then x1+x0.1 else x0.2.1)>x0.2.2.1))=true then if x2<g153c154_0 x0.2.2.1 (if x1+x0.1<x0.2.1 then x1+x0.1 else x0.2.1) x0 x2 - 1 then x2 else g153c154_0 x0.2.2.1 (if x1+x0.1<x0.2.1 then x1+x0.1 else x0.2.1) x0 x2 - 1 else if x2<x0.2.2.1 then x2 else x0.2.2.1)
theorem at129 (x0:Int×Int×Int×Int×Unit) (x1:Int) (x2:Int) (h:P129 x0 x1 x2) (K:Ctx) (q:Nat→Value):AtV Tryz.prog 129 (PostR kds129 oks129 [⟨.int .i64,g129_0 x0 x1 x2⟩] [] [] q K) 31 K q [] [.code b129] (entE 0 0 sig129 (x0,x1,x2,())) (entL sig129 (x0,x1,x2,())):=by
 unfold P129 at h
 unfold g129_0
 obtain ⟨s0,h⟩:=h
 by_cases b0:(decide ((if x1+x0.1<x0.2.1 then x1+x0.1 else x0.2.1)>x0.2.2.1))=true
 ·try simp only [if_pos b0] at h ⊢
  obtain ⟨s1,h⟩:=h
  obtain ⟨s2,h⟩:=h
  exact AtV.ret Tryz.func129 tabOk ext129Ok mixed false [] tys129 [true] (a1 s0 (a1 b0 (a1 s1 (a1 s2 trivial)))) (by kernel_rfl)
 ·try simp only [if_neg b0] at h ⊢
  replace b0:=bf_ b0
  exact AtV.ret Tryz.func129 tabOk ext129Ok mixed false [] tys129 [false] (a1 s0 (a1 b0 trivial)) (by kernel_rfl)
def S129:Am.Spec:={ sig:=sig129,pre:=fun ⟨x0,x1,x2,_⟩=>P129 x0 x1 x2,res:=fun ⟨x0,x1,x2,_⟩=>[⟨.int .i64,g129_0 x0 x1 x2⟩],kds:=kds129 }
theorem con129:Contract Tryz.prog 129 S129:=contract_of Tryz.func129 hb129 (bl_ (by kernel_rfl)) (fun ⟨x0,x1,x2,_⟩ h _ K q=>at129 x0 x1 x2 h K q)
end
def worstL (down:Bool) (g:Int) (xs:List TyB4):Int:=xs.foldl (fun g x=>if down=true then (if g<x.2.1 then x.2.1 else g) else (if x.2.1<g then x.2.1 else g)) g
theorem worst_cons (down:Bool) (g:Int) (x:Int×Int×Unit) (xs:List TyB4):worstL down g (x :: xs)=worstL down (if down=true then (if g<x.2.1 then x.2.1 else g) else (if x.2.1<g then x.2.1 else g)) xs:=rfl
theorem worst_mem (down:Bool):∀ (xs:List TyB4) (g:Int),worstL down g xs=g∨∃ x∈xs,worstL down g xs=x.2.1
 | [],g => .inl rfl
 | x :: xs,g=>by
  rw [worst_cons]
  rcases worst_mem down xs (if down=true then (if g<x.2.1 then x.2.1 else g) else (if x.2.1<g then x.2.1 else g)) with h | ⟨y,hy,h⟩
  ·rw [h]
   split
   ·split
    ·exact .inr ⟨x,List.mem_cons_self .., rfl⟩
    ·exact .inl rfl
   ·split
    ·exact .inr ⟨x,List.mem_cons_self .., rfl⟩
    ·exact .inl rfl
  ·exact .inr ⟨y,List.mem_cons_of_mem _ hy,h⟩
theorem worst_le:∀ (xs:List TyB4) (g:Int),(g≤worstL true g xs∧∀ x∈xs,x.2.1≤worstL true g xs)∧(worstL false g xs≤g∧∀ x∈xs,worstL false g xs≤x.2.1)
 | [],g=>⟨⟨Int.le_refl _,fun x hx=>by cases hx⟩,Int.le_refl _,fun x hx=>by cases hx⟩
 | x :: xs,g=>by
  rw [worst_cons,worst_cons]
  simp only [if_true,Bool.false_eq_true,if_false]
  obtain ⟨⟨a1,a2⟩,_⟩:=worst_le xs (if g<x.2.1 then x.2.1 else g)
  obtain ⟨_,b1,b2⟩:=worst_le xs (if x.2.1<g then x.2.1 else g)
  have c1:g≤(if g<x.2.1 then x.2.1 else g)∧x.2.1≤(if g<x.2.1 then x.2.1 else g):=by split <;> omega
  have c2:(if x.2.1<g then x.2.1 else g)≤g∧(if x.2.1<g then x.2.1 else g)≤x.2.1:=by split <;> omega
  refine ⟨⟨Int.le_trans c1.1 a1,fun y hy => ?_⟩,Int.le_trans b1 c2.1,fun y hy => ?_⟩
  ·rcases List.mem_cons.1 hy with rfl | hy
   ·exact Int.le_trans c1.2 a1
   ·exact a2 y hy
  ·rcases List.mem_cons.1 hy with rfl | hy
   ·exact Int.le_trans b1 c2.2
   ·exact b2 y hy
theorem worst_same (down:Bool) (xs:List TyB4) (g g':Int) (h:∃ x∈xs,g=x.2.1) (h':∃ x∈xs,g'=x.2.1):worstL down g xs=worstL down g' xs:=by
 obtain ⟨x,hx,rfl⟩:=h
 obtain ⟨y,hy,rfl⟩:=h'
 have w1:∃ z∈xs,worstL down x.2.1 xs=z.2.1:=by
  rcases worst_mem down xs x.2.1 with h | h
  ·exact ⟨x,hx,h⟩
  ·exact h
 have w2:∃ z∈xs,worstL down y.2.1 xs=z.2.1:=by
  rcases worst_mem down xs y.2.1 with h | h
  ·exact ⟨y,hy,h⟩
  ·exact h
 obtain ⟨z1,m1,e1⟩:=w1
 obtain ⟨z2,m2,e2⟩:=w2
 obtain ⟨⟨_,a⟩,_,b⟩:=worst_le xs x.2.1
 obtain ⟨⟨_,c⟩,_,d⟩:=worst_le xs y.2.1
 cases down with
 | true=>have:=a z2 m2;have:=c z1 m1;omega
 | false=>have:=b z2 m2;have:=d z1 m1;omega
noncomputable section
def ext131:Ext:=[]
theorem ext131Ok:ExtOk Tryz.prog ext131:=trivial
noncomputable def b131:Code:=bodyOf Tryz.f131
theorem hb131:Tryz.f131.body=some b131:=by kernel_rfl
def sig131:List AT:=[AT.v YA2,AT.v (.bool)]
def tys131:List Ty:=[.int .i64]
def kds131:List RK:=[]
def oks131:List AT:=owns sig131
def E131_3 (v5:Int) (v16:Int) (x1:Bool) (x0:List TyB4×Int×Int×Unit):Env:=[(1,.a (.val (.bool x1))),(5,.a (.val (.int .i64 v5))),(14,.a (.sl YA11 x0.1)),(15,.a (.val (.int .i64 (x0.1.length:Int)))),(16,.a (.val (.int .i64 v16)))]
def L131_3 (v5:Int) (v16:Int) (x1:Bool) (x0:List TyB4×Int×Int×Unit):Heap:=[]
mutual
def R131:Nat→List TyB4×Int×Int×Unit→Bool→List Dyn→Prop
 | 0,_,_,_=>False
 | n+1,x0,x1,ds=>((0<(x0.1.length:Int))∧(R131_3 n (List.getD x0.1 0 (0,0,())).2.1 (0) (x1) (x0) ds))
def R131_3:Nat→Int→Int→Bool→List TyB4×Int×Int×Unit→List Dyn→Prop
 | 0,_,_,_,_,_=>False
 | n+1,v5,v16,x1,x0,ds=>(if (decide (v16<(x0.1.length:Int)))=true then ((0≤v16)∧(v16<(x0.1.length:Int))∧(if (x1)=true then ((InR .i64 (v16+1))∧(R131_3 n (if v5<(List.getD x0.1 (Int.toNat v16) (0,0,())).2.1 then (List.getD x0.1 (Int.toNat v16) (0,0,())).2.1 else v5) (v16+1) (x1) (x0) ds)) else ((InR .i64 (v16+1))∧(R131_3 n (if (List.getD x0.1 (Int.toNat v16) (0,0,())).2.1<v5 then (List.getD x0.1 (Int.toNat v16) (0,0,())).2.1 else v5) (v16+1) (x1) (x0) ds)))) else (ds=[Dyn.mk (.int .i64) v5]))
end
theorem snd131:∀ n,(∀ (x0:List TyB4×Int×Int×Unit) (x1:Bool) ds,R131 n x0 x1 ds→∀ K q,AtV Tryz.prog 131 (PostR kds131 oks131 ds [] [] q K) 31 K q [] [.code b131] (entE 0 0 sig131 (x0,x1,())) (entL sig131 (x0,x1,())))∧(∀ (v5:Int) (v16:Int) (x1:Bool) (x0:List TyB4×Int×Int×Unit) ds,R131_3 n v5 v16 x1 x0 ds→∀ K q,AtV Tryz.prog 131 (PostR kds131 oks131 ds [] [] q K) 31 K q [] (cutAt b131 3) (E131_3 v5 v16 x1 x0) (L131_3 v5 v16 x1 x0)):=by
 intro n
 induction n with
 | zero=>exact ⟨fun _ _ _ h=>by simp only [R131] at h,fun _ _ _ _ _ h=>by simp only [R131_3] at h⟩
 | succ n ih =>
 obtain ⟨ih,ih3⟩:=ih
 refine ⟨?_,?_⟩
 ·intro x0 x1 ds h K q
  rw [R131] at h
  obtain ⟨s0,h⟩:=h
  exact AtV.go tabOk ext131Ok mixed false [] [] [1,5,14,15,16] [] [] (a1 ((by decide):(0:Int)≤(0:Int)) (a1 s0 trivial)) (ih3 _ _ _ _ _ h K q) (by kernel_rfl)
 ·intro v5 v16 x1 x0 ds h K q
  rw [R131_3] at h
  by_cases b0:(decide (v16<(x0.1.length:Int)))=true
  ·rw [if_pos b0] at h
   obtain ⟨s0,s1,h⟩:=h
   by_cases b1:(x1)=true
   ·rw [if_pos b1] at h
    obtain ⟨s2,h⟩:=h
    exact AtV.go tabOk ext131Ok mixed false [] [] [1,5,14,15,16] [] [true,true] (a1 b0 (a1 s0 (a1 s1 (a1 b1 (a1 s2 trivial))))) (ih3 _ _ _ _ _ h K q) (by kernel_rfl)
   ·rw [if_neg b1] at h
    replace b1:=bf_ b1
    obtain ⟨s2,h⟩:=h
    exact AtV.go tabOk ext131Ok mixed false [] [] [1,5,14,15,16] [] [true,false] (a1 b0 (a1 s0 (a1 s1 (a1 b1 (a1 s2 trivial))))) (ih3 _ _ _ _ _ h K q) (by kernel_rfl)
  ·rw [if_neg b0] at h
   replace b0:=bf_ b0
   subst h
   exact AtV.ret Tryz.func131 tabOk ext131Ok mixed false [] tys131 [false] (a1 b0 trivial) (by kernel_rfl)
def g131_0 (x0:List TyB4×Int×Int×Unit) (x1:Bool):Int:=worstL x1 (x0.1.getD 0 ((0:Int),(0:Int),())).2.1 x0.1
def P131 (x0:List TyB4×Int×Int×Unit) (x1:Bool):Prop:=1≤x0.1.length∧x0.1.length≤1000
theorem run131 (x0:List TyB4×Int×Int×Unit) (x1:Bool) (hl:x0.1.length≤1000):∀ (k i:Nat) (g:Int),i+k=x0.1.length→R131_3 (k+1) g (i:Int) x1 x0 [⟨.int .i64,worstL x1 g (x0.1.drop i)⟩]:=by
 intro k
 induction k with
 | zero =>
  intro i g hi
  rw [R131_3,if_neg (by simp only [decide_eq_true_eq];omega),List.drop_eq_nil_of_le (by omega)]
  rfl
 | succ k ih =>
  intro i g hi
  have hlt:i<x0.1.length:=by omega
  have e:(i:Int)+1=((i+1:Nat):Int):=by omega
  rw [R131_3,if_pos (by simp only [decide_eq_true_eq];omega),List.drop_eq_getElem_cons hlt,worst_cons]
  simp only [Int.toNat_natCast,getD_lt x0.1 i _ hlt]
  refine ⟨by omega,by omega,?_⟩
  have h:=fun g=>ih (i+1) g (by omega)
  cases x1 with
  | true =>
   simp only [if_true]
   rw [e]
   exact ⟨by rw [i64_iff];omega,h _⟩
  | false =>
   simp only [Bool.false_eq_true,if_false]
   rw [e]
   exact ⟨by rw [i64_iff];omega,h _⟩
theorem top131 (x0:List TyB4×Int×Int×Unit) (x1:Bool) (h:P131 x0 x1):R131 (x0.1.length+1+1) x0 x1 [⟨.int .i64,g131_0 x0 x1⟩]:=by
 rw [R131]
 exact ⟨by have:=h.1;omega,run131 x0 x1 h.2 x0.1.length 0 _ (by omega)⟩
def S131:Am.Spec:={ sig:=sig131,pre:=fun ⟨x0,x1,_⟩=>P131 x0 x1,res:=fun ⟨x0,x1,_⟩=>[⟨.int .i64,g131_0 x0 x1⟩] }
theorem con131:Contract Tryz.prog 131 S131:=contract_of Tryz.func131 hb131 (bl_ (by kernel_rfl)) (fun ⟨x0,x1,_⟩ h hwf K q =>
 (snd131 _).1 x0 x1 _ (top131 x0 x1 h) K q)
end
noncomputable section
def ext177:Ext:=[(127,S127)]
theorem ext177Ok:ExtOk Tryz.prog ext177:=⟨⟨ca127,con127⟩,trivial⟩
noncomputable def b177:Code:=bodyOf Tryz.f177
theorem hb177:Tryz.f177.body=some b177:=by kernel_rfl
def sig177:List AT:=[AT.v (.int .i64),AT.v (.int .i64)]
def tys177:List Ty:=[.int .i64]
def kds177:List RK:=[]
def oks177:List AT:=owns sig177
def P177 (x0:Int) (x1:Int):Prop:=((x1≠0)∧(InR .i64 (Int.tdiv x0 x1))∧((x1≠0)∧(InR .i64 (Int.tmod x0 x1))∧((P127 (Int.tmod x0 x1))∧((P127 x1)∧((InR .i64 (g127_0 x1 - g127_0 (Int.tmod x0 x1)))∧(if (decide (g127_0 (Int.tmod x0 x1)≥g127_0 x1 - g127_0 (Int.tmod x0 x1)))=true then (if (!decide (x0<0)==decide (x1<0))=true then ((InR .i64 (Int.tdiv x0 x1 - 1))∧True) else ((InR .i64 (Int.tdiv x0 x1+1))∧True)) else True))))))
def g177_0 (x0:Int) (x1:Int):Int:=(if (decide (g127_0 (Int.tmod x0 x1)≥g127_0 x1 - g127_0 (Int.tmod x0 x1)))=true then (if (!decide (x0<0)==decide (x1<0))=true then Int.tdiv x0 x1 - 1 else Int.tdiv x0 x1+1) else Int.tdiv x0 x1)
theorem at177 (x0:Int) (x1:Int) (h:P177 x0 x1) (K:Ctx) (q:Nat→Value):AtV Tryz.prog 177 (PostR kds177 oks177 [⟨.int .i64,g177_0 x0 x1⟩] [] [] q K) 30 K q [] [.code b177] (entE 0 0 sig177 (x0,x1,())) (entL sig177 (x0,x1,())):=by
 unfold P177 at h
 unfold g177_0
 obtain ⟨s0,s1,h⟩:=h
 obtain ⟨s2,s3,h⟩:=h
 obtain ⟨s4,h⟩:=h
 obtain ⟨s5,h⟩:=h
 obtain ⟨s6,h⟩:=h
 by_cases b0:(decide (g127_0 (Int.tmod x0 x1)≥g127_0 x1 - g127_0 (Int.tmod x0 x1)))=true
 ·try simp only [if_pos b0] at h ⊢
  by_cases b1:(!decide (x0<0)==decide (x1<0))=true
  ·try simp only [if_pos b1] at h ⊢
   obtain ⟨s7,h⟩:=h
   exact AtV.ret Tryz.func177 tabOk ext177Ok mixed false [] tys177 [true,true] (a1 s0 (a1 s1 (a1 s2 (a1 s3 (a1 s4 (a1 s5 (a1 s6 (a1 b0 (a1 b1 (a1 s7 trivial)))))))))) (by kernel_rfl)
  ·try simp only [if_neg b1] at h ⊢
   replace b1:=bf_ b1
   obtain ⟨s7,h⟩:=h
   exact AtV.ret Tryz.func177 tabOk ext177Ok mixed false [] tys177 [true,false] (a1 s0 (a1 s1 (a1 s2 (a1 s3 (a1 s4 (a1 s5 (a1 s6 (a1 b0 (a1 b1 (a1 s7 trivial)))))))))) (by kernel_rfl)
 ·try simp only [if_neg b0] at h ⊢
  replace b0:=bf_ b0
  exact AtV.ret Tryz.func177 tabOk ext177Ok mixed false [] tys177 [false] (a1 s0 (a1 s1 (a1 s2 (a1 s3 (a1 s4 (a1 s5 (a1 s6 (a1 b0 trivial)))))))) (by kernel_rfl)
def S177:Am.Spec:={ sig:=sig177,pre:=fun ⟨x0,x1,_⟩=>P177 x0 x1,res:=fun ⟨x0,x1,_⟩=>[⟨.int .i64,g177_0 x0 x1⟩],kds:=kds177 }
theorem con177:Contract Tryz.prog 177 S177:=contract_of Tryz.func177 hb177 (bl_ (by kernel_rfl)) (fun ⟨x0,x1,_⟩ h _ K q=>at177 x0 x1 h K q)
end
noncomputable section
def ext169:Ext:=[(177,S177)]
theorem ext169Ok:ExtOk Tryz.prog ext169:=⟨⟨ca177,con177⟩,trivial⟩
noncomputable def b169:Code:=bodyOf Tryz.f169
theorem hb169:Tryz.f169.body=some b169:=by kernel_rfl
def sig169:List AT:=[AT.v YA11,AT.v (.int .i64),AT.v (.bool)]
def tys169:List Ty:=[.int .i64]
def kds169:List RK:=[]
def oks169:List AT:=owns sig169
def P169 (x0:Int×Int×Unit) (x1:Int) (x2:Bool):Prop:=((InR .i64 (x1*981))∧((P177 (x1*981) 100)∧(if (x2)=true then ((InR .i64 (x0.2.1 - g177_0 (x1*981) 100))∧True) else ((InR .i64 (x0.2.1+g177_0 (x1*981) 100))∧True))))
def g169_0 (x0:Int×Int×Unit) (x1:Int) (x2:Bool):Int:=(if (x2)=true then x0.2.1 - g177_0 (x1*981) 100 else x0.2.1+g177_0 (x1*981) 100)
theorem at169 (x0:Int×Int×Unit) (x1:Int) (x2:Bool) (h:P169 x0 x1 x2) (K:Ctx) (q:Nat→Value):AtV Tryz.prog 169 (PostR kds169 oks169 [⟨.int .i64,g169_0 x0 x1 x2⟩] [] [] q K) 20 K q [] [.code b169] (entE 0 0 sig169 (x0,x1,x2,())) (entL sig169 (x0,x1,x2,())):=by
 unfold P169 at h
 unfold g169_0
 obtain ⟨s0,h⟩:=h
 obtain ⟨s1,h⟩:=h
 by_cases b0:(x2)=true
 ·try simp only [if_pos b0] at h ⊢
  obtain ⟨s2,h⟩:=h
  exact AtV.ret Tryz.func169 tabOk ext169Ok mixed false [] tys169 [true] (a1 s0 (a1 s1 (a1 b0 (a1 s2 trivial)))) (by kernel_rfl)
 ·try simp only [if_neg b0] at h ⊢
  replace b0:=bf_ b0
  obtain ⟨s2,h⟩:=h
  exact AtV.ret Tryz.func169 tabOk ext169Ok mixed false [] tys169 [false] (a1 s0 (a1 s1 (a1 b0 (a1 s2 trivial)))) (by kernel_rfl)
def S169:Am.Spec:={ sig:=sig169,pre:=fun ⟨x0,x1,x2,_⟩=>P169 x0 x1 x2,res:=fun ⟨x0,x1,x2,_⟩=>[⟨.int .i64,g169_0 x0 x1 x2⟩],kds:=kds169 }
theorem con169:Contract Tryz.prog 169 S169:=contract_of Tryz.func169 hb169 (bl_ (by kernel_rfl)) (fun ⟨x0,x1,x2,_⟩ h _ K q=>at169 x0 x1 x2 h K q)
end
noncomputable section
def ext170:Ext:=[]
theorem ext170Ok:ExtOk Tryz.prog ext170:=trivial
noncomputable def b170:Code:=bodyOf Tryz.f170
theorem hb170:Tryz.f170.body=some b170:=by kernel_rfl
def sig170:List AT:=[AT.v (.int .i64),AT.v (.int .i64)]
def tys170:List Ty:=[.int .i64]
def kds170:List RK:=[]
def oks170:List AT:=owns sig170
def P170 (x0:Int) (x1:Int):Prop:=((InR .i64 (x0+x1))∧((InR .i64 (x0+x1 - 1))∧((x1≠0)∧(InR .i64 (Int.tdiv (x0+x1 - 1) x1))∧True)))
def g170_0 (x0:Int) (x1:Int):Int:=Int.tdiv (x0+x1 - 1) x1
theorem at170 (x0:Int) (x1:Int) (h:P170 x0 x1) (K:Ctx) (q:Nat→Value):AtV Tryz.prog 170 (PostR kds170 oks170 [⟨.int .i64,g170_0 x0 x1⟩] [] [] q K) 11 K q [] [.code b170] (entE 0 0 sig170 (x0,x1,())) (entL sig170 (x0,x1,())):=by
 unfold P170 at h
 unfold g170_0
 obtain ⟨s0,h⟩:=h
 obtain ⟨s1,h⟩:=h
 obtain ⟨s2,s3,h⟩:=h
 exact AtV.ret Tryz.func170 tabOk ext170Ok mixed false [] tys170 [] (a1 s0 (a1 s1 (a1 s2 (a1 s3 trivial)))) (by kernel_rfl)
def S170:Am.Spec:={ sig:=sig170,pre:=fun ⟨x0,x1,_⟩=>P170 x0 x1,res:=fun ⟨x0,x1,_⟩=>[⟨.int .i64,g170_0 x0 x1⟩],kds:=kds170 }
theorem con170:Contract Tryz.prog 170 S170:=contract_of Tryz.func170 hb170 (bl_ (by kernel_rfl)) (fun ⟨x0,x1,_⟩ h _ K q=>at170 x0 x1 h K q)
end
noncomputable section
def ext155:Ext:=[(169,S169),(170,S170)]
theorem ext155Ok:ExtOk Tryz.prog ext155:=⟨⟨ca169,con169⟩,⟨ca170,con170⟩,trivial⟩
noncomputable def b155:Code:=bodyOf Tryz.f155
theorem hb155:Tryz.f155.body=some b155:=by kernel_rfl
def sig155:List AT:=[AT.v YA11,AT.v (.int .i64),AT.v (.int .i64),AT.v (.bool)]
def tys155:List Ty:=[.int .i64,.bool]
def kds155:List RK:=[]
def oks155:List AT:=owns sig155
def P155 (x0:Int×Int×Unit) (x1:Int) (x2:Int) (x3:Bool):Prop:=((P169 x0 x2 x3)∧(if (decide (g169_0 x0 x2 x3≤0))=true then True else ((InR .i64 (x1*x0.1))∧((P170 (x1*x0.1) 10)∧((InR .i64 (x1*x1))∧((InR .i64 (2*g169_0 x0 x2 x3))∧((P170 (x1*x1) (2*g169_0 x0 x2 x3))∧((InR .i64 (g170_0 (x1*x0.1) 10+g170_0 (x1*x1) (2*g169_0 x0 x2 x3)))∧True))))))))
def g155_0 (x0:Int×Int×Unit) (x1:Int) (x2:Int) (x3:Bool):Int:=(if (decide (g169_0 x0 x2 x3≤0))=true then 0 else g170_0 (x1*x0.1) 10+g170_0 (x1*x1) (2*g169_0 x0 x2 x3))
def g155_1 (x0:Int×Int×Unit) (x1:Int) (x2:Int) (x3:Bool):Bool:=(if (decide (g169_0 x0 x2 x3≤0))=true then false else true)
theorem at155 (x0:Int×Int×Unit) (x1:Int) (x2:Int) (x3:Bool) (h:P155 x0 x1 x2 x3) (K:Ctx) (q:Nat→Value):AtV Tryz.prog 155 (PostR kds155 oks155 [⟨.int .i64,g155_0 x0 x1 x2 x3⟩,⟨.bool,g155_1 x0 x1 x2 x3⟩] [] [] q K) 29 K q [] [.code b155] (entE 0 0 sig155 (x0,x1,x2,x3,())) (entL sig155 (x0,x1,x2,x3,())):=by
 unfold P155 at h
 unfold g155_0 g155_1
 obtain ⟨s0,h⟩:=h
 by_cases b0:(decide (g169_0 x0 x2 x3≤0))=true
 ·try simp only [if_pos b0] at h ⊢
  exact AtV.ret Tryz.func155 tabOk ext155Ok mixed false [] tys155 [true] (a1 s0 (a1 b0 trivial)) (by kernel_rfl)
 ·try simp only [if_neg b0] at h ⊢
  replace b0:=bf_ b0
  obtain ⟨s1,h⟩:=h
  obtain ⟨s2,h⟩:=h
  obtain ⟨s3,h⟩:=h
  obtain ⟨s4,h⟩:=h
  obtain ⟨s5,h⟩:=h
  obtain ⟨s6,h⟩:=h
  exact AtV.ret Tryz.func155 tabOk ext155Ok mixed false [] tys155 [false] (a1 s0 (a1 b0 (a1 s1 (a1 s2 (a1 s3 (a1 s4 (a1 s5 (a1 s6 trivial)))))))) (by kernel_rfl)
def S155:Am.Spec:={ sig:=sig155,pre:=fun ⟨x0,x1,x2,x3,_⟩=>P155 x0 x1 x2 x3,res:=fun ⟨x0,x1,x2,x3,_⟩=>[⟨.int .i64,g155_0 x0 x1 x2 x3⟩,⟨.bool,g155_1 x0 x1 x2 x3⟩],kds:=kds155 }
theorem con155:Contract Tryz.prog 155 S155:=contract_of Tryz.func155 hb155 (bl_ (by kernel_rfl)) (fun ⟨x0,x1,x2,x3,_⟩ h _ K q=>at155 x0 x1 x2 x3 h K q)
end
noncomputable section
def ext130:Ext:=[(155,S155)]
theorem ext130Ok:ExtOk Tryz.prog ext130:=⟨⟨ca155,con155⟩,trivial⟩
noncomputable def b130:Code:=bodyOf Tryz.f130
theorem hb130:Tryz.f130.body=some b130:=by kernel_rfl
def sig130:List AT:=[AT.v YA11,AT.v (.int .i64),AT.v (.int .i64),AT.v (.int .i64),AT.v (.bool)]
def tys130:List Ty:=[.bool]
def kds130:List RK:=[]
def oks130:List AT:=owns sig130
def P130 (x0:Int×Int×Unit) (x1:Int) (x2:Int) (x3:Int) (x4:Bool):Prop:=((P155 x0 x1 x3 x4)∧True)
def g130_0 (x0:Int×Int×Unit) (x1:Int) (x2:Int) (x3:Int) (x4:Bool):Bool:=(if (g155_1 x0 x1 x3 x4)=true then decide (g155_0 x0 x1 x3 x4≤x2) else false)
theorem at130 (x0:Int×Int×Unit) (x1:Int) (x2:Int) (x3:Int) (x4:Bool) (h:P130 x0 x1 x2 x3 x4) (K:Ctx) (q:Nat→Value):AtV Tryz.prog 130 (PostR kds130 oks130 [⟨.bool,g130_0 x0 x1 x2 x3 x4⟩] [] [] q K) 27 K q [] [.code b130] (entE 0 0 sig130 (x0,x1,x2,x3,x4,())) (entL sig130 (x0,x1,x2,x3,x4,())):=by
 unfold P130 at h
 unfold g130_0
 obtain ⟨s0,h⟩:=h
 by_cases b0:(g155_1 x0 x1 x3 x4)=true
 ·try simp only [if_pos b0] at h ⊢
  exact AtV.ret Tryz.func130 tabOk ext130Ok mixed false [] tys130 [true] (a1 s0 (a1 b0 trivial)) (by kernel_rfl)
 ·try simp only [if_neg b0] at h ⊢
  replace b0:=bf_ b0
  exact AtV.ret Tryz.func130 tabOk ext130Ok mixed false [] tys130 [false] (a1 s0 (a1 b0 trivial)) (by kernel_rfl)
def S130:Am.Spec:={ sig:=sig130,pre:=fun ⟨x0,x1,x2,x3,x4,_⟩=>P130 x0 x1 x2 x3 x4,res:=fun ⟨x0,x1,x2,x3,x4,_⟩=>[⟨.bool,g130_0 x0 x1 x2 x3 x4⟩],kds:=kds130 }
theorem con130:Contract Tryz.prog 130 S130:=contract_of Tryz.func130 hb130 (bl_ (by kernel_rfl)) (fun ⟨x0,x1,x2,x3,x4,_⟩ h _ K q=>at130 x0 x1 x2 x3 x4 h K q)
end
noncomputable section
def ext101:Ext:=[(96,S96),(131,S131),(130,S130)]
theorem ext101Ok:ExtOk Tryz.prog ext101:=⟨⟨ca96,con96⟩,⟨ca131,con131⟩,⟨ca130,con130⟩,trivial⟩
noncomputable def b101:Code:=bodyOf Tryz.f101
theorem hb101:Tryz.f101.body=some b101:=by kernel_rfl
def sig101:List AT:=[AT.v YA2,AT.v YA11,AT.v (.int .i64),AT.v (.int .i64),AT.v (.bool)]
def tys101:List Ty:=[.bool]
def kds101:List RK:=[]
def oks101:List AT:=owns sig101
def P101 (x0:List TyB4×Int×Int×Unit) (x1:Int×Int×Unit) (x2:Int) (x3:Int) (x4:Bool):Prop:=((P96 x0)∧((InR .i64 (g96_0 x0 - x2))∧(if (x4)=true then ((P131 x0 x4)∧((P130 x1 x3 x2 (g131_0 x0 x4) x4)∧True)) else ((P131 x0 x4)∧((P130 x1 x3 (g96_0 x0 - x2) (g131_0 x0 x4) x4)∧True)))))
def g101_0 (x0:List TyB4×Int×Int×Unit) (x1:Int×Int×Unit) (x2:Int) (x3:Int) (x4:Bool):Bool:=(if (x4)=true then g130_0 x1 x3 x2 (g131_0 x0 x4) x4 else g130_0 x1 x3 (g96_0 x0 - x2) (g131_0 x0 x4) x4)
theorem at101 (x0:List TyB4×Int×Int×Unit) (x1:Int×Int×Unit) (x2:Int) (x3:Int) (x4:Bool) (h:P101 x0 x1 x2 x3 x4) (K:Ctx) (q:Nat→Value):AtV Tryz.prog 101 (PostR kds101 oks101 [⟨.bool,g101_0 x0 x1 x2 x3 x4⟩] [] [] q K) 26 K q [] [.code b101] (entE 0 0 sig101 (x0,x1,x2,x3,x4,())) (entL sig101 (x0,x1,x2,x3,x4,())):=by
 unfold P101 at h
 unfold g101_0
 obtain ⟨s0,h⟩:=h
 obtain ⟨s1,h⟩:=h
 by_cases b0:(x4)=true
 ·try simp only [if_pos b0] at h ⊢
  obtain ⟨s2,h⟩:=h
  obtain ⟨s3,h⟩:=h
  exact AtV.ret Tryz.func101 tabOk ext101Ok mixed false [] tys101 [true] (a1 s0 (a1 s1 (a1 b0 (a1 s2 (a1 s3 trivial))))) (by kernel_rfl)
 ·try simp only [if_neg b0] at h ⊢
  replace b0:=bf_ b0
  obtain ⟨s2,h⟩:=h
  obtain ⟨s3,h⟩:=h
  exact AtV.ret Tryz.func101 tabOk ext101Ok mixed false [] tys101 [false] (a1 s0 (a1 s1 (a1 b0 (a1 s2 (a1 s3 trivial))))) (by kernel_rfl)
def S101:Am.Spec:={ sig:=sig101,pre:=fun ⟨x0,x1,x2,x3,x4,_⟩=>P101 x0 x1 x2 x3 x4,res:=fun ⟨x0,x1,x2,x3,x4,_⟩=>[⟨.bool,g101_0 x0 x1 x2 x3 x4⟩],kds:=kds101 }
theorem con101:Contract Tryz.prog 101 S101:=contract_of Tryz.func101 hb101 (bl_ (by kernel_rfl)) (fun ⟨x0,x1,x2,x3,x4,_⟩ h _ K q=>at101 x0 x1 x2 x3 x4 h K q)
end
noncomputable section
def ext100:Ext:=[(101,S101)]
theorem ext100Ok:ExtOk Tryz.prog ext100:=⟨⟨ca101,con101⟩,trivial⟩
noncomputable def b100:Code:=bodyOf Tryz.f100
theorem hb100:Tryz.f100.body=some b100:=by kernel_rfl
def sig100:List AT:=[AT.v (.int .i64),AT.v (.int .i64),AT.pb (.int .i64),AT.p .bool,AT.p (.int .i64),AT.p (.cons (.sl (.cons (.int .i64) (.cons (.int .i64) .unit))) (.cons (.int .i64) (.cons (.int .i64) .unit))),AT.p (.cons (.int .i64) (.cons (.int .i64) .unit)),AT.pb .bool]
def tys100:List Ty:=[.bool]
def kds100:List RK:=[]
def oks100:List AT:=owns sig100
def P100 (x0:Int) (x1:Int) (x2:Int) (x3:Bool) (x4:Int) (x5:List TyB4×Int×Int×Unit) (x6:Int×Int×Unit) (x7:Bool):Prop:=((InR .i64 (x2+1))∧(if (x3)=true then ((InR .i64 (x4 - x0))∧(if (decide (x0<x4))=true then ((P101 x5 x6 (x4 - x0) x1 x3)∧True) else True)) else (if (decide (x0<x4))=true then ((P101 x5 x6 x0 x1 x3)∧True) else True)))
def g100_0 (x0:Int) (x1:Int) (x2:Int) (x3:Bool) (x4:Int) (x5:List TyB4×Int×Int×Unit) (x6:Int×Int×Unit) (x7:Bool):Bool:=(if (x3)=true then (if (decide (x0<x4))=true then !!g101_0 x5 x6 (x4 - x0) x1 x3 else true) else (if (decide (x0<x4))=true then !!g101_0 x5 x6 x0 x1 x3 else true))
def u100_0 (x0:Int) (x1:Int) (x2:Int) (x3:Bool) (x4:Int) (x5:List TyB4×Int×Int×Unit) (x6:Int×Int×Unit) (x7:Bool):Int:=(if (x3)=true then (if (decide (x0<x4))=true then x2+1 else x2+1) else (if (decide (x0<x4))=true then x2+1 else x2+1))
def u100_1 (x0:Int) (x1:Int) (x2:Int) (x3:Bool) (x4:Int) (x5:List TyB4×Int×Int×Unit) (x6:Int×Int×Unit) (x7:Bool):Bool:=(if (x3)=true then (if (decide (x0<x4))=true then !g101_0 x5 x6 (x4 - x0) x1 x3 else false) else (if (decide (x0<x4))=true then !g101_0 x5 x6 x0 x1 x3 else false))
theorem at100 (x0:Int) (x1:Int) (x2:Int) (x3:Bool) (x4:Int) (x5:List TyB4×Int×Int×Unit) (x6:Int×Int×Unit) (x7:Bool) (h:P100 x0 x1 x2 x3 x4 x5 x6 x7) (K:Ctx) (q:Nat→Value):AtV Tryz.prog 100 (PostR kds100 oks100 [⟨.bool,g100_0 x0 x1 x2 x3 x4 x5 x6 x7⟩] [some ⟨.int .i64,[u100_0 x0 x1 x2 x3 x4 x5 x6 x7]⟩,some ⟨.bool,[u100_1 x0 x1 x2 x3 x4 x5 x6 x7]⟩] [2,7] q K) 33 K q [2,7] [.code b100] (entE 0 0 sig100 (x0,x1,x2,x3,x4,x5,x6,x7,())) (entL sig100 (x0,x1,x2,x3,x4,x5,x6,x7,())):=by
 unfold P100 at h
 unfold g100_0 u100_0 u100_1
 obtain ⟨s0,h⟩:=h
 by_cases b0:(x3)=true
 ·try simp only [if_pos b0] at h ⊢
  obtain ⟨s1,h⟩:=h
  by_cases b1:(decide (x0<x4))=true
  ·try simp only [if_pos b1] at h ⊢
   obtain ⟨s2,h⟩:=h
   exact AtV.weak (AtV.ret (us:=[Option.some (Lst.mk (.int .i64) [x2+1]),Option.some (Lst.mk .bool [!g101_0 x5 x6 (x4 - x0) x1 x3])]) Tryz.func100 tabOk ext100Ok mixed false [] tys100 [true,true] (a1 s0 (a1 b0 (a1 s1 (a1 b1 (a1 s2 trivial))))) (by kernel_rfl)) ⟨.inl rfl,.inl rfl,trivial⟩
  ·try simp only [if_neg b1] at h ⊢
   replace b1:=bf_ b1
   exact AtV.weak (AtV.ret (us:=[Option.some (Lst.mk (.int .i64) [x2+1]),Option.some (Lst.mk .bool [false])]) Tryz.func100 tabOk ext100Ok mixed false [] tys100 [true,false] (a1 s0 (a1 b0 (a1 s1 (a1 b1 trivial)))) (by kernel_rfl)) ⟨.inl rfl,.inl rfl,trivial⟩
 ·try simp only [if_neg b0] at h ⊢
  replace b0:=bf_ b0
  by_cases b1:(decide (x0<x4))=true
  ·try simp only [if_pos b1] at h ⊢
   obtain ⟨s1,h⟩:=h
   exact AtV.weak (AtV.ret (us:=[Option.some (Lst.mk (.int .i64) [x2+1]),Option.some (Lst.mk .bool [!g101_0 x5 x6 x0 x1 x3])]) Tryz.func100 tabOk ext100Ok mixed false [] tys100 [false,true] (a1 s0 (a1 b0 (a1 b1 (a1 s1 trivial)))) (by kernel_rfl)) ⟨.inl rfl,.inl rfl,trivial⟩
  ·try simp only [if_neg b1] at h ⊢
   replace b1:=bf_ b1
   exact AtV.weak (AtV.ret (us:=[Option.some (Lst.mk (.int .i64) [x2+1]),Option.some (Lst.mk .bool [false])]) Tryz.func100 tabOk ext100Ok mixed false [] tys100 [false,false] (a1 s0 (a1 b0 (a1 b1 trivial))) (by kernel_rfl)) ⟨.inl rfl,.inl rfl,trivial⟩
def S100:Am.Spec:={ sig:=sig100,pre:=fun ⟨x0,x1,x2,x3,x4,x5,x6,x7,_⟩=>P100 x0 x1 x2 x3 x4 x5 x6 x7,upd:=fun ⟨x0,x1,x2,x3,x4,x5,x6,x7,_⟩=>[some ⟨.int .i64,[u100_0 x0 x1 x2 x3 x4 x5 x6 x7]⟩,some ⟨.bool,[u100_1 x0 x1 x2 x3 x4 x5 x6 x7]⟩],res:=fun ⟨x0,x1,x2,x3,x4,x5,x6,x7,_⟩=>[⟨.bool,g100_0 x0 x1 x2 x3 x4 x5 x6 x7⟩],kds:=kds100 }
theorem con100:Contract Tryz.prog 100 S100:=contract_of Tryz.func100 hb100 (bl_ (by kernel_rfl)) (fun ⟨x0,x1,x2,x3,x4,x5,x6,x7,_⟩ h _ K q=>at100 x0 x1 x2 x3 x4 x5 x6 x7 h K q)
end
def rideL (nx:Int→Int→Int) (bad:Int→Int→Bool) (n:Int):Nat→Int→Int→Int→Option Int
 | 0,_,_,_=>none
 | f+1,place,speed,k=>if place<n then (if (decide (place+nx speed (n - place)<n)&&bad (place+nx speed (n - place)) (nx speed (n - place)))=true then some (k+1) else rideL nx bad n f (place+nx speed (n - place)) (nx speed (n - place)) (k+1)) else none
theorem rideL_congr {nx nx':Int→Int→Int} {bad bad':Int→Int→Bool} {n:Int} (h1:∀ speed left,0≤speed→speed≤15000→1≤left→left≤n→nx speed left=nx' speed left∧1≤nx speed left∧nx speed left≤left∧nx speed left≤15000) (h2:∀ place speed,0≤place→place<n→0≤speed→speed≤15000→bad place speed=bad' place speed) :
  ∀ (f:Nat) (place speed k:Int),0≤place→0≤speed→speed≤15000→rideL nx bad n f place speed k=rideL nx' bad' n f place speed k
 | 0,_,_,_,_,_,_=>rfl
 | f+1,place,speed,k,hp,hs,hs2=>by
  unfold rideL
  by_cases hc:place<n
  ·obtain ⟨e,e1,e2,e3⟩:=h1 speed (n - place) hs hs2 (by omega) (by omega)
   rw [if_pos hc,if_pos hc, ← e]
   have ih:=rideL_congr h1 h2 f (place+nx speed (n - place)) (nx speed (n - place)) (k+1) (by omega) (by omega) e3
   by_cases hd:place+nx speed (n - place)<n
   ·rw [h2 _ _ (by omega) hd (by omega) e3,ih]
   ·rw [decide_eq_false hd,Bool.false_and,Bool.false_and,ih]
  ·rw [if_neg hc,if_neg hc]
end Go.Proofs.YtfpmclmpbjbmcaaGreatDoor
-- facts: rideLoop
set_option linter.unusedVariables false
set_option linter.unusedSimpArgs false
set_option maxRecDepth 100000
namespace Go.Proofs.YtfpmclmpbjbmcaaGreatDoor
open Go Go.Am Go.Proofs Go.RowKit
abbrev TR56:=List TyB4×Int×Int×Unit
abbrev TY56:Ty := .cons (.sl (.cons (.int .i64) (.cons (.int .i64) .unit))) (.cons (.int .i64) (.cons (.int .i64) .unit))
abbrev BR56:=Int×Int×Unit
abbrev BY56:Ty := .cons (.int .i64) (.cons (.int .i64) .unit)
abbrev PR56:=Int×Int×Int×Int×Unit
abbrev PY56:Ty := .cons (.int .i64) (.cons (.int .i64) (.cons (.int .i64) (.cons (.int .i64) .unit)))
abbrev ptr56 (b:Nat):Value := .pointer (some ⟨b,0,none⟩)
def Box56 (w:World) (b:Nat) (u:Value):Prop:=∃ cur ty fz,w.heap[b]? = some (.cells cur ty fz)∧cur[0]? = some u∧FreeS 1 fz cur.size
theorem Box56.cell {w:World} {b:Nat} {u:Value} (h:Box56 w b u):w.cell? ⟨b,0,none⟩=some u:=by
 obtain ⟨cur,ty,fz,h1,h2,_⟩:=h
 unfold World.cell?
 rw [show w.heap[(⟨b,0,none⟩:Addr).block]? = _ from h1]
 exact h2
theorem Box56.lt {w:World} {b:Nat} {u:Value} (h:Box56 w b u):b<w.heap.size:=by
 obtain ⟨cur,ty,fz,h1,_⟩:=h
 exact (Array.getElem?_eq_some_iff.1 h1).1
theorem Box56.keep {w w':World} {b:Nat} {u:Value} (h:Box56 w b u) (he:w'.heap[b]? = w.heap[b]?):Box56 w' b u:=by
 obtain ⟨cur,ty,fz,h1,h2⟩:=h
 exact ⟨cur,ty,fz,he.trans h1,h2⟩
theorem Box56.pb {w:World} {G0:Nat→Prop} {b:Nat} {t:Ty} {x:t.den} {u:Value} (hs:t.size=1) (h:Box56 w b u) (hr:RepC w G0 t x [u]):PbAt w G0 t x (ptr56 b) [b]:=by
 obtain ⟨cur,ty,fz,h1,h2,h3⟩:=h
 have hc:0<cur.size:=(Array.getElem?_eq_some_iff.1 h2).1
 refine ⟨b,0,rfl,by show 1≤maxLen;decide,.inr ⟨b,0,1,cur,ty,fz,[[]],rfl,Nat.le_refl _,by decide,?_,h1,?_,rfl,rfl,fun i y bi hx hbi => ?_⟩⟩
 ·show 0+1*t.size≤cur.size
  rw [hs];omega
 ·show FreeS t.size fz cur.size
  rw [hs];exact h3
 ·rcases i with _ | i
  ·simp at hx hbi
   subst hx hbi
   refine ⟨[u],by show 1=t.size;rw [hs],fun j c hj => ?_,hr,rfl⟩
   rcases j with _ | j
   ·simp at hj;subst hj
    rw [Nat.zero_mul];exact h2
   ·simp at hj
  ·simp at hx
theorem pbBox56 {w:World} {G0:Nat→Prop} {b:Nat} {t:Ty} {x:t.den} {u:Value} {bs:List Nat} (hs:t.size=1) (h:PbAt w G0 t x (ptr56 b) bs) (hu:∀ cs,RepC w G0 t x cs→cs=[u]):Box56 w b u:=by
 obtain ⟨b',off',he,hm,h⟩:=h
 cases he
 rcases h with ⟨ad,_,h0,_⟩ | ⟨b2,off2,cap,cur,ty,fz,bss,hv,hc,_,hz,hh,hf,hl,_,hr⟩
 ·cases h0
 ·simp only [Value.slice.injEq,Option.some.injEq,Addr.mk.injEq,and_true] at hv
  obtain ⟨⟨rfl,rfl⟩,_,rfl⟩:=hv
  obtain ⟨bi,hbi⟩:∃ bi,bss[0]? = some bi:=⟨_,List.getElem?_eq_getElem (by rw [hl];exact Nat.zero_lt_one)⟩
  obtain ⟨cs,h1,h2,h3,_⟩:=hr 0 x bi rfl hbi
  rw [hu cs h3] at h2
  have h4:=h2 0 u rfl
  simp only [Nat.zero_mul,Nat.add_zero] at h4
  refine ⟨cur,ty,fz,hh,h4,?_⟩
  have:FreeS t.size fz cur.size:=hf
  rw [hs] at this
  exact this
def bad56 (tr:TR56) (br:BR56) (down:Bool) (way place speed:Int):Bool := !g101_0 tr br (if down=true then way - place else place) speed down
theorem clo56 (W:World) (S D Wy T Bk F:Nat) (place speed k:Int) (fd down:Bool) (way:Int) (tr:TR56) (br:BR56) (hgo:GOk W [S,F]) (hne:S≠F) (hS:Box56 W S (.int .i64 k)) (ik:InR .i64 k) (hF:Box56 W F (.bool fd))
  (hD:PtrAt W (Am.Good W [S,F]) .bool down (ptr56 D)) (hW:PtrAt W (Am.Good W [S,F]) (.int .i64) way (ptr56 Wy)) (hT:PtrAt W (Am.Good W [S,F]) TY56 tr (ptr56 T)) (hB:PtrAt W (Am.Good W [S,F]) BY56 br (ptr56 Bk)) (ip:InR .i64 place) (is:InR .i64 speed) (hp:P100 place speed k down way tr br fd) :
  Calls Tryz.prog 100 #[.int .i64 place,.int .i64 speed,ptr56 S,ptr56 D,ptr56 Wy,ptr56 T,ptr56 Bk,ptr56 F] W fun e w'=>e = .returned (.bool (!(decide (place<way)&&bad56 tr br down way place speed)))∧Kept [S,F] W w'∧Box56 w' S (.int .i64 (k+1))∧Box56 w' F (.bool (decide (place<way)&&bad56 tr br down way place speed)):=by
 have h:=con100 W (Am.Good W [S,F]) (Am.Good W [S,F]) (place,speed,k,down,way,tr,br,fd,()) [.int .i64 place,.int .i64 speed,ptr56 S,ptr56 D,ptr56 Wy,ptr56 T,ptr56 Bk,ptr56 F] [[],[],[S],[],[],[],[],[F]] hgo (fun _ h=>h) (fun _ h=>h) hp
  ⟨_,_,_,_,rfl,rfl,⟨rfl,rfl,ip⟩,_,_,_,_,rfl,rfl,⟨rfl,rfl,is⟩,_,_,_,_,rfl,rfl,hS.pb rfl ⟨rfl,ik⟩,_,_,_,_,rfl,rfl,⟨rfl,hD⟩,_,_,_,_,rfl,rfl,⟨rfl,hW⟩,_,_,_,_,rfl,rfl,⟨rfl,hT⟩,_,_,_,_,rfl,rfl,⟨rfl,hB⟩,_,_,_,_,rfl,rfl,hF.pb rfl rfl,rfl,rfl⟩
  (by simpa using hne)
 have eg:g100_0 place speed k down way tr br fd = !(decide (place<way)&&bad56 tr br down way place speed):=by
  unfold g100_0 bad56
  by_cases hl:place<way
  ·simp only [decide_eq_true hl,if_true,Bool.true_and]
   cases down <;> rfl
  ·simp only [decide_eq_false hl,Bool.false_eq_true,if_false,Bool.false_and]
   cases down <;> rfl
 have eu:u100_0 place speed k down way tr br fd=k+1:=by
  unfold u100_0
  split <;> split <;> rfl
 have ef:u100_1 place speed k down way tr br fd=(decide (place<way)&&bad56 tr br down way place speed):=by
  unfold u100_1 bad56
  by_cases hl:place<way
  ·simp only [decide_eq_true hl,if_true,Bool.true_and]
   cases down <;> rfl
  ·simp only [decide_eq_false hl,Bool.false_eq_true,if_false,Bool.false_and]
   cases down <;> rfl
 refine h.mono ?_
 rintro e w' ⟨rs,ubs,rbs,Fz,rfl,hk,⟨v,s,b,bs,rfl,rfl,⟨cs,ho,hi⟩,rfl,rfl⟩,⟨v1,s1,b1,bs1,hv1,rfl,⟨y1,hy1,hp1⟩,v2,s2,b2,bs2,hv2,rfl,⟨y2,hy2,hp2⟩,_⟩,_⟩
 obtain ⟨ho,_⟩:=ho
 have hi:cs=[v]:=hi
 rw [ho] at hi
 cases hi
 cases hv1
 cases hv2
 cases hy1
 cases hy2
 rw [eu] at hp1
 rw [ef] at hp2
 refine ⟨by rw [← eg];rfl,hk,pbBox56 rfl hp1 (fun cs h=>h.1),pbBox56 rfl hp2 (fun cs h=>h)⟩
theorem nxt56 (W:World) (pf:PR56) (s l:Int) (hgo:GOk W []) (hw:Wf PY56 pf) (is:InR .i64 s) (il:InR .i64 l) (hp:P129 pf s l) :
  Calls Tryz.prog 129 #[.agg #[.int .i64 pf.1,.int .i64 pf.2.1,.int .i64 pf.2.2.1,.int .i64 pf.2.2.2.1],.int .i64 s,.int .i64 l] W fun e w'=>e = .returned (.int .i64 (g129_0 pf s l))∧Below W.heap.size W w':=by
 have hr:RepC W (Am.Good W []) PY56 pf (fcells PY56 pf):=(OwnC.flat (w:=W) (w':=W) (G:=Am.Good W []) rfl (own_of_wf rfl hw)).1
 have h:=con129.down rfl W (pf,s,l,()) [.agg #[.int .i64 pf.1,.int .i64 pf.2.1,.int .i64 pf.2.2.1,.int .i64 pf.2.2.2.1],.int .i64 s,.int .i64 l] [[],[],[]] hgo hp ⟨_,_,_,_,rfl,rfl,⟨rfl,fcells PY56 pf,rfl,hr⟩,_,_,_,_,rfl,rfl,⟨rfl,rfl,is⟩,_,_,_,_,rfl,rfl,⟨rfl,rfl,il⟩,rfl,rfl⟩ (by simp)
 refine h.mono ?_
 rintro e w' ⟨rs,ubs,rbs,rfl,hk,⟨u,s,b1,bs1,cs,rfl,rfl,ho,hv,rfl,rfl⟩,_⟩
 obtain ⟨ho,_⟩:=ho
 have hv:cs=[u]:=hv
 rw [ho] at hv
 cases hv
 exact ⟨rfl,hk.below⟩
theorem gokK56 {O:List Nat} {w W:World} (h:GOk w O) (hk:Kept O w W):GOk W O where
 inv:=h.inv.keep fun b hb hs=>hk.block b hs fun ho=>by have:=h.out b ho;omega
 size:=Nat.le_trans h.size hk.size
 out:=h.out
theorem good56 {O:List Nat} {w W:World} (hk:Kept O w W):∀ b,Am.Good w O b→Am.Good W O b:=fun b h=>⟨Nat.lt_of_lt_of_le h.1 hk.size,h.2⟩
theorem ptrK56 {O:List Nat} {w W:World} (hk:Kept O w W) {t:Ty} {x:t.den} {v:Value} (h:PtrAt w (Am.Good w O) t x v):PtrAt W (Am.Good W O) t x v:=h.keepB (good56 hk) (fun b hb=>hk.block b hb.1 hb.2)
def Fin56 (w:World) (S F:Nat):Option Int→Prop
 | some r=>Box56 w S (.int .i64 r)∧Box56 w F (.bool true)
 | none=>Box56 w F (.bool false)
theorem rideEnd56 (nx:Int→Int→Int) (bad:Int→Int→Bool) (n:Int) (f:Nat) (place speed k:Int) (h:¬ place<n):rideL nx bad n f place speed k=none:=by
 cases f with
 | zero=>rfl
 | succ f=>rw [rideL,if_neg h]
theorem cel56 {w:World} {b:Nat} {cs:Array Value} {ty:TypeId} (h:w.heap[b]? = some (.cells cs ty)) (j:Nat) (u:Value) (hj:cs[j]? = some u):w.cell? ⟨b,j,none⟩=some u:=by
 unfold World.cell?
 rw [show w.heap[(⟨b,j,none⟩:Addr).block]? = _ from h]
 exact hj
set_option maxHeartbeats 4000000 in
theorem ride56 (W:World) (S D Wy T Bk F:Nat) (down:Bool) (way:Int) (tr:TR56) (br:BR56) (pf:PR56) (fu:Nat) (hgo:GOk W [S,F]) (hne:S≠F) (hS:Box56 W S (.int .i64 0)) (hF:Box56 W F (.bool false))
  (hD:PtrAt W (Am.Good W [S,F]) .bool down (ptr56 D)) (hW:PtrAt W (Am.Good W [S,F]) (.int .i64) way (ptr56 Wy)) (hT:PtrAt W (Am.Good W [S,F]) TY56 tr (ptr56 T)) (hB:PtrAt W (Am.Good W [S,F]) BY56 br (ptr56 Bk)) (hw:Wf PY56 pf) (hway:0≤way∧way≤3000000) (hfu:way≤(fu:Int))
  (hnx:∀ s l,0≤s→s≤15000→1≤l→l≤way→P129 pf s l∧1≤g129_0 pf s l∧g129_0 pf s l≤l∧g129_0 pf s l≤15000)
  (hcl:∀ place s k fd,0≤place→place≤way→0≤s→s≤15000→0≤k→k≤3000000→P100 place s k down way tr br fd) :
  Calls Tryz.prog 99 #[.agg #[.int .i64 pf.1,.int .i64 pf.2.1,.int .i64 pf.2.2.1,.int .i64 pf.2.2.2.1],.int .i64 way,.func (.func 100) #[] #[ptr56 S,ptr56 D,ptr56 Wy,ptr56 T,ptr56 Bk,ptr56 F]] W fun e w'=>e = .returned (.tuple #[])∧Kept [S,F] W w' ∧
   Fin56 w' S F (rideL (g129_0 pf) (bad56 tr br down way) way fu 0 0 0):=by
 have lS:=hS.lt
 have lF:=hF.lt
 have HG:Aside (GOk W [S,F]):=hgo
 have HD:Aside (PtrAt W (Am.Good W [S,F]) .bool down (ptr56 D)):=hD
 have HW:Aside (PtrAt W (Am.Good W [S,F]) (.int .i64) way (ptr56 Wy)):=hW
 have HT:Aside (PtrAt W (Am.Good W [S,F]) TY56 tr (ptr56 T)):=hT
 have HB:Aside (PtrAt W (Am.Good W [S,F]) BY56 br (ptr56 Bk)):=hB
 have HS0:Aside (Box56 W S (.int .i64 0)):=hS
 have HF0:Aside (Box56 W F (.bool false)):=hF
 clear hgo hD hW hT hB hS hF
 go_enter Tryz.func99,Tryz.ntmps99
 go_wp2
 go_loopw [6,7] (fun pl sp wr=>∃ (place speed k:Int) (f:Nat),pl = .int .i64 place∧sp = .int .i64 speed∧(0≤place∧place≤way)∧(0≤speed∧speed≤15000)∧(0≤k∧k≤place)∧way - place≤(f:Int)∧Kept [S,F] W wr ∧
   wr.heap[W.heap.size]? = some (.cells #[.int .i64 pf.1,.int .i64 pf.2.1,.int .i64 pf.2.2.1,.int .i64 pf.2.2.2.1] 29)∧Box56 wr S (.int .i64 k)∧Box56 wr F (.bool false) ∧
   rideL (g129_0 pf) (bad56 tr br down way) way f place speed k=rideL (g129_0 pf) (bad56 tr br down way) way fu 0 0 0) (fun pl _ _=>(way - intOf pl).toNat)
 case atStart=>exact ⟨0,0,0,fu,rfl,rfl,by omega,by omega,by omega,by omega,(Kept.refl _ W).alloc _,heap_alloc_new W _,HS0.out.keep (Below.heap_alloc _ _ _ lS),HF0.out.keep (Below.heap_alloc _ _ _ lF),rfl⟩
 case round =>
  obtain ⟨place,speed,k,f,rfl,rfl,hpl,hsp,hk,hf,hkp,hpb,hbs,hbf,hr⟩:=hrel
  have HK:Aside (Kept [S,F] W wr):=hkp
  have HBS:Aside (Box56 wr S (.int .i64 k)):=hbs
  have HBF:Aside (Box56 wr F (.bool false)):=hbf
  have HR:Aside (rideL (g129_0 pf) (bad56 tr br down way) way f place speed k=rideL (g129_0 pf) (bad56 tr br down way) way fu 0 0 0):=hr
  have lS2:S<wr.heap.size:=hbs.lt
  have lF2:F<wr.heap.size:=hbf.lt
  have G1:Aside (GOk wr []):=⟨(gokK56 HG.out hkp).inv,(gokK56 HG.out hkp).size,fun b h=>by cases h⟩
  have lW:W.heap.size<wr.heap.size:=(Array.getElem?_eq_some_iff.1 hpb).1
  have q0:wr.cell? ⟨W.heap.size,0,none⟩=some (.int .i64 pf.1):=cel56 hpb 0 _ rfl
  have q1:wr.cell? ⟨W.heap.size,1,none⟩=some (.int .i64 pf.2.1):=cel56 hpb 1 _ rfl
  have q2:wr.cell? ⟨W.heap.size,2,none⟩=some (.int .i64 pf.2.2.1):=cel56 hpb 2 _ rfl
  have q3:wr.cell? ⟨W.heap.size,3,none⟩=some (.int .i64 pf.2.2.2.1):=cel56 hpb 3 _ rfl
  have HPB:Aside (wr.heap[W.heap.size]? = some (.cells #[.int .i64 pf.1,.int .i64 pf.2.1,.int .i64 pf.2.2.1,.int .i64 pf.2.2.2.1] 29)):=hpb
  clear hkp hbs hbf hr hpb
  by_cases hlt:place<way
  ·obtain ⟨np,n1,n2,n3⟩:=hnx speed (way - place) hsp.1 hsp.2 (by omega) (by omega)
   have HN:Aside (∀ W1,GOk W1 []→Calls Tryz.prog 129 #[.agg #[.int .i64 pf.1,.int .i64 pf.2.1,.int .i64 pf.2.2.1,.int .i64 pf.2.2.2.1],.int .i64 speed,.int .i64 (way - place)] W1 fun e w'=>e = .returned (.int .i64 (g129_0 pf speed (way - place)))∧Below W1.heap.size W1 w'):=fun W1 h=>nxt56 W1 pf speed (way - place) h hw (by rw [i64_iff];omega) (by rw [i64_iff];omega) np
   obtain ⟨f,rfl⟩:∃ f',f=f'+1:=⟨f - 1,by omega⟩
   have HR2:Aside (rideL (g129_0 pf) (bad56 tr br down way) way fu 0 0 0=if (decide (place+g129_0 pf speed (way - place)<way)&&bad56 tr br down way (place+g129_0 pf speed (way - place)) (g129_0 pf speed (way - place)))=true then some (k+1) else rideL (g129_0 pf) (bad56 tr br down way) way f (place+g129_0 pf speed (way - place)) (g129_0 pf speed (way - place)) (k+1)):=by
    have h:=HR.out
    rw [rideL,if_pos hlt] at h
    exact h.symm
   generalize g129_0 pf speed (way - place)=s at *
   have HC:Aside (∀ W2,Kept [S,F] W W2→Box56 W2 S (.int .i64 k)→Box56 W2 F (.bool false)→Calls Tryz.prog 100 #[.int .i64 (place+s),.int .i64 s,ptr56 S,ptr56 D,ptr56 Wy,ptr56 T,ptr56 Bk,ptr56 F] W2 fun e w'=>e = .returned (.bool (!(decide (place+s<way)&&bad56 tr br down way (place+s) s)))∧Kept [S,F] W2 w'∧Box56 w' S (.int .i64 (k+1))∧Box56 w' F (.bool (decide (place+s<way)&&bad56 tr br down way (place+s) s))) :=
    fun W2 hk2 h1 h2=>clo56 W2 S D Wy T Bk F (place+s) s k false down way tr br (gokK56 HG.out hk2) hne h1 (by rw [i64_iff];omega) h2 (ptrK56 hk2 HD.out) (ptrK56 hk2 HW.out) (ptrK56 hk2 HT.out) (ptrK56 hk2 HB.out) (by rw [i64_iff];omega) (by rw [i64_iff];omega) (hcl _ _ _ _ (by omega) (by omega) (by omega) (by omega) (by omega) (by omega))
   have hq1:IntKind.i64.wrap (way - place)=way - place:=by rw [IntKind.wrap_i64];omega
   have hq2:IntKind.i64.wrap (place+s)=place+s:=by rw [IntKind.wrap_i64];omega
   have hnx:True:=trivial
   have hcl:True:=trivial
   generalize (decide (place+s<way)&&bad56 tr br down way (place+s) s)=bb at *
   cases bb with
   | true =>
    go_wp2_with (first
     | (go_at_call 129;refine (HN.out wr G1.out).mono ?_;rintro e w4 ⟨rfl,b4⟩;have K4:Aside (Kept [S,F] W w4):=HK.out.trans (Kept.of_below b4).of_nil;have S4:Aside (Box56 w4 S (.int .i64 k)):=HBS.out.keep (b4.block S lS2);have F4:Aside (Box56 w4 F (.bool false)):=HBF.out.keep (b4.block F lF2))
     | (go_at_call 100;refine (HC.out w4 K4.out S4.out F4.out).mono ?_;rintro e w5 ⟨rfl,k5,s5,f5⟩;have K5:Aside (Kept [S,F] W w5):=K4.out.trans k5;have S5:Aside (Box56 w5 S (.int .i64 (k+1))):=s5;have F5:Aside (Box56 w5 F (.bool true)):=f5;clear k5 s5 f5))
    (try simp only [Exit.inBlock,Exit.then])
    refine bodyPost_ret (results_none rfl _ _ _) rfl ?_
    exact ⟨rfl,K5.out,by rw [HR2.out,if_pos (by first | exact rfl | exact trivial)];exact ⟨S5.out,F5.out⟩⟩
   | false =>
    go_wp2_with (first
     | (go_at_call 129;refine (HN.out wr G1.out).mono ?_;rintro e w4 ⟨rfl,b4⟩;have K4:Aside (Kept [S,F] W w4):=HK.out.trans (Kept.of_below b4).of_nil;have S4:Aside (Box56 w4 S (.int .i64 k)):=HBS.out.keep (b4.block S lS2);have F4:Aside (Box56 w4 F (.bool false)):=HBF.out.keep (b4.block F lF2);have P4:Aside (w4.heap[W.heap.size]? = some (.cells #[.int .i64 pf.1,.int .i64 pf.2.1,.int .i64 pf.2.2.1,.int .i64 pf.2.2.2.1] 29)):=(b4.block _ lW).trans HPB.out;have lW4:W.heap.size<w4.heap.size:=Nat.lt_of_lt_of_le lW b4.size)
     | (go_at_call 100;refine (HC.out w4 K4.out S4.out F4.out).mono ?_;rintro e w5 ⟨rfl,k5,s5,f5⟩;have K5:Aside (Kept [S,F] W w5):=K4.out.trans k5;have S5:Aside (Box56 w5 S (.int .i64 (k+1))):=s5;have F5:Aside (Box56 w5 F (.bool false)):=f5;have P5:Aside (w5.heap[W.heap.size]? = some (.cells #[.int .i64 pf.1,.int .i64 pf.2.1,.int .i64 pf.2.2.1,.int .i64 pf.2.2.2.1] 29)):=(k5.block _ lW4 (by simp;omega)).trans P4.out;clear k5 s5 f5))
    exact ⟨⟨place+s,s,k+1,f,rfl,rfl,by omega,by omega,by omega,by omega,K5.out,P5.out,S5.out,F5.out,by rw [HR2.out,if_neg (by simp)]⟩,by simp [intOf];omega⟩
  ·go_wp2
   go_end0
   exact ⟨rfl,HK.out,by rw [← HR.out,rideEnd56 _ _ _ _ _ _ _ (by omega)];exact HBF.out⟩
def P56 (x0:TR56) (x1:BR56) (x2:PR56) (x3:Bool):Prop:=g85_0 x0=true→g87_0 x1=true→g88_0 x2=true→P96 x0∧(0≤g96_0 x0∧g96_0 x0≤3000000) ∧
 (∀ s l,0≤s→s≤15000→1≤l→l≤g96_0 x0→P129 x2 s l∧1≤g129_0 x2 s l∧g129_0 x2 s l≤l∧g129_0 x2 s l≤15000) ∧
 (∀ place s k fd,0≤place→place≤g96_0 x0→0≤s→s≤15000→0≤k→k≤3000000→P100 place s k x3 (g96_0 x0) x0 x1 fd)
def code56:Option Int→Int
 | some _=>0
 | none=>3
def run56 (x0:TR56) (x1:BR56) (x2:PR56) (x3:Bool):Option Int:=rideL (g129_0 x2) (bad56 x0 x1 x3 (g96_0 x0)) (g96_0 x0) (g96_0 x0).toNat 0 0 0
def g56_0 (x0:TR56) (x1:BR56) (x2:PR56) (x3:Bool):Int:=if (g85_0 x0&&g87_0 x1&&g88_0 x2)=true then (run56 x0 x1 x2 x3).getD 0 else 0
def g56_1 (x0:TR56) (x1:BR56) (x2:PR56) (x3:Bool):Int:=if (g85_0 x0&&g87_0 x1&&g88_0 x2)=true then code56 (run56 x0 x1 x2 x3) else 1
theorem rideNon56 {nx:Int→Int→Int} {bad:Int→Int→Bool} {n:Int}:∀ {f:Nat} {p s k r:Int},0≤k→rideL nx bad n f p s k=some r→0≤r∧r≤k+(f:Int)
 | 0,_,_,_,_,_,h=>by cases h
 | f+1,p,s,k,r,hk,h=>by
  rw [rideL] at h
  split at h
  ·split at h
   ·cases h;omega
   ·have:=rideNon56 (by omega) h
    omega
  ·cases h
theorem trk56 (W:World) (tr:TR56) (v:Value) (hgo:GOk W []) (hv:∃ cs,v = .agg cs.toArray∧RepC W (Am.Good W []) TY56 tr cs) :
  Calls Tryz.prog 85 #[v] W fun e w'=>e = .returned (.bool (g85_0 tr))∧Below W.heap.size W w':=by
 have h:=con85.down rfl W (tr,()) [v] [[]] hgo trivial ⟨_,_,_,_,rfl,rfl,⟨rfl,hv⟩,rfl,rfl⟩ (by simp)
 refine h.mono ?_
 rintro e w' ⟨rs,ubs,rbs,rfl,hk,⟨u,s,b1,bs1,cs,rfl,rfl,ho,hv,rfl,rfl⟩,_⟩
 obtain ⟨ho,_⟩:=ho
 have hv:cs=[u]:=hv
 rw [ho] at hv
 cases hv
 exact ⟨rfl,hk.below⟩
theorem len56 (W:World) (tr:TR56) (v:Value) (hgo:GOk W []) (hv:∃ cs,v = .agg cs.toArray∧RepC W (Am.Good W []) TY56 tr cs) (hp:P96 tr) :
  Calls Tryz.prog 96 #[v] W fun e w'=>e = .returned (.int .i64 (g96_0 tr))∧Below W.heap.size W w':=by
 have h:=con96.down rfl W (tr,()) [v] [[]] hgo hp ⟨_,_,_,_,rfl,rfl,⟨rfl,hv⟩,rfl,rfl⟩ (by simp)
 refine h.mono ?_
 rintro e w' ⟨rs,ubs,rbs,rfl,hk,⟨u,s,b1,bs1,cs,rfl,rfl,ho,hv,rfl,rfl⟩,_⟩
 obtain ⟨ho,_⟩:=ho
 have hv:cs=[u]:=hv
 rw [ho] at hv
 cases hv
 exact ⟨rfl,hk.below⟩
theorem brk56 (W:World) (br:BR56) (hgo:GOk W []) (hw:Wf BY56 br) :
  Calls Tryz.prog 87 #[.agg #[.int .i64 br.1,.int .i64 br.2.1]] W fun e w'=>e = .returned (.bool (g87_0 br))∧Below W.heap.size W w':=by
 have hr:RepC W (Am.Good W []) BY56 br (fcells BY56 br):=(OwnC.flat (w:=W) (w':=W) (G:=Am.Good W []) rfl (own_of_wf rfl hw)).1
 have h:=con87.down rfl W (br,()) [.agg #[.int .i64 br.1,.int .i64 br.2.1]] [[]] hgo trivial ⟨_,_,_,_,rfl,rfl,⟨rfl,fcells BY56 br,rfl,hr⟩,rfl,rfl⟩ (by simp)
 refine h.mono ?_
 rintro e w' ⟨rs,ubs,rbs,rfl,hk,⟨u,s,b1,bs1,cs,rfl,rfl,ho,hv,rfl,rfl⟩,_⟩
 obtain ⟨ho,_⟩:=ho
 have hv:cs=[u]:=hv
 rw [ho] at hv
 cases hv
 exact ⟨rfl,hk.below⟩
theorem prf56 (W:World) (pf:PR56) (hgo:GOk W []) (hw:Wf PY56 pf) :
  Calls Tryz.prog 88 #[.agg #[.int .i64 pf.1,.int .i64 pf.2.1,.int .i64 pf.2.2.1,.int .i64 pf.2.2.2.1]] W fun e w'=>e = .returned (.bool (g88_0 pf))∧Below W.heap.size W w':=by
 have hr:RepC W (Am.Good W []) PY56 pf (fcells PY56 pf):=(OwnC.flat (w:=W) (w':=W) (G:=Am.Good W []) rfl (own_of_wf rfl hw)).1
 have h:=con88.down rfl W (pf,()) [.agg #[.int .i64 pf.1,.int .i64 pf.2.1,.int .i64 pf.2.2.1,.int .i64 pf.2.2.2.1]] [[]] hgo trivial ⟨_,_,_,_,rfl,rfl,⟨rfl,fcells PY56 pf,rfl,hr⟩,rfl,rfl⟩ (by simp)
 refine h.mono ?_
 rintro e w' ⟨rs,ubs,rbs,rfl,hk,⟨u,s,b1,bs1,cs,rfl,rfl,ho,hv,rfl,rfl⟩,_⟩
 obtain ⟨ho,_⟩:=ho
 have hv:cs=[u]:=hv
 rw [ho] at hv
 cases hv
 exact ⟨rfl,hk.below⟩
theorem gokB56 {w W:World} (h:GOk w []) (hb:Below w.heap.size w W):GOk W []:=gokK56 h (Kept.of_below hb)
theorem trkB56 {w W:World} (hb:Below w.heap.size w W) {tr:TR56} {v:Value} (hv:∃ cs,v = .agg cs.toArray∧RepC w (Am.Good w []) TY56 tr cs):∃ cs,v = .agg cs.toArray∧RepC W (Am.Good W []) TY56 tr cs:=by
 obtain ⟨cs,rfl,h⟩:=hv
 exact ⟨cs,rfl,h.keep (good56 (Kept.of_below hb)) (fun b hb'=>hb.block b hb'.1)⟩
structure Env56 (w:World) (sl:Value) (tr:TR56) (br:BR56) (pf:PR56) (down:Bool) (W:World):Prop where
 low:Below w.heap.size w W
 t:W.heap[w.heap.size]? = some (.cells #[sl,.int .i64 tr.2.1,.int .i64 tr.2.2.1] 25)
 b:W.heap[w.heap.size+1]? = some (.cells #[.int .i64 br.1,.int .i64 br.2.1] 27)
 p:W.heap[w.heap.size+1+1]? = some (.cells #[.int .i64 pf.1,.int .i64 pf.2.1,.int .i64 pf.2.2.1,.int .i64 pf.2.2.2.1] 29)
 d:W.heap[w.heap.size+1+1+1]? = some (.cells #[.bool down] 4)
theorem Env56.keep {w W W':World} {sl:Value} {tr:TR56} {br:BR56} {pf:PR56} {down:Bool} (h:Env56 w sl tr br pf down W) (hb:Below W.heap.size W W'):Env56 w sl tr br pf down W' where
 low:=h.low.trans (hb.mono h.low.size)
 t:=(hb.block _ (Array.getElem?_eq_some_iff.1 h.t).1).trans h.t
 b:=(hb.block _ (Array.getElem?_eq_some_iff.1 h.b).1).trans h.b
 p:=(hb.block _ (Array.getElem?_eq_some_iff.1 h.p).1).trans h.p
 d:=(hb.block _ (Array.getElem?_eq_some_iff.1 h.d).1).trans h.d
theorem new56 (w:World) (o:Obj) (n:Nat) (hn:w.heap.size=n):(w.alloc o).heap[n]? = some o:=by
 subst hn
 exact heap_alloc_new w o
abbrev W456 (w:World) (sl:Value) (tr:TR56) (br:BR56) (pf:PR56) (down:Bool):World:=((((w.alloc (.cells #[sl,.int .i64 tr.2.1,.int .i64 tr.2.2.1] 25)).alloc (.cells #[.int .i64 br.1,.int .i64 br.2.1] 27)).alloc (.cells #[.int .i64 pf.1,.int .i64 pf.2.1,.int .i64 pf.2.2.1,.int .i64 pf.2.2.2.1] 29)).alloc (.cells #[.bool down] 4))
theorem env56 (w:World) (sl:Value) (tr:TR56) (br:BR56) (pf:PR56) (down:Bool) :
  Env56 w sl tr br pf down (W456 w sl tr br pf down):=by
 refine ⟨((((Below.refl _ w).alloc (Nat.le_refl _) _).alloc (by simp) _).alloc (by simp <;> omega) _).alloc (by simp <;> omega) _,?_,?_,?_,?_⟩
 ·rw [Below.heap_alloc _ _ _ (by simp <;> omega),Below.heap_alloc _ _ _ (by simp <;> omega),Below.heap_alloc _ _ _ (by simp)]
  exact heap_alloc_new w _
 ·rw [Below.heap_alloc _ _ _ (by simp <;> omega),Below.heap_alloc _ _ _ (by simp)]
  exact new56 _ _ _ (by simp)
 ·rw [Below.heap_alloc _ _ _ (by simp)]
  exact new56 _ _ _ (by simp)
 ·exact new56 _ _ _ (by simp)
theorem boxOf56 {W:World} {b:Nat} {u:Value} {ty:TypeId} (h:W.heap[b]? = some (.cells #[u] ty)):Box56 W b u:=⟨#[u],ty,(0,0),h,rfl,fun j _ hj=>by have:=hj.2;omega,.inl rfl⟩
abbrev W756 (w4:World) (way:Int):World:=((w4.alloc (.cells #[.int .i64 way] 2)).alloc (.cells #[.int .i64 0] 2)).alloc (.cells #[.bool false] 4)
theorem low756 (w4:World) (way:Int):Below w4.heap.size w4 (W756 w4 way):=(((Below.refl _ w4).alloc (Nat.le_refl _) _).alloc (by simp) _).alloc (by simp <;> omega) _
theorem way756 (w4:World) (way:Int):(W756 w4 way).heap[w4.heap.size]? = some (.cells #[.int .i64 way] 2):=by
 rw [Below.heap_alloc _ _ _ (by simp <;> omega),Below.heap_alloc _ _ _ (by simp)]
 exact heap_alloc_new w4 _
theorem sec756 (w4:World) (way:Int):(W756 w4 way).heap[w4.heap.size+1]? = some (.cells #[.int .i64 0] 2):=by
 rw [Below.heap_alloc _ _ _ (by simp)]
 exact new56 _ _ _ (by simp)
theorem fnd756 (w4:World) (way:Int):(W756 w4 way).heap[w4.heap.size+1+1]? = some (.cells #[.bool false] 4):=new56 _ _ _ (by simp)
theorem call56 {w w4:World} {sl:Value} {tr:TR56} {br:BR56} {pf:PR56} {down:Bool} (E4:Env56 w sl tr br pf down w4) (hgo:GOk w []) (hv:∃ cs,Value.agg #[sl,.int .i64 tr.2.1,.int .i64 tr.2.2.1] = .agg cs.toArray∧RepC w (Am.Good w []) TY56 tr cs) (hw1:Wf BY56 br) (hw2:Wf PY56 pf)
  (p2:0≤g96_0 tr∧g96_0 tr≤3000000)
  (p3:∀ s l,0≤s→s≤15000→1≤l→l≤g96_0 tr→P129 pf s l∧1≤g129_0 pf s l∧g129_0 pf s l≤l∧g129_0 pf s l≤15000)
  (p4:∀ place s k fd,0≤place→place≤g96_0 tr→0≤s→s≤15000→0≤k→k≤3000000→P100 place s k down (g96_0 tr) tr br fd) :
  Calls Tryz.prog 99 #[.agg #[.int .i64 pf.1,.int .i64 pf.2.1,.int .i64 pf.2.2.1,.int .i64 pf.2.2.2.1],.int .i64 (g96_0 tr),.func (.func 100) #[] #[ptr56 (w4.heap.size+1),ptr56 (w.heap.size+1+1+1),ptr56 w4.heap.size,ptr56 w.heap.size,ptr56 (w.heap.size+1),ptr56 (w4.heap.size+1+1)]] (W756 w4 (g96_0 tr)) fun e w' =>
   e = .returned (.tuple #[])∧Below w.heap.size w w'∧Fin56 w' (w4.heap.size+1) (w4.heap.size+1+1) (run56 tr br pf down):=by
 have low:=low756 w4 (g96_0 tr)
 have E7:=E4.keep low
 have ls:(W756 w4 (g96_0 tr)).heap.size=w4.heap.size+3:=by simp
 have l4:w.heap.size+4≤w4.heap.size:=by have:=(Array.getElem?_eq_some_iff.1 E4.d).1;omega
 have g7:GOk (W756 w4 (g96_0 tr)) []:=gokB56 hgo E7.low
 have g4:GOk w4 []:=gokB56 hgo E4.low
 have gs:=g4.size
 obtain ⟨cs,hcs,hrep⟩:=hv
 obtain rfl:cs=[sl,.int .i64 tr.2.1,.int .i64 tr.2.2.1]:=by
  have:=congrArg Value.cells hcs
  simpa [Value.cells] using congrArg Array.toList (show cs.toArray = #[sl,.int .i64 tr.2.1,.int .i64 tr.2.2.1] by cases hcs;rfl)
 have hr:=ride56 (W756 w4 (g96_0 tr)) (w4.heap.size+1) (w.heap.size+1+1+1) w4.heap.size w.heap.size (w.heap.size+1) (w4.heap.size+1+1) down (g96_0 tr) tr br pf (g96_0 tr).toNat
  ⟨g7.inv,g7.size,fun b hb=>by simp at hb;omega⟩ (by omega) (boxOf56 (sec756 _ _)) (boxOf56 (fnd756 _ _))
  ⟨_,_,[.bool down],rfl,⟨by rw [ls];omega,by simp <;> omega⟩,fun j c hj => ?_,rfl⟩
  ⟨_,_,[.int .i64 (g96_0 tr)],rfl,⟨by rw [ls];omega,by simp <;> omega⟩,fun j c hj => ?_,rfl,by rw [i64_iff];omega⟩
  ⟨_,_,[sl,.int .i64 tr.2.1,.int .i64 tr.2.2.1],rfl,⟨by rw [ls];omega,by simp <;> omega⟩,fun j c hj => ?_,hrep.keep (fun b hb=>⟨by rw [ls];have:=hb.1;omega,by have:=hb.1;simp;omega⟩) (fun b hb=>E7.low.block b hb.1)⟩
  ⟨_,_,fcells BY56 br,rfl,⟨by rw [ls];omega,by simp <;> omega⟩,fun j c hj => ?_,(OwnC.flat (w:=w) (G:=Am.Good (W756 w4 (g96_0 tr)) [w4.heap.size+1,w4.heap.size+1+1]) rfl (own_of_wf rfl hw1)).1⟩
  hw2 p2 (by omega) p3 p4
 ·refine hr.mono ?_
  rintro e w' ⟨rfl,hk,hf⟩
  refine ⟨rfl,⟨hk.os.trans E7.low.os,hk.tape.trans E7.low.tape,hk.output.trans E7.low.output,Nat.le_trans E7.low.size hk.size,fun q hq => ?_⟩,hf⟩
  exact (hk.block q (by rw [ls];omega) (by simp <;> omega)).trans (E7.low.block q hq)
 ·rcases j with _ | j
  ·simp at hj;subst hj
   exact cel56 E7.d 0 _ rfl
  ·simp at hj
 ·rcases j with _ | j
  ·simp at hj;subst hj
   exact cel56 (way756 _ _) 0 _ rfl
  ·simp at hj
 ·rw [Nat.zero_add]
  exact cel56 E7.t j c (by simpa using hj)
 ·rw [Nat.zero_add]
  exact cel56 E7.b j c (by simpa [fcells] using hj)
set_option maxHeartbeats 8000000 in
theorem walk56 (w:World) (sl:Value) (tr:TR56) (br:BR56) (pf:PR56) (down:Bool) (hgo:GOk w []) (hv:∃ cs,Value.agg #[sl,.int .i64 tr.2.1,.int .i64 tr.2.2.1] = .agg cs.toArray∧RepC w (Am.Good w []) TY56 tr cs) (hw1:Wf BY56 br) (hw2:Wf PY56 pf)
  (h1:g85_0 tr=true) (h2:g87_0 br=true) (h3:g88_0 pf=true) (hp:P56 tr br pf down) :
  Calls Tryz.prog 56 #[.agg #[sl,.int .i64 tr.2.1,.int .i64 tr.2.2.1],.agg #[.int .i64 br.1,.int .i64 br.2.1],.agg #[.int .i64 pf.1,.int .i64 pf.2.1,.int .i64 pf.2.2.1,.int .i64 pf.2.2.2.1],.bool down] w fun e w' =>
   e = .returned (.tuple #[.int .i64 ((run56 tr br pf down).getD 0),.int .i64 (code56 (run56 tr br pf down))])∧Below w.heap.size w w':=by
 obtain ⟨p1,p2,p3,p4⟩:=hp h1 h2 h3
 have HG:Aside (GOk w []):=hgo
 have HV:Aside (∃ cs,Value.agg #[sl,.int .i64 tr.2.1,.int .i64 tr.2.2.1] = .agg cs.toArray∧RepC w (Am.Good w []) TY56 tr cs):=hv
 clear hgo hv hp
 have hmf:∀ (fn:Fn) (first cap:Array Value) (w:World),(Instr.makeFunc fn first cap).run Tryz.prog w = .ok (.func fn first cap) w:=fun _ _ _ _=>rfl
 go_enter Tryz.func56,Tryz.ntmps56
 have E0:Aside (Env56 w sl tr br pf down (W456 w sl tr br pf down)):=env56 w sl tr br pf down
 go_wp2_with (go_at_call 85;refine (trk56 _ tr _ (gokB56 HG.out E0.out.low) (trkB56 E0.out.low HV.out)).mono ?_;rintro e w1 ⟨rfl,b1⟩;rw [h1];have E1:Aside (Env56 w sl tr br pf down w1):=E0.out.keep b1;clear b1;have c0:w1.cell? ⟨w.heap.size+1,0,none⟩=some (.int .i64 br.1):=cel56 E1.out.b 0 _ rfl;have c1:w1.cell? ⟨w.heap.size+1,1,none⟩=some (.int .i64 br.2.1):=cel56 E1.out.b 1 _ rfl)
 go_wp2_with (go_at_call 87;refine (brk56 w1 br (gokB56 HG.out E1.out.low) hw1).mono ?_;rintro e w2 ⟨rfl,b2⟩;rw [h2];have E2:Aside (Env56 w sl tr br pf down w2):=E1.out.keep b2;clear b2 c0 c1;have c0:w2.cell? ⟨w.heap.size+1+1,0,none⟩=some (.int .i64 pf.1):=cel56 E2.out.p 0 _ rfl;have c1:w2.cell? ⟨w.heap.size+1+1,1,none⟩=some (.int .i64 pf.2.1):=cel56 E2.out.p 1 _ rfl;have c2:w2.cell? ⟨w.heap.size+1+1,2,none⟩=some (.int .i64 pf.2.2.1):=cel56 E2.out.p 2 _ rfl;have c3:w2.cell? ⟨w.heap.size+1+1,3,none⟩=some (.int .i64 pf.2.2.2.1):=cel56 E2.out.p 3 _ rfl)
 go_wp2_with (go_at_call 88;refine (prf56 w2 pf (gokB56 HG.out E2.out.low) hw2).mono ?_;rintro e w3 ⟨rfl,b3⟩;rw [h3];have E3:Aside (Env56 w sl tr br pf down w3):=E2.out.keep b3;clear b3 c0 c1 c2 c3;have c0:w3.cell? ⟨w.heap.size,0,none⟩=some sl:=cel56 E3.out.t 0 _ rfl;have c1:w3.cell? ⟨w.heap.size,1,none⟩=some (.int .i64 tr.2.1):=cel56 E3.out.t 1 _ rfl;have c2:w3.cell? ⟨w.heap.size,2,none⟩=some (.int .i64 tr.2.2.1):=cel56 E3.out.t 2 _ rfl)
 go_wp2_with (go_at_call 96;refine (len56 w3 tr _ (gokB56 HG.out E3.out.low) (trkB56 E3.out.low HV.out) p1).mono ?_;rintro e w4 ⟨rfl,b4⟩;have E4:Aside (Env56 w sl tr br pf down w4):=E3.out.keep b4;clear b4 c0 c1 c2;have E7:Aside (Env56 w sl tr br pf down (W756 w4 (g96_0 tr))):=E4.out.keep (low756 w4 _);have c0:(W756 w4 (g96_0 tr)).cell? ⟨w.heap.size+1+1,0,none⟩=some (.int .i64 pf.1):=cel56 E7.out.p 0 _ rfl;have c1:(W756 w4 (g96_0 tr)).cell? ⟨w.heap.size+1+1,1,none⟩=some (.int .i64 pf.2.1):=cel56 E7.out.p 1 _ rfl;have c2:(W756 w4 (g96_0 tr)).cell? ⟨w.heap.size+1+1,2,none⟩=some (.int .i64 pf.2.2.1):=cel56 E7.out.p 2 _ rfl;have c3:(W756 w4 (g96_0 tr)).cell? ⟨w.heap.size+1+1,3,none⟩=some (.int .i64 pf.2.2.2.1):=cel56 E7.out.p 3 _ rfl;have c4:(W756 w4 (g96_0 tr)).cell? ⟨w4.heap.size,0,none⟩=some (.int .i64 (g96_0 tr)):=cel56 (way756 w4 _) 0 _ rfl)
 cases hrun:run56 tr br pf down with
 | none =>
  go_wp2_with (go_at_call 99;refine (call56 E4.out HG.out HV.out hw1 hw2 p2 p3 p4).mono ?_;rintro e w5 ⟨rfl,b5,f5⟩;rw [hrun] at f5;have B5:Aside (Below w.heap.size w w5):=b5;have c5:w5.cell? ⟨w4.heap.size+1+1,0,none⟩=some (.bool false):=Box56.cell f5;clear b5 f5)
  go_ret2
  exact ⟨by rw [hrun];rfl,B5.out⟩
 | some r =>
  go_wp2_with (go_at_call 99;refine (call56 E4.out HG.out HV.out hw1 hw2 p2 p3 p4).mono ?_;rintro e w5 ⟨rfl,b5,f5⟩;rw [hrun] at f5;have B5:Aside (Below w.heap.size w w5):=b5;have c5:w5.cell? ⟨w4.heap.size+1+1,0,none⟩=some (.bool true):=Box56.cell f5.2;have c6:w5.cell? ⟨w4.heap.size+1,0,none⟩=some (.int .i64 r):=Box56.cell f5.1;clear b5 f5)
  go_ret2
  exact ⟨by rw [hrun];rfl,B5.out⟩
set_option maxHeartbeats 4000000 in
theorem bad156 (w:World) (sl:Value) (tr:TR56) (br:BR56) (pf:PR56) (down:Bool) (hgo:GOk w []) (hv:∃ cs,Value.agg #[sl,.int .i64 tr.2.1,.int .i64 tr.2.2.1] = .agg cs.toArray∧RepC w (Am.Good w []) TY56 tr cs) (h1:g85_0 tr=false) :
  Calls Tryz.prog 56 #[.agg #[sl,.int .i64 tr.2.1,.int .i64 tr.2.2.1],.agg #[.int .i64 br.1,.int .i64 br.2.1],.agg #[.int .i64 pf.1,.int .i64 pf.2.1,.int .i64 pf.2.2.1,.int .i64 pf.2.2.2.1],.bool down] w fun e w'=>e = .returned (.tuple #[.int .i64 0,.int .i64 1])∧Below w.heap.size w w':=by
 have HG:Aside (GOk w []):=hgo
 have HV:Aside (∃ cs,Value.agg #[sl,.int .i64 tr.2.1,.int .i64 tr.2.2.1] = .agg cs.toArray∧RepC w (Am.Good w []) TY56 tr cs):=hv
 clear hgo hv
 go_enter Tryz.func56,Tryz.ntmps56
 have E0:Aside (Env56 w sl tr br pf down (W456 w sl tr br pf down)):=env56 w sl tr br pf down
 go_wp2_with (go_at_call 85;refine (trk56 _ tr _ (gokB56 HG.out E0.out.low) (trkB56 E0.out.low HV.out)).mono ?_;rintro e w1 ⟨rfl,b1⟩;rw [h1];have E1:Aside (Env56 w sl tr br pf down w1):=E0.out.keep b1;clear b1)
 go_ret2
 exact ⟨rfl,E1.out.low⟩
set_option maxHeartbeats 4000000 in
theorem bad256 (w:World) (sl:Value) (tr:TR56) (br:BR56) (pf:PR56) (down:Bool) (hgo:GOk w []) (hv:∃ cs,Value.agg #[sl,.int .i64 tr.2.1,.int .i64 tr.2.2.1] = .agg cs.toArray∧RepC w (Am.Good w []) TY56 tr cs) (hw1:Wf BY56 br) (h1:g85_0 tr=true) (h2:g87_0 br=false) :
  Calls Tryz.prog 56 #[.agg #[sl,.int .i64 tr.2.1,.int .i64 tr.2.2.1],.agg #[.int .i64 br.1,.int .i64 br.2.1],.agg #[.int .i64 pf.1,.int .i64 pf.2.1,.int .i64 pf.2.2.1,.int .i64 pf.2.2.2.1],.bool down] w fun e w'=>e = .returned (.tuple #[.int .i64 0,.int .i64 1])∧Below w.heap.size w w':=by
 have HG:Aside (GOk w []):=hgo
 have HV:Aside (∃ cs,Value.agg #[sl,.int .i64 tr.2.1,.int .i64 tr.2.2.1] = .agg cs.toArray∧RepC w (Am.Good w []) TY56 tr cs):=hv
 clear hgo hv
 go_enter Tryz.func56,Tryz.ntmps56
 have E0:Aside (Env56 w sl tr br pf down (W456 w sl tr br pf down)):=env56 w sl tr br pf down
 go_wp2_with (go_at_call 85;refine (trk56 _ tr _ (gokB56 HG.out E0.out.low) (trkB56 E0.out.low HV.out)).mono ?_;rintro e w1 ⟨rfl,b1⟩;rw [h1];have E1:Aside (Env56 w sl tr br pf down w1):=E0.out.keep b1;clear b1;have c0:w1.cell? ⟨w.heap.size+1,0,none⟩=some (.int .i64 br.1):=cel56 E1.out.b 0 _ rfl;have c1:w1.cell? ⟨w.heap.size+1,1,none⟩=some (.int .i64 br.2.1):=cel56 E1.out.b 1 _ rfl)
 go_wp2_with (go_at_call 87;refine (brk56 w1 br (gokB56 HG.out E1.out.low) hw1).mono ?_;rintro e w2 ⟨rfl,b2⟩;rw [h2];have E2:Aside (Env56 w sl tr br pf down w2):=E1.out.keep b2;clear b2 c0 c1)
 go_ret2
 exact ⟨rfl,E2.out.low⟩
set_option maxHeartbeats 4000000 in
theorem bad356 (w:World) (sl:Value) (tr:TR56) (br:BR56) (pf:PR56) (down:Bool) (hgo:GOk w []) (hv:∃ cs,Value.agg #[sl,.int .i64 tr.2.1,.int .i64 tr.2.2.1] = .agg cs.toArray∧RepC w (Am.Good w []) TY56 tr cs) (hw1:Wf BY56 br) (hw2:Wf PY56 pf) (h1:g85_0 tr=true) (h2:g87_0 br=true) (h3:g88_0 pf=false) :
  Calls Tryz.prog 56 #[.agg #[sl,.int .i64 tr.2.1,.int .i64 tr.2.2.1],.agg #[.int .i64 br.1,.int .i64 br.2.1],.agg #[.int .i64 pf.1,.int .i64 pf.2.1,.int .i64 pf.2.2.1,.int .i64 pf.2.2.2.1],.bool down] w fun e w'=>e = .returned (.tuple #[.int .i64 0,.int .i64 1])∧Below w.heap.size w w':=by
 have HG:Aside (GOk w []):=hgo
 have HV:Aside (∃ cs,Value.agg #[sl,.int .i64 tr.2.1,.int .i64 tr.2.2.1] = .agg cs.toArray∧RepC w (Am.Good w []) TY56 tr cs):=hv
 clear hgo hv
 go_enter Tryz.func56,Tryz.ntmps56
 have E0:Aside (Env56 w sl tr br pf down (W456 w sl tr br pf down)):=env56 w sl tr br pf down
 go_wp2_with (go_at_call 85;refine (trk56 _ tr _ (gokB56 HG.out E0.out.low) (trkB56 E0.out.low HV.out)).mono ?_;rintro e w1 ⟨rfl,b1⟩;rw [h1];have E1:Aside (Env56 w sl tr br pf down w1):=E0.out.keep b1;clear b1;have c0:w1.cell? ⟨w.heap.size+1,0,none⟩=some (.int .i64 br.1):=cel56 E1.out.b 0 _ rfl;have c1:w1.cell? ⟨w.heap.size+1,1,none⟩=some (.int .i64 br.2.1):=cel56 E1.out.b 1 _ rfl)
 go_wp2_with (go_at_call 87;refine (brk56 w1 br (gokB56 HG.out E1.out.low) hw1).mono ?_;rintro e w2 ⟨rfl,b2⟩;rw [h2];have E2:Aside (Env56 w sl tr br pf down w2):=E1.out.keep b2;clear b2 c0 c1;have c0:w2.cell? ⟨w.heap.size+1+1,0,none⟩=some (.int .i64 pf.1):=cel56 E2.out.p 0 _ rfl;have c1:w2.cell? ⟨w.heap.size+1+1,1,none⟩=some (.int .i64 pf.2.1):=cel56 E2.out.p 1 _ rfl;have c2:w2.cell? ⟨w.heap.size+1+1,2,none⟩=some (.int .i64 pf.2.2.1):=cel56 E2.out.p 2 _ rfl;have c3:w2.cell? ⟨w.heap.size+1+1,3,none⟩=some (.int .i64 pf.2.2.2.1):=cel56 E2.out.p 3 _ rfl)
 go_wp2_with (go_at_call 88;refine (prf56 w2 pf (gokB56 HG.out E2.out.low) hw2).mono ?_;rintro e w3 ⟨rfl,b3⟩;rw [h3];have E3:Aside (Env56 w sl tr br pf down w3):=E2.out.keep b3;clear b3 c0 c1 c2 c3)
 go_ret2
 exact ⟨rfl,E3.out.low⟩
def sig56:List AT:=[AT.v TY56,AT.v BY56,AT.v PY56,AT.v Ty.bool]
def S56:Am.Spec:={ sig:=sig56,pre:=fun ⟨x0,x1,x2,x3,_⟩=>P56 x0 x1 x2 x3,res:=fun ⟨x0,x1,x2,x3,_⟩=>[⟨.int .i64,g56_0 x0 x1 x2 x3⟩,⟨.int .i64,g56_1 x0 x1 x2 x3⟩] }
theorem rng56 (x0:TR56) (x1:BR56) (x2:PR56) (x3:Bool) (hp:P56 x0 x1 x2 x3):InR .i64 (g56_0 x0 x1 x2 x3)∧InR .i64 (g56_1 x0 x1 x2 x3):=by
 unfold g56_0 g56_1
 by_cases h:(g85_0 x0&&g87_0 x1&&g88_0 x2)=true
 ·rw [if_pos h,if_pos h]
  simp only [Bool.and_eq_true] at h
  obtain ⟨_,p2,_⟩:=hp h.1.1 h.1.2 h.2
  cases hr:run56 x0 x1 x2 x3 with
  | none=>exact ⟨by rw [i64_iff];show _≤(0:Int)∧(0:Int)≤_;omega,by rw [i64_iff];show _≤(3:Int)∧(3:Int)≤_;omega⟩
  | some r =>
   have:=rideNon56 (Int.le_refl 0) hr
   exact ⟨by rw [i64_iff];show _≤r∧r≤_;omega,by rw [i64_iff];show _≤(0:Int)∧(0:Int)≤_;omega⟩
 ·rw [if_neg h,if_neg h]
  exact ⟨by rw [i64_iff];omega,by rw [i64_iff];omega⟩
theorem core56 (w:World) (x0:TR56) (x1:BR56) (x2:PR56) (x3:Bool) (v v1 v2:Value) (hgo:GOk w []) (hp:P56 x0 x1 x2 x3) (h0:∃ cs,v = .agg cs.toArray∧RepC w (Am.Good w []) TY56 x0 cs) (h1:∃ cs,v1 = .agg cs.toArray∧RepC w (Am.Good w []) BY56 x1 cs) (h2:∃ cs,v2 = .agg cs.toArray∧RepC w (Am.Good w []) PY56 x2 cs) :
  Calls Tryz.prog 56 #[v,v1,v2,.bool x3] w fun e w'=>e = .returned (.tuple #[.int .i64 (g56_0 x0 x1 x2 x3),.int .i64 (g56_1 x0 x1 x2 x3)])∧Below w.heap.size w w':=by
 obtain ⟨cs,rfl,c1,c2,rfl,⟨sl,rfl,hsl⟩,c3,c4,rfl,⟨rfl,ia⟩,c5,c6,rfl,⟨rfl,ib⟩,rfl⟩:=h0
 obtain ⟨cs1,rfl,d1,d2,rfl,⟨rfl,ic⟩,d3,d4,rfl,⟨rfl,id⟩,rfl⟩:=h1
 obtain ⟨cs2,rfl,e1,e2,rfl,⟨rfl,ie⟩,e3,e4,rfl,⟨rfl,if'⟩,e5,e6,rfl,⟨rfl,ig⟩,e7,e8,rfl,⟨rfl,ih⟩,rfl⟩:=h2
 have hv:∃ cs,Value.agg #[sl,.int .i64 x0.2.1,.int .i64 x0.2.2.1] = .agg cs.toArray∧RepC w (Am.Good w []) TY56 x0 cs:=⟨_,rfl,_,_,rfl,⟨sl,rfl,hsl⟩,_,_,rfl,⟨rfl,ia⟩,_,_,rfl,⟨rfl,ib⟩,rfl⟩
 have hw1:Wf BY56 x1:=⟨ic,id,trivial⟩
 have hw2:Wf PY56 x2:=⟨ie,if',ig,ih,trivial⟩
 unfold g56_0 g56_1
 cases t1:g85_0 x0 with
 | false=>exact bad156 w sl x0 x1 x2 x3 hgo hv t1
 | true =>
  cases t2:g87_0 x1 with
  | false=>exact bad256 w sl x0 x1 x2 x3 hgo hv hw1 t1 t2
  | true =>
   cases t3:g88_0 x2 with
   | false=>exact bad356 w sl x0 x1 x2 x3 hgo hv hw1 hw2 t1 t2 t3
   | true=>exact walk56 w sl x0 x1 x2 x3 hgo hv hw1 hw2 t1 t2 t3 hp
theorem con56:Contract Tryz.prog 56 S56:=by
 refine Contract0.up rfl rfl ?_
 rintro w ⟨x0,x1,x2,x3,u⟩ vs bss hgo hp ⟨v,s,b,bs,rfl,rfl,⟨rfl,h0⟩,v1,s1,b1,bs1,rfl,rfl,⟨rfl,h1⟩,v2,s2,b2,bs2,rfl,rfl,⟨rfl,h2⟩,v3,s3,b3,bs3,rfl,rfl,⟨rfl,h3⟩,rfl,rfl⟩ hnd
 obtain ⟨rfl,_⟩:v3 = .bool x3∧True:=⟨h3.1,trivial⟩
 refine (core56 w x0 x1 x2 x3 v v1 v2 hgo hp h0 h1 h2).mono ?_
 rintro e w' ⟨rfl,hb⟩
 have hi:InR .i64 (g56_0 x0 x1 x2 x3)∧InR .i64 (g56_1 x0 x1 x2 x3):=rng56 x0 x1 x2 x3 hp
 exact ⟨[.int .i64 (g56_0 x0 x1 x2 x3),.int .i64 (g56_1 x0 x1 x2 x3)],[],[[],[]],rfl,Kept.of_below hb,⟨_,_,_,_,_,rfl,rfl,⟨rfl,hi.1,rfl⟩,rfl,_,_,_,_,_,rfl,rfl,⟨rfl,hi.2,rfl⟩,rfl,rfl,rfl⟩,⟨rfl,rfl⟩,by simp,fun b hb=>by simp at hb⟩
noncomputable section
def ext21:Ext:=[(53,S53),(54,S54),(55,S55),(56,S56)]
theorem ext21Ok:ExtOk Tryz.prog ext21:=⟨⟨ca53,con53⟩,⟨ca54,con54⟩,⟨ca55,con55⟩,⟨ca56,con56⟩,trivial⟩
noncomputable def b21:Code:=bodyOf Tryz.f21
theorem hb21:Tryz.f21.body=some b21:=by kernel_rfl
def sig21:List AT:=[AT.v YA0]
def tys21:List Ty:=[.sl YA9]
def kds21:List RK:=[]
def oks21:List AT:=owns sig21
def E21_6 (v30:Int) (h1:List TyB3) (x0:TyA0):Env:=[(1,.a (.optr 0 0 [])),(3,.a (.osl 1 Option.none)),(28,.a (.osl 2 Option.none)),(29,.a (.val (.int .i64 2))),(30,.a (.val (.int .i64 v30)))]
def L21_6 (v30:Int) (h1:List TyB3) (x0:TyA0):Heap:=[Option.some (Arr.mk YA0 [x0] true Option.none (Option.some false)),Option.some (Arr.mk YA9 h1 false Option.none Option.none),Option.some (Arr.mk .str [ByteArray.mk #[117,112],ByteArray.mk #[100,111,119,110]] false Option.none Option.none)]
mutual
def R21:Nat→TyA0→List Dyn→Prop
 | 0,_,_=>False
 | n+1,x0,ds=>((P53 x0.1 x0.2.1)∧(if (!g53_0 x0.1 x0.2.1)=true then ((P54 x0.1)∧((P55 (g54_0 x0.1))∧(R21_6 n (0) ([(1,ByteArray.mk #[99,97,114,115],g55_0 (g54_0 x0.1),())]) (x0) ds))) else (R21_6 n (0) ([]) (x0) ds)))
def R21_6:Nat→Int→List TyB3→TyA0→List Dyn→Prop
 | 0,_,_,_,_=>False
 | n+1,v30,h1,x0,ds=>(if (decide (v30<2))=true then ((0≤v30)∧(v30<2)∧((P56 x0.1 x0.2.2.1 x0.2.2.2.1 (ByteArray.toList (List.getD [ByteArray.mk #[117,112],ByteArray.mk #[100,111,119,110]] (Int.toNat v30) ByteArray.empty)==ByteArray.toList (ByteArray.mk #[100,111,119,110])))∧(if (g56_1 x0.1 x0.2.2.1 x0.2.2.2.1 (ByteArray.toList (List.getD [ByteArray.mk #[117,112],ByteArray.mk #[100,111,119,110]] (Int.toNat v30) ByteArray.empty)==ByteArray.toList (ByteArray.mk #[100,111,119,110]))==0)=true then ((P55 (g56_0 x0.1 x0.2.2.1 x0.2.2.2.1 (ByteArray.toList (List.getD [ByteArray.mk #[117,112],ByteArray.mk #[100,111,119,110]] (Int.toNat v30) ByteArray.empty)==ByteArray.toList (ByteArray.mk #[100,111,119,110]))))∧(((List.length h1+1)*40≤140737488355328)∧((InR .i64 (v30+1))∧(R21_6 n (v30+1) (h1++[(2,List.getD [ByteArray.mk #[117,112],ByteArray.mk #[100,111,119,110]] (Int.toNat v30) ByteArray.empty,g55_0 (g56_0 x0.1 x0.2.2.1 x0.2.2.2.1 (ByteArray.toList (List.getD [ByteArray.mk #[117,112],ByteArray.mk #[100,111,119,110]] (Int.toNat v30) ByteArray.empty)==ByteArray.toList (ByteArray.mk #[100,111,119,110]))),())]) (x0) ds)))) else ((InR .i64 (v30+1))∧(R21_6 n (v30+1) (h1) (x0) ds))))) else (ds=[Dyn.mk (.sl YA9) h1]))
end
theorem snd21:∀ n,(∀ (x0:TyA0) ds,R21 n x0 ds→∀ K q,AtV Tryz.prog 21 (PostR kds21 oks21 ds [] [] q K) 57 K q [] [.code b21] (entE 0 0 sig21 (x0,())) (entL sig21 (x0,())))∧(∀ (v30:Int) (h1:List TyB3) (x0:TyA0) ds,R21_6 n v30 h1 x0 ds→∀ K q,AtV Tryz.prog 21 (PostR kds21 oks21 ds [] [] q K) 57 K q [] (cutAt b21 6) (E21_6 v30 h1 x0) (L21_6 v30 h1 x0)):=by
 intro n
 induction n with
 | zero=>exact ⟨fun _ _ h=>by simp only [R21] at h,fun _ _ _ _ h=>by simp only [R21_6] at h⟩
 | succ n ih =>
 obtain ⟨ih,ih6⟩:=ih
 refine ⟨?_,?_⟩
 ·intro x0 ds h K q
  rw [R21] at h
  obtain ⟨s0,h⟩:=h
  by_cases b0:(!g53_0 x0.1 x0.2.1)=true
  ·rw [if_pos b0] at h
   obtain ⟨s1,h⟩:=h
   obtain ⟨s2,h⟩:=h
   exact AtV.go tabOk ext21Ok mixed false [] [(3,.cons (.int .i64) YA12)] [1,3,28,29,30] [0,2,3] [true] (a1 s0 (a1 b0 (a1 s1 (a1 s2 (a1 ((by decide):(1:Nat)*(40:Nat)≤(140737488355328:Nat)) trivial))))) (ih6 _ _ _ _ h K q) (by kernel_rfl)
  ·rw [if_neg b0] at h
   replace b0:=bf_ b0
   exact AtV.go tabOk ext21Ok mixed false [] [(3,.cons (.int .i64) YA12)] [1,3,28,29,30] [0,2,1] [false] (a1 s0 (a1 b0 trivial)) (ih6 _ _ _ _ h K q) (by kernel_rfl)
 ·intro v30 h1 x0 ds h K q
  rw [R21_6] at h
  by_cases b0:(decide (v30<2))=true
  ·rw [if_pos b0] at h
   obtain ⟨s0,s1,h⟩:=h
   obtain ⟨s2,h⟩:=h
   by_cases b1:(g56_1 x0.1 x0.2.2.1 x0.2.2.2.1 (ByteArray.toList (List.getD [ByteArray.mk #[117,112],ByteArray.mk #[100,111,119,110]] (Int.toNat v30) ByteArray.empty)==ByteArray.toList (ByteArray.mk #[100,111,119,110]))==0)=true
   ·rw [if_pos b1] at h
    obtain ⟨s3,h⟩:=h
    obtain ⟨s4,h⟩:=h
    obtain ⟨s5,h⟩:=h
    exact AtV.go tabOk ext21Ok mixed false [] [(3,.cons (.int .i64) YA12)] [1,3,28,29,30] [0,1,2] [true,true] (a1 b0 (a1 s0 (a1 s1 (a1 s2 (a1 b1 (a1 s3 (a1 s4 (a1 s5 trivial)))))))) (ih6 _ _ _ _ h K q) (by kernel_rfl)
   ·rw [if_neg b1] at h
    replace b1:=bf_ b1
    obtain ⟨s3,h⟩:=h
    exact AtV.go tabOk ext21Ok mixed false [] [(3,.cons (.int .i64) YA12)] [1,3,28,29,30] [0,1,2] [true,false] (a1 b0 (a1 s0 (a1 s1 (a1 s2 (a1 b1 (a1 s3 trivial)))))) (ih6 _ _ _ _ h K q) (by kernel_rfl)
  ·rw [if_neg b0] at h
   replace b0:=bf_ b0
   subst h
   exact AtV.ret Tryz.func21 tabOk ext21Ok mixed false [] tys21 [false] (a1 b0 trivial) (by kernel_rfl)
def one21 (x0:(TyA0)) (who:ByteArray) (d:Bool):List TyB3:=if (g56_1 x0.1 x0.2.2.1 x0.2.2.2.1 d==0)=true then [(2,who,g55_0 (g56_0 x0.1 x0.2.2.1 x0.2.2.2.1 d),())] else []
def trk021 (x0:(TyA0)):List TyB3:=if (!g53_0 x0.1 x0.2.1)=true then [(1,ByteArray.mk #[99,97,114,115],g55_0 (g54_0 x0.1),())] else []
def g21_0 (x0:(TyA0)):List TyB3:=trk021 x0++one21 x0 (ByteArray.mk #[117,112]) false++one21 x0 (ByteArray.mk #[100,111,119,110]) true
def Pd21 (x0:(TyA0)) (d:Bool):Prop:=P56 x0.1 x0.2.2.1 x0.2.2.2.1 d∧((g56_1 x0.1 x0.2.2.1 x0.2.2.2.1 d==0)=true→P55 (g56_0 x0.1 x0.2.2.1 x0.2.2.2.1 d))
def P21 (x0:(TyA0)):Prop:=P53 x0.1 x0.2.1∧((!g53_0 x0.1 x0.2.1)=true→P54 x0.1∧P55 (g54_0 x0.1))∧Pd21 x0 false∧Pd21 x0 true
theorem r221 (n:Nat) (h:List TyB3) (x0:(TyA0)):R21_6 (n+1) 2 h x0 [⟨.sl (.cons (.int .i64) (.cons .str (.cons .str .unit))),h⟩]:=by
 rw [R21_6,if_neg (by decide)]
theorem r121 (n:Nat) (h:List TyB3) (x0:(TyA0)) (hl:h.length≤5) (hp:Pd21 x0 true):R21_6 (n+1+1) 1 h x0 [⟨.sl (.cons (.int .i64) (.cons .str (.cons .str .unit))),h++one21 x0 (ByteArray.mk #[100,111,119,110]) true⟩]:=by
 have e1:List.getD [ByteArray.mk #[117,112],ByteArray.mk #[100,111,119,110]] (Int.toNat 1) ByteArray.empty=ByteArray.mk #[100,111,119,110]:=rfl
 have e2:(ByteArray.toList (ByteArray.mk #[100,111,119,110])==ByteArray.toList (ByteArray.mk #[100,111,119,110]))=true:=by rw [beq_self_eq_true]
 rw [R21_6,if_pos (by decide),e1,e2]
 refine ⟨by decide,by decide,hp.1,?_⟩
 unfold one21
 by_cases c:(g56_1 x0.1 x0.2.2.1 x0.2.2.2.1 true==0)=true
 ·rw [if_pos c,if_pos c]
  exact ⟨hp.2 c,by omega,by rw [i64_iff];omega,r221 n _ x0⟩
 ·rw [if_neg c,if_neg c,List.append_nil]
  exact ⟨by rw [i64_iff];omega,r221 n _ x0⟩
theorem r021 (n:Nat) (h:List TyB3) (x0:(TyA0)) (hl:h.length≤4) (hp0:Pd21 x0 false) (hp:Pd21 x0 true):R21_6 (n+1+1+1) 0 h x0 [⟨.sl (.cons (.int .i64) (.cons .str (.cons .str .unit))),h++one21 x0 (ByteArray.mk #[117,112]) false++one21 x0 (ByteArray.mk #[100,111,119,110]) true⟩]:=by
 have e1:List.getD [ByteArray.mk #[117,112],ByteArray.mk #[100,111,119,110]] (Int.toNat 0) ByteArray.empty=ByteArray.mk #[117,112]:=rfl
 have e2:(ByteArray.toList (ByteArray.mk #[117,112])==ByteArray.toList (ByteArray.mk #[100,111,119,110]))=false:=by
  rw [Bool.eq_false_iff]
  intro h
  rw [bytes_eq] at h
  exact absurd (congrArg (fun b=>b.data.size) h) (by decide)
 rw [R21_6,if_pos (by decide),e1,e2]
 refine ⟨by decide,by decide,hp0.1,?_⟩
 by_cases c:(g56_1 x0.1 x0.2.2.1 x0.2.2.2.1 false==0)=true
 ·have eo:one21 x0 (ByteArray.mk #[117,112]) false=[(2,ByteArray.mk #[117,112],g55_0 (g56_0 x0.1 x0.2.2.1 x0.2.2.2.1 false),())]:=by
   unfold one21
   rw [if_pos c]
  rw [if_pos c,eo]
  exact ⟨hp0.2 c,by omega,by rw [i64_iff];omega,r121 n _ x0 (by rw [List.length_append,List.length_singleton];omega) hp⟩
 ·have eo:one21 x0 (ByteArray.mk #[117,112]) false=[]:=by
   unfold one21
   rw [if_neg c]
  rw [if_neg c,eo,List.append_nil]
  exact ⟨by rw [i64_iff];omega,r121 n _ x0 (by omega) hp⟩
theorem top21 (x0:(TyA0)) (h:P21 x0):R21 5 x0 [⟨.sl (.cons (.int .i64) (.cons .str (.cons .str .unit))),g21_0 x0⟩]:=by
 obtain ⟨p1,p2,p3,p4⟩:=h
 rw [R21]
 refine ⟨p1,?_⟩
 unfold g21_0 trk021
 by_cases c:(!g53_0 x0.1 x0.2.1)=true
 ·rw [if_pos c,if_pos c]
  exact ⟨(p2 c).1,(p2 c).2,r021 1 _ x0 (by simp) p3 p4⟩
 ·rw [if_neg c,if_neg c]
  exact r021 1 _ x0 (by simp) p3 p4
def S21:Am.Spec:={ sig:=sig21,pre:=fun ⟨x0,_⟩=>P21 x0,res:=fun ⟨x0,_⟩=>[⟨.sl (.cons (.int .i64) (.cons .str (.cons .str .unit))),g21_0 x0⟩] }
theorem con21:Contract Tryz.prog 21 S21:=contract_of Tryz.func21 hb21 (bl_ (by kernel_rfl)) (fun ⟨x0,_⟩ h hwf K q =>
 (snd21 _).1 x0 _ (top21 x0 h) K q)
end
noncomputable section
def ext58:Ext:=[]
theorem ext58Ok:ExtOk Tryz.prog ext58:=trivial
noncomputable def b58:Code:=bodyOf Tryz.f58
theorem hb58:Tryz.f58.body=some b58:=by kernel_rfl
def sig58:List AT:=[AT.v YA5]
def tys58:List Ty:=[.cons (.int .i64) YA11]
def kds58:List RK:=[]
def oks58:List AT:=owns sig58
def P58 (x0:ByteArray×Int×Int×Int×Unit):Prop:=((InR .i64 (75*x0.2.1))∧((InR .i64 (15*x0.2.2.1))∧((InR .i64 (75*x0.2.1+15*x0.2.2.1))∧((InR .i64 (75*x0.2.1+15*x0.2.2.1+x0.2.2.2.1))∧True))))
def g58_0 (x0:ByteArray×Int×Int×Int×Unit):Int×Int×Int×Unit:=(x0.2.1,x0.2.2.1,75*x0.2.1+15*x0.2.2.1+x0.2.2.2.1,())
theorem at58 (x0:ByteArray×Int×Int×Int×Unit) (h:P58 x0) (K:Ctx) (q:Nat→Value):AtV Tryz.prog 58 (PostR kds58 oks58 [⟨.cons (.int .i64) YA11,g58_0 x0⟩] [] [] q K) 18 K q [] [.code b58] (entE 0 0 sig58 (x0,())) (entL sig58 (x0,())):=by
 unfold P58 at h
 unfold g58_0
 obtain ⟨s0,h⟩:=h
 obtain ⟨s1,h⟩:=h
 obtain ⟨s2,h⟩:=h
 obtain ⟨s3,h⟩:=h
 exact AtV.ret Tryz.func58 tabOk ext58Ok mixed false [] tys58 [] (a1 s0 (a1 s1 (a1 s2 (a1 s3 trivial)))) (by kernel_rfl)
def S58:Am.Spec:={ sig:=sig58,pre:=fun ⟨x0,_⟩=>P58 x0,res:=fun ⟨x0,_⟩=>[⟨.cons (.int .i64) YA11,g58_0 x0⟩],kds:=kds58 }
theorem con58:Contract Tryz.prog 58 S58:=contract_of Tryz.func58 hb58 (bl_ (by kernel_rfl)) (fun ⟨x0,_⟩ h _ K q=>at58 x0 h K q)
end
noncomputable section
def ext57:Ext:=[]
theorem ext57Ok:ExtOk Tryz.prog ext57:=trivial
noncomputable def b57:Code:=bodyOf Tryz.f57
theorem hb57:Tryz.f57.body=some b57:=by kernel_rfl
def sig57:List AT:=[AT.v YA8,AT.v YA8]
def tys57:List Ty:=[.bool]
def kds57:List RK:=[]
def oks57:List AT:=owns sig57
def P57 (x0:Int×Int×Int×Unit) (x1:Int×Int×Int×Unit):Prop:=True
def g57_0 (x0:Int×Int×Int×Unit) (x1:Int×Int×Int×Unit):Bool:=(if (decide (x0.1≤x1.1))=true then (if (decide (x0.2.1≤x1.2.1))=true then decide (x0.2.2.1≤x1.2.2.1) else false) else false)
theorem at57 (x0:Int×Int×Int×Unit) (x1:Int×Int×Int×Unit) (h:P57 x0 x1) (K:Ctx) (q:Nat→Value):AtV Tryz.prog 57 (PostR kds57 oks57 [⟨.bool,g57_0 x0 x1⟩] [] [] q K) 24 K q [] [.code b57] (entE 0 0 sig57 (x0,x1,())) (entL sig57 (x0,x1,())):=by
 unfold P57 at h
 unfold g57_0
 by_cases b0:(decide (x0.1≤x1.1))=true
 ·try simp only [if_pos b0] at h ⊢
  by_cases b1:(decide (x0.2.1≤x1.2.1))=true
  ·try simp only [if_pos b1] at h ⊢
   exact AtV.ret Tryz.func57 tabOk ext57Ok mixed false [] tys57 [true,true] (a1 b0 (a1 b1 trivial)) (by kernel_rfl)
  ·try simp only [if_neg b1] at h ⊢
   replace b1:=bf_ b1
   exact AtV.ret Tryz.func57 tabOk ext57Ok mixed false [] tys57 [true,false] (a1 b0 (a1 b1 trivial)) (by kernel_rfl)
 ·try simp only [if_neg b0] at h ⊢
  replace b0:=bf_ b0
  exact AtV.ret Tryz.func57 tabOk ext57Ok mixed false [] tys57 [false,false] (a1 b0 (a1 (rfl:false=false) trivial)) (by kernel_rfl)
def S57:Am.Spec:={ sig:=sig57,pre:=fun ⟨x0,x1,_⟩=>P57 x0 x1,res:=fun ⟨x0,x1,_⟩=>[⟨.bool,g57_0 x0 x1⟩],kds:=kds57 }
theorem con57:Contract Tryz.prog 57 S57:=contract_of Tryz.func57 hb57 (bl_ (by kernel_rfl)) (fun ⟨x0,x1,_⟩ h _ K q=>at57 x0 x1 h K q)
end
noncomputable section
def ext102:Ext:=[]
theorem ext102Ok:ExtOk Tryz.prog ext102:=trivial
noncomputable def b102:Code:=bodyOf Tryz.f102
theorem hb102:Tryz.f102.body=some b102:=by kernel_rfl
def sig102:List AT:=[AT.v YA3,AT.v (.int .i64),AT.v (.int .i64)]
def tys102:List Ty:=[.int .i64,.int .i64]
def kds102:List RK:=[]
def oks102:List AT:=owns sig102
def P102 (x0:ByteArray×Int×Int×Int×Int×Unit) (x1:Int) (x2:Int):Prop:=((InR .i64 (x0.2.2.2.1+x0.2.1))∧((InR .i64 (x0.2.2.2.1+x0.2.1 - x1))∧((InR .i64 (x0.2.2.2.2.1+x0.2.2.1))∧((InR .i64 (x0.2.2.2.2.1+x0.2.2.1 - x2))∧True))))
def g102_0 (x0:ByteArray×Int×Int×Int×Int×Unit) (x1:Int) (x2:Int):Int:=x0.2.2.2.1+x0.2.1 - x1
def g102_1 (x0:ByteArray×Int×Int×Int×Int×Unit) (x1:Int) (x2:Int):Int:=x0.2.2.2.2.1+x0.2.2.1 - x2
theorem at102 (x0:ByteArray×Int×Int×Int×Int×Unit) (x1:Int) (x2:Int) (h:P102 x0 x1 x2) (K:Ctx) (q:Nat→Value):AtV Tryz.prog 102 (PostR kds102 oks102 [⟨.int .i64,g102_0 x0 x1 x2⟩,⟨.int .i64,g102_1 x0 x1 x2⟩] [] [] q K) 22 K q [] [.code b102] (entE 0 0 sig102 (x0,x1,x2,())) (entL sig102 (x0,x1,x2,())):=by
 unfold P102 at h
 unfold g102_0 g102_1
 obtain ⟨s0,h⟩:=h
 obtain ⟨s1,h⟩:=h
 obtain ⟨s2,h⟩:=h
 obtain ⟨s3,h⟩:=h
 exact AtV.ret Tryz.func102 tabOk ext102Ok mixed false [] tys102 [] (a1 s0 (a1 s1 (a1 s2 (a1 s3 trivial)))) (by kernel_rfl)
def S102:Am.Spec:={ sig:=sig102,pre:=fun ⟨x0,x1,x2,_⟩=>P102 x0 x1 x2,res:=fun ⟨x0,x1,x2,_⟩=>[⟨.int .i64,g102_0 x0 x1 x2⟩,⟨.int .i64,g102_1 x0 x1 x2⟩],kds:=kds102 }
theorem con102:Contract Tryz.prog 102 S102:=contract_of Tryz.func102 hb102 (bl_ (by kernel_rfl)) (fun ⟨x0,x1,x2,_⟩ h _ K q=>at102 x0 x1 x2 h K q)
end
noncomputable section
def ext59:Ext:=[(102,S102)]
theorem ext59Ok:ExtOk Tryz.prog ext59:=⟨⟨ca102,con102⟩,trivial⟩
noncomputable def b59:Code:=bodyOf Tryz.f59
theorem hb59:Tryz.f59.body=some b59:=by kernel_rfl
def sig59:List AT:=[AT.v YA3,AT.v (.int .i64),AT.v (.int .i64)]
def tys59:List Ty:=[.bool]
def kds59:List RK:=[]
def oks59:List AT:=owns sig59
def P59 (x0:ByteArray×Int×Int×Int×Int×Unit) (x1:Int) (x2:Int):Prop:=((P102 x0 x1 x2)∧True)
def g59_0 (x0:ByteArray×Int×Int×Int×Int×Unit) (x1:Int) (x2:Int):Bool:=(if (decide (g102_0 x0 x1 x2<0))=true then true else decide (g102_1 x0 x1 x2<0))
theorem at59 (x0:ByteArray×Int×Int×Int×Int×Unit) (x1:Int) (x2:Int) (h:P59 x0 x1 x2) (K:Ctx) (q:Nat→Value):AtV Tryz.prog 59 (PostR kds59 oks59 [⟨.bool,g59_0 x0 x1 x2⟩] [] [] q K) 22 K q [] [.code b59] (entE 0 0 sig59 (x0,x1,x2,())) (entL sig59 (x0,x1,x2,())):=by
 unfold P59 at h
 unfold g59_0
 obtain ⟨s0,h⟩:=h
 by_cases b0:(decide (g102_0 x0 x1 x2<0))=true
 ·try simp only [if_pos b0] at h ⊢
  exact AtV.ret Tryz.func59 tabOk ext59Ok mixed false [] tys59 [true] (a1 s0 (a1 b0 trivial)) (by kernel_rfl)
 ·try simp only [if_neg b0] at h ⊢
  replace b0:=bf_ b0
  exact AtV.ret Tryz.func59 tabOk ext59Ok mixed false [] tys59 [false] (a1 s0 (a1 b0 trivial)) (by kernel_rfl)
def S59:Am.Spec:={ sig:=sig59,pre:=fun ⟨x0,x1,x2,_⟩=>P59 x0 x1 x2,res:=fun ⟨x0,x1,x2,_⟩=>[⟨.bool,g59_0 x0 x1 x2⟩],kds:=kds59 }
theorem con59:Contract Tryz.prog 59 S59:=contract_of Tryz.func59 hb59 (bl_ (by kernel_rfl)) (fun ⟨x0,x1,x2,_⟩ h _ K q=>at59 x0 x1 x2 h K q)
end
noncomputable section
def ext103:Ext:=[(92,S92)]
theorem ext103Ok:ExtOk Tryz.prog ext103:=⟨⟨ca92,con92⟩,trivial⟩
noncomputable def b103:Code:=bodyOf Tryz.f103
theorem hb103:Tryz.f103.body=some b103:=by kernel_rfl
def sig103:List AT:=[AT.v (.sl YA11),AT.v (.bool)]
def tys103:List Ty:=[.int .i64]
def kds103:List RK:=[]
def oks103:List AT:=owns sig103
def P103 (x0:List TyB4) (x1:Bool):Prop:=True
def g103_0 (x0:List TyB4) (x1:Bool):Int:=(if (!g92_0 x0)=true then 1 else (if (!x1)=true then 2 else 0))
theorem at103 (x0:List TyB4) (x1:Bool) (h:P103 x0 x1) (K:Ctx) (q:Nat→Value):AtV Tryz.prog 103 (PostR kds103 oks103 [⟨.int .i64,g103_0 x0 x1⟩] [] [] q K) 12 K q [] [.code b103] (entE 0 0 sig103 (x0,x1,())) (entL sig103 (x0,x1,())):=by
 unfold P103 at h
 unfold g103_0
 by_cases b0:(!g92_0 x0)=true
 ·try simp only [if_pos b0] at h ⊢
  exact AtV.ret Tryz.func103 tabOk ext103Ok mixed false [] tys103 [true] (a1 trivial (a1 b0 trivial)) (by kernel_rfl)
 ·try simp only [if_neg b0] at h ⊢
  replace b0:=bf_ b0
  by_cases b1:(!x1)=true
  ·try simp only [if_pos b1] at h ⊢
   exact AtV.ret Tryz.func103 tabOk ext103Ok mixed false [] tys103 [false,true] (a1 trivial (a1 b0 (a1 b1 trivial))) (by kernel_rfl)
  ·try simp only [if_neg b1] at h ⊢
   replace b1:=bf_ b1
   exact AtV.ret Tryz.func103 tabOk ext103Ok mixed false [] tys103 [false,false] (a1 trivial (a1 b0 (a1 b1 trivial))) (by kernel_rfl)
def S103:Am.Spec:={ sig:=sig103,pre:=fun ⟨x0,x1,_⟩=>P103 x0 x1,res:=fun ⟨x0,x1,_⟩=>[⟨.int .i64,g103_0 x0 x1⟩],kds:=kds103 }
theorem con103:Contract Tryz.prog 103 S103:=contract_of Tryz.func103 hb103 (bl_ (by kernel_rfl)) (fun ⟨x0,x1,_⟩ h _ K q=>at103 x0 x1 h K q)
end
noncomputable section
def ext60:Ext:=[(93,S93),(103,S103),(104,S104)]
theorem ext60Ok:ExtOk Tryz.prog ext60:=⟨⟨ca93,con93⟩,⟨ca103,con103⟩,⟨ca104,con104⟩,trivial⟩
noncomputable def b60:Code:=bodyOf Tryz.f60
theorem hb60:Tryz.f60.body=some b60:=by kernel_rfl
def sig60:List AT:=[AT.v (.sl YA11),AT.v (.int .i64)]
def tys60:List Ty:=[.sl (.int .i64),.int .i64]
def kds60:List RK:=[]
def oks60:List AT:=owns sig60
def E60_6 (v8:Int) (h0:List Int) (x0:List TyB4) (x1:Int):Env:=[(0,.a (.sl YA11 x0)),(1,.a (.val (.int .i64 x1))),(7,.a (.osl 0 Option.none)),(8,.a (.val (.int .i64 v8)))]
def L60_6 (v8:Int) (h0:List Int) (x0:List TyB4) (x1:Int):Heap:=[Option.some (Arr.mk (.int .i64) h0 false Option.none Option.none)]
mutual
def R60:Nat→List TyB4→Int→List Dyn→Prop
 | 0,_,_,_=>False
 | n+1,x0,x1,ds=>(if (g103_0 x0 (g93_0 x1) != 0)=true then (ds=[Dyn.mk (.sl (.int .i64)) [],Dyn.mk (.int .i64) (g103_0 x0 (g93_0 x1))]) else (R60_6 n (1) ([]) (x0) (x1) ds))
def R60_6:Nat→Int→List Int→List TyB4→Int→List Dyn→Prop
 | 0,_,_,_,_,_=>False
 | n+1,v8,h0,x0,x1,ds=>(if (decide (v8<(x0.length:Int)))=true then ((0≤v8)∧(v8<(x0.length:Int))∧((InR .i64 (v8 - 1))∧((0≤v8 - 1)∧(v8 - 1<(x0.length:Int))∧((P104 (List.getD x0 (Int.toNat (v8 - 1)) (0,0,())))∧((InR .i64 ((List.getD x0 (Int.toNat v8) (0,0,())).1 - g104_0 (List.getD x0 (Int.toNat (v8 - 1)) (0,0,()))))∧((InR .i64 ((List.getD x0 (Int.toNat v8) (0,0,())).1 - g104_0 (List.getD x0 (Int.toNat (v8 - 1)) (0,0,())) - x1))∧(((List.length h0+1)*8≤140737488355328)∧((InR .i64 (v8+1))∧(R60_6 n (v8+1) (h0++[(List.getD x0 (Int.toNat v8) (0,0,())).1 - g104_0 (List.getD x0 (Int.toNat (v8 - 1)) (0,0,())) - x1]) (x0) (x1) ds))))))))) else (ds=[Dyn.mk (.sl (.int .i64)) h0,Dyn.mk (.int .i64) 0]))
end
theorem snd60:∀ n,(∀ (x0:List TyB4) (x1:Int) ds,R60 n x0 x1 ds→∀ K q,AtV Tryz.prog 60 (PostR kds60 oks60 ds [] [] q K) 40 K q [] [.code b60] (entE 0 0 sig60 (x0,x1,())) (entL sig60 (x0,x1,())))∧(∀ (v8:Int) (h0:List Int) (x0:List TyB4) (x1:Int) ds,R60_6 n v8 h0 x0 x1 ds→∀ K q,AtV Tryz.prog 60 (PostR kds60 oks60 ds [] [] q K) 40 K q [] (cutAt b60 6) (E60_6 v8 h0 x0 x1) (L60_6 v8 h0 x0 x1)):=by
 intro n
 induction n with
 | zero=>exact ⟨fun _ _ _ h=>by simp only [R60] at h,fun _ _ _ _ _ h=>by simp only [R60_6] at h⟩
 | succ n ih =>
 obtain ⟨ih,ih6⟩:=ih
 refine ⟨?_,?_⟩
 ·intro x0 x1 ds h K q
  rw [R60] at h
  by_cases b0:(g103_0 x0 (g93_0 x1) != 0)=true
  ·rw [if_pos b0] at h
   subst h
   exact AtV.ret Tryz.func60 tabOk ext60Ok mixed false [] tys60 [true] (a1 trivial (a1 trivial (a1 b0 trivial))) (by kernel_rfl)
  ·rw [if_neg b0] at h
   replace b0:=bf_ b0
   exact AtV.go tabOk ext60Ok mixed false [] [(7,.int .i64)] [0,1,7,8] [0] [false] (a1 trivial (a1 trivial (a1 b0 trivial))) (ih6 _ _ _ _ _ h K q) (by kernel_rfl)
 ·intro v8 h0 x0 x1 ds h K q
  rw [R60_6] at h
  by_cases b0:(decide (v8<(x0.length:Int)))=true
  ·rw [if_pos b0] at h
   obtain ⟨s0,s1,h⟩:=h
   obtain ⟨s2,h⟩:=h
   obtain ⟨s3,s4,h⟩:=h
   obtain ⟨s5,h⟩:=h
   obtain ⟨s6,h⟩:=h
   obtain ⟨s7,h⟩:=h
   obtain ⟨s8,h⟩:=h
   obtain ⟨s9,h⟩:=h
   exact AtV.go tabOk ext60Ok mixed false [] [(7,.int .i64)] [0,1,7,8] [0] [true] (a1 b0 (a1 s0 (a1 s1 (a1 s2 (a1 s3 (a1 s4 (a1 s5 (a1 s6 (a1 s7 (a1 s8 (a1 s9 trivial))))))))))) (ih6 _ _ _ _ _ h K q) (by kernel_rfl)
  ·rw [if_neg b0] at h
   replace b0:=bf_ b0
   subst h
   exact AtV.ret Tryz.func60 tabOk ext60Ok mixed false [] tys60 [false] (a1 b0 trivial) (by kernel_rfl)
def sk60 (x1:Int):List TyB4→List Int
 | x :: y :: r=>(y.1 - g104_0 x - x1) :: sk60 x1 (y :: r)
 | _=>[]
def g60_0 (x0:List TyB4) (x1:Int):List Int:=if (g103_0 x0 (g93_0 x1) != 0)=true then [] else sk60 x1 x0
def g60_1 (x0:List TyB4) (x1:Int):Int:=if (g103_0 x0 (g93_0 x1) != 0)=true then g103_0 x0 (g93_0 x1) else 0
def ok60 (x:Int×Int×Unit):Prop:=P104 x∧0≤x.1∧x.1≤100000∧0≤g104_0 x∧g104_0 x≤1000000
def P60 (x0:List TyB4) (x1:Int):Prop:=(g103_0 x0 (g93_0 x1) != 0)=true∨x0.length≤1048576∧0≤x1∧x1≤100000∧∀ x∈x0,ok60 x
theorem run60 (x0:List TyB4) (x1:Int) (hl:x0.length≤1048576) (h0:0≤x1) (h1:x1≤100000) (hp:∀ x∈x0,ok60 x):∀ (k i:Nat) (h:List Int),i+k=x0.length→1≤i→h.length≤i →
  R60_6 (k+1) (i:Int) h x0 x1 [⟨.sl (.int .i64),h++sk60 x1 (x0.drop (i - 1))⟩,⟨.int .i64,(0:Int)⟩]:=by
 intro k
 induction k with
 | zero =>
  intro i h hi h2 hh
  have e:=drop_get x0 (i - 1) ((0:Int),(0:Int),()) (by omega)
  rw [show i - 1+1=i by omega,drop_end x0 i (by omega)] at e
  rw [R60_6,if_neg (by simp only [decide_eq_true_eq];omega),e]
  simp [sk60]
 | succ k ih =>
  intro i h hi h2 hh
  have hlt:i<x0.length:=by omega
  have hm:x0.length≤maxLen:=Nat.le_trans hl (by decide)
  have e:=drop_get x0 (i - 1) ((0:Int),(0:Int),()) (by omega)
  rw [show i - 1+1=i by omega] at e
  have e2:=drop_get x0 i ((0:Int),(0:Int),()) hlt
  have et:((i:Int) - 1).toNat=i - 1:=by omega
  obtain ⟨p1,a1,a2,a3,a4⟩:=hp _ (mem_getD x0 (i - 1) ((0:Int),(0:Int),()) (by omega))
  obtain ⟨q1,b1,b2,b3,b4⟩:=hp _ (mem_getD x0 i ((0:Int),(0:Int),()) hlt)
  have h3:=ih (i+1) (h++[(x0.getD i ((0:Int),(0:Int),())).1 - g104_0 (x0.getD (i - 1) ((0:Int),(0:Int),())) - x1]) (by omega) (by omega) (by simp;omega)
  rw [R60_6,if_pos (by simp only [decide_eq_true_eq];omega),e,e2]
  simp only [Int.toNat_natCast,et,sk60]
  rw [show i+1 - 1=i by omega,e2,List.append_assoc] at h3
  exact ⟨by omega,by omega,by rw [i64_iff];omega,by omega,by omega,p1,by rw [i64_iff];omega,by rw [i64_iff];omega,by omega,inR_up hm hlt,h3⟩
theorem top60 (x0:List TyB4) (x1:Int) (h:P60 x0 x1):∃ n,R60 n x0 x1 [⟨.sl (.int .i64),g60_0 x0 x1⟩,⟨.int .i64,g60_1 x0 x1⟩]:=by
 unfold g60_0 g60_1
 by_cases hc:(g103_0 x0 (g93_0 x1) != 0)=true
 ·exact ⟨1,by rw [R60,if_pos hc,if_pos hc,if_pos hc]⟩
 ·rw [if_neg hc,if_neg hc]
  obtain ⟨h1,h2,h3,h4⟩:=h.resolve_left hc
  cases x0 with
  | nil=>exact ⟨2,by rw [R60,if_neg hc,R60_6,if_neg (by simp)];rfl⟩
  | cons x r =>
   have:=run60 (x :: r) x1 h1 h2 h3 h4 r.length 1 [] (by simp;omega) (by omega) (by simp)
   simp only [List.nil_append,Nat.sub_self,List.drop_zero] at this
   exact ⟨r.length+1+1,by rw [R60,if_neg hc];exact this⟩
def S60:Am.Spec:={ sig:=sig60,pre:=fun ⟨x0,x1,_⟩=>P60 x0 x1,res:=fun ⟨x0,x1,_⟩=>[⟨.sl (.int .i64),g60_0 x0 x1⟩,⟨.int .i64,g60_1 x0 x1⟩] }
theorem con60:Contract Tryz.prog 60 S60:=contract_of Tryz.func60 hb60 (bl_ (by kernel_rfl)) (fun ⟨x0,x1,_⟩ h hwf K q =>
 let ⟨_,hn⟩:=top60 x0 x1 h
 (snd60 _).1 x0 x1 _ hn K q)
end
def bl {α β:Type} (f:Nat→α→List β):Nat→List α→List β
 | _,[]=>[]
 | i,x :: r=>f i x++bl f (i+1) r
theorem bl_len {α β:Type} (f:Nat→α→List β) (hf:∀ i x,(f i x).length≤1):∀ (l:List α) (i:Nat),(bl f i l).length≤l.length
 | [],_=>Nat.le_refl _
 | x :: r,i=>by
  have:=bl_len f hf r (i+1)
  have:=hf i x
  simp only [bl,List.length_append,List.length_cons]
  omega
theorem loop_build {α β:Type} (xs:List α) (d:α) (f:Nat→α→List β) (hf:∀ i x,(f i x).length≤1) (c:Nat) (R:Nat→Int→List β→Prop)
  (step:∀ (n i:Nat) (h:List β),i<xs.length→h.length≤c+i→R n ((i:Int)+1) (h++f i (xs.getD i d))→R (n+1) (i:Int) h) (m:Nat) :
  ∀ (k i:Nat) (h:List β),i+k=xs.length→h.length≤c+i→R m (xs.length:Int) (h++bl f i (xs.drop i))→R (m+k) (i:Int) h:=by
 intro k
 induction k with
 | zero =>
  intro i h hi hh hr
  have:i=xs.length:=by omega
  subst this
  rw [drop_end xs _ (Nat.le_refl _)] at hr
  simpa [bl] using hr
 | succ k ih =>
  intro i h hi hh hr
  have hlt:i<xs.length:=by omega
  refine step (m+k) i h hlt hh ?_
  have h2:=ih (i+1) (h++f i (xs.getD i d)) (by omega) (by have:=hf i (xs.getD i d);simp only [List.length_append];omega) (by
   rw [drop_get xs i d hlt] at hr
   simpa [bl,List.append_assoc] using hr)
  simpa using h2
theorem loop_build0 {α β:Type} (xs:List α) (d:α) (f:Nat→α→List β) (hf:∀ i x,(f i x).length≤1) (c:Nat) (R:Nat→Int→List β→Prop)
  (step:∀ (n i:Nat) (h:List β),i<xs.length→h.length≤c+i→R n ((i:Int)+1) (h++f i (xs.getD i d))→R (n+1) (i:Int) h) (m:Nat) (h:List β) (hh:h.length≤c) (hr:R m (xs.length:Int) (h++bl f 0 xs)):R (m+xs.length) 0 h:=by
 have:=loop_build xs d f hf c R step m xs.length 0 h (by omega) (by omega) (by simpa using hr)
 simpa using this
noncomputable section
def ext22:Ext:=[(58,S58),(57,S57),(55,S55),(59,S59),(60,S60)]
theorem ext22Ok:ExtOk Tryz.prog ext22:=⟨⟨ca58,con58⟩,⟨ca57,con57⟩,⟨ca55,con55⟩,⟨ca59,con59⟩,⟨ca60,con60⟩,trivial⟩
noncomputable def b22:Code:=bodyOf Tryz.f22
theorem hb22:Tryz.f22.body=some b22:=by kernel_rfl
def sig22:List AT:=[AT.v YA0]
def tys22:List Ty:=[.sl YA9]
def kds22:List RK:=[]
def oks22:List AT:=owns sig22
def E22_3 (v15:Int) (h1:List TyB3) (x0:TyA0):Env:=[(1,.a (.optr 0 0 [])),(3,.a (.osl 1 Option.none)),(13,.a (.sl YA5 x0.2.2.2.2.1)),(14,.a (.val (.int .i64 (x0.2.2.2.2.1.length:Int)))),(15,.a (.val (.int .i64 v15)))]
def L22_3 (v15:Int) (h1:List TyB3) (x0:TyA0):Heap:=[Option.some (Arr.mk YA0 [x0] true Option.none (Option.some false)),Option.some (Arr.mk YA9 h1 false Option.none Option.none)]
def E22_9 (v39:Int) (h1:List TyB3) (x0:TyA0):Env:=[(1,.a (.optr 0 0 [])),(3,.a (.osl 1 Option.none)),(37,.a (.sl YA3 x0.2.2.2.2.2.2.1)),(38,.a (.val (.int .i64 (x0.2.2.2.2.2.2.1.length:Int)))),(39,.a (.val (.int .i64 v39)))]
def L22_9 (v39:Int) (h1:List TyB3) (x0:TyA0):Heap:=[Option.some (Arr.mk YA0 [x0] true Option.none (Option.some false)),Option.some (Arr.mk YA9 h1 false Option.none Option.none)]
def E22_16 (v66:Int) (h0:List TyB3) (x0:TyA0):Env:=[(3,.a (.osl 0 Option.none)),(64,.a (.osl 1 Option.none)),(65,.a (.val (.int .i64 (↑(List.length (g60_0 x0.2.2.2.2.2.2.2.2.2.1 x0.2.2.2.2.2.2.2.2.2.2.1)):Int)))),(66,.a (.val (.int .i64 v66)))]
def L22_16 (v66:Int) (h0:List TyB3) (x0:TyA0):Heap:=[Option.some (Arr.mk YA9 h0 false Option.none Option.none),Option.some (Arr.mk (.int .i64) (g60_0 x0.2.2.2.2.2.2.2.2.2.1 x0.2.2.2.2.2.2.2.2.2.2.1) false Option.none Option.none)]
mutual
def R22:Nat→TyA0→List Dyn→Prop
 | 0,_,_=>False
 | n+1,x0,ds=>(R22_3 n (0) ([]) (x0) ds)
def R22_3:Nat→Int→List TyB3→TyA0→List Dyn→Prop
 | 0,_,_,_,_=>False
 | n+1,v15,h1,x0,ds=>(if (decide (v15<(x0.2.2.2.2.1.length:Int)))=true then ((0≤v15)∧(v15<(x0.2.2.2.2.1.length:Int))∧((P58 (List.getD x0.2.2.2.2.1 (Int.toNat v15) (ByteArray.empty,0,0,0,())))∧(if (!g57_0 ((List.getD x0.2.2.2.2.1 (Int.toNat v15) (ByteArray.empty,0,0,0,())).2.1,(List.getD x0.2.2.2.2.1 (Int.toNat v15) (ByteArray.empty,0,0,0,())).2.2.1,75*(List.getD x0.2.2.2.2.1 (Int.toNat v15) (ByteArray.empty,0,0,0,())).2.1+15*(List.getD x0.2.2.2.2.1 (Int.toNat v15) (ByteArray.empty,0,0,0,())).2.2.1+(List.getD x0.2.2.2.2.1 (Int.toNat v15) (ByteArray.empty,0,0,0,())).2.2.2.1,()) x0.2.2.2.2.2.1)=true then ((P58 (List.getD x0.2.2.2.2.1 (Int.toNat v15) (ByteArray.empty,0,0,0,())))∧((P55 (75*(List.getD x0.2.2.2.2.1 (Int.toNat v15) (ByteArray.empty,0,0,0,())).2.1+15*(List.getD x0.2.2.2.2.1 (Int.toNat v15) (ByteArray.empty,0,0,0,())).2.2.1+(List.getD x0.2.2.2.2.1 (Int.toNat v15) (ByteArray.empty,0,0,0,())).2.2.2.1))∧(((List.length h1+1)*40≤140737488355328)∧((InR .i64 (v15+1))∧(R22_3 n (v15+1) (h1++[(3,(List.getD x0.2.2.2.2.1 (Int.toNat v15) (ByteArray.empty,0,0,0,())).1,g55_0 (75*(List.getD x0.2.2.2.2.1 (Int.toNat v15) (ByteArray.empty,0,0,0,())).2.1+15*(List.getD x0.2.2.2.2.1 (Int.toNat v15) (ByteArray.empty,0,0,0,())).2.2.1+(List.getD x0.2.2.2.2.1 (Int.toNat v15) (ByteArray.empty,0,0,0,())).2.2.2.1),())]) (x0) ds))))) else ((InR .i64 (v15+1))∧(R22_3 n (v15+1) (h1) (x0) ds))))) else (R22_9 n (0) (h1) (x0) ds))
def R22_9:Nat→Int→List TyB3→TyA0→List Dyn→Prop
 | 0,_,_,_,_=>False
 | n+1,v39,h1,x0,ds=>(if (decide (v39<(x0.2.2.2.2.2.2.1.length:Int)))=true then ((0≤v39)∧(v39<(x0.2.2.2.2.2.2.1.length:Int))∧((P59 (List.getD x0.2.2.2.2.2.2.1 (Int.toNat v39) (ByteArray.empty,0,0,0,0,())) x0.2.2.2.2.2.2.2.1 x0.2.2.2.2.2.2.2.2.1)∧(if (g59_0 (List.getD x0.2.2.2.2.2.2.1 (Int.toNat v39) (ByteArray.empty,0,0,0,0,())) x0.2.2.2.2.2.2.2.1 x0.2.2.2.2.2.2.2.2.1)=true then (((List.length h1+1)*40≤140737488355328)∧((InR .i64 (v39+1))∧(R22_9 n (v39+1) (h1++[(4,(List.getD x0.2.2.2.2.2.2.1 (Int.toNat v39) (ByteArray.empty,0,0,0,0,())).1,ByteArray.mk #[111,118,101,114,100,117,101],())]) (x0) ds))) else ((InR .i64 (v39+1))∧(R22_9 n (v39+1) (h1) (x0) ds))))) else ((P60 x0.2.2.2.2.2.2.2.2.2.1 x0.2.2.2.2.2.2.2.2.2.2.1)∧(R22_16 n (0) (h1) (x0) ds)))
def R22_16:Nat→Int→List TyB3→TyA0→List Dyn→Prop
 | 0,_,_,_,_=>False
 | n+1,v66,h0,x0,ds=>(if (decide (v66<(↑(List.length (g60_0 x0.2.2.2.2.2.2.2.2.2.1 x0.2.2.2.2.2.2.2.2.2.2.1)):Int)))=true then ((0≤v66)∧(v66<(↑(List.length (g60_0 x0.2.2.2.2.2.2.2.2.2.1 x0.2.2.2.2.2.2.2.2.2.2.1)):Int))∧(if (decide (List.getD (g60_0 x0.2.2.2.2.2.2.2.2.2.1 x0.2.2.2.2.2.2.2.2.2.2.1) (Int.toNat v66) 0<0))=true then ((InR .i64 (v66+1))∧((P55 (v66+1))∧((P55 (List.getD (g60_0 x0.2.2.2.2.2.2.2.2.2.1 x0.2.2.2.2.2.2.2.2.2.2.1) (Int.toNat v66) 0))∧(((List.length h0+1)*40≤140737488355328)∧((InR .i64 (v66+1))∧(R22_16 n (v66+1) (h0++[(5,g55_0 (v66+1),g55_0 (List.getD (g60_0 x0.2.2.2.2.2.2.2.2.2.1 x0.2.2.2.2.2.2.2.2.2.2.1) (Int.toNat v66) 0),())]) (x0) ds)))))) else ((InR .i64 (v66+1))∧(R22_16 n (v66+1) (h0) (x0) ds)))) else (ds=[Dyn.mk (.sl YA9) h0]))
end
theorem snd22:∀ n,(∀ (x0:TyA0) ds,R22 n x0 ds→∀ K q,AtV Tryz.prog 22 (PostR kds22 oks22 ds [] [] q K) 84 K q [] [.code b22] (entE 0 0 sig22 (x0,())) (entL sig22 (x0,())))∧(∀ (v15:Int) (h1:List TyB3) (x0:TyA0) ds,R22_3 n v15 h1 x0 ds→∀ K q,AtV Tryz.prog 22 (PostR kds22 oks22 ds [] [] q K) 84 K q [] (cutAt b22 3) (E22_3 v15 h1 x0) (L22_3 v15 h1 x0))∧(∀ (v39:Int) (h1:List TyB3) (x0:TyA0) ds,R22_9 n v39 h1 x0 ds→∀ K q,AtV Tryz.prog 22 (PostR kds22 oks22 ds [] [] q K) 84 K q [] (cutAt b22 9) (E22_9 v39 h1 x0) (L22_9 v39 h1 x0))∧(∀ (v66:Int) (h0:List TyB3) (x0:TyA0) ds,R22_16 n v66 h0 x0 ds→∀ K q,AtV Tryz.prog 22 (PostR kds22 oks22 ds [] [] q K) 84 K q [] (cutAt b22 16) (E22_16 v66 h0 x0) (L22_16 v66 h0 x0)):=by
 intro n
 induction n with
 | zero=>exact ⟨fun _ _ h=>by simp only [R22] at h,fun _ _ _ _ h=>by simp only [R22_3] at h,fun _ _ _ _ h=>by simp only [R22_9] at h,fun _ _ _ _ h=>by simp only [R22_16] at h⟩
 | succ n ih =>
 obtain ⟨ih,ih3,ih9,ih16⟩:=ih
 refine ⟨?_,?_,?_,?_⟩
 ·intro x0 ds h K q
  rw [R22] at h
  exact AtV.go tabOk ext22Ok mixed false [] [(3,.cons (.int .i64) YA12)] [1,3,13,14,15] [0,1] [] trivial (ih3 _ _ _ _ h K q) (by kernel_rfl)
 ·intro v15 h1 x0 ds h K q
  rw [R22_3] at h
  by_cases b0:(decide (v15<(x0.2.2.2.2.1.length:Int)))=true
  ·rw [if_pos b0] at h
   obtain ⟨s0,s1,h⟩:=h
   obtain ⟨s2,h⟩:=h
   by_cases b1:(!g57_0 ((List.getD x0.2.2.2.2.1 (Int.toNat v15) (ByteArray.empty,0,0,0,())).2.1,(List.getD x0.2.2.2.2.1 (Int.toNat v15) (ByteArray.empty,0,0,0,())).2.2.1,75*(List.getD x0.2.2.2.2.1 (Int.toNat v15) (ByteArray.empty,0,0,0,())).2.1+15*(List.getD x0.2.2.2.2.1 (Int.toNat v15) (ByteArray.empty,0,0,0,())).2.2.1+(List.getD x0.2.2.2.2.1 (Int.toNat v15) (ByteArray.empty,0,0,0,())).2.2.2.1,()) x0.2.2.2.2.2.1)=true
   ·rw [if_pos b1] at h
    obtain ⟨s3,h⟩:=h
    obtain ⟨s4,h⟩:=h
    obtain ⟨s5,h⟩:=h
    obtain ⟨s6,h⟩:=h
    exact AtV.go tabOk ext22Ok mixed false [] [(3,.cons (.int .i64) YA12)] [1,3,13,14,15] [0,1] [true,true] (a1 b0 (a1 s0 (a1 s1 (a1 s2 (a1 trivial (a1 b1 (a1 s3 (a1 s4 (a1 s5 (a1 s6 trivial)))))))))) (ih3 _ _ _ _ h K q) (by kernel_rfl)
   ·rw [if_neg b1] at h
    replace b1:=bf_ b1
    obtain ⟨s3,h⟩:=h
    exact AtV.go tabOk ext22Ok mixed false [] [(3,.cons (.int .i64) YA12)] [1,3,13,14,15] [0,1] [true,false] (a1 b0 (a1 s0 (a1 s1 (a1 s2 (a1 trivial (a1 b1 (a1 s3 trivial))))))) (ih3 _ _ _ _ h K q) (by kernel_rfl)
  ·rw [if_neg b0] at h
   replace b0:=bf_ b0
   exact AtV.go tabOk ext22Ok mixed false [] [(3,.cons (.int .i64) YA12)] [1,3,37,38,39] [0,1] [false] (a1 b0 trivial) (ih9 _ _ _ _ h K q) (by kernel_rfl)
 ·intro v39 h1 x0 ds h K q
  rw [R22_9] at h
  by_cases b0:(decide (v39<(x0.2.2.2.2.2.2.1.length:Int)))=true
  ·rw [if_pos b0] at h
   obtain ⟨s0,s1,h⟩:=h
   obtain ⟨s2,h⟩:=h
   by_cases b1:(g59_0 (List.getD x0.2.2.2.2.2.2.1 (Int.toNat v39) (ByteArray.empty,0,0,0,0,())) x0.2.2.2.2.2.2.2.1 x0.2.2.2.2.2.2.2.2.1)=true
   ·rw [if_pos b1] at h
    obtain ⟨s3,h⟩:=h
    obtain ⟨s4,h⟩:=h
    exact AtV.go tabOk ext22Ok mixed false [] [(3,.cons (.int .i64) YA12)] [1,3,37,38,39] [0,1] [true,true] (a1 b0 (a1 s0 (a1 s1 (a1 s2 (a1 b1 (a1 s3 (a1 s4 trivial))))))) (ih9 _ _ _ _ h K q) (by kernel_rfl)
   ·rw [if_neg b1] at h
    replace b1:=bf_ b1
    obtain ⟨s3,h⟩:=h
    exact AtV.go tabOk ext22Ok mixed false [] [(3,.cons (.int .i64) YA12)] [1,3,37,38,39] [0,1] [true,false] (a1 b0 (a1 s0 (a1 s1 (a1 s2 (a1 b1 (a1 s3 trivial)))))) (ih9 _ _ _ _ h K q) (by kernel_rfl)
  ·rw [if_neg b0] at h
   replace b0:=bf_ b0
   obtain ⟨s0,h⟩:=h
   exact AtV.go tabOk ext22Ok mixed false [] [(3,.cons (.int .i64) YA12)] [3,64,65,66] [1,2] [false] (a1 b0 (a1 s0 trivial)) (ih16 _ _ _ _ h K q) (by kernel_rfl)
 ·intro v66 h0 x0 ds h K q
  rw [R22_16] at h
  by_cases b0:(decide (v66<(↑(List.length (g60_0 x0.2.2.2.2.2.2.2.2.2.1 x0.2.2.2.2.2.2.2.2.2.2.1)):Int)))=true
  ·rw [if_pos b0] at h
   obtain ⟨s0,s1,h⟩:=h
   by_cases b1:(decide (List.getD (g60_0 x0.2.2.2.2.2.2.2.2.2.1 x0.2.2.2.2.2.2.2.2.2.2.1) (Int.toNat v66) 0<0))=true
   ·rw [if_pos b1] at h
    obtain ⟨s2,h⟩:=h
    obtain ⟨s3,h⟩:=h
    obtain ⟨s4,h⟩:=h
    obtain ⟨s5,h⟩:=h
    obtain ⟨s6,h⟩:=h
    exact AtV.go tabOk ext22Ok mixed false [] [(3,.cons (.int .i64) YA12)] [3,64,65,66] [0,1] [true,true] (a1 b0 (a1 s0 (a1 s1 (a1 b1 (a1 s2 (a1 s3 (a1 s4 (a1 s5 (a1 s6 trivial))))))))) (ih16 _ _ _ _ h K q) (by kernel_rfl)
   ·rw [if_neg b1] at h
    replace b1:=bf_ b1
    obtain ⟨s2,h⟩:=h
    exact AtV.go tabOk ext22Ok mixed false [] [(3,.cons (.int .i64) YA12)] [3,64,65,66] [0,1] [true,false] (a1 b0 (a1 s0 (a1 s1 (a1 b1 (a1 s2 trivial))))) (ih16 _ _ _ _ h K q) (by kernel_rfl)
  ·rw [if_neg b0] at h
   replace b0:=bf_ b0
   subst h
   exact AtV.ret Tryz.func22 tabOk ext22Ok mixed false [] tys22 [false] (a1 b0 trivial) (by kernel_rfl)
def fG22 (r:Int×Int×Int×Unit) (_:Nat) (x:ByteArray×Int×Int×Int×Unit):List TyB3 :=
 if (!g57_0 (x.2.1,x.2.2.1,75*x.2.1+15*x.2.2.1+x.2.2.2.1,()) r)=true then [(3,x.1,g55_0 (75*x.2.1+15*x.2.2.1+x.2.2.2.1),())] else []
def fC22 (d r:Int) (_:Nat) (x:TyB0):List TyB3:=if g59_0 x d r=true then [(4,x.1,ByteArray.mk #[111,118,101,114,100,117,101],())] else []
def fS22 (i:Nat) (n:Int):List TyB3:=if decide (n<0)=true then [(5,g55_0 ((i:Int)+1),g55_0 n,())] else []
def g22_0 (x0:(TyA0)):List TyB3 :=
 bl (fG22 x0.2.2.2.2.2.1) 0 x0.2.2.2.2.1++bl (fC22 x0.2.2.2.2.2.2.2.1 x0.2.2.2.2.2.2.2.2.1) 0 x0.2.2.2.2.2.2.1++bl fS22 0 (g60_0 x0.2.2.2.2.2.2.2.2.2.1 x0.2.2.2.2.2.2.2.2.2.2.1)
def P22 (x0:(TyA0)):Prop:=x0.2.2.2.2.1.length≤1048576∧x0.2.2.2.2.2.2.1.length≤1048576∧(g60_0 x0.2.2.2.2.2.2.2.2.2.1 x0.2.2.2.2.2.2.2.2.2.2.1).length≤1048576 ∧
 (∀ x∈x0.2.2.2.2.1,P58 x)∧(∀ x∈x0.2.2.2.2.2.2.1,P59 x x0.2.2.2.2.2.2.2.1 x0.2.2.2.2.2.2.2.2.1)∧P60 x0.2.2.2.2.2.2.2.2.2.1 x0.2.2.2.2.2.2.2.2.2.2.1
theorem dec22 (n:Int):P55 n:=⟨rfl,trivial⟩
theorem top22 (x0:(TyA0)) (h:P22 x0):∃ n,R22 n x0 [⟨.sl (.cons (.int .i64) (.cons .str (.cons .str .unit))),g22_0 x0⟩]:=by
 obtain ⟨h1,h2,h3,h4,h5,h6⟩:=h
 have hm:1048576≤maxLen:=by decide
 have hmx:maxLen≤9223372036854775807:=by decide
 have l1:∀ i x,(fG22 x0.2.2.2.2.2.1 i x).length≤1:=fun i x=>by unfold fG22;split <;> simp
 have l2:∀ i x,(fC22 x0.2.2.2.2.2.2.2.1 x0.2.2.2.2.2.2.2.2.1 i x).length≤1:=fun i x=>by unfold fC22;split <;> simp
 have l3:∀ i x,(fS22 i x).length≤1:=fun i x=>by unfold fS22;split <;> simp
 have b1:=bl_len _ l1 x0.2.2.2.2.1 0
 have b2:=bl_len _ l2 x0.2.2.2.2.2.2.1 0
 have k3:=loop_build0 (g60_0 x0.2.2.2.2.2.2.2.2.2.1 x0.2.2.2.2.2.2.2.2.2.2.1) 0 fS22 l3 2097152 (fun n i h=>R22_16 n i h x0 [⟨.sl (.cons (.int .i64) (.cons .str (.cons .str .unit))),g22_0 x0⟩]) (fun n i h hi hh hr=>by
  rw [R22_16,if_pos (by simp only [decide_eq_true_eq];omega)]
  simp only [Int.toNat_natCast]
  refine ⟨by omega,by omega,?_⟩
  unfold fS22 at hr
  by_cases hc:decide ((g60_0 x0.2.2.2.2.2.2.2.2.2.1 x0.2.2.2.2.2.2.2.2.2.2.1).getD i 0<0)=true
  ·rw [if_pos hc] at hr ⊢
   exact ⟨by rw [i64_iff];omega,dec22 _,dec22 _,by omega,by rw [i64_iff];omega,hr⟩
  ·rw [if_neg hc] at hr ⊢
   rw [List.append_nil] at hr
   exact ⟨by rw [i64_iff];omega,hr⟩) 1 (bl (fG22 x0.2.2.2.2.2.1) 0 x0.2.2.2.2.1++bl (fC22 x0.2.2.2.2.2.2.2.1 x0.2.2.2.2.2.2.2.2.1) 0 x0.2.2.2.2.2.2.1) (by simp only [List.length_append];omega) (by
  rw [R22_16,if_neg (by simp)]
  rfl)
 have k2:=loop_build0 x0.2.2.2.2.2.2.1 (ByteArray.empty,(0:Int),(0:Int),(0:Int),(0:Int),()) (fC22 x0.2.2.2.2.2.2.2.1 x0.2.2.2.2.2.2.2.2.1) l2 1048576 (fun n i h=>R22_9 n i h x0 [⟨.sl (.cons (.int .i64) (.cons .str (.cons .str .unit))),g22_0 x0⟩]) (fun n i h hi hh hr=>by
  rw [R22_9,if_pos (by simp only [decide_eq_true_eq];omega)]
  simp only [Int.toNat_natCast]
  refine ⟨by omega,by omega,h5 _ (mem_getD _ i (ByteArray.empty,(0:Int),(0:Int),(0:Int),(0:Int),()) hi),?_⟩
  unfold fC22 at hr
  by_cases hc:g59_0 (x0.2.2.2.2.2.2.1.getD i (ByteArray.empty,(0:Int),(0:Int),(0:Int),(0:Int),())) x0.2.2.2.2.2.2.2.1 x0.2.2.2.2.2.2.2.2.1=true
  ·rw [if_pos hc] at hr ⊢
   exact ⟨by omega,by rw [i64_iff];omega,hr⟩
  ·rw [if_neg hc] at hr ⊢
   rw [List.append_nil] at hr
   exact ⟨by rw [i64_iff];omega,hr⟩) (1+(g60_0 x0.2.2.2.2.2.2.2.2.2.1 x0.2.2.2.2.2.2.2.2.2.2.1).length+1) (bl (fG22 x0.2.2.2.2.2.1) 0 x0.2.2.2.2.1) (by omega) (by
  rw [R22_9,if_neg (by simp)]
  exact ⟨h6,k3⟩)
 have k1:=loop_build0 x0.2.2.2.2.1 (ByteArray.empty,(0:Int),(0:Int),(0:Int),()) (fG22 x0.2.2.2.2.2.1) l1 0 (fun n i h=>R22_3 n i h x0 [⟨.sl (.cons (.int .i64) (.cons .str (.cons .str .unit))),g22_0 x0⟩]) (fun n i h hi hh hr=>by
  rw [R22_3,if_pos (by simp only [decide_eq_true_eq];omega)]
  simp only [Int.toNat_natCast]
  have p:=h4 _ (mem_getD _ i (ByteArray.empty,(0:Int),(0:Int),(0:Int),()) hi)
  refine ⟨by omega,by omega,p,?_⟩
  unfold fG22 at hr
  generalize hy:x0.2.2.2.2.1.getD i (ByteArray.empty,(0:Int),(0:Int),(0:Int),())=y at p hr ⊢
  by_cases hc:(!g57_0 (y.2.1,y.2.2.1,75*y.2.1+15*y.2.2.1+y.2.2.2.1,()) x0.2.2.2.2.2.1)=true
  ·rw [if_pos hc] at hr ⊢
   exact ⟨p,dec22 _,by omega,by rw [i64_iff];omega,hr⟩
  ·rw [if_neg hc] at hr ⊢
   rw [List.append_nil] at hr
   exact ⟨by rw [i64_iff];omega,hr⟩) (1+(g60_0 x0.2.2.2.2.2.2.2.2.2.1 x0.2.2.2.2.2.2.2.2.2.2.1).length+1+x0.2.2.2.2.2.2.1.length+1) [] (by simp) (by
  rw [R22_3,if_neg (by simp)]
  exact k2)
 exact ⟨1+(g60_0 x0.2.2.2.2.2.2.2.2.2.1 x0.2.2.2.2.2.2.2.2.2.2.1).length+1+x0.2.2.2.2.2.2.1.length+1+x0.2.2.2.2.1.length+1,by rw [R22];exact k1⟩
def S22:Am.Spec:={ sig:=sig22,pre:=fun ⟨x0,_⟩=>P22 x0,res:=fun ⟨x0,_⟩=>[⟨.sl (.cons (.int .i64) (.cons .str (.cons .str .unit))),g22_0 x0⟩] }
theorem con22:Contract Tryz.prog 22 S22:=contract_of Tryz.func22 hb22 (bl_ (by kernel_rfl)) (fun ⟨x0,_⟩ h hwf K q =>
 let ⟨_,hn⟩:=top22 x0 h
 (snd22 _).1 x0 _ hn K q)
end
set_option maxHeartbeats 2000000 in
theorem nil132 (w:World):Calls Tryz.prog 132 #[.slice none 0 0] w fun e w'=>e = .returned (.slice none 0 0)∧w'=w:=by
 have mixed:=mixed
 have q22:∀ (w:World) (a:Option Addr) (n c n' c':Nat),(binOp .eql 35 (.slice a n c) (.slice none n' c')).run Tryz.prog w = .ok (.bool a.isNone) w:=fun w a n c n' c'=>Lib.run_eql_slice_nil w _ _ a n c n' c' Tryz.underlying35
 go_enter Tryz.func132,Tryz.ntmps132
 go_wp2
 go_ret
 exact ⟨rfl,rfl⟩
set_option maxHeartbeats 4000000 in
theorem some132 (w:World) (a:Addr) (n c:Nat) (news:List Value) (hl:news.length=n*(Ty.size YA6)) (hn:n≤1048576) (hc:∀ (j:Nat) (u:Value),news[j]? = some u→w.cell? (a.add j)=some u) (h1:∀ u∈news,u.oneCell'=true) :
  Calls Tryz.prog 132 #[.slice (some a) n c] w fun r w'=>∃ v',r = .returned v'∧w'.ownsRow w.heap.size 99 (Ty.size YA6) v' n news∧Go.RowKit.Below w.heap.size w w':=by
 have mixed:=mixed
 have q22:∀ (w:World) (a:Option Addr) (n c n' c':Nat),(binOp .eql 35 (.slice a n c) (.slice none n' c')).run Tryz.prog w = .ok (.bool a.isNone) w:=fun w a n c n' c'=>Lib.run_eql_slice_nil w _ _ a n c n' c' Tryz.underlying35
 have hinfo:TIOk Tryz.prog 35 (tabGet tab 35):=tabOk 35
 obtain ⟨_,_,⟨_,⟨i0,hi0,hz1,z,hz0,hzs,_⟩⟩,hby⟩:=hinfo
 rw [hi0] at hby
 simp only [Option.map_some,Option.some.injEq] at hby
 have hzs':z.cells.size=Ty.size YA6:=by rw [← Array.length_toList,hzs];rfl
 have A:Aside (∀ (j:Nat) (u:Value),news[j]? = some u→w.cell? (a.add j)=some u):=hc
 clear hc
 go_enter Tryz.func132,Tryz.ntmps132
 go_wp2_with (at_builtin;refine wpList_append_own _ rfl _ _ 35 rfl w.heap.size 99 i0 z (Ty.size YA6) i0.bytes Tryz.underlying35 hi0 hz0 hz1 rfl hzs' (by decide) _ _ _ rfl (World.ownsRow_made w #[] 0 (Nat.le_refl _) (Nat.zero_le _) (by simp)) a n c news rfl ?qc1 ?qc2 ?qc3 ?qc4 ?qc5 ?qc6 ?_)
 case qc1=>exact hl
 case qc2=>intro j u hj;exact Lib.cell?_alloc_some _ (A.out j u hj)
 case qc3=>exact h1
 case qc4=>unfold maxLen;omega
 case qc5=>rw [hby];omega
 case qc6=>simp
 intro v' w1 hown hgrow hnil
 go_wp2
 go_ret
 exact ⟨v',rfl,by simpa using hown,((Go.RowKit.Below.refl _ w).alloc (Nat.le_refl _) _).grown hgrow (by simp) (by intro k hk;simp [Value.ownBlock] at hk;omega)⟩
def sig132:List AT:=[AT.v (Ty.sl YA6)]
def g132_0 (x0:List TyB2):List TyB2:=x0
def P132 (x0:List TyB2):Prop:=x0.length≤1048576
def S132:Am.Spec:={ sig:=sig132,pre:=fun ⟨x0,_⟩=>P132 x0,res:=fun ⟨x0,_⟩=>[⟨Ty.sl YA6,g132_0 x0⟩] }
theorem con132:Contract Tryz.prog 132 S132:=clone_contract (t:=YA6) (e:=99) rfl nil132 some132
noncomputable section
def ext157:Ext:=[(55,S55)]
theorem ext157Ok:ExtOk Tryz.prog ext157:=⟨⟨ca55,con55⟩,trivial⟩
noncomputable def b157:Code:=bodyOf Tryz.f157
theorem hb157:Tryz.f157.body=some b157:=by kernel_rfl
def sig157:List AT:=[AT.v YA6]
def tys157:List Ty:=[.str]
def kds157:List RK:=[]
def oks157:List AT:=owns sig157
def P157 (x0:Int×Int×ByteArray×Int×Unit):Prop:=((P55 x0.1)∧((ByteArray.size (g55_0 x0.1)+1≤9223372036854775807)∧((P55 x0.2.1)∧((ByteArray.size (g55_0 x0.1++ByteArray.mk #[32])+ByteArray.size (g55_0 x0.2.1)≤9223372036854775807)∧((ByteArray.size (g55_0 x0.1++ByteArray.mk #[32]++g55_0 x0.2.1)+1≤9223372036854775807)∧((ByteArray.size (g55_0 x0.1++ByteArray.mk #[32]++g55_0 x0.2.1++ByteArray.mk #[32])+ByteArray.size x0.2.2.1≤9223372036854775807)∧True))))))
def g157_0 (x0:Int×Int×ByteArray×Int×Unit):ByteArray:=g55_0 x0.1++ByteArray.mk #[32]++g55_0 x0.2.1++ByteArray.mk #[32]++x0.2.2.1
theorem at157 (x0:Int×Int×ByteArray×Int×Unit) (h:P157 x0) (K:Ctx) (q:Nat→Value):AtV Tryz.prog 157 (PostR kds157 oks157 [⟨.str,g157_0 x0⟩] [] [] q K) 15 K q [] [.code b157] (entE 0 0 sig157 (x0,())) (entL sig157 (x0,())):=by
 unfold P157 at h
 unfold g157_0
 obtain ⟨s0,h⟩:=h
 obtain ⟨s1,h⟩:=h
 obtain ⟨s2,h⟩:=h
 obtain ⟨s3,h⟩:=h
 obtain ⟨s4,h⟩:=h
 obtain ⟨s5,h⟩:=h
 exact AtV.ret Tryz.func157 tabOk ext157Ok mixed false [] tys157 [] (a1 s0 (a1 s1 (a1 s2 (a1 s3 (a1 s4 (a1 s5 trivial)))))) (by kernel_rfl)
def S157:Am.Spec:={ sig:=sig157,pre:=fun ⟨x0,_⟩=>P157 x0,res:=fun ⟨x0,_⟩=>[⟨.str,g157_0 x0⟩],kds:=kds157 }
theorem con157:Contract Tryz.prog 157 S157:=contract_of Tryz.func157 hb157 (bl_ (by kernel_rfl)) (fun ⟨x0,_⟩ h _ K q=>at157 x0 h K q)
end
noncomputable section
def ext156:Ext:=[(116,S116)]
theorem ext156Ok:ExtOk Tryz.prog ext156:=⟨⟨ca116,con116⟩,trivial⟩
noncomputable def b156:Code:=bodyOf Tryz.f156
theorem hb156:Tryz.f156.body=some b156:=by kernel_rfl
def sig156:List AT:=[AT.v (.str),AT.v (.int .i64)]
def tys156:List Ty:=[.int .i64]
def kds156:List RK:=[]
def oks156:List AT:=owns sig156
def E156_5 (v15:Int) (x1:Int) (x0:ByteArray):Env:=[(5,.a (.val (.int .i64 x1))),(13,.a (.osl 0 Option.none)),(14,.a (.val (.int .i64 (↑(List.length (bytesOf x0)):Int)))),(15,.a (.val (.int .i64 v15)))]
def L156_5 (v15:Int) (x1:Int) (x0:ByteArray):Heap:=[Option.some (Arr.mk (.int .u8) (bytesOf x0) false Option.none Option.none)]
def E156_9 (v5:Int) (v24:Int) (x0:ByteArray) (v15:Int):Env:=[(5,.a (.val (.int .i64 v5))),(13,.a (.osl 0 Option.none)),(14,.a (.val (.int .i64 (↑(List.length (bytesOf x0)):Int)))),(15,.a (.val (.int .i64 v15))),(24,.a (.val (.int .i64 v24)))]
def L156_9 (v5:Int) (v24:Int) (x0:ByteArray) (v15:Int):Heap:=[Option.some (Arr.mk (.int .u8) (bytesOf x0) false Option.none Option.none)]
mutual
def R156:Nat→ByteArray→Int→List Dyn→Prop
 | 0,_,_,_=>False
 | n+1,x0,x1,ds=>(if (!g116_0 x1 0 65535)=true then (ds=[Dyn.mk (.int .i64) 0]) else (R156_5 n (0) (x1) (x0) ds))
def R156_5:Nat→Int→Int→ByteArray→List Dyn→Prop
 | 0,_,_,_,_=>False
 | n+1,v15,x1,x0,ds=>(if (decide (v15<(↑(List.length (bytesOf x0)):Int)))=true then ((0≤v15)∧(v15<(↑(List.length (bytesOf x0)):Int))∧((InR .i64 (List.getD (bytesOf x0) (Int.toNat v15) 0))∧(R156_9 n (IntKind.wrap IntKind.i64 (↑(BitVec.toNat (BitVec.ofInt 64 x1 ^^^ BitVec.ofInt 64 (IntKind.wrap IntKind.i64 (List.getD (bytesOf x0) (Int.toNat v15) 0*256)))):Int)) (0) (x0) (v15) ds))) else (ds=[Dyn.mk (.int .i64) x1]))
def R156_9:Nat→Int→Int→ByteArray→Int→List Dyn→Prop
 | 0,_,_,_,_,_=>False
 | n+1,v5,v24,x0,v15,ds=>(if (decide (v24<8))=true then (if (decide (IntKind.wrap IntKind.i64 (v5*2)>65535))=true then ((InR .i64 (v24+1))∧(R156_9 n (IntKind.wrap IntKind.i64 (↑(BitVec.toNat (BitVec.ofInt 64 (IntKind.wrap IntKind.i64 (↑(BitVec.toNat (BitVec.ofInt 64 (IntKind.wrap IntKind.i64 (v5*2)) &&& BitVec.ofInt 64 65535)):Int)) ^^^ BitVec.ofInt 64 4129)):Int)) (v24+1) (x0) (v15) ds)) else ((InR .i64 (v24+1))∧(R156_9 n (IntKind.wrap IntKind.i64 (v5*2)) (v24+1) (x0) (v15) ds))) else ((InR .i64 (v15+1))∧(R156_5 n (v15+1) (v5) (x0) ds)))
end
theorem snd156:∀ n,(∀ (x0:ByteArray) (x1:Int) ds,R156 n x0 x1 ds→∀ K q,AtV Tryz.prog 156 (PostR kds156 oks156 ds [] [] q K) 36 K q [] [.code b156] (entE 0 0 sig156 (x0,x1,())) (entL sig156 (x0,x1,())))∧(∀ (v15:Int) (x1:Int) (x0:ByteArray) ds,R156_5 n v15 x1 x0 ds→∀ K q,AtV Tryz.prog 156 (PostR kds156 oks156 ds [] [] q K) 36 K q [] (cutAt b156 5) (E156_5 v15 x1 x0) (L156_5 v15 x1 x0))∧(∀ (v5:Int) (v24:Int) (x0:ByteArray) (v15:Int) ds,R156_9 n v5 v24 x0 v15 ds→∀ K q,AtV Tryz.prog 156 (PostR kds156 oks156 ds [] [] q K) 36 K q [] (cutAt b156 9) (E156_9 v5 v24 x0 v15) (L156_9 v5 v24 x0 v15)):=by
 intro n
 induction n with
 | zero=>exact ⟨fun _ _ _ h=>by simp only [R156] at h,fun _ _ _ _ h=>by simp only [R156_5] at h,fun _ _ _ _ _ h=>by simp only [R156_9] at h⟩
 | succ n ih =>
 obtain ⟨ih,ih5,ih9⟩:=ih
 refine ⟨?_,?_,?_⟩
 ·intro x0 x1 ds h K q
  rw [R156] at h
  by_cases b0:(!g116_0 x1 0 65535)=true
  ·rw [if_pos b0] at h
   subst h
   exact AtV.ret Tryz.func156 tabOk ext156Ok mixed false [] tys156 [true] (a1 trivial (a1 b0 trivial)) (by kernel_rfl)
  ·rw [if_neg b0] at h
   replace b0:=bf_ b0
   exact AtV.go tabOk ext156Ok mixed false [] [] [5,13,14,15] [0] [false] (a1 trivial (a1 b0 trivial)) (ih5 _ _ _ _ h K q) (by kernel_rfl)
 ·intro v15 x1 x0 ds h K q
  rw [R156_5] at h
  by_cases b0:(decide (v15<(↑(List.length (bytesOf x0)):Int)))=true
  ·rw [if_pos b0] at h
   obtain ⟨s0,s1,h⟩:=h
   obtain ⟨s2,h⟩:=h
   exact AtV.go tabOk ext156Ok mixed false [] [] [5,13,14,15,24] [0] [true] (a1 b0 (a1 s0 (a1 s1 (a1 s2 (a1 ((by decide):(0:Int)≤(8:Int)) trivial))))) (ih9 _ _ _ _ _ h K q) (by kernel_rfl)
  ·rw [if_neg b0] at h
   replace b0:=bf_ b0
   subst h
   exact AtV.ret Tryz.func156 tabOk ext156Ok mixed false [] tys156 [false] (a1 b0 trivial) (by kernel_rfl)
 ·intro v5 v24 x0 v15 ds h K q
  rw [R156_9] at h
  by_cases b0:(decide (v24<8))=true
  ·rw [if_pos b0] at h
   by_cases b1:(decide (IntKind.wrap IntKind.i64 (v5*2)>65535))=true
   ·rw [if_pos b1] at h
    obtain ⟨s0,h⟩:=h
    exact AtV.go tabOk ext156Ok mixed false [] [] [5,13,14,15,24] [0] [true,true] (a1 b0 (a1 ((by decide):(0:Int)≤(1:Int)) (a1 b1 (a1 s0 trivial)))) (ih9 _ _ _ _ _ h K q) (by kernel_rfl)
   ·rw [if_neg b1] at h
    replace b1:=bf_ b1
    obtain ⟨s0,h⟩:=h
    exact AtV.go tabOk ext156Ok mixed false [] [] [5,13,14,15,24] [0] [true,false] (a1 b0 (a1 ((by decide):(0:Int)≤(1:Int)) (a1 b1 (a1 s0 trivial)))) (ih9 _ _ _ _ _ h K q) (by kernel_rfl)
  ·rw [if_neg b0] at h
   replace b0:=bf_ b0
   obtain ⟨s0,h⟩:=h
   exact AtV.go tabOk ext156Ok mixed false [] [] [5,13,14,15] [0] [false] (a1 b0 (a1 s0 trivial)) (ih5 _ _ _ _ h K q) (by kernel_rfl)
def bit156 (s:Int):Int:=if (decide (IntKind.wrap IntKind.i64 (s*2)>65535))=true then (IntKind.wrap IntKind.i64 (↑(BitVec.toNat (BitVec.ofInt 64 (IntKind.wrap IntKind.i64 (↑(BitVec.toNat (BitVec.ofInt 64 (IntKind.wrap IntKind.i64 (s*2)) &&& BitVec.ofInt 64 65535)):Int)) ^^^ BitVec.ofInt 64 4129)):Int)) else (IntKind.wrap IntKind.i64 (s*2))
def bits156:Nat→Int→Int
 | 0,s=>s
 | k+1,s=>bits156 k (bit156 s)
def byte156 (s c:Int):Int:=bits156 8 (IntKind.wrap IntKind.i64 (↑(BitVec.toNat (BitVec.ofInt 64 s ^^^ BitVec.ofInt 64 (IntKind.wrap IntKind.i64 (c*256)))):Int))
def g156_0 (x0:ByteArray) (x1:Int):Int:=if (!g116_0 x1 0 65535)=true then 0 else (bytesOf x0).foldl byte156 x1
def P156 (x0:ByteArray) (x1:Int):Prop:=True
theorem inner156 (x0:ByteArray) (hm:(bytesOf x0).length≤maxLen) (i n:Nat) (hi:i<(bytesOf x0).length) (ds:List Dyn):∀ (k j:Nat) (s:Int),j+k=8→R156_5 n ((i:Int)+1) (bits156 k s) x0 ds→R156_9 (n+1+k) s (j:Int) x0 (i:Int) ds:=by
 intro k
 induction k with
 | zero =>
  intro j s hj hr
  rw [R156_9,if_neg (by simp;omega)]
  exact ⟨inR_up hm hi,hr⟩
 | succ k ih =>
  intro j s hj hr
  have e2:(j:Int)+1=((j+1:Nat):Int):=by omega
  rw [show n+1+(k+1)=(n+1+k)+1 by omega,R156_9,if_pos (by simp;omega)]
  unfold bits156 bit156 at hr
  by_cases hc:(decide (IntKind.wrap IntKind.i64 (s*2)>65535))=true
  ·rw [if_pos hc] at hr ⊢
   rw [e2]
   exact ⟨by rw [i64_iff];omega,ih (j+1) _ (by omega) hr⟩
  ·rw [if_neg hc] at hr ⊢
   rw [e2]
   exact ⟨by rw [i64_iff];omega,ih (j+1) _ (by omega) hr⟩
theorem run156 (x0:ByteArray) (hm:x0.size≤maxLen):∀ (k i:Nat) (s:Int),i+k=x0.size→∃ n,R156_5 n (i:Int) s x0 [⟨.int .i64,((bytesOf x0).drop i).foldl byte156 s⟩]:=by
 intro k
 have hl:=bytesOf_length x0
 induction k with
 | zero =>
  intro i s hi
  refine ⟨1,?_⟩
  rw [R156_5,if_neg (by rw [hl];simp;omega),List.drop_of_length_le (by omega)]
  rfl
 | succ k ih =>
  intro i s hi
  have hlt:i<(bytesOf x0).length:=by omega
  have hcons:=drop_get (bytesOf x0) i 0 hlt
  obtain ⟨n,hn⟩:=ih (i+1) (byte156 s ((bytesOf x0).getD i 0)) (by omega)
  refine ⟨n+1+8+1,?_⟩
  have hb:=bytesOf_range x0 _ (mem_getD (bytesOf x0) i 0 hlt)
  rw [R156_5,if_pos (by rw [hl];simp;omega)]
  simp only [Int.toNat_natCast]
  rw [hcons,List.foldl_cons]
  exact ⟨by omega,by omega,by rw [i64_iff];omega,inner156 x0 (by rw [hl];exact hm) i n hlt _ 8 0 _ (by omega) hn⟩
theorem top156 (x0:ByteArray) (x1:Int) (hm:x0.size≤maxLen):∃ n,R156 n x0 x1 [⟨.int .i64,g156_0 x0 x1⟩]:=by
 obtain ⟨n,hn⟩:=run156 x0 hm x0.size 0 x1 (by omega)
 refine ⟨n+1,?_⟩
 rw [R156]
 unfold g156_0
 by_cases hc:(!g116_0 x1 0 65535)=true
 ·rw [if_pos hc,if_pos hc]
 ·rw [if_neg hc,if_neg hc]
  exact hn
def S156:Am.Spec:={ sig:=sig156,pre:=fun ⟨x0,x1,_⟩=>P156 x0 x1,res:=fun ⟨x0,x1,_⟩=>[⟨.int .i64,g156_0 x0 x1⟩] }
theorem con156:Contract Tryz.prog 156 S156:=contract_of Tryz.func156 hb156 (bl_ (by kernel_rfl)) (fun ⟨x0,x1,_⟩ h hwf K q =>
 let ⟨n,hn⟩:=top156 x0 x1 hwf.1
 (snd156 n).1 x0 x1 _ hn K q)
end
noncomputable section
def ext133:Ext:=[(157,S157),(156,S156)]
theorem ext133Ok:ExtOk Tryz.prog ext133:=⟨⟨ca157,con157⟩,⟨ca156,con156⟩,trivial⟩
noncomputable def b133:Code:=bodyOf Tryz.f133
theorem hb133:Tryz.f133.body=some b133:=by kernel_rfl
def sig133:List AT:=[AT.v (.int .i64),AT.v YA6]
def tys133:List Ty:=[.int .i64]
def kds133:List RK:=[]
def oks133:List AT:=owns sig133
def P133 (x0:Int) (x1:Int×Int×ByteArray×Int×Unit):Prop:=((P157 x1)∧True)
def g133_0 (x0:Int) (x1:Int×Int×ByteArray×Int×Unit):Int:=g156_0 (g157_0 x1) x0
theorem at133 (x0:Int) (x1:Int×Int×ByteArray×Int×Unit) (h:P133 x0 x1) (K:Ctx) (q:Nat→Value):AtV Tryz.prog 133 (PostR kds133 oks133 [⟨.int .i64,g133_0 x0 x1⟩] [] [] q K) 9 K q [] [.code b133] (entE 0 0 sig133 (x0,x1,())) (entL sig133 (x0,x1,())):=by
 unfold P133 at h
 unfold g133_0
 obtain ⟨s0,h⟩:=h
 exact AtV.ret Tryz.func133 tabOk ext133Ok mixed false [] tys133 [] (a1 s0 (a1 trivial trivial)) (by kernel_rfl)
def S133:Am.Spec:={ sig:=sig133,pre:=fun ⟨x0,x1,_⟩=>P133 x0 x1,res:=fun ⟨x0,x1,_⟩=>[⟨.int .i64,g133_0 x0 x1⟩],kds:=kds133 }
theorem con133:Contract Tryz.prog 133 S133:=contract_of Tryz.func133 hb133 (bl_ (by kernel_rfl)) (fun ⟨x0,x1,_⟩ h _ K q=>at133 x0 x1 h K q)
end
noncomputable section
def ext105:Ext:=[(132,S132),(133,S133)]
theorem ext105Ok:ExtOk Tryz.prog ext105:=⟨⟨ca132,con132⟩,⟨ca133,con133⟩,trivial⟩
noncomputable def b105:Code:=bodyOf Tryz.f105
theorem hb105:Tryz.f105.body=some b105:=by kernel_rfl
def sig105:List AT:=[AT.v (.sl YA6)]
def tys105:List Ty:=[.sl YA6]
def kds105:List RK:=[]
def oks105:List AT:=owns sig105
def E105_4 (v4:Int) (v11:Int) (h0:List TyB2) (x0:List TyB2):Env:=[(3,.a (.osl 0 Option.none)),(4,.a (.val (.int .i64 v4))),(9,.a (.osl 0 Option.none)),(10,.a (.val (.int .i64 (↑(List.length (g132_0 x0)):Int)))),(11,.a (.val (.int .i64 v11)))]
def L105_4 (v4:Int) (v11:Int) (h0:List TyB2) (x0:List TyB2):Heap:=[Option.some (Arr.mk YA6 h0 false Option.none Option.none)]
mutual
def R105:Nat→List TyB2→List Dyn→Prop
 | 0,_,_=>False
 | n+1,x0,ds=>((P132 x0)∧(R105_4 n (65535) (0) (g132_0 x0) (x0) ds))
def R105_4:Nat→Int→Int→List TyB2→List TyB2→List Dyn→Prop
 | 0,_,_,_,_,_=>False
 | n+1,v4,v11,h0,x0,ds=>(if (decide (v11<(↑(List.length (g132_0 x0)):Int)))=true then ((0≤v11)∧(v11<(h0.length:Int))∧((P133 v4 (List.getD h0 (Int.toNat v11) (0,0,ByteArray.empty,0,())))∧((0≤v11)∧(v11<(h0.length:Int))∧((InR .i64 (v11+1))∧(R105_4 n (g133_0 v4 (List.getD h0 (Int.toNat v11) (0,0,ByteArray.empty,0,()))) (v11+1) (List.set h0 (Int.toNat v11) ((List.getD h0 (Int.toNat v11) (0,0,ByteArray.empty,0,())).1,(List.getD h0 (Int.toNat v11) (0,0,ByteArray.empty,0,())).2.1,(List.getD h0 (Int.toNat v11) (0,0,ByteArray.empty,0,())).2.2.1,g133_0 v4 (List.getD h0 (Int.toNat v11) (0,0,ByteArray.empty,0,())),(List.getD h0 (Int.toNat v11) (0,0,ByteArray.empty,0,())).2.2.2.2)) (x0) ds))))) else (ds=[Dyn.mk (.sl YA6) h0]))
end
theorem snd105:∀ n,(∀ (x0:List TyB2) ds,R105 n x0 ds→∀ K q,AtV Tryz.prog 105 (PostR kds105 oks105 ds [] [] q K) 26 K q [] [.code b105] (entE 0 0 sig105 (x0,())) (entL sig105 (x0,())))∧(∀ (v4:Int) (v11:Int) (h0:List TyB2) (x0:List TyB2) ds,R105_4 n v4 v11 h0 x0 ds→∀ K q,AtV Tryz.prog 105 (PostR kds105 oks105 ds [] [] q K) 26 K q [] (cutAt b105 4) (E105_4 v4 v11 h0 x0) (L105_4 v4 v11 h0 x0)):=by
 intro n
 induction n with
 | zero=>exact ⟨fun _ _ h=>by simp only [R105] at h,fun _ _ _ _ _ h=>by simp only [R105_4] at h⟩
 | succ n ih =>
 obtain ⟨ih,ih4⟩:=ih
 refine ⟨?_,?_⟩
 ·intro x0 ds h K q
  rw [R105] at h
  obtain ⟨s0,h⟩:=h
  exact AtV.go tabOk ext105Ok mixed false [] [] [3,4,9,10,11] [0] [] (a1 s0 trivial) (ih4 _ _ _ _ _ h K q) (by kernel_rfl)
 ·intro v4 v11 h0 x0 ds h K q
  rw [R105_4] at h
  by_cases b0:(decide (v11<(↑(List.length (g132_0 x0)):Int)))=true
  ·rw [if_pos b0] at h
   obtain ⟨s0,s1,h⟩:=h
   obtain ⟨s2,h⟩:=h
   obtain ⟨s3,s4,h⟩:=h
   obtain ⟨s5,h⟩:=h
   exact AtV.go tabOk ext105Ok mixed false [] [] [3,4,9,10,11] [0] [true] (a1 b0 (a1 s0 (a1 s1 (a1 s2 (a1 s3 (a1 s4 (a1 s5 trivial))))))) (ih4 _ _ _ _ _ h K q) (by kernel_rfl)
  ·rw [if_neg b0] at h
   replace b0:=bf_ b0
   subst h
   exact AtV.ret Tryz.func105 tabOk ext105Ok mixed false [] tys105 [false] (a1 b0 trivial) (by kernel_rfl)
def sl105 (c:Int):List TyB2→List TyB2
 | []=>[]
 | x :: r=>(x.1,x.2.1,x.2.2.1,g133_0 c x,x.2.2.2.2) :: sl105 (g133_0 c x) r
def g105_0 (x0:List TyB2):List TyB2:=sl105 65535 x0
def P105 (x0:List TyB2):Prop:=x0.length≤1048576∧∀ x∈x0,∀ c,P133 c x
theorem set_take105 {α:Type} (l:List α) (i:Nat) (y:α) (h:i<l.length):(l.set i y).take (i+1)=l.take i++[y]:=by
 rw [List.set_eq_take_append_cons_drop,if_pos h,List.take_append,List.length_take,Nat.min_eq_left (Nat.le_of_lt h),List.take_of_length_le (by rw [List.length_take];omega),Nat.add_sub_cancel_left]
 rfl
theorem set_drop105 {α:Type} (l:List α) (i:Nat) (y:α):(l.set i y).drop (i+1)=l.drop (i+1):=by
 rw [List.drop_set_of_lt (by omega)]
theorem run105 (x0:List TyB2) (hm:x0.length≤maxLen) (hx:∀ x∈x0,∀ c,P133 c x):∀ (k i:Nat) (c:Int) (h0:List TyB2),i+k=x0.length→h0.length=x0.length→h0.drop i=x0.drop i →
  R105_4 (k+1) c (i:Int) h0 x0 [⟨.sl (.cons (.int .i64) (.cons (.int .i64) (.cons .str (.cons (.int .i64) .unit)))),h0.take i++sl105 c (x0.drop i)⟩]:=by
 intro k
 induction k with
 | zero =>
  intro i c h0 hi hl hd
  rw [R105_4,if_neg (by simp only [decide_eq_true_eq];show ¬ (i:Int)<(x0.length:Int);omega),drop_end x0 _ (by omega)]
  rw [List.take_of_length_le (by omega)]
  simp [sl105]
 | succ k ih =>
  intro i c h0 hi hl hd
  have hlt:i<x0.length:=by omega
  have e0:=drop_get x0 i ((0:Int),(0:Int),ByteArray.empty,(0:Int),()) hlt
  have e1:=drop_get h0 i ((0:Int),(0:Int),ByteArray.empty,(0:Int),()) (by omega)
  have hp:=hx _ (mem_getD x0 i ((0:Int),(0:Int),ByteArray.empty,(0:Int),()) hlt) c
  have e2:h0.getD i ((0:Int),(0:Int),ByteArray.empty,(0:Int),())=x0.getD i ((0:Int),(0:Int),ByteArray.empty,(0:Int),())∧h0.drop (i+1)=x0.drop (i+1):=by
   rw [e0,e1] at hd
   exact List.cons.inj hd
  rw [R105_4,if_pos (by simp only [decide_eq_true_eq];show (i:Int)<(x0.length:Int);omega),e0]
  simp only [Int.toNat_natCast,e2.1]
  generalize hy:x0.getD i ((0:Int),(0:Int),ByteArray.empty,(0:Int),())=y at hp
  refine ⟨by omega,by omega,hp,by omega,by omega,inR_up hm hlt,?_⟩
  have h:=ih (i+1) (g133_0 c y) (h0.set i (y.1,y.2.1,y.2.2.1,g133_0 c y,y.2.2.2.2)) (by omega) (by rw [List.length_set];exact hl) (by rw [set_drop105];exact e2.2)
  rw [set_take105 _ _ _ (by omega),List.append_assoc] at h
  exact h
theorem top105 (x0:List TyB2) (hm:x0.length≤maxLen) (hx:P105 x0):R105 (x0.length+1+1) x0 [⟨.sl (.cons (.int .i64) (.cons (.int .i64) (.cons .str (.cons (.int .i64) .unit)))),g105_0 x0⟩]:=by
 rw [R105]
 exact ⟨hx.1,by simpa [g105_0,g132_0] using run105 x0 hm hx.2 x0.length 0 65535 x0 (by omega) rfl rfl⟩
def S105:Am.Spec:={ sig:=sig105,pre:=fun ⟨x0,_⟩=>P105 x0,res:=fun ⟨x0,_⟩=>[⟨.sl (.cons (.int .i64) (.cons (.int .i64) (.cons .str (.cons (.int .i64) .unit)))),g105_0 x0⟩] }
theorem con105:Contract Tryz.prog 105 S105:=contract_of Tryz.func105 hb105 (bl_ (by kernel_rfl)) (fun ⟨x0,_⟩ h hwf K q =>
 (snd105 _).1 x0 _ (top105 x0 hwf.1.1 h) K q)
theorem sl105_len:∀ (l:List TyB2) (c:Int),(sl105 c l).length=l.length
 | [],_=>rfl
 | x :: r,c=>by simp [sl105,sl105_len r]
end
noncomputable section
def ext61:Ext:=[(94,S94),(105,S105)]
theorem ext61Ok:ExtOk Tryz.prog ext61:=⟨⟨ca94,con94⟩,⟨ca105,con105⟩,trivial⟩
noncomputable def b61:Code:=bodyOf Tryz.f61
theorem hb61:Tryz.f61.body=some b61:=by kernel_rfl
def sig61:List AT:=[AT.v (.sl YA6)]
def tys61:List Ty:=[.int .i64,.int .i64]
def kds61:List RK:=[]
def oks61:List AT:=owns sig61
def E61_4 (v12:Int) (x0:List TyB2):Env:=[(0,.a (.sl YA6 x0)),(10,.a (.osl 0 Option.none)),(11,.a (.val (.int .i64 (↑(List.length (g105_0 x0)):Int)))),(12,.a (.val (.int .i64 v12)))]
def L61_4 (v12:Int) (x0:List TyB2):Heap:=[Option.some (Arr.mk YA6 (g105_0 x0) false Option.none Option.none)]
mutual
def R61:Nat→List TyB2→List Dyn→Prop
 | 0,_,_=>False
 | n+1,x0,ds=>(if (!g94_0 x0)=true then (ds=[Dyn.mk (.int .i64) 0,Dyn.mk (.int .i64) 1]) else ((P105 x0)∧(R61_4 n (0) (x0) ds)))
def R61_4:Nat→Int→List TyB2→List Dyn→Prop
 | 0,_,_,_=>False
 | n+1,v12,x0,ds=>(if (decide (v12<(↑(List.length (g105_0 x0)):Int)))=true then ((0≤v12)∧(v12<(↑(List.length (g105_0 x0)):Int))∧((0≤v12)∧(v12<(x0.length:Int))∧(if (!eqD YA6 (List.getD x0 (Int.toNat v12) (0,0,ByteArray.empty,0,())) (List.getD (g105_0 x0) (Int.toNat v12) (0,0,ByteArray.empty,0,())))=true then (ds=[Dyn.mk (.int .i64) v12,Dyn.mk (.int .i64) 0]) else ((InR .i64 (v12+1))∧(R61_4 n (v12+1) (x0) ds))))) else (ds=[Dyn.mk (.int .i64) 0,Dyn.mk (.int .i64) 3]))
end
theorem snd61:∀ n,(∀ (x0:List TyB2) ds,R61 n x0 ds→∀ K q,AtV Tryz.prog 61 (PostR kds61 oks61 ds [] [] q K) 25 K q [] [.code b61] (entE 0 0 sig61 (x0,())) (entL sig61 (x0,())))∧(∀ (v12:Int) (x0:List TyB2) ds,R61_4 n v12 x0 ds→∀ K q,AtV Tryz.prog 61 (PostR kds61 oks61 ds [] [] q K) 25 K q [] (cutAt b61 4) (E61_4 v12 x0) (L61_4 v12 x0)):=by
 intro n
 induction n with
 | zero=>exact ⟨fun _ _ h=>by simp only [R61] at h,fun _ _ _ h=>by simp only [R61_4] at h⟩
 | succ n ih =>
 obtain ⟨ih,ih4⟩:=ih
 refine ⟨?_,?_⟩
 ·intro x0 ds h K q
  rw [R61] at h
  by_cases b0:(!g94_0 x0)=true
  ·rw [if_pos b0] at h
   subst h
   exact AtV.ret Tryz.func61 tabOk ext61Ok mixed false [] tys61 [true] (a1 trivial (a1 b0 trivial)) (by kernel_rfl)
  ·rw [if_neg b0] at h
   replace b0:=bf_ b0
   obtain ⟨s0,h⟩:=h
   exact AtV.go tabOk ext61Ok mixed false [] [] [0,10,11,12] [0] [false] (a1 trivial (a1 b0 (a1 s0 trivial))) (ih4 _ _ _ h K q) (by kernel_rfl)
 ·intro v12 x0 ds h K q
  rw [R61_4] at h
  by_cases b0:(decide (v12<(↑(List.length (g105_0 x0)):Int)))=true
  ·rw [if_pos b0] at h
   obtain ⟨s0,s1,h⟩:=h
   obtain ⟨s2,s3,h⟩:=h
   by_cases b1:(!eqD YA6 (List.getD x0 (Int.toNat v12) (0,0,ByteArray.empty,0,())) (List.getD (g105_0 x0) (Int.toNat v12) (0,0,ByteArray.empty,0,())))=true
   ·rw [if_pos b1] at h
    subst h
    exact AtV.ret Tryz.func61 tabOk ext61Ok mixed false [] tys61 [true,true] (a1 b0 (a1 s0 (a1 s1 (a1 s2 (a1 s3 (a1 b1 trivial)))))) (by kernel_rfl)
   ·rw [if_neg b1] at h
    replace b1:=bf_ b1
    obtain ⟨s4,h⟩:=h
    exact AtV.go tabOk ext61Ok mixed false [] [] [0,10,11,12] [0] [true,false] (a1 b0 (a1 s0 (a1 s1 (a1 s2 (a1 s3 (a1 b1 (a1 s4 trivial))))))) (ih4 _ _ _ h K q) (by kernel_rfl)
  ·rw [if_neg b0] at h
   replace b0:=bf_ b0
   subst h
   exact AtV.ret Tryz.func61 tabOk ext61Ok mixed false [] tys61 [false] (a1 b0 trivial) (by kernel_rfl)
def fb61 (i:Int):List TyB2→List TyB2→Option Int
 | x :: r,y :: s=>if (!eqD YA6 x y)=true then some i else fb61 (i+1) r s
 | _,_=>none
def out61:Option Int→List Dyn
 | some k=>[⟨.int .i64,k⟩,⟨.int .i64,(0:Int)⟩]
 | none=>[⟨.int .i64,(0:Int)⟩,⟨.int .i64,(3:Int)⟩]
def g61_0 (x0:List TyB2):Int:=if g94_0 x0=true then (match fb61 0 x0 (g105_0 x0) with | some k=>k | none=>0) else 0
def g61_1 (x0:List TyB2):Int:=if g94_0 x0=true then (match fb61 0 x0 (g105_0 x0) with | some _=>0 | none=>3) else 1
def P61 (x0:List TyB2):Prop:=g94_0 x0=true→P105 x0
theorem run61 (x0:List TyB2) (hm:x0.length≤maxLen):∀ (k i:Nat),i+k=x0.length→R61_4 (k+1) (i:Int) x0 (out61 (fb61 i (x0.drop i) ((g105_0 x0).drop i))):=by
 have hl:(g105_0 x0).length=x0.length:=sl105_len x0 _
 intro k
 induction k with
 | zero =>
  intro i hi
  rw [R61_4,if_neg (by simp only [decide_eq_true_eq];omega),drop_end x0 _ (by omega)]
  rfl
 | succ k ih =>
  intro i hi
  have hlt:i<x0.length:=by omega
  rw [R61_4,if_pos (by simp only [decide_eq_true_eq];omega),drop_get x0 i ((0:Int),(0:Int),ByteArray.empty,(0:Int),()) hlt,drop_get (g105_0 x0) i ((0:Int),(0:Int),ByteArray.empty,(0:Int),()) (by omega)]
  simp only [Int.toNat_natCast]
  have h:=ih (i+1) (by omega)
  refine ⟨by omega,by omega,by omega,by omega,?_⟩
  simp only [fb61]
  by_cases hc:(!eqD YA6 (x0.getD i ((0:Int),(0:Int),ByteArray.empty,(0:Int),())) ((g105_0 x0).getD i ((0:Int),(0:Int),ByteArray.empty,(0:Int),())))=true
  ·rw [if_pos hc,if_pos hc];rfl
  ·rw [if_neg hc,if_neg hc]
   exact ⟨inR_up hm hlt,by simpa using h⟩
theorem top61 (x0:List TyB2) (hm:x0.length≤maxLen) (hx:P61 x0):R61 (x0.length+1+1) x0 [⟨.int .i64,g61_0 x0⟩,⟨.int .i64,g61_1 x0⟩]:=by
 rw [R61]
 unfold g61_0 g61_1
 by_cases hv:g94_0 x0=true
 ·rw [if_neg (by rw [hv];simp),if_pos hv,if_pos hv]
  refine ⟨hx hv,?_⟩
  have h:=run61 x0 hm x0.length 0 (by omega)
  simp only [List.drop_zero] at h
  revert h
  show R61_4 _ _ _ (out61 (fb61 0 x0 (g105_0 x0)))→_
  cases fb61 0 x0 (g105_0 x0) <;> exact fun h=>h
 ·rw [if_pos (by rw [bf_ hv];rfl),if_neg hv,if_neg hv]
def S61:Am.Spec:={ sig:=sig61,pre:=fun ⟨x0,_⟩=>P61 x0,res:=fun ⟨x0,_⟩=>[⟨.int .i64,g61_0 x0⟩,⟨.int .i64,g61_1 x0⟩] }
theorem con61:Contract Tryz.prog 61 S61:=contract_of Tryz.func61 hb61 (bl_ (by kernel_rfl)) (fun ⟨x0,_⟩ h hwf K q =>
 (snd61 _).1 x0 _ (top61 x0 hwf.1.1 h) K q)
end
noncomputable section
def ext23:Ext:=[(61,S61),(55,S55)]
theorem ext23Ok:ExtOk Tryz.prog ext23:=⟨⟨ca61,con61⟩,⟨ca55,con55⟩,trivial⟩
noncomputable def b23:Code:=bodyOf Tryz.f23
theorem hb23:Tryz.f23.body=some b23:=by kernel_rfl
def sig23:List AT:=[AT.v YA0]
def tys23:List Ty:=[.sl YA9]
def kds23:List RK:=[]
def oks23:List AT:=owns sig23
def P23 (x0:TyA0):Prop:=((P61 x0.2.2.2.2.2.2.2.2.2.2.2.1)∧(if (g61_1 x0.2.2.2.2.2.2.2.2.2.2.2.1 != 0)=true then True else ((P55 (g61_0 x0.2.2.2.2.2.2.2.2.2.2.2.1))∧((0≤g61_0 x0.2.2.2.2.2.2.2.2.2.2.2.1)∧(g61_0 x0.2.2.2.2.2.2.2.2.2.2.2.1<(x0.2.2.2.2.2.2.2.2.2.2.2.1.length:Int))∧((P55 (List.getD x0.2.2.2.2.2.2.2.2.2.2.2.1 (Int.toNat (g61_0 x0.2.2.2.2.2.2.2.2.2.2.2.1)) (0,0,ByteArray.empty,0,())).2.2.2.1)∧True)))))
def g23_0 (x0:TyA0):List TyB3:=(if (g61_1 x0.2.2.2.2.2.2.2.2.2.2.2.1 != 0)=true then [] else [(6,g55_0 (g61_0 x0.2.2.2.2.2.2.2.2.2.2.2.1),g55_0 (List.getD x0.2.2.2.2.2.2.2.2.2.2.2.1 (Int.toNat (g61_0 x0.2.2.2.2.2.2.2.2.2.2.2.1)) (0,0,ByteArray.empty,0,())).2.2.2.1,())])
theorem at23 (x0:TyA0) (h:P23 x0) (K:Ctx) (q:Nat→Value):AtV Tryz.prog 23 (PostR kds23 oks23 [⟨.sl YA9,g23_0 x0⟩] [] [] q K) 24 K q [] [.code b23] (entE 0 0 sig23 (x0,())) (entL sig23 (x0,())):=by
 unfold P23 at h
 unfold g23_0
 obtain ⟨s0,h⟩:=h
 by_cases b0:(g61_1 x0.2.2.2.2.2.2.2.2.2.2.2.1 != 0)=true
 ·try simp only [if_pos b0] at h ⊢
  exact AtV.ret Tryz.func23 tabOk ext23Ok mixed false [] tys23 [true] (a1 s0 (a1 b0 trivial)) (by kernel_rfl)
 ·try simp only [if_neg b0] at h ⊢
  replace b0:=bf_ b0
  obtain ⟨s1,h⟩:=h
  obtain ⟨s2,s3,h⟩:=h
  obtain ⟨s4,h⟩:=h
  exact AtV.ret Tryz.func23 tabOk ext23Ok mixed false [] tys23 [false] (a1 s0 (a1 b0 (a1 s1 (a1 s2 (a1 s3 (a1 s4 trivial)))))) (by kernel_rfl)
def S23:Am.Spec:={ sig:=sig23,pre:=fun ⟨x0,_⟩=>P23 x0,res:=fun ⟨x0,_⟩=>[⟨.sl YA9,g23_0 x0⟩],kds:=kds23 }
theorem con23:Contract Tryz.prog 23 S23:=contract_of Tryz.func23 hb23 (bl_ (by kernel_rfl)) (fun ⟨x0,_⟩ h _ K q=>at23 x0 h K q)
end
noncomputable section
def ext20c21c22c23:Ext:=[(52,S52),(21,S21),(22,S22),(23,S23)]
theorem ext20c21c22c23Ok:ExtOk Tryz.prog ext20c21c22c23:=⟨⟨ca52,con52⟩,⟨ca21,con21⟩,⟨ca22,con22⟩,⟨ca23,con23⟩,trivial⟩
noncomputable def b20c21c22c23:Code:=bodyOf Tryz.f20
theorem hb20c21c22c23:Tryz.f20.body=some b20c21c22c23:=by kernel_rfl
def sig20c21c22c23:List AT:=[AT.v YA0,AT.fns [21,22,23]]
def tys20c21c22c23:List Ty:=[.sl YA9,.int .i64]
def kds20c21c22c23:List RK:=[]
def oks20c21c22c23:List AT:=owns sig20c21c22c23
def P20c21c22c23 (x0:TyA0):Prop:=(if (!g52_0 x0)=true then True else ((P21 x0)∧((List.length (g21_0 x0)*40≤140737488355328)∧((P22 x0)∧(((List.length (g21_0 x0)+List.length (g22_0 x0))*40≤140737488355328)∧((P23 x0)∧(((List.length (g21_0 x0++g22_0 x0)+List.length (g23_0 x0))*40≤140737488355328)∧True)))))))
def g20c21c22c23_0 (x0:TyA0):List TyB3:=(if (!g52_0 x0)=true then [] else g21_0 x0++g22_0 x0++g23_0 x0)
def g20c21c22c23_1 (x0:TyA0):Int:=(if (!g52_0 x0)=true then 1 else 0)
theorem at20c21c22c23 (x0:TyA0) (h:P20c21c22c23 x0) (K:Ctx) (q:Nat→Value):AtV Tryz.prog 20 (PostR kds20c21c22c23 oks20c21c22c23 [⟨.sl YA9,g20c21c22c23_0 x0⟩,⟨.int .i64,g20c21c22c23_1 x0⟩] [] [] q K) 25 K q [] [.code b20c21c22c23] (entE 0 0 sig20c21c22c23 (x0,(),())) (entL sig20c21c22c23 (x0,(),())):=by
 unfold P20c21c22c23 at h
 unfold g20c21c22c23_0 g20c21c22c23_1
 by_cases b0:(!g52_0 x0)=true
 ·try simp only [if_pos b0] at h ⊢
  exact AtV.ret Tryz.func20 tabOk ext20c21c22c23Ok mixed false [1000007] tys20c21c22c23 [true] (a1 trivial (a1 b0 trivial)) (by kernel_rfl)
 ·try simp only [if_neg b0] at h ⊢
  replace b0:=bf_ b0
  obtain ⟨s0,h⟩:=h
  obtain ⟨s1,h⟩:=h
  obtain ⟨s2,h⟩:=h
  obtain ⟨s3,h⟩:=h
  obtain ⟨s4,h⟩:=h
  obtain ⟨s5,h⟩:=h
  exact AtV.ret Tryz.func20 tabOk ext20c21c22c23Ok mixed false [1000007] tys20c21c22c23 [false,true,true,true,false] (a1 trivial (a1 b0 (a1 (rfl:true=true) (a1 ((by decide):(0:Int)≤(0:Int)) (a1 ((by decide):(0:Int)<(3:Int)) (a1 s0 (a1 s1 (a1 ((by decide):InR .i64 1) (a1 (rfl:true=true) (a1 ((by decide):(0:Int)≤(1:Int)) (a1 ((by decide):(1:Int)<(3:Int)) (a1 s2 (a1 s3 (a1 ((by decide):InR .i64 2) (a1 (rfl:true=true) (a1 ((by decide):(0:Int)≤(2:Int)) (a1 ((by decide):(2:Int)<(3:Int)) (a1 s4 (a1 s5 (a1 ((by decide):InR .i64 3) (a1 (rfl:false=false) trivial))))))))))))))))))))) (by kernel_rfl)
def S20c21c22c23:Am.Spec:={ sig:=sig20c21c22c23,pre:=fun ⟨x0,_⟩=>P20c21c22c23 x0,res:=fun ⟨x0,_⟩=>[⟨.sl YA9,g20c21c22c23_0 x0⟩,⟨.int .i64,g20c21c22c23_1 x0⟩],kds:=kds20c21c22c23 }
theorem con20c21c22c23:Contract Tryz.prog 20 S20c21c22c23:=contract_of Tryz.func20 hb20c21c22c23 (bl_ (by kernel_rfl)) (fun ⟨x0,_⟩ h _ K q=>at20c21c22c23 x0 h K q)
end
noncomputable section
def ext7:Ext:=[(20,S20c21c22c23)]
theorem ext7Ok:ExtOk Tryz.prog ext7:=⟨⟨ca20,con20c21c22c23⟩,trivial⟩
noncomputable def b7:Code:=bodyOf Tryz.f7
theorem hb7:Tryz.f7.body=some b7:=by kernel_rfl
def sig7:List AT:=[AT.v YA0]
def tys7:List Ty:=[.sl YA9,.int .i64]
def kds7:List RK:=[]
def oks7:List AT:=owns sig7
def P7 (x0:TyA0):Prop:=((P20c21c22c23 x0)∧True)
def g7_0 (x0:TyA0):List TyB3:=g20c21c22c23_0 x0
def g7_1 (x0:TyA0):Int:=g20c21c22c23_1 x0
theorem at7 (x0:TyA0) (h:P7 x0) (K:Ctx) (q:Nat→Value):AtV Tryz.prog 7 (PostR kds7 oks7 [⟨.sl YA9,g7_0 x0⟩,⟨.int .i64,g7_1 x0⟩] [] [] q K) 9 K q [] [.code b7] (entE 0 0 sig7 (x0,())) (entL sig7 (x0,())):=by
 unfold P7 at h
 unfold g7_0 g7_1
 obtain ⟨s0,h⟩:=h
 exact AtV.ret Tryz.func7 tabOk ext7Ok mixed false [] tys7 [] (a1 s0 trivial) (by kernel_rfl)
def S7:Am.Spec:={ sig:=sig7,pre:=fun ⟨x0,_⟩=>P7 x0,res:=fun ⟨x0,_⟩=>[⟨.sl YA9,g7_0 x0⟩,⟨.int .i64,g7_1 x0⟩],kds:=kds7 }
theorem con7:Contract Tryz.prog 7 S7:=contract_of Tryz.func7 hb7 (bl_ (by kernel_rfl)) (fun ⟨x0,_⟩ h _ K q=>at7 x0 h K q)
end
noncomputable section
def ext6:Ext:=[(7,S7)]
theorem ext6Ok:ExtOk Tryz.prog ext6:=⟨⟨ca7,con7⟩,trivial⟩
noncomputable def b6:Code:=bodyOf Tryz.f6
theorem hb6:Tryz.f6.body=some b6:=by kernel_rfl
def sig6:List AT:=[AT.v YA0]
def tys6:List Ty:=[.bool]
def kds6:List RK:=[]
def oks6:List AT:=owns sig6
def P6 (x0:TyA0):Prop:=((P7 x0)∧True)
def g6_0 (x0:TyA0):Bool:=(if (g7_1 x0==0)=true then (↑(List.length (g7_0 x0)):Int)==0 else false)
theorem at6 (x0:TyA0) (h:P6 x0) (K:Ctx) (q:Nat→Value):AtV Tryz.prog 6 (PostR kds6 oks6 [⟨.bool,g6_0 x0⟩] [] [] q K) 17 K q [] [.code b6] (entE 0 0 sig6 (x0,())) (entL sig6 (x0,())):=by
 unfold P6 at h
 unfold g6_0
 obtain ⟨s0,h⟩:=h
 by_cases b0:(g7_1 x0==0)=true
 ·try simp only [if_pos b0] at h ⊢
  exact AtV.ret Tryz.func6 tabOk ext6Ok mixed false [] tys6 [true] (a1 s0 (a1 b0 trivial)) (by kernel_rfl)
 ·try simp only [if_neg b0] at h ⊢
  replace b0:=bf_ b0
  exact AtV.ret Tryz.func6 tabOk ext6Ok mixed false [] tys6 [false] (a1 s0 (a1 b0 trivial)) (by kernel_rfl)
def S6:Am.Spec:={ sig:=sig6,pre:=fun ⟨x0,_⟩=>P6 x0,res:=fun ⟨x0,_⟩=>[⟨.bool,g6_0 x0⟩],kds:=kds6 }
theorem con6:Contract Tryz.prog 6 S6:=contract_of Tryz.func6 hb6 (bl_ (by kernel_rfl)) (fun ⟨x0,_⟩ h _ K q=>at6 x0 h K q)
end
noncomputable section
def ext8:Ext:=[(24,S24),(25,S25)]
theorem ext8Ok:ExtOk Tryz.prog ext8:=⟨⟨ca24,con24⟩,⟨ca25,con25⟩,trivial⟩
noncomputable def b8:Code:=bodyOf Tryz.f8
theorem hb8:Tryz.f8.body=some b8:=by kernel_rfl
def sig8:List AT:=[AT.v YA2]
def tys8:List Ty:=[.int .i64,.int .i64]
def kds8:List RK:=[]
def oks8:List AT:=owns sig8
def P8 (x0:List TyB4×Int×Int×Unit):Prop:=(if (!g24_0 x0)=true then True else ((P25 x0)∧True))
def g8_0 (x0:List TyB4×Int×Int×Unit):Int:=(if (!g24_0 x0)=true then 0 else g25_0 x0)
def g8_1 (x0:List TyB4×Int×Int×Unit):Int:=(if (!g24_0 x0)=true then 1 else 0)
theorem at8 (x0:List TyB4×Int×Int×Unit) (h:P8 x0) (K:Ctx) (q:Nat→Value):AtV Tryz.prog 8 (PostR kds8 oks8 [⟨.int .i64,g8_0 x0⟩,⟨.int .i64,g8_1 x0⟩] [] [] q K) 7 K q [] [.code b8] (entE 0 0 sig8 (x0,())) (entL sig8 (x0,())):=by
 unfold P8 at h
 unfold g8_0 g8_1
 by_cases b0:(!g24_0 x0)=true
 ·try simp only [if_pos b0] at h ⊢
  exact AtV.ret Tryz.func8 tabOk ext8Ok mixed false [] tys8 [true] (a1 trivial (a1 b0 trivial)) (by kernel_rfl)
 ·try simp only [if_neg b0] at h ⊢
  replace b0:=bf_ b0
  obtain ⟨s0,h⟩:=h
  exact AtV.ret Tryz.func8 tabOk ext8Ok mixed false [] tys8 [false] (a1 trivial (a1 b0 (a1 s0 trivial))) (by kernel_rfl)
def S8:Am.Spec:={ sig:=sig8,pre:=fun ⟨x0,_⟩=>P8 x0,res:=fun ⟨x0,_⟩=>[⟨.int .i64,g8_0 x0⟩,⟨.int .i64,g8_1 x0⟩],kds:=kds8 }
theorem con8:Contract Tryz.prog 8 S8:=contract_of Tryz.func8 hb8 (bl_ (by kernel_rfl)) (fun ⟨x0,_⟩ h _ K q=>at8 x0 h K q)
end
noncomputable section
def ext107:Ext:=[]
theorem ext107Ok:ExtOk Tryz.prog ext107:=trivial
noncomputable def b107:Code:=bodyOf Tryz.f107
theorem hb107:Tryz.f107.body=some b107:=by kernel_rfl
def sig107:List AT:=[AT.p YA3,AT.v (.int .i64),AT.v (.int .i64)]
def tys107:List Ty:=[.int .i64,.int .i64]
def kds107:List RK:=[]
def oks107:List AT:=owns sig107
def P107 (x0:ByteArray×Int×Int×Int×Int×Unit) (x1:Int) (x2:Int):Prop:=((InR .i64 (x0.2.2.2.1+x0.2.1))∧((InR .i64 (x0.2.2.2.1+x0.2.1 - x1))∧((InR .i64 (x0.2.2.2.2.1+x0.2.2.1))∧((InR .i64 (x0.2.2.2.2.1+x0.2.2.1 - x2))∧True))))
def g107_0 (x0:ByteArray×Int×Int×Int×Int×Unit) (x1:Int) (x2:Int):Int:=x0.2.2.2.1+x0.2.1 - x1
def g107_1 (x0:ByteArray×Int×Int×Int×Int×Unit) (x1:Int) (x2:Int):Int:=x0.2.2.2.2.1+x0.2.2.1 - x2
theorem at107 (x0:ByteArray×Int×Int×Int×Int×Unit) (x1:Int) (x2:Int) (h:P107 x0 x1 x2) (K:Ctx) (q:Nat→Value):AtV Tryz.prog 107 (PostR kds107 oks107 [⟨.int .i64,g107_0 x0 x1 x2⟩,⟨.int .i64,g107_1 x0 x1 x2⟩] [] [] q K) 30 K q [] [.code b107] (entE 0 0 sig107 (x0,x1,x2,())) (entL sig107 (x0,x1,x2,())):=by
 unfold P107 at h
 unfold g107_0 g107_1
 obtain ⟨s0,h⟩:=h
 obtain ⟨s1,h⟩:=h
 obtain ⟨s2,h⟩:=h
 obtain ⟨s3,h⟩:=h
 exact AtV.ret Tryz.func107 tabOk ext107Ok mixed false [] tys107 [] (a1 s0 (a1 s1 (a1 s2 (a1 s3 trivial)))) (by kernel_rfl)
def S107:Am.Spec:={ sig:=sig107,pre:=fun ⟨x0,x1,x2,_⟩=>P107 x0 x1 x2,res:=fun ⟨x0,x1,x2,_⟩=>[⟨.int .i64,g107_0 x0 x1 x2⟩,⟨.int .i64,g107_1 x0 x1 x2⟩],kds:=kds107 }
theorem con107:Contract Tryz.prog 107 S107:=contract_of Tryz.func107 hb107 (bl_ (by kernel_rfl)) (fun ⟨x0,x1,x2,_⟩ h _ K q=>at107 x0 x1 x2 h K q)
end
noncomputable section
def ext66:Ext:=[(107,S107)]
theorem ext66Ok:ExtOk Tryz.prog ext66:=⟨⟨ca107,con107⟩,trivial⟩
noncomputable def b66:Code:=bodyOf Tryz.f66
theorem hb66:Tryz.f66.body=some b66:=by kernel_rfl
def sig66:List AT:=[AT.p YA3,AT.v (.int .i64),AT.v (.int .i64)]
def tys66:List Ty:=[.bool]
def kds66:List RK:=[]
def oks66:List AT:=owns sig66
def P66 (x0:ByteArray×Int×Int×Int×Int×Unit) (x1:Int) (x2:Int):Prop:=((P107 x0 x1 x2)∧True)
def g66_0 (x0:ByteArray×Int×Int×Int×Int×Unit) (x1:Int) (x2:Int):Bool:=(if (decide (g107_0 x0 x1 x2<0))=true then true else decide (g107_1 x0 x1 x2<0))
theorem at66 (x0:ByteArray×Int×Int×Int×Int×Unit) (x1:Int) (x2:Int) (h:P66 x0 x1 x2) (K:Ctx) (q:Nat→Value):AtV Tryz.prog 66 (PostR kds66 oks66 [⟨.bool,g66_0 x0 x1 x2⟩] [] [] q K) 22 K q [] [.code b66] (entE 0 0 sig66 (x0,x1,x2,())) (entL sig66 (x0,x1,x2,())):=by
 unfold P66 at h
 unfold g66_0
 obtain ⟨s0,h⟩:=h
 by_cases b0:(decide (g107_0 x0 x1 x2<0))=true
 ·try simp only [if_pos b0] at h ⊢
  exact AtV.ret Tryz.func66 tabOk ext66Ok mixed false [] tys66 [true] (a1 s0 (a1 b0 trivial)) (by kernel_rfl)
 ·try simp only [if_neg b0] at h ⊢
  replace b0:=bf_ b0
  exact AtV.ret Tryz.func66 tabOk ext66Ok mixed false [] tys66 [false] (a1 s0 (a1 b0 trivial)) (by kernel_rfl)
def S66:Am.Spec:={ sig:=sig66,pre:=fun ⟨x0,x1,x2,_⟩=>P66 x0 x1 x2,res:=fun ⟨x0,x1,x2,_⟩=>[⟨.bool,g66_0 x0 x1 x2⟩],kds:=kds66 }
theorem con66:Contract Tryz.prog 66 S66:=contract_of Tryz.func66 hb66 (bl_ (by kernel_rfl)) (fun ⟨x0,x1,x2,_⟩ h _ K q=>at66 x0 x1 x2 h K q)
end
noncomputable section
def ext27:Ext:=[(66,S66)]
theorem ext27Ok:ExtOk Tryz.prog ext27:=⟨⟨ca66,con66⟩,trivial⟩
noncomputable def b27:Code:=bodyOf Tryz.f27
theorem hb27:Tryz.f27.body=some b27:=by kernel_rfl
def sig27:List AT:=[AT.v (.sl YA3),AT.v (.int .i64),AT.v (.int .i64)]
def tys27:List Ty:=[.sl .str]
def kds27:List RK:=[]
def oks27:List AT:=owns sig27
def E27_3 (v8:Int) (h0:List ByteArray) (x0:List TyB0) (x1:Int) (x2:Int):Env:=[(0,.a (.sl YA3 x0)),(1,.a (.val (.int .i64 x1))),(2,.a (.val (.int .i64 x2))),(7,.a (.osl 0 Option.none)),(8,.a (.val (.int .i64 v8)))]
def L27_3 (v8:Int) (h0:List ByteArray) (x0:List TyB0) (x1:Int) (x2:Int):Heap:=[Option.some (Arr.mk .str h0 false Option.none Option.none)]
mutual
def R27:Nat→List TyB0→Int→Int→List Dyn→Prop
 | 0,_,_,_,_=>False
 | n+1,x0,x1,x2,ds=>(R27_3 n (0) ([]) (x0) (x1) (x2) ds)
def R27_3:Nat→Int→List ByteArray→List TyB0→Int→Int→List Dyn→Prop
 | 0,_,_,_,_,_,_=>False
 | n+1,v8,h0,x0,x1,x2,ds=>(if (decide (v8<(x0.length:Int)))=true then ((0≤v8)∧(v8<(x0.length:Int))∧((P66 (List.getD x0 (Int.toNat v8) (ByteArray.empty,0,0,0,0,())) x1 x2)∧(if (g66_0 (List.getD x0 (Int.toNat v8) (ByteArray.empty,0,0,0,0,())) x1 x2)=true then ((0≤v8)∧(v8<(x0.length:Int))∧(((List.length h0+1)*16≤140737488355328)∧((InR .i64 (v8+1))∧(R27_3 n (v8+1) (h0++[(List.getD x0 (Int.toNat v8) (ByteArray.empty,0,0,0,0,())).1]) (x0) (x1) (x2) ds)))) else ((InR .i64 (v8+1))∧(R27_3 n (v8+1) (h0) (x0) (x1) (x2) ds))))) else (ds=[Dyn.mk (.sl .str) h0]))
end
theorem snd27:∀ n,(∀ (x0:List TyB0) (x1:Int) (x2:Int) ds,R27 n x0 x1 x2 ds→∀ K q,AtV Tryz.prog 27 (PostR kds27 oks27 ds [] [] q K) 31 K q [] [.code b27] (entE 0 0 sig27 (x0,x1,x2,())) (entL sig27 (x0,x1,x2,())))∧(∀ (v8:Int) (h0:List ByteArray) (x0:List TyB0) (x1:Int) (x2:Int) ds,R27_3 n v8 h0 x0 x1 x2 ds→∀ K q,AtV Tryz.prog 27 (PostR kds27 oks27 ds [] [] q K) 31 K q [] (cutAt b27 3) (E27_3 v8 h0 x0 x1 x2) (L27_3 v8 h0 x0 x1 x2)):=by
 intro n
 induction n with
 | zero=>exact ⟨fun _ _ _ _ h=>by simp only [R27] at h,fun _ _ _ _ _ _ h=>by simp only [R27_3] at h⟩
 | succ n ih =>
 obtain ⟨ih,ih3⟩:=ih
 refine ⟨?_,?_⟩
 ·intro x0 x1 x2 ds h K q
  rw [R27] at h
  exact AtV.go tabOk ext27Ok mixed false [] [] [0,1,2,7,8] [0] [] trivial (ih3 _ _ _ _ _ _ h K q) (by kernel_rfl)
 ·intro v8 h0 x0 x1 x2 ds h K q
  rw [R27_3] at h
  by_cases b0:(decide (v8<(x0.length:Int)))=true
  ·rw [if_pos b0] at h
   obtain ⟨s0,s1,h⟩:=h
   obtain ⟨s2,h⟩:=h
   by_cases b1:(g66_0 (List.getD x0 (Int.toNat v8) (ByteArray.empty,0,0,0,0,())) x1 x2)=true
   ·rw [if_pos b1] at h
    obtain ⟨s3,s4,h⟩:=h
    obtain ⟨s5,h⟩:=h
    obtain ⟨s6,h⟩:=h
    exact AtV.go tabOk ext27Ok mixed false [] [] [0,1,2,7,8] [0] [true,true] (a1 b0 (a1 s0 (a1 s1 (a1 s2 (a1 b1 (a1 s3 (a1 s4 (a1 s5 (a1 s6 trivial))))))))) (ih3 _ _ _ _ _ _ h K q) (by kernel_rfl)
   ·rw [if_neg b1] at h
    replace b1:=bf_ b1
    obtain ⟨s3,h⟩:=h
    exact AtV.go tabOk ext27Ok mixed false [] [] [0,1,2,7,8] [0] [true,false] (a1 b0 (a1 s0 (a1 s1 (a1 s2 (a1 b1 (a1 s3 trivial)))))) (ih3 _ _ _ _ _ _ h K q) (by kernel_rfl)
  ·rw [if_neg b0] at h
   replace b0:=bf_ b0
   subst h
   exact AtV.ret Tryz.func27 tabOk ext27Ok mixed false [] tys27 [false] (a1 b0 trivial) (by kernel_rfl)
def g27_0 (x0:List TyB0) (x1 x2:Int):List ByteArray:=(x0.filter fun x=>g66_0 x x1 x2).map fun x=>x.1
def P27 (x0:List TyB0) (x1 x2:Int):Prop:=x0.length≤1048576∧∀ x∈x0,P66 x x1 x2
theorem run27 (x0:List TyB0) (x1 x2:Int) (h:P27 x0 x1 x2):∀ (k i:Nat) (h0:List ByteArray),i+k=x0.length→h0.length≤i→R27_3 (k+1) (i:Int) h0 x0 x1 x2 [⟨.sl .str,h0++g27_0 (x0.drop i) x1 x2⟩]:=by
 obtain ⟨hl,hp⟩:=h
 intro k
 induction k with
 | zero =>
  intro i h0 hi hh
  rw [R27_3,if_neg (by simp only [decide_eq_true_eq];omega),drop_end _ _ (by omega)]
  simp [g27_0]
 | succ k ih =>
  intro i h0 hi hh
  have hlt:i<x0.length:=by omega
  have hm:x0.length≤maxLen:=Nat.le_trans hl (by decide)
  rw [R27_3,if_pos (by simp only [decide_eq_true_eq];omega),drop_get x0 i (ByteArray.empty,(0:Int),(0:Int),(0:Int),(0:Int),()) hlt]
  simp only [Int.toNat_natCast]
  refine ⟨by omega,by omega,hp _ (mem_getD x0 i (ByteArray.empty,(0:Int),(0:Int),(0:Int),(0:Int),()) hlt),?_⟩
  have ih1:=ih (i+1)
  by_cases hc:g66_0 (x0.getD i (ByteArray.empty,(0:Int),(0:Int),(0:Int),(0:Int),())) x1 x2=true
  ·have h2:=ih1 (h0++[(x0.getD i (ByteArray.empty,(0:Int),(0:Int),(0:Int),(0:Int),())).1]) (by omega) (by simp;omega)
   have e:∀ r,g27_0 (x0.getD i (ByteArray.empty,(0:Int),(0:Int),(0:Int),(0:Int),()) :: r) x1 x2=(x0.getD i (ByteArray.empty,(0:Int),(0:Int),(0:Int),(0:Int),())).1 :: g27_0 r x1 x2:=fun r=>by
    unfold g27_0;rw [List.filter_cons,if_pos hc];rfl
   rw [if_pos hc,e]
   rw [List.append_assoc] at h2
   exact ⟨by omega,by omega,by omega,inR_up hm hlt,h2⟩
  ·have h2:=ih1 h0 (by omega) (by omega)
   have e:∀ r,g27_0 (x0.getD i (ByteArray.empty,(0:Int),(0:Int),(0:Int),(0:Int),()) :: r) x1 x2=g27_0 r x1 x2:=fun r=>by
    unfold g27_0;rw [List.filter_cons,if_neg hc]
   rw [if_neg hc,e]
   exact ⟨inR_up hm hlt,h2⟩
theorem top27 (x0:List TyB0) (x1 x2:Int) (h:P27 x0 x1 x2):R27 (x0.length+1+1) x0 x1 x2 [⟨.sl .str,g27_0 x0 x1 x2⟩]:=by
 rw [R27]
 simpa using run27 x0 x1 x2 h x0.length 0 [] (by omega) (by simp)
def S27:Am.Spec:={ sig:=sig27,pre:=fun ⟨x0,x1,x2,_⟩=>P27 x0 x1 x2,res:=fun ⟨x0,x1,x2,_⟩=>[⟨.sl .str,g27_0 x0 x1 x2⟩] }
theorem con27:Contract Tryz.prog 27 S27:=contract_of Tryz.func27 hb27 (bl_ (by kernel_rfl)) (fun ⟨x0,x1,x2,_⟩ h hwf K q =>
 (snd27 _).1 x0 x1 x2 _ (top27 x0 x1 x2 h) K q)
end
noncomputable section
def ext9:Ext:=[(26,S26),(27,S27)]
theorem ext9Ok:ExtOk Tryz.prog ext9:=⟨⟨ca26,con26⟩,⟨ca27,con27⟩,trivial⟩
noncomputable def b9:Code:=bodyOf Tryz.f9
theorem hb9:Tryz.f9.body=some b9:=by kernel_rfl
def sig9:List AT:=[AT.v (.sl YA3),AT.v (.int .i64),AT.v (.int .i64)]
def tys9:List Ty:=[.bool]
def kds9:List RK:=[]
def oks9:List AT:=owns sig9
def P9 (x0:List TyB0) (x1:Int) (x2:Int):Prop:=(if (g26_0 x0 x1 x2==0)=true then ((P27 x0 x1 x2)∧True) else True)
def g9_0 (x0:List TyB0) (x1:Int) (x2:Int):Bool:=(if (g26_0 x0 x1 x2==0)=true then (↑(List.length (g27_0 x0 x1 x2)):Int)==0 else false)
theorem at9 (x0:List TyB0) (x1:Int) (x2:Int) (h:P9 x0 x1 x2) (K:Ctx) (q:Nat→Value):AtV Tryz.prog 9 (PostR kds9 oks9 [⟨.bool,g9_0 x0 x1 x2⟩] [] [] q K) 20 K q [] [.code b9] (entE 0 0 sig9 (x0,x1,x2,())) (entL sig9 (x0,x1,x2,())):=by
 unfold P9 at h
 unfold g9_0
 by_cases b0:(g26_0 x0 x1 x2==0)=true
 ·try simp only [if_pos b0] at h ⊢
  obtain ⟨s0,h⟩:=h
  exact AtV.ret Tryz.func9 tabOk ext9Ok mixed false [] tys9 [true] (a1 trivial (a1 b0 (a1 s0 trivial))) (by kernel_rfl)
 ·try simp only [if_neg b0] at h ⊢
  replace b0:=bf_ b0
  exact AtV.ret Tryz.func9 tabOk ext9Ok mixed false [] tys9 [false] (a1 trivial (a1 b0 trivial)) (by kernel_rfl)
def S9:Am.Spec:={ sig:=sig9,pre:=fun ⟨x0,x1,x2,_⟩=>P9 x0 x1 x2,res:=fun ⟨x0,x1,x2,_⟩=>[⟨.bool,g9_0 x0 x1 x2⟩],kds:=kds9 }
theorem con9:Contract Tryz.prog 9 S9:=contract_of Tryz.func9 hb9 (bl_ (by kernel_rfl)) (fun ⟨x0,x1,x2,_⟩ h _ K q=>at9 x0 x1 x2 h K q)
end
noncomputable section
def ext67:Ext:=[(108,S108)]
theorem ext67Ok:ExtOk Tryz.prog ext67:=⟨⟨ca108,con108⟩,trivial⟩
noncomputable def b67:Code:=bodyOf Tryz.f67
theorem hb67:Tryz.f67.body=some b67:=by kernel_rfl
def sig67:List AT:=[AT.v (.sl YA6)]
def tys67:List Ty:=[.int .i64]
def kds67:List RK:=[]
def oks67:List AT:=owns sig67
def E67_3 (v3:Int) (v4:Int) (x0:List TyB2):Env:=[(0,.a (.sl YA6 x0)),(3,.a (.val (.int .i64 v3))),(4,.a (.val (.int .i64 v4)))]
def L67_3 (v3:Int) (v4:Int) (x0:List TyB2):Heap:=[]
mutual
def R67:Nat→List TyB2→List Dyn→Prop
 | 0,_,_=>False
 | n+1,x0,ds=>(R67_3 n (65535) (0) (x0) ds)
def R67_3:Nat→Int→Int→List TyB2→List Dyn→Prop
 | 0,_,_,_,_=>False
 | n+1,v3,v4,x0,ds=>(if (decide (v4<(x0.length:Int)))=true then ((0≤v4)∧(v4<(x0.length:Int))∧((P108 v3 (List.getD x0 (Int.toNat v4) (0,0,ByteArray.empty,0,())).1 (List.getD x0 (Int.toNat v4) (0,0,ByteArray.empty,0,())).2.1 (List.getD x0 (Int.toNat v4) (0,0,ByteArray.empty,0,())).2.2.1)∧(if (g108_0 v3 (List.getD x0 (Int.toNat v4) (0,0,ByteArray.empty,0,())).1 (List.getD x0 (Int.toNat v4) (0,0,ByteArray.empty,0,())).2.1 (List.getD x0 (Int.toNat v4) (0,0,ByteArray.empty,0,())).2.2.1 != (List.getD x0 (Int.toNat v4) (0,0,ByteArray.empty,0,())).2.2.2.1)=true then (ds=[Dyn.mk (.int .i64) v4]) else ((InR .i64 (v4+1))∧(R67_3 n (g108_0 v3 (List.getD x0 (Int.toNat v4) (0,0,ByteArray.empty,0,())).1 (List.getD x0 (Int.toNat v4) (0,0,ByteArray.empty,0,())).2.1 (List.getD x0 (Int.toNat v4) (0,0,ByteArray.empty,0,())).2.2.1) (v4+1) (x0) ds))))) else (ds=[Dyn.mk (.int .i64) (-1)]))
end
theorem snd67:∀ n,(∀ (x0:List TyB2) ds,R67 n x0 ds→∀ K q,AtV Tryz.prog 67 (PostR kds67 oks67 ds [] [] q K) 29 K q [] [.code b67] (entE 0 0 sig67 (x0,())) (entL sig67 (x0,())))∧(∀ (v3:Int) (v4:Int) (x0:List TyB2) ds,R67_3 n v3 v4 x0 ds→∀ K q,AtV Tryz.prog 67 (PostR kds67 oks67 ds [] [] q K) 29 K q [] (cutAt b67 3) (E67_3 v3 v4 x0) (L67_3 v3 v4 x0)):=by
 intro n
 induction n with
 | zero=>exact ⟨fun _ _ h=>by simp only [R67] at h,fun _ _ _ _ h=>by simp only [R67_3] at h⟩
 | succ n ih =>
 obtain ⟨ih,ih3⟩:=ih
 refine ⟨?_,?_⟩
 ·intro x0 ds h K q
  rw [R67] at h
  exact AtV.go tabOk ext67Ok mixed false [] [] [0,3,4] [] [] trivial (ih3 _ _ _ _ h K q) (by kernel_rfl)
 ·intro v3 v4 x0 ds h K q
  rw [R67_3] at h
  by_cases b0:(decide (v4<(x0.length:Int)))=true
  ·rw [if_pos b0] at h
   obtain ⟨s0,s1,h⟩:=h
   obtain ⟨s2,h⟩:=h
   by_cases b1:(g108_0 v3 (List.getD x0 (Int.toNat v4) (0,0,ByteArray.empty,0,())).1 (List.getD x0 (Int.toNat v4) (0,0,ByteArray.empty,0,())).2.1 (List.getD x0 (Int.toNat v4) (0,0,ByteArray.empty,0,())).2.2.1 != (List.getD x0 (Int.toNat v4) (0,0,ByteArray.empty,0,())).2.2.2.1)=true
   ·rw [if_pos b1] at h
    subst h
    exact AtV.ret Tryz.func67 tabOk ext67Ok mixed false [] tys67 [true,true] (a1 b0 (a1 s0 (a1 s1 (a1 s2 (a1 b1 trivial))))) (by kernel_rfl)
   ·rw [if_neg b1] at h
    replace b1:=bf_ b1
    obtain ⟨s3,h⟩:=h
    exact AtV.go tabOk ext67Ok mixed false [] [] [0,3,4] [] [true,false] (a1 b0 (a1 s0 (a1 s1 (a1 s2 (a1 b1 (a1 s3 trivial)))))) (ih3 _ _ _ _ h K q) (by kernel_rfl)
  ·rw [if_neg b0] at h
   replace b0:=bf_ b0
   subst h
   exact AtV.ret Tryz.func67 tabOk ext67Ok mixed false [] tys67 [false] (a1 b0 trivial) (by kernel_rfl)
def br67 (c i:Int):List TyB2→Int
 | [] => -1
 | x :: r=>if (g108_0 c x.1 x.2.1 x.2.2.1 != x.2.2.2.1)=true then i else br67 (g108_0 c x.1 x.2.1 x.2.2.1) (i+1) r
def g67_0 (x0:List TyB2):Int:=br67 65535 0 x0
def P67 (x0:List TyB2):Prop:=∀ x∈x0,∀ c,P108 c x.1 x.2.1 x.2.2.1
theorem run67 (x0:List TyB2) (hm:x0.length≤maxLen) (hx:P67 x0):∀ (k i:Nat) (c:Int),i+k=x0.length→R67_3 (k+1) c (i:Int) x0 [⟨.int .i64,br67 c i (x0.drop i)⟩]:=by
 intro k
 induction k with
 | zero =>
  intro i c hi
  rw [R67_3,if_neg (by simp only [decide_eq_true_eq];omega),drop_end _ _ (by omega)]
  rfl
 | succ k ih =>
  intro i c hi
  have hlt:i<x0.length:=by omega
  have hp:=hx _ (mem_getD x0 i ((0:Int),(0:Int),ByteArray.empty,(0:Int),()) hlt) c
  have hd:=drop_get x0 i ((0:Int),(0:Int),ByteArray.empty,(0:Int),()) hlt
  rw [R67_3,if_pos (by simp only [decide_eq_true_eq];omega),hd]
  simp only [Int.toNat_natCast]
  refine ⟨by omega,by omega,hp,?_⟩
  generalize x0.getD i ((0:Int),(0:Int),ByteArray.empty,(0:Int),())=y
  simp only [br67]
  by_cases hc:(g108_0 c y.1 y.2.1 y.2.2.1 != y.2.2.2.1)=true
  ·rw [if_pos hc,if_pos hc]
  ·rw [if_neg hc,if_neg hc]
   exact ⟨inR_up hm hlt,by simpa using ih (i+1) _ (by omega)⟩
theorem top67 (x0:List TyB2) (hm:x0.length≤maxLen) (hx:P67 x0):R67 (x0.length+1+1) x0 [⟨.int .i64,g67_0 x0⟩]:=by
 rw [R67]
 simpa [g67_0] using run67 x0 hm hx x0.length 0 65535 (by omega)
def S67:Am.Spec:={ sig:=sig67,pre:=fun ⟨x0,_⟩=>P67 x0,res:=fun ⟨x0,_⟩=>[⟨.int .i64,g67_0 x0⟩] }
theorem con67:Contract Tryz.prog 67 S67:=contract_of Tryz.func67 hb67 (bl_ (by kernel_rfl)) (fun ⟨x0,_⟩ h hwf K q =>
 (snd67 _).1 x0 _ (top67 x0 hwf.1.1 h) K q)
end
noncomputable section
def ext28:Ext:=[(51,S51),(67,S67)]
theorem ext28Ok:ExtOk Tryz.prog ext28:=⟨⟨ca51,con51⟩,⟨ca67,con67⟩,trivial⟩
noncomputable def b28:Code:=bodyOf Tryz.f28
theorem hb28:Tryz.f28.body=some b28:=by kernel_rfl
def sig28:List AT:=[AT.v (.sl YA6)]
def tys28:List Ty:=[.bool]
def kds28:List RK:=[]
def oks28:List AT:=owns sig28
def P28 (x0:List TyB2):Prop:=(if (g51_0 x0)=true then ((P67 x0)∧True) else True)
def g28_0 (x0:List TyB2):Bool:=(if (g51_0 x0)=true then decide (g67_0 x0<0) else false)
theorem at28 (x0:List TyB2) (h:P28 x0) (K:Ctx) (q:Nat→Value):AtV Tryz.prog 28 (PostR kds28 oks28 [⟨.bool,g28_0 x0⟩] [] [] q K) 10 K q [] [.code b28] (entE 0 0 sig28 (x0,())) (entL sig28 (x0,())):=by
 unfold P28 at h
 unfold g28_0
 by_cases b0:(g51_0 x0)=true
 ·try simp only [if_pos b0] at h ⊢
  obtain ⟨s0,h⟩:=h
  exact AtV.ret Tryz.func28 tabOk ext28Ok mixed false [] tys28 [true] (a1 trivial (a1 b0 (a1 s0 trivial))) (by kernel_rfl)
 ·try simp only [if_neg b0] at h ⊢
  replace b0:=bf_ b0
  exact AtV.ret Tryz.func28 tabOk ext28Ok mixed false [] tys28 [false] (a1 trivial (a1 b0 trivial)) (by kernel_rfl)
def S28:Am.Spec:={ sig:=sig28,pre:=fun ⟨x0,_⟩=>P28 x0,res:=fun ⟨x0,_⟩=>[⟨.bool,g28_0 x0⟩],kds:=kds28 }
theorem con28:Contract Tryz.prog 28 S28:=contract_of Tryz.func28 hb28 (bl_ (by kernel_rfl)) (fun ⟨x0,_⟩ h _ K q=>at28 x0 h K q)
end
noncomputable section
def ext10:Ext:=[(28,S28)]
theorem ext10Ok:ExtOk Tryz.prog ext10:=⟨⟨ca28,con28⟩,trivial⟩
noncomputable def b10:Code:=bodyOf Tryz.f10
theorem hb10:Tryz.f10.body=some b10:=by kernel_rfl
def sig10:List AT:=[AT.v (.sl YA6)]
def tys10:List Ty:=[.bool]
def kds10:List RK:=[]
def oks10:List AT:=owns sig10
def P10 (x0:List TyB2):Prop:=((P28 x0)∧True)
def g10_0 (x0:List TyB2):Bool:=g28_0 x0
theorem at10 (x0:List TyB2) (h:P10 x0) (K:Ctx) (q:Nat→Value):AtV Tryz.prog 10 (PostR kds10 oks10 [⟨.bool,g10_0 x0⟩] [] [] q K) 5 K q [] [.code b10] (entE 0 0 sig10 (x0,())) (entL sig10 (x0,())):=by
 unfold P10 at h
 unfold g10_0
 obtain ⟨s0,h⟩:=h
 exact AtV.ret Tryz.func10 tabOk ext10Ok mixed false [] tys10 [] (a1 s0 trivial) (by kernel_rfl)
def S10:Am.Spec:={ sig:=sig10,pre:=fun ⟨x0,_⟩=>P10 x0,res:=fun ⟨x0,_⟩=>[⟨.bool,g10_0 x0⟩],kds:=kds10 }
theorem con10:Contract Tryz.prog 10 S10:=contract_of Tryz.func10 hb10 (bl_ (by kernel_rfl)) (fun ⟨x0,_⟩ h _ K q=>at10 x0 h K q)
end
noncomputable section
def ext31:Ext:=[(30,S30)]
theorem ext31Ok:ExtOk Tryz.prog ext31:=⟨⟨ca30,con30⟩,trivial⟩
noncomputable def b31:Code:=bodyOf Tryz.f31
theorem hb31:Tryz.f31.body=some b31:=by kernel_rfl
def sig31:List AT:=[AT.v (.int .i64)]
def tys31:List Ty:=[.bool]
def kds31:List RK:=[]
def oks31:List AT:=owns sig31
def P31 (x0:Int):Prop:=True
def g31_0 (x0:Int):Bool:=g30_0 x0 0 3000000
theorem at31 (x0:Int) (h:P31 x0) (K:Ctx) (q:Nat→Value):AtV Tryz.prog 31 (PostR kds31 oks31 [⟨.bool,g31_0 x0⟩] [] [] q K) 5 K q [] [.code b31] (entE 0 0 sig31 (x0,())) (entL sig31 (x0,())):=by
 unfold P31 at h
 unfold g31_0
 exact AtV.ret Tryz.func31 tabOk ext31Ok mixed false [] tys31 [] (a1 trivial trivial) (by kernel_rfl)
def S31:Am.Spec:={ sig:=sig31,pre:=fun ⟨x0,_⟩=>P31 x0,res:=fun ⟨x0,_⟩=>[⟨.bool,g31_0 x0⟩],kds:=kds31 }
theorem con31:Contract Tryz.prog 31 S31:=contract_of Tryz.func31 hb31 (bl_ (by kernel_rfl)) (fun ⟨x0,_⟩ h _ K q=>at31 x0 h K q)
end
noncomputable section
def ext69:Ext:=[]
theorem ext69Ok:ExtOk Tryz.prog ext69:=trivial
noncomputable def b69:Code:=bodyOf Tryz.f69
theorem hb69:Tryz.f69.body=some b69:=by kernel_rfl
def sig69:List AT:=[AT.v (.int .i64),AT.v (.int .i64)]
def tys69:List Ty:=[.int .i64]
def kds69:List RK:=[]
def oks69:List AT:=owns sig69
def P69 (x0:Int) (x1:Int):Prop:=True
def g69_0 (x0:Int) (x1:Int):Int:=(if (decide (x0<x1))=true then x0 else x1)
theorem at69 (x0:Int) (x1:Int) (h:P69 x0 x1) (K:Ctx) (q:Nat→Value):AtV Tryz.prog 69 (PostR kds69 oks69 [⟨.int .i64,g69_0 x0 x1⟩] [] [] q K) 10 K q [] [.code b69] (entE 0 0 sig69 (x0,x1,())) (entL sig69 (x0,x1,())):=by
 unfold P69 at h
 unfold g69_0
 by_cases b0:(decide (x0<x1))=true
 ·try simp only [if_pos b0] at h ⊢
  exact AtV.ret Tryz.func69 tabOk ext69Ok mixed false [] tys69 [true] (a1 b0 trivial) (by kernel_rfl)
 ·try simp only [if_neg b0] at h ⊢
  replace b0:=bf_ b0
  exact AtV.ret Tryz.func69 tabOk ext69Ok mixed false [] tys69 [false] (a1 b0 trivial) (by kernel_rfl)
def S69:Am.Spec:={ sig:=sig69,pre:=fun ⟨x0,x1,_⟩=>P69 x0 x1,res:=fun ⟨x0,x1,_⟩=>[⟨.int .i64,g69_0 x0 x1⟩],kds:=kds69 }
theorem con69:Contract Tryz.prog 69 S69:=contract_of Tryz.func69 hb69 (bl_ (by kernel_rfl)) (fun ⟨x0,x1,_⟩ h _ K q=>at69 x0 x1 h K q)
end
noncomputable section
def ext68:Ext:=[]
theorem ext68Ok:ExtOk Tryz.prog ext68:=trivial
noncomputable def b68:Code:=bodyOf Tryz.f68
theorem hb68:Tryz.f68.body=some b68:=by kernel_rfl
def sig68:List AT:=[AT.v (.int .i64),AT.v (.int .i64)]
def tys68:List Ty:=[.int .i64]
def kds68:List RK:=[]
def oks68:List AT:=owns sig68
def P68 (x0:Int) (x1:Int):Prop:=True
def g68_0 (x0:Int) (x1:Int):Int:=(if (decide (x0>x1))=true then x0 else x1)
theorem at68 (x0:Int) (x1:Int) (h:P68 x0 x1) (K:Ctx) (q:Nat→Value):AtV Tryz.prog 68 (PostR kds68 oks68 [⟨.int .i64,g68_0 x0 x1⟩] [] [] q K) 10 K q [] [.code b68] (entE 0 0 sig68 (x0,x1,())) (entL sig68 (x0,x1,())):=by
 unfold P68 at h
 unfold g68_0
 by_cases b0:(decide (x0>x1))=true
 ·try simp only [if_pos b0] at h ⊢
  exact AtV.ret Tryz.func68 tabOk ext68Ok mixed false [] tys68 [true] (a1 b0 trivial) (by kernel_rfl)
 ·try simp only [if_neg b0] at h ⊢
  replace b0:=bf_ b0
  exact AtV.ret Tryz.func68 tabOk ext68Ok mixed false [] tys68 [false] (a1 b0 trivial) (by kernel_rfl)
def S68:Am.Spec:={ sig:=sig68,pre:=fun ⟨x0,x1,_⟩=>P68 x0 x1,res:=fun ⟨x0,x1,_⟩=>[⟨.int .i64,g68_0 x0 x1⟩],kds:=kds68 }
theorem con68:Contract Tryz.prog 68 S68:=contract_of Tryz.func68 hb68 (bl_ (by kernel_rfl)) (fun ⟨x0,x1,_⟩ h _ K q=>at68 x0 x1 h K q)
end
noncomputable section
def ext70:Ext:=[(68,S68)]
theorem ext70Ok:ExtOk Tryz.prog ext70:=⟨⟨ca68,con68⟩,trivial⟩
noncomputable def b70:Code:=bodyOf Tryz.f70
theorem hb70:Tryz.f70.body=some b70:=by kernel_rfl
def sig70:List AT:=[AT.p YA4,AT.v (.int .i64),AT.v (.int .i64)]
def tys70:List Ty:=[.bool]
def kds70:List RK:=[]
def oks70:List AT:=owns sig70
def P70 (x0:Int×Int×Int×Int×Unit) (x1:Int) (x2:Int):Prop:=((InR .i64 (x1*x1))∧((InR .i64 (x0.2.2.1*x0.2.2.1))∧((InR .i64 (2*x0.1))∧((InR .i64 (x2 - x1))∧((InR .i64 (x2 - x1 - x0.2.2.2.1))∧((InR .i64 (2*x0.1*g68_0 0 (x2 - x1 - x0.2.2.2.1)))∧((InR .i64 (x0.2.2.1*x0.2.2.1+2*x0.1*g68_0 0 (x2 - x1 - x0.2.2.2.1)))∧True)))))))
def g70_0 (x0:Int×Int×Int×Int×Unit) (x1:Int) (x2:Int):Bool:=decide (x1*x1≤x0.2.2.1*x0.2.2.1+2*x0.1*g68_0 0 (x2 - x1 - x0.2.2.2.1))
theorem at70 (x0:Int×Int×Int×Int×Unit) (x1:Int) (x2:Int) (h:P70 x0 x1 x2) (K:Ctx) (q:Nat→Value):AtV Tryz.prog 70 (PostR kds70 oks70 [⟨.bool,g70_0 x0 x1 x2⟩] [] [] q K) 36 K q [] [.code b70] (entE 0 0 sig70 (x0,x1,x2,())) (entL sig70 (x0,x1,x2,())):=by
 unfold P70 at h
 unfold g70_0
 obtain ⟨s0,h⟩:=h
 obtain ⟨s1,h⟩:=h
 obtain ⟨s2,h⟩:=h
 obtain ⟨s3,h⟩:=h
 obtain ⟨s4,h⟩:=h
 obtain ⟨s5,h⟩:=h
 obtain ⟨s6,h⟩:=h
 exact AtV.ret Tryz.func70 tabOk ext70Ok mixed false [] tys70 [] (a1 s0 (a1 s1 (a1 s2 (a1 s3 (a1 s4 (a1 trivial (a1 s5 (a1 s6 trivial)))))))) (by kernel_rfl)
def S70:Am.Spec:={ sig:=sig70,pre:=fun ⟨x0,x1,x2,_⟩=>P70 x0 x1 x2,res:=fun ⟨x0,x1,x2,_⟩=>[⟨.bool,g70_0 x0 x1 x2⟩],kds:=kds70 }
theorem con70:Contract Tryz.prog 70 S70:=contract_of Tryz.func70 hb70 (bl_ (by kernel_rfl)) (fun ⟨x0,x1,x2,_⟩ h _ K q=>at70 x0 x1 x2 h K q)
end
noncomputable section
def ext32:Ext:=[(69,S69),(68,S68),(70,S70)]
theorem ext32Ok:ExtOk Tryz.prog ext32:=⟨⟨ca69,con69⟩,⟨ca68,con68⟩,⟨ca70,con70⟩,trivial⟩
noncomputable def b32:Code:=bodyOf Tryz.f32
theorem hb32:Tryz.f32.body=some b32:=by kernel_rfl
def sig32:List AT:=[AT.p YA4,AT.v (.int .i64),AT.v (.int .i64)]
def tys32:List Ty:=[.int .i64]
def kds32:List RK:=[]
def oks32:List AT:=owns sig32
def E32_3 (v7:Int) (v8:Int) (x0:Int×Int×Int×Int×Unit) (x2:Int):Env:=[(0,.a (.ptr YA4 x0)),(2,.a (.val (.int .i64 x2))),(7,.a (.val (.int .i64 v7))),(8,.a (.val (.int .i64 v8)))]
def L32_3 (v7:Int) (v8:Int) (x0:Int×Int×Int×Int×Unit) (x2:Int):Heap:=[]
mutual
def R32:Nat→Int×Int×Int×Int×Unit→Int→Int→List Dyn→Prop
 | 0,_,_,_,_=>False
 | n+1,x0,x1,x2,ds=>((InR .i64 (x1+x0.1))∧(R32_3 n x0.2.2.1 (g68_0 x0.2.2.1 (g69_0 x0.2.1 (x1+x0.1))) (x0) (x2) ds))
def R32_3:Nat→Int→Int→Int×Int×Int×Int×Unit→Int→List Dyn→Prop
 | 0,_,_,_,_,_=>False
 | n+1,v7,v8,x0,x2,ds=>(if (decide (v7<v8))=true then ((InR .i64 (v7+v8))∧((InR .i64 (v7+v8+1))∧((InR .i64 (Int.tdiv (v7+v8+1) 2))∧((P70 x0 (Int.tdiv (v7+v8+1) 2) x2)∧(if (g70_0 x0 (Int.tdiv (v7+v8+1) 2) x2)=true then (R32_3 n (Int.tdiv (v7+v8+1) 2) (v8) (x0) (x2) ds) else ((InR .i64 (Int.tdiv (v7+v8+1) 2 - 1))∧(R32_3 n (v7) (Int.tdiv (v7+v8+1) 2 - 1) (x0) (x2) ds))))))) else (ds=[Dyn.mk (.int .i64) (g69_0 v7 x2)]))
end
theorem snd32:∀ n,(∀ (x0:Int×Int×Int×Int×Unit) (x1:Int) (x2:Int) ds,R32 n x0 x1 x2 ds→∀ K q,AtV Tryz.prog 32 (PostR kds32 oks32 ds [] [] q K) 48 K q [] [.code b32] (entE 0 0 sig32 (x0,x1,x2,())) (entL sig32 (x0,x1,x2,())))∧(∀ (v7:Int) (v8:Int) (x0:Int×Int×Int×Int×Unit) (x2:Int) ds,R32_3 n v7 v8 x0 x2 ds→∀ K q,AtV Tryz.prog 32 (PostR kds32 oks32 ds [] [] q K) 48 K q [] (cutAt b32 3) (E32_3 v7 v8 x0 x2) (L32_3 v7 v8 x0 x2)):=by
 intro n
 induction n with
 | zero=>exact ⟨fun _ _ _ _ h=>by simp only [R32] at h,fun _ _ _ _ _ h=>by simp only [R32_3] at h⟩
 | succ n ih =>
 obtain ⟨ih,ih3⟩:=ih
 refine ⟨?_,?_⟩
 ·intro x0 x1 x2 ds h K q
  rw [R32] at h
  obtain ⟨s0,h⟩:=h
  exact AtV.go tabOk ext32Ok mixed false [] [] [0,2,7,8] [] [] (a1 s0 (a1 trivial (a1 trivial trivial))) (ih3 _ _ _ _ _ h K q) (by kernel_rfl)
 ·intro v7 v8 x0 x2 ds h K q
  rw [R32_3] at h
  by_cases b0:(decide (v7<v8))=true
  ·rw [if_pos b0] at h
   obtain ⟨s0,h⟩:=h
   obtain ⟨s1,h⟩:=h
   obtain ⟨s2,h⟩:=h
   obtain ⟨s3,h⟩:=h
   by_cases b1:(g70_0 x0 (Int.tdiv (v7+v8+1) 2) x2)=true
   ·rw [if_pos b1] at h
    exact AtV.go tabOk ext32Ok mixed false [] [] [0,2,7,8] [] [true,true] (a1 b0 (a1 s0 (a1 s1 (a1 ((by decide):(2:Int)≠(0:Int)) (a1 s2 (a1 s3 (a1 b1 trivial))))))) (ih3 _ _ _ _ _ h K q) (by kernel_rfl)
   ·rw [if_neg b1] at h
    replace b1:=bf_ b1
    obtain ⟨s4,h⟩:=h
    exact AtV.go tabOk ext32Ok mixed false [] [] [0,2,7,8] [] [true,false] (a1 b0 (a1 s0 (a1 s1 (a1 ((by decide):(2:Int)≠(0:Int)) (a1 s2 (a1 s3 (a1 b1 (a1 s4 trivial)))))))) (ih3 _ _ _ _ _ h K q) (by kernel_rfl)
  ·rw [if_neg b0] at h
   replace b0:=bf_ b0
   subst h
   exact AtV.ret Tryz.func32 tabOk ext32Ok mixed false [] tys32 [false] (a1 b0 (a1 trivial trivial)) (by kernel_rfl)
def top32 (x0:Int×Int×Int×Int×Unit) (x1:Int):Int:=g68_0 x0.2.2.1 (g69_0 x0.2.1 (x1+x0.1))
def g32_0 (x0:Int×Int×Int×Int×Unit) (x1 x2:Int):Int:=g69_0 (bsS (fun v=>g70_0 x0 v x2) (top32 x0 x1 - x0.2.2.1).toNat x0.2.2.1 (top32 x0 x1)) x2
def P32 (x0:Int×Int×Int×Int×Unit) (x1 x2:Int):Prop:=(0≤x0.1∧x0.1≤2000)∧(0≤x0.2.1∧x0.2.1≤15000)∧(0≤x0.2.2.1∧x0.2.2.1≤15000)∧(0≤x1∧x1≤15000)∧∀ v,0≤v→v≤20000→P70 x0 v x2
theorem top32_le (x0:Int×Int×Int×Int×Unit) (x1 x2:Int) (h:P32 x0 x1 x2):x0.2.2.1≤top32 x0 x1∧top32 x0 x1≤15000:=by
 obtain ⟨h1,h2,h3,h4,_⟩:=h
 unfold top32 g68_0 g69_0
 simp only [decide_eq_true_eq,gt_iff_lt]
 split <;> split <;> omega
theorem run32 (x0:Int×Int×Int×Int×Unit) (x2:Int) (hp:∀ v,0≤v→v≤20000→P70 x0 v x2):∀ (k:Nat) (lo hi:Int),0≤lo→lo≤hi→hi≤15000→hi - lo≤(k:Int) →
  R32_3 (k+1) lo hi x0 x2 [⟨.int .i64,g69_0 (bsS (fun v=>g70_0 x0 v x2) k lo hi) x2⟩]:=by
 intro k
 induction k with
 | zero =>
  intro lo hi h0 h1 h2 h3
  rw [R32_3,if_neg (by simp only [decide_eq_true_eq];omega)]
  rfl
 | succ k ih =>
  intro lo hi h0 h1 h2 h3
  unfold bsS
  by_cases hlt:lo<hi
  ·obtain ⟨m1,m2⟩:=half_up h0 hlt
   rw [R32_3,if_pos (by simpa using hlt),if_pos hlt]
   refine ⟨by rw [i64_iff];omega,by rw [i64_iff];omega,by rw [i64_iff];omega,hp _ (by omega) (by omega),?_⟩
   by_cases hc:g70_0 x0 (Int.tdiv (lo+hi+1) 2) x2=true
   ·rw [if_pos hc,if_pos hc]
    exact ih _ hi (by omega) m2 h2 (by omega)
   ·rw [if_neg hc,if_neg hc]
    exact ⟨by rw [i64_iff];omega,ih lo _ h0 (by omega) (by omega) (by omega)⟩
  ·rw [R32_3,if_neg (by simpa using hlt),if_neg hlt]
theorem all32 (x0:Int×Int×Int×Int×Unit) (x1 x2:Int) (h:P32 x0 x1 x2):R32 ((top32 x0 x1 - x0.2.2.1).toNat+1+1) x0 x1 x2 [⟨.int .i64,g32_0 x0 x1 x2⟩]:=by
 obtain ⟨t1,t2⟩:=top32_le x0 x1 x2 h
 obtain ⟨h1,h2,h3,h4,h5⟩:=h
 rw [R32]
 exact ⟨by rw [i64_iff];omega,run32 x0 x2 h5 _ _ (top32 x0 x1) h3.1 t1 t2 (by omega)⟩
def S32:Am.Spec:={ sig:=sig32,pre:=fun ⟨x0,x1,x2,_⟩=>P32 x0 x1 x2,res:=fun ⟨x0,x1,x2,_⟩=>[⟨.int .i64,g32_0 x0 x1 x2⟩] }
theorem con32:Contract Tryz.prog 32 S32:=contract_of Tryz.func32 hb32 (bl_ (by kernel_rfl)) (fun ⟨x0,x1,x2,_⟩ h hwf K q =>
 (snd32 _).1 x0 x1 x2 _ (all32 x0 x1 x2 h) K q)
end
noncomputable section
def ext11:Ext:=[(29,S29),(30,S30),(31,S31),(32,S32)]
theorem ext11Ok:ExtOk Tryz.prog ext11:=⟨⟨ca29,con29⟩,⟨ca30,con30⟩,⟨ca31,con31⟩,⟨ca32,con32⟩,trivial⟩
noncomputable def b11:Code:=bodyOf Tryz.f11
theorem hb11:Tryz.f11.body=some b11:=by kernel_rfl
def sig11:List AT:=[AT.v YA4,AT.v (.int .i64),AT.v (.int .i64)]
def tys11:List Ty:=[.int .i64,.int .i64]
def kds11:List RK:=[]
def oks11:List AT:=owns sig11
def P11 (x0:Int×Int×Int×Int×Unit) (x1:Int) (x2:Int):Prop:=(if (!g29_0 x0)=true then True else (if (!g30_0 x1 0 15000)=true then True else (if (!g31_0 x2)=true then True else ((P32 x0 x1 x2)∧True))))
def g11_0 (x0:Int×Int×Int×Int×Unit) (x1:Int) (x2:Int):Int:=(if (!g29_0 x0)=true then 0 else (if (!g30_0 x1 0 15000)=true then 0 else (if (!g31_0 x2)=true then 0 else g32_0 x0 x1 x2)))
def g11_1 (x0:Int×Int×Int×Int×Unit) (x1:Int) (x2:Int):Int:=(if (!g29_0 x0)=true then 1 else (if (!g30_0 x1 0 15000)=true then 2 else (if (!g31_0 x2)=true then 2 else 0)))
theorem at11 (x0:Int×Int×Int×Int×Unit) (x1:Int) (x2:Int) (h:P11 x0 x1 x2) (K:Ctx) (q:Nat→Value):AtV Tryz.prog 11 (PostR kds11 oks11 [⟨.int .i64,g11_0 x0 x1 x2⟩,⟨.int .i64,g11_1 x0 x1 x2⟩] [] [] q K) 21 K q [] [.code b11] (entE 0 0 sig11 (x0,x1,x2,())) (entL sig11 (x0,x1,x2,())):=by
 unfold P11 at h
 unfold g11_0 g11_1
 by_cases b0:(!g29_0 x0)=true
 ·try simp only [if_pos b0] at h ⊢
  exact AtV.ret Tryz.func11 tabOk ext11Ok mixed false [] tys11 [true] (a1 trivial (a1 b0 trivial)) (by kernel_rfl)
 ·try simp only [if_neg b0] at h ⊢
  replace b0:=bf_ b0
  by_cases b1:(!g30_0 x1 0 15000)=true
  ·try simp only [if_pos b1] at h ⊢
   exact AtV.ret Tryz.func11 tabOk ext11Ok mixed false [] tys11 [false,true,true] (a1 trivial (a1 b0 (a1 trivial (a1 b1 (a1 (rfl:true=true) trivial))))) (by kernel_rfl)
  ·try simp only [if_neg b1] at h ⊢
   replace b1:=bf_ b1
   by_cases b2:(!g31_0 x2)=true
   ·try simp only [if_pos b2] at h ⊢
    exact AtV.ret Tryz.func11 tabOk ext11Ok mixed false [] tys11 [false,false,true] (a1 trivial (a1 b0 (a1 trivial (a1 b1 (a1 trivial (a1 b2 trivial)))))) (by kernel_rfl)
   ·try simp only [if_neg b2] at h ⊢
    replace b2:=bf_ b2
    obtain ⟨s0,h⟩:=h
    exact AtV.ret Tryz.func11 tabOk ext11Ok mixed false [] tys11 [false,false,false] (a1 trivial (a1 b0 (a1 trivial (a1 b1 (a1 trivial (a1 b2 (a1 s0 trivial))))))) (by kernel_rfl)
def S11:Am.Spec:={ sig:=sig11,pre:=fun ⟨x0,x1,x2,_⟩=>P11 x0 x1 x2,res:=fun ⟨x0,x1,x2,_⟩=>[⟨.int .i64,g11_0 x0 x1 x2⟩,⟨.int .i64,g11_1 x0 x1 x2⟩],kds:=kds11 }
theorem con11:Contract Tryz.prog 11 S11:=contract_of Tryz.func11 hb11 (bl_ (by kernel_rfl)) (fun ⟨x0,x1,x2,_⟩ h _ K q=>at11 x0 x1 x2 h K q)
end
noncomputable section
def ext71:Ext:=[(25,S25),(30,S30)]
theorem ext71Ok:ExtOk Tryz.prog ext71:=⟨⟨ca25,con25⟩,⟨ca30,con30⟩,trivial⟩
noncomputable def b71:Code:=bodyOf Tryz.f71
theorem hb71:Tryz.f71.body=some b71:=by kernel_rfl
def sig71:List AT:=[AT.p YA2,AT.v (.int .i64)]
def tys71:List Ty:=[.bool]
def kds71:List RK:=[]
def oks71:List AT:=owns sig71
def P71 (x0:List TyB4×Int×Int×Unit) (x1:Int):Prop:=((P25 x0)∧True)
def g71_0 (x0:List TyB4×Int×Int×Unit) (x1:Int):Bool:=g30_0 x1 0 (g25_0 x0)
theorem at71 (x0:List TyB4×Int×Int×Unit) (x1:Int) (h:P71 x0 x1) (K:Ctx) (q:Nat→Value):AtV Tryz.prog 71 (PostR kds71 oks71 [⟨.bool,g71_0 x0 x1⟩] [] [] q K) 9 K q [] [.code b71] (entE 0 0 sig71 (x0,x1,())) (entL sig71 (x0,x1,())):=by
 unfold P71 at h
 unfold g71_0
 obtain ⟨s0,h⟩:=h
 exact AtV.ret Tryz.func71 tabOk ext71Ok mixed false [] tys71 [] (a1 s0 (a1 trivial trivial)) (by kernel_rfl)
def S71:Am.Spec:={ sig:=sig71,pre:=fun ⟨x0,x1,_⟩=>P71 x0 x1,res:=fun ⟨x0,x1,_⟩=>[⟨.bool,g71_0 x0 x1⟩],kds:=kds71 }
theorem con71:Contract Tryz.prog 71 S71:=contract_of Tryz.func71 hb71 (bl_ (by kernel_rfl)) (fun ⟨x0,x1,_⟩ h _ K q=>at71 x0 x1 h K q)
end
noncomputable section
def ext72:Ext:=[(30,S30)]
theorem ext72Ok:ExtOk Tryz.prog ext72:=⟨⟨ca30,con30⟩,trivial⟩
noncomputable def b72:Code:=bodyOf Tryz.f72
theorem hb72:Tryz.f72.body=some b72:=by kernel_rfl
def sig72:List AT:=[AT.v (.int .i64)]
def tys72:List Ty:=[.bool]
def kds72:List RK:=[]
def oks72:List AT:=owns sig72
def P72 (x0:Int):Prop:=True
def g72_0 (x0:Int):Bool:=g30_0 x0 0 15000
theorem at72 (x0:Int) (h:P72 x0) (K:Ctx) (q:Nat→Value):AtV Tryz.prog 72 (PostR kds72 oks72 [⟨.bool,g72_0 x0⟩] [] [] q K) 5 K q [] [.code b72] (entE 0 0 sig72 (x0,())) (entL sig72 (x0,())):=by
 unfold P72 at h
 unfold g72_0
 exact AtV.ret Tryz.func72 tabOk ext72Ok mixed false [] tys72 [] (a1 trivial trivial) (by kernel_rfl)
def S72:Am.Spec:={ sig:=sig72,pre:=fun ⟨x0,_⟩=>P72 x0,res:=fun ⟨x0,_⟩=>[⟨.bool,g72_0 x0⟩],kds:=kds72 }
theorem con72:Contract Tryz.prog 72 S72:=contract_of Tryz.func72 hb72 (bl_ (by kernel_rfl)) (fun ⟨x0,_⟩ h _ K q=>at72 x0 h K q)
end
noncomputable section
def ext33:Ext:=[(24,S24),(50,S50),(71,S71),(72,S72)]
theorem ext33Ok:ExtOk Tryz.prog ext33:=⟨⟨ca24,con24⟩,⟨ca50,con50⟩,⟨ca71,con71⟩,⟨ca72,con72⟩,trivial⟩
noncomputable def b33:Code:=bodyOf Tryz.f33
theorem hb33:Tryz.f33.body=some b33:=by kernel_rfl
def sig33:List AT:=[AT.p YA2,AT.p YA11,AT.v (.int .i64),AT.v (.int .i64)]
def tys33:List Ty:=[.int .i64]
def kds33:List RK:=[]
def oks33:List AT:=owns sig33
def P33 (x0:List TyB4×Int×Int×Unit) (x1:Int×Int×Unit) (x2:Int) (x3:Int):Prop:=(if (!g24_0 x0)=true then True else (if (!g50_0 x1)=true then True else ((P71 x0 x2)∧True)))
def g33_0 (x0:List TyB4×Int×Int×Unit) (x1:Int×Int×Unit) (x2:Int) (x3:Int):Int:=(if (!g24_0 x0)=true then 1 else (if (!g50_0 x1)=true then 1 else (if (!g71_0 x0 x2)=true then 2 else (if (!g72_0 x3)=true then 2 else 0))))
theorem at33 (x0:List TyB4×Int×Int×Unit) (x1:Int×Int×Unit) (x2:Int) (x3:Int) (h:P33 x0 x1 x2 x3) (K:Ctx) (q:Nat→Value):AtV Tryz.prog 33 (PostR kds33 oks33 [⟨.int .i64,g33_0 x0 x1 x2 x3⟩] [] [] q K) 26 K q [] [.code b33] (entE 0 0 sig33 (x0,x1,x2,x3,())) (entL sig33 (x0,x1,x2,x3,())):=by
 unfold P33 at h
 unfold g33_0
 by_cases b0:(!g24_0 x0)=true
 ·try simp only [if_pos b0] at h ⊢
  exact AtV.ret Tryz.func33 tabOk ext33Ok mixed false [] tys33 [true,true] (a1 trivial (a1 b0 (a1 (rfl:true=true) trivial))) (by kernel_rfl)
 ·try simp only [if_neg b0] at h ⊢
  replace b0:=bf_ b0
  by_cases b1:(!g50_0 x1)=true
  ·try simp only [if_pos b1] at h ⊢
   exact AtV.ret Tryz.func33 tabOk ext33Ok mixed false [] tys33 [false,true] (a1 trivial (a1 b0 (a1 trivial (a1 b1 trivial)))) (by kernel_rfl)
  ·try simp only [if_neg b1] at h ⊢
   replace b1:=bf_ b1
   obtain ⟨s0,h⟩:=h
   by_cases b2:(!g71_0 x0 x2)=true
   ·try simp only [if_pos b2] at h ⊢
    exact AtV.ret Tryz.func33 tabOk ext33Ok mixed false [] tys33 [false,false,true,true] (a1 trivial (a1 b0 (a1 trivial (a1 b1 (a1 s0 (a1 b2 (a1 (rfl:true=true) trivial))))))) (by kernel_rfl)
   ·try simp only [if_neg b2] at h ⊢
    replace b2:=bf_ b2
    by_cases b3:(!g72_0 x3)=true
    ·try simp only [if_pos b3] at h ⊢
     exact AtV.ret Tryz.func33 tabOk ext33Ok mixed false [] tys33 [false,false,false,true] (a1 trivial (a1 b0 (a1 trivial (a1 b1 (a1 s0 (a1 b2 (a1 trivial (a1 b3 trivial)))))))) (by kernel_rfl)
    ·try simp only [if_neg b3] at h ⊢
     replace b3:=bf_ b3
     exact AtV.ret Tryz.func33 tabOk ext33Ok mixed false [] tys33 [false,false,false,false] (a1 trivial (a1 b0 (a1 trivial (a1 b1 (a1 s0 (a1 b2 (a1 trivial (a1 b3 trivial)))))))) (by kernel_rfl)
def S33:Am.Spec:={ sig:=sig33,pre:=fun ⟨x0,x1,x2,x3,_⟩=>P33 x0 x1 x2 x3,res:=fun ⟨x0,x1,x2,x3,_⟩=>[⟨.int .i64,g33_0 x0 x1 x2 x3⟩],kds:=kds33 }
theorem con33:Contract Tryz.prog 33 S33:=contract_of Tryz.func33 hb33 (bl_ (by kernel_rfl)) (fun ⟨x0,x1,x2,x3,_⟩ h _ K q=>at33 x0 x1 x2 x3 h K q)
end
noncomputable section
def ext136:Ext:=[]
theorem ext136Ok:ExtOk Tryz.prog ext136:=trivial
noncomputable def b136:Code:=bodyOf Tryz.f136
theorem hb136:Tryz.f136.body=some b136:=by kernel_rfl
def sig136:List AT:=[AT.p YA2,AT.v (.int .i64)]
def tys136:List Ty:=[.int .i64]
def kds136:List RK:=[]
def oks136:List AT:=owns sig136
def E136_2 (v5:Int) (x0:List TyB4×Int×Int×Unit) (x1:Int):Env:=[(0,.a (.ptr YA2 x0)),(1,.a (.val (.int .i64 x1))),(5,.a (.val (.int .i64 v5)))]
def L136_2 (v5:Int) (x0:List TyB4×Int×Int×Unit) (x1:Int):Heap:=[]
mutual
def R136:Nat→List TyB4×Int×Int×Unit→Int→List Dyn→Prop
 | 0,_,_,_=>False
 | n+1,x0,x1,ds=>(R136_2 n (0) (x0) (x1) ds)
def R136_2:Nat→Int→List TyB4×Int×Int×Unit→Int→List Dyn→Prop
 | 0,_,_,_,_=>False
 | n+1,v5,x0,x1,ds=>((InR .i64 ((x0.1.length:Int) - 1))∧(if (decide (v5<(x0.1.length:Int) - 1))=true then ((0≤v5)∧(v5<(x0.1.length:Int))∧(if (decide (x1≥(List.getD x0.1 (Int.toNat v5) (0,0,())).1))=true then ((0≤v5)∧(v5<(x0.1.length:Int))∧((InR .i64 (x1 - (List.getD x0.1 (Int.toNat v5) (0,0,())).1))∧((InR .i64 (v5+1))∧(R136_2 n (v5+1) (x0) (x1 - (List.getD x0.1 (Int.toNat v5) (0,0,())).1) ds)))) else (ds=[Dyn.mk (.int .i64) v5]))) else (ds=[Dyn.mk (.int .i64) v5])))
end
theorem snd136:∀ n,(∀ (x0:List TyB4×Int×Int×Unit) (x1:Int) ds,R136 n x0 x1 ds→∀ K q,AtV Tryz.prog 136 (PostR kds136 oks136 ds [] [] q K) 39 K q [] [.code b136] (entE 0 0 sig136 (x0,x1,())) (entL sig136 (x0,x1,())))∧(∀ (v5:Int) (x0:List TyB4×Int×Int×Unit) (x1:Int) ds,R136_2 n v5 x0 x1 ds→∀ K q,AtV Tryz.prog 136 (PostR kds136 oks136 ds [] [] q K) 39 K q [] (cutAt b136 2) (E136_2 v5 x0 x1) (L136_2 v5 x0 x1)):=by
 intro n
 induction n with
 | zero=>exact ⟨fun _ _ _ h=>by simp only [R136] at h,fun _ _ _ _ h=>by simp only [R136_2] at h⟩
 | succ n ih =>
 obtain ⟨ih,ih2⟩:=ih
 refine ⟨?_,?_⟩
 ·intro x0 x1 ds h K q
  rw [R136] at h
  exact AtV.go tabOk ext136Ok mixed false [] [] [0,1,5] [] [] trivial (ih2 _ _ _ _ h K q) (by kernel_rfl)
 ·intro v5 x0 x1 ds h K q
  rw [R136_2] at h
  obtain ⟨s0,h⟩:=h
  by_cases b0:(decide (v5<(x0.1.length:Int) - 1))=true
  ·rw [if_pos b0] at h
   obtain ⟨s1,s2,h⟩:=h
   by_cases b1:(decide (x1≥(List.getD x0.1 (Int.toNat v5) (0,0,())).1))=true
   ·rw [if_pos b1] at h
    obtain ⟨s3,s4,h⟩:=h
    obtain ⟨s5,h⟩:=h
    obtain ⟨s6,h⟩:=h
    exact AtV.go tabOk ext136Ok mixed false [] [] [0,1,5] [] [true,true] (a1 s0 (a1 b0 (a1 s1 (a1 s2 (a1 b1 (a1 s3 (a1 s4 (a1 s5 (a1 s6 trivial))))))))) (ih2 _ _ _ _ h K q) (by kernel_rfl)
   ·rw [if_neg b1] at h
    replace b1:=bf_ b1
    subst h
    exact AtV.ret Tryz.func136 tabOk ext136Ok mixed false [] tys136 [true,false] (a1 s0 (a1 b0 (a1 s1 (a1 s2 (a1 b1 trivial))))) (by kernel_rfl)
  ·rw [if_neg b0] at h
   replace b0:=bf_ b0
   subst h
   exact AtV.ret Tryz.func136 tabOk ext136Ok mixed false [] tys136 [false,false] (a1 s0 (a1 b0 (a1 (rfl:false=false) trivial))) (by kernel_rfl)
def at136 (xs:List TyB4):Nat→Nat→Int→Int
 | 0,i,_=>(i:Int)
 | k+1,i,x=>if (i:Int)<(xs.length:Int) - 1 then (if x≥(xs.getD i ((0:Int),(0:Int),())).1 then at136 xs k (i+1) (x - (xs.getD i ((0:Int),(0:Int),())).1) else (i:Int)) else (i:Int)
def g136_0 (x0:List TyB4×Int×Int×Unit) (x1:Int):Int:=at136 x0.1 x0.1.length 0 x1
def P136 (x0:List TyB4×Int×Int×Unit) (x1:Int):Prop:=(1≤x0.1.length∧x0.1.length≤1000)∧(∀ x∈x0.1,0≤x.1∧x.1≤3000000)∧(0≤x1∧x1≤1000000000)
theorem run136 (x0:List TyB4×Int×Int×Unit) (hl:1≤x0.1.length∧x0.1.length≤1000) (hx:∀ x∈x0.1,0≤x.1∧x.1≤3000000):∀ (k i:Nat) (x:Int),i+k=x0.1.length→(0≤x∧x≤1000000000)→i<x0.1.length →
  (0≤at136 x0.1 k i x∧at136 x0.1 k i x<(x0.1.length:Int))∧R136_2 (k+1) (i:Int) x0 x [⟨.int .i64,at136 x0.1 k i x⟩]:=by
 intro k
 induction k with
 | zero =>
  intro i x hi _ hl
  omega
 | succ k ih =>
  intro i x hi hb hlt
  have hm:=hx _ (mem_getD x0.1 i ((0:Int),(0:Int),()) hlt)
  unfold at136
  by_cases h1:(i:Int)<(x0.1.length:Int) - 1
  ·rw [if_pos h1]
   by_cases h2:x≥(x0.1.getD i ((0:Int),(0:Int),())).1
   ·rw [if_pos h2]
    obtain ⟨a1,a2⟩:=ih (i+1) (x - (x0.1.getD i ((0:Int),(0:Int),())).1) (by omega) (by omega) (by omega)
    refine ⟨a1,?_⟩
    rw [R136_2]
    refine ⟨by rw [i64_iff];omega,?_⟩
    rw [if_pos (by simpa using h1)]
    simp only [Int.toNat_natCast]
    refine ⟨by omega,by omega,?_⟩
    rw [if_pos (by simpa using h2)]
    exact ⟨by omega,by omega,by rw [i64_iff];omega,by rw [i64_iff];omega,a2⟩
   ·rw [if_neg h2]
    refine ⟨by omega,?_⟩
    rw [R136_2]
    refine ⟨by rw [i64_iff];omega,?_⟩
    rw [if_pos (by simpa using h1)]
    simp only [Int.toNat_natCast]
    refine ⟨by omega,by omega,?_⟩
    rw [if_neg (by simpa using h2)] <;> trivial
  ·rw [if_neg h1]
   refine ⟨by omega,?_⟩
   rw [R136_2]
   refine ⟨by rw [i64_iff];omega,?_⟩
   rw [if_neg (by simpa using h1)] <;> trivial
theorem in136 (x0:List TyB4×Int×Int×Unit) (x1:Int) (h:P136 x0 x1):0≤g136_0 x0 x1∧g136_0 x0 x1<(x0.1.length:Int) :=
 (run136 x0 h.1 h.2.1 x0.1.length 0 x1 (by omega) h.2.2 (by have:=h.1;omega)).1
theorem top136 (x0:List TyB4×Int×Int×Unit) (x1:Int) (h:P136 x0 x1):R136 (x0.1.length+1+1) x0 x1 [⟨.int .i64,g136_0 x0 x1⟩]:=by
 rw [R136]
 exact (run136 x0 h.1 h.2.1 x0.1.length 0 x1 (by omega) h.2.2 (by have:=h.1;omega)).2
def S136:Am.Spec:={ sig:=sig136,pre:=fun ⟨x0,x1,_⟩=>P136 x0 x1,res:=fun ⟨x0,x1,_⟩=>[⟨.int .i64,g136_0 x0 x1⟩] }
theorem con136:Contract Tryz.prog 136 S136:=contract_of Tryz.func136 hb136 (bl_ (by kernel_rfl)) (fun ⟨x0,x1,_⟩ h hwf K q =>
 (snd136 _).1 x0 x1 _ (top136 x0 x1 h) K q)
end
noncomputable section
def ext109:Ext:=[(136,S136)]
theorem ext109Ok:ExtOk Tryz.prog ext109:=⟨⟨ca136,con136⟩,trivial⟩
noncomputable def b109:Code:=bodyOf Tryz.f109
theorem hb109:Tryz.f109.body=some b109:=by kernel_rfl
def sig109:List AT:=[AT.p YA2,AT.v (.int .i64)]
def tys109:List Ty:=[.int .i64]
def kds109:List RK:=[]
def oks109:List AT:=owns sig109
def P109 (x0:List TyB4×Int×Int×Unit) (x1:Int):Prop:=((P136 x0 x1)∧((0≤g136_0 x0 x1)∧(g136_0 x0 x1<(x0.1.length:Int))∧True))
def g109_0 (x0:List TyB4×Int×Int×Unit) (x1:Int):Int:=(List.getD x0.1 (Int.toNat (g136_0 x0 x1)) (0,0,())).2.1
theorem at109 (x0:List TyB4×Int×Int×Unit) (x1:Int) (h:P109 x0 x1) (K:Ctx) (q:Nat→Value):AtV Tryz.prog 109 (PostR kds109 oks109 [⟨.int .i64,g109_0 x0 x1⟩] [] [] q K) 15 K q [] [.code b109] (entE 0 0 sig109 (x0,x1,())) (entL sig109 (x0,x1,())):=by
 unfold P109 at h
 unfold g109_0
 obtain ⟨s0,h⟩:=h
 obtain ⟨s1,s2,h⟩:=h
 exact AtV.ret Tryz.func109 tabOk ext109Ok mixed false [] tys109 [] (a1 s0 (a1 s1 (a1 s2 trivial))) (by kernel_rfl)
def S109:Am.Spec:={ sig:=sig109,pre:=fun ⟨x0,x1,_⟩=>P109 x0 x1,res:=fun ⟨x0,x1,_⟩=>[⟨.int .i64,g109_0 x0 x1⟩],kds:=kds109 }
theorem con109:Contract Tryz.prog 109 S109:=contract_of Tryz.func109 hb109 (bl_ (by kernel_rfl)) (fun ⟨x0,x1,_⟩ h _ K q=>at109 x0 x1 h K q)
end
noncomputable section
def ext159:Ext:=[]
theorem ext159Ok:ExtOk Tryz.prog ext159:=trivial
noncomputable def b159:Code:=bodyOf Tryz.f159
theorem hb159:Tryz.f159.body=some b159:=by kernel_rfl
def sig159:List AT:=[AT.v (.int .i64),AT.v (.int .i64)]
def tys159:List Ty:=[.int .i64]
def kds159:List RK:=[]
def oks159:List AT:=owns sig159
def P159 (x0:Int) (x1:Int):Prop:=(if (decide (x1<0))=true then ((InR .i64 (0 - x0))∧((InR .i64 (0 - x1))∧(if (decide (0 - x0<0))=true then ((InR .i64 (2*(0 - x0)))∧((InR .i64 (0 - x1 - 2*(0 - x0)))∧((InR .i64 (2*(0 - x1)))∧((2*(0 - x1)≠0)∧(InR .i64 (Int.tdiv (0 - x1 - 2*(0 - x0)) (2*(0 - x1))))∧((InR .i64 (0 - Int.tdiv (0 - x1 - 2*(0 - x0)) (2*(0 - x1))))∧True))))) else ((InR .i64 (2*(0 - x0)))∧((InR .i64 (2*(0 - x0)+(0 - x1)))∧((InR .i64 (2*(0 - x1)))∧((2*(0 - x1)≠0)∧(InR .i64 (Int.tdiv (2*(0 - x0)+(0 - x1)) (2*(0 - x1))))∧True))))))) else (if (decide (x0<0))=true then ((InR .i64 (2*x0))∧((InR .i64 (x1 - 2*x0))∧((InR .i64 (2*x1))∧((2*x1≠0)∧(InR .i64 (Int.tdiv (x1 - 2*x0) (2*x1)))∧((InR .i64 (0 - Int.tdiv (x1 - 2*x0) (2*x1)))∧True))))) else ((InR .i64 (2*x0))∧((InR .i64 (2*x0+x1))∧((InR .i64 (2*x1))∧((2*x1≠0)∧(InR .i64 (Int.tdiv (2*x0+x1) (2*x1)))∧True))))))
def g159_0 (x0:Int) (x1:Int):Int:=(if (decide (x1<0))=true then (if (decide (0 - x0<0))=true then 0 - Int.tdiv (0 - x1 - 2*(0 - x0)) (2*(0 - x1)) else Int.tdiv (2*(0 - x0)+(0 - x1)) (2*(0 - x1))) else (if (decide (x0<0))=true then 0 - Int.tdiv (x1 - 2*x0) (2*x1) else Int.tdiv (2*x0+x1) (2*x1)))
theorem at159 (x0:Int) (x1:Int) (h:P159 x0 x1) (K:Ctx) (q:Nat→Value):AtV Tryz.prog 159 (PostR kds159 oks159 [⟨.int .i64,g159_0 x0 x1⟩] [] [] q K) 28 K q [] [.code b159] (entE 0 0 sig159 (x0,x1,())) (entL sig159 (x0,x1,())):=by
 unfold P159 at h
 unfold g159_0
 by_cases b0:(decide (x1<0))=true
 ·try simp only [if_pos b0] at h ⊢
  obtain ⟨s0,h⟩:=h
  obtain ⟨s1,h⟩:=h
  by_cases b1:(decide (0 - x0<0))=true
  ·try simp only [if_pos b1] at h ⊢
   obtain ⟨s2,h⟩:=h
   obtain ⟨s3,h⟩:=h
   obtain ⟨s4,h⟩:=h
   obtain ⟨s5,s6,h⟩:=h
   obtain ⟨s7,h⟩:=h
   exact AtV.ret Tryz.func159 tabOk ext159Ok mixed false [] tys159 [true,true] (a1 b0 (a1 s0 (a1 s1 (a1 b1 (a1 s2 (a1 s3 (a1 s4 (a1 s5 (a1 s6 (a1 s7 trivial)))))))))) (by kernel_rfl)
  ·try simp only [if_neg b1] at h ⊢
   replace b1:=bf_ b1
   obtain ⟨s2,h⟩:=h
   obtain ⟨s3,h⟩:=h
   obtain ⟨s4,h⟩:=h
   obtain ⟨s5,s6,h⟩:=h
   exact AtV.ret Tryz.func159 tabOk ext159Ok mixed false [] tys159 [true,false] (a1 b0 (a1 s0 (a1 s1 (a1 b1 (a1 s2 (a1 s3 (a1 s4 (a1 s5 (a1 s6 trivial))))))))) (by kernel_rfl)
 ·try simp only [if_neg b0] at h ⊢
  replace b0:=bf_ b0
  by_cases b1:(decide (x0<0))=true
  ·try simp only [if_pos b1] at h ⊢
   obtain ⟨s0,h⟩:=h
   obtain ⟨s1,h⟩:=h
   obtain ⟨s2,h⟩:=h
   obtain ⟨s3,s4,h⟩:=h
   obtain ⟨s5,h⟩:=h
   exact AtV.ret Tryz.func159 tabOk ext159Ok mixed false [] tys159 [false,true] (a1 b0 (a1 b1 (a1 s0 (a1 s1 (a1 s2 (a1 s3 (a1 s4 (a1 s5 trivial)))))))) (by kernel_rfl)
  ·try simp only [if_neg b1] at h ⊢
   replace b1:=bf_ b1
   obtain ⟨s0,h⟩:=h
   obtain ⟨s1,h⟩:=h
   obtain ⟨s2,h⟩:=h
   obtain ⟨s3,s4,h⟩:=h
   exact AtV.ret Tryz.func159 tabOk ext159Ok mixed false [] tys159 [false,false] (a1 b0 (a1 b1 (a1 s0 (a1 s1 (a1 s2 (a1 s3 (a1 s4 trivial))))))) (by kernel_rfl)
def S159:Am.Spec:={ sig:=sig159,pre:=fun ⟨x0,x1,_⟩=>P159 x0 x1,res:=fun ⟨x0,x1,_⟩=>[⟨.int .i64,g159_0 x0 x1⟩],kds:=kds159 }
theorem con159:Contract Tryz.prog 159 S159:=contract_of Tryz.func159 hb159 (bl_ (by kernel_rfl)) (fun ⟨x0,x1,_⟩ h _ K q=>at159 x0 x1 h K q)
end
end Go.Proofs.YtfpmclmpbjbmcaaGreatDoor
