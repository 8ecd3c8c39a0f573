/- Several texts in one: the functions that this law reaches, and their laws. -/
import Derived.Test.YthpljjnbniefpaaGreatDoorZ3A
import Derived.Test.YthpljjnbniefpaaGreatDoorZ3B
import Derived.Test.YthpljjnbniefpaaGreatDoorZ3C
import Derived.WalkKit
import Derived.Lib.Walk
import Derived.Lib.SliceRun
import Derived.Laws.AppendOwn
import Derived.Laws.OwnMore
import Derived.Deep.LoopGhost
import Derived.Shelf.RegionOpenPlain
import Derived.Lib.TrimByte
set_option linter.unusedVariables false
set_option linter.unusedSimpArgs false
set_option maxRecDepth 100000
namespace Go.Proofs.YthpljjnbniefpaaGreatDoor
open Go Go.Am Go.Proofs
noncomputable section
def ext67:Ext:=[(92,S92),(93,S93),(94,S94),(95,S95),(96,S96),(97,S97),(98,S98),(99,S99),(100,S100),(101,S101)]
theorem ext67Ok:ExtOk Tryz.prog ext67:=⟨⟨ca92,con92⟩,⟨ca93,con93⟩,⟨ca94,con94⟩,⟨ca95,con95⟩,⟨ca96,con96⟩,⟨ca97,con97⟩,⟨ca98,con98⟩,⟨ca99,con99⟩,⟨ca100,con100⟩,⟨ca101,con101⟩,trivial⟩
noncomputable def b67:Code:=bodyOf Tryz.f67
theorem hb67:Tryz.f67.body=some b67:=by kernel_rfl
def sig67:List AT:=[AT.v YA0]
def tys67:List Ty:=[Ty.bool]
def kds67:List RK:=[]
def oks67:List AT:=owns sig67
def P67 (x0:TyA0):Prop:=True
def g67_0 (x0:TyA0):Bool:=(if (g92_0 x0.1)=true then (if (g93_0 x0.2.1)=true then (if (g94_0 x0.2.2.1)=true then (if (g96_0 x0.2.2.2.2.1)=true then (if (g97_0 x0.2.2.2.2.2.1)=true then (if (g95_0 x0.2.2.2.1)=true then (if (g98_0 x0.2.2.2.2.2.2.1 x0.2.2.2.2.2.2.2.1 x0.2.2.2.2.2.2.2.2.1 0==0)=true then (if (g99_0 x0.2.2.2.2.2.2.2.2.2.1)=true then (if (g100_0 x0.2.2.2.2.2.2.2.2.2.2.1)=true then g101_0 x0.2.2.2.2.2.2.2.2.2.2.2.1 else false) else false) else false) else false) else (if (g95_0 x0.2.2.2.1)=true then false else false)) else (if (g95_0 x0.2.2.2.1)=true then false else false)) else (if (g96_0 x0.2.2.2.2.1)=true then (if (g97_0 x0.2.2.2.2.2.1)=true then false else false) else false)) else (if (g96_0 x0.2.2.2.2.1)=true then (if (g97_0 x0.2.2.2.2.2.1)=true then false else false) else false)) else (if (g96_0 x0.2.2.2.2.1)=true then (if (g97_0 x0.2.2.2.2.2.1)=true then false else false) else false))
theorem at67 (x0:TyA0) (h:P67 x0) (K:Ctx) (q:Nat→Value):AtV Tryz.prog 67 (PostR kds67 oks67 [⟨Ty.bool,g67_0 x0⟩] [] [] q K) 60 K q [] [.code b67] (entE 0 0 sig67 (x0,())) (entL sig67 (x0,())):=by
 unfold P67 at h
 unfold g67_0
 by_cases b0:(g92_0 x0.1)=true
 ·try simp only [if_pos b0] at h ⊢
  by_cases b1:(g93_0 x0.2.1)=true
  ·try simp only [if_pos b1] at h ⊢
   by_cases b2:(g94_0 x0.2.2.1)=true
   ·try simp only [if_pos b2] at h ⊢
    by_cases b3:(g96_0 x0.2.2.2.2.1)=true
    ·try simp only [if_pos b3] at h ⊢
     by_cases b4:(g97_0 x0.2.2.2.2.2.1)=true
     ·try simp only [if_pos b4] at h ⊢
      by_cases b5:(g95_0 x0.2.2.2.1)=true
      ·try simp only [if_pos b5] at h ⊢
       by_cases b6:(g98_0 x0.2.2.2.2.2.2.1 x0.2.2.2.2.2.2.2.1 x0.2.2.2.2.2.2.2.2.1 0==0)=true
       ·try simp only [if_pos b6] at h ⊢
        by_cases b7:(g99_0 x0.2.2.2.2.2.2.2.2.2.1)=true
        ·try simp only [if_pos b7] at h ⊢
         by_cases b8:(g100_0 x0.2.2.2.2.2.2.2.2.2.2.1)=true
         ·try simp only [if_pos b8] at h ⊢
          exact AtV.ret Tryz.func67 tabOk ext67Ok mixed false [] tys67 [true,true,true,true,true,true,true,true,true] (a1 trivial (a1 b0 (a1 trivial (a1 b1 (a1 trivial (a1 b2 (a1 trivial (a1 trivial (a1 b3 (a1 trivial (a1 b4 (a1 trivial (a1 b5 (a1 b6 (a1 trivial (a1 b7 (a1 trivial (a1 b8 (a1 trivial trivial))))))))))))))))))) (by kernel_rfl)
         ·try simp only [if_neg b8] at h ⊢
          replace b8:=Bool.eq_false_iff.2 b8
          exact AtV.ret Tryz.func67 tabOk ext67Ok mixed false [] tys67 [true,true,true,true,true,true,true,true,false] (a1 trivial (a1 b0 (a1 trivial (a1 b1 (a1 trivial (a1 b2 (a1 trivial (a1 trivial (a1 b3 (a1 trivial (a1 b4 (a1 trivial (a1 b5 (a1 b6 (a1 trivial (a1 b7 (a1 trivial (a1 b8 trivial)))))))))))))))))) (by kernel_rfl)
        ·try simp only [if_neg b7] at h ⊢
         replace b7:=Bool.eq_false_iff.2 b7
         exact AtV.ret Tryz.func67 tabOk ext67Ok mixed false [] tys67 [true,true,true,true,true,true,true,false,false] (a1 trivial (a1 b0 (a1 trivial (a1 b1 (a1 trivial (a1 b2 (a1 trivial (a1 trivial (a1 b3 (a1 trivial (a1 b4 (a1 trivial (a1 b5 (a1 b6 (a1 trivial (a1 b7 (a1 (rfl:false=false) trivial))))))))))))))))) (by kernel_rfl)
       ·try simp only [if_neg b6] at h ⊢
        replace b6:=Bool.eq_false_iff.2 b6
        exact AtV.ret Tryz.func67 tabOk ext67Ok mixed false [] tys67 [true,true,true,true,true,true,false,false,false] (a1 trivial (a1 b0 (a1 trivial (a1 b1 (a1 trivial (a1 b2 (a1 trivial (a1 trivial (a1 b3 (a1 trivial (a1 b4 (a1 trivial (a1 b5 (a1 b6 (a1 (rfl:false=false) (a1 (rfl:false=false) trivial)))))))))))))))) (by kernel_rfl)
      ·try simp only [if_neg b5] at h ⊢
       replace b5:=Bool.eq_false_iff.2 b5
       exact AtV.ret Tryz.func67 tabOk ext67Ok mixed false [] tys67 [true,true,true,true,true,false,false,false,false] (a1 trivial (a1 b0 (a1 trivial (a1 b1 (a1 trivial (a1 b2 (a1 trivial (a1 trivial (a1 b3 (a1 trivial (a1 b4 (a1 trivial (a1 b5 (a1 (rfl:false=false) (a1 (rfl:false=false) (a1 (rfl:false=false) trivial)))))))))))))))) (by kernel_rfl)
     ·try simp only [if_neg b4] at h ⊢
      replace b4:=Bool.eq_false_iff.2 b4
      by_cases b5:(g95_0 x0.2.2.2.1)=true
      ·try simp only [if_pos b5] at h ⊢
       exact AtV.ret Tryz.func67 tabOk ext67Ok mixed false [] tys67 [true,true,true,true,false,true,false,false,false] (a1 trivial (a1 b0 (a1 trivial (a1 b1 (a1 trivial (a1 b2 (a1 trivial (a1 trivial (a1 b3 (a1 trivial (a1 b4 (a1 b5 (a1 (rfl:false=false) (a1 (rfl:false=false) (a1 (rfl:false=false) trivial))))))))))))))) (by kernel_rfl)
      ·try simp only [if_neg b5] at h ⊢
       replace b5:=Bool.eq_false_iff.2 b5
       exact AtV.ret Tryz.func67 tabOk ext67Ok mixed false [] tys67 [true,true,true,true,false,false,false,false,false] (a1 trivial (a1 b0 (a1 trivial (a1 b1 (a1 trivial (a1 b2 (a1 trivial (a1 trivial (a1 b3 (a1 trivial (a1 b4 (a1 b5 (a1 (rfl:false=false) (a1 (rfl:false=false) (a1 (rfl:false=false) trivial))))))))))))))) (by kernel_rfl)
    ·try simp only [if_neg b3] at h ⊢
     replace b3:=Bool.eq_false_iff.2 b3
     by_cases b4:(g95_0 x0.2.2.2.1)=true
     ·try simp only [if_pos b4] at h ⊢
      exact AtV.ret Tryz.func67 tabOk ext67Ok mixed false [] tys67 [true,true,true,false,false,true,false,false,false] (a1 trivial (a1 b0 (a1 trivial (a1 b1 (a1 trivial (a1 b2 (a1 trivial (a1 trivial (a1 b3 (a1 (rfl:false=false) (a1 b4 (a1 (rfl:false=false) (a1 (rfl:false=false) (a1 (rfl:false=false) trivial)))))))))))))) (by kernel_rfl)
     ·try simp only [if_neg b4] at h ⊢
      replace b4:=Bool.eq_false_iff.2 b4
      exact AtV.ret Tryz.func67 tabOk ext67Ok mixed false [] tys67 [true,true,true,false,false,false,false,false,false] (a1 trivial (a1 b0 (a1 trivial (a1 b1 (a1 trivial (a1 b2 (a1 trivial (a1 trivial (a1 b3 (a1 (rfl:false=false) (a1 b4 (a1 (rfl:false=false) (a1 (rfl:false=false) (a1 (rfl:false=false) trivial)))))))))))))) (by kernel_rfl)
   ·try simp only [if_neg b2] at h ⊢
    replace b2:=Bool.eq_false_iff.2 b2
    by_cases b3:(g96_0 x0.2.2.2.2.1)=true
    ·try simp only [if_pos b3] at h ⊢
     by_cases b4:(g97_0 x0.2.2.2.2.2.1)=true
     ·try simp only [if_pos b4] at h ⊢
      exact AtV.ret Tryz.func67 tabOk ext67Ok mixed false [] tys67 [true,true,false,true,true,false,false,false,false] (a1 trivial (a1 b0 (a1 trivial (a1 b1 (a1 trivial (a1 b2 (a1 trivial (a1 b3 (a1 trivial (a1 b4 (a1 trivial (a1 (rfl:false=false) (a1 (rfl:false=false) (a1 (rfl:false=false) (a1 (rfl:false=false) trivial))))))))))))))) (by kernel_rfl)
     ·try simp only [if_neg b4] at h ⊢
      replace b4:=Bool.eq_false_iff.2 b4
      exact AtV.ret Tryz.func67 tabOk ext67Ok mixed false [] tys67 [true,true,false,true,false,false,false,false,false] (a1 trivial (a1 b0 (a1 trivial (a1 b1 (a1 trivial (a1 b2 (a1 trivial (a1 b3 (a1 trivial (a1 b4 (a1 (rfl:false=false) (a1 (rfl:false=false) (a1 (rfl:false=false) (a1 (rfl:false=false) trivial)))))))))))))) (by kernel_rfl)
    ·try simp only [if_neg b3] at h ⊢
     replace b3:=Bool.eq_false_iff.2 b3
     exact AtV.ret Tryz.func67 tabOk ext67Ok mixed false [] tys67 [true,true,false,false,false,false,false,false,false] (a1 trivial (a1 b0 (a1 trivial (a1 b1 (a1 trivial (a1 b2 (a1 trivial (a1 b3 (a1 (rfl:false=false) (a1 (rfl:false=false) (a1 (rfl:false=false) (a1 (rfl:false=false) (a1 (rfl:false=false) trivial))))))))))))) (by kernel_rfl)
  ·try simp only [if_neg b1] at h ⊢
   replace b1:=Bool.eq_false_iff.2 b1
   by_cases b2:(g96_0 x0.2.2.2.2.1)=true
   ·try simp only [if_pos b2] at h ⊢
    by_cases b3:(g97_0 x0.2.2.2.2.2.1)=true
    ·try simp only [if_pos b3] at h ⊢
     exact AtV.ret Tryz.func67 tabOk ext67Ok mixed false [] tys67 [true,false,false,true,true,false,false,false,false] (a1 trivial (a1 b0 (a1 trivial (a1 b1 (a1 (rfl:false=false) (a1 trivial (a1 b2 (a1 trivial (a1 b3 (a1 trivial (a1 (rfl:false=false) (a1 (rfl:false=false) (a1 (rfl:false=false) (a1 (rfl:false=false) trivial)))))))))))))) (by kernel_rfl)
    ·try simp only [if_neg b3] at h ⊢
     replace b3:=Bool.eq_false_iff.2 b3
     exact AtV.ret Tryz.func67 tabOk ext67Ok mixed false [] tys67 [true,false,false,true,false,false,false,false,false] (a1 trivial (a1 b0 (a1 trivial (a1 b1 (a1 (rfl:false=false) (a1 trivial (a1 b2 (a1 trivial (a1 b3 (a1 (rfl:false=false) (a1 (rfl:false=false) (a1 (rfl:false=false) (a1 (rfl:false=false) trivial))))))))))))) (by kernel_rfl)
   ·try simp only [if_neg b2] at h ⊢
    replace b2:=Bool.eq_false_iff.2 b2
    exact AtV.ret Tryz.func67 tabOk ext67Ok mixed false [] tys67 [true,false,false,false,false,false,false,false,false] (a1 trivial (a1 b0 (a1 trivial (a1 b1 (a1 (rfl:false=false) (a1 trivial (a1 b2 (a1 (rfl:false=false) (a1 (rfl:false=false) (a1 (rfl:false=false) (a1 (rfl:false=false) (a1 (rfl:false=false) trivial)))))))))))) (by kernel_rfl)
 ·try simp only [if_neg b0] at h ⊢
  replace b0:=Bool.eq_false_iff.2 b0
  by_cases b1:(g96_0 x0.2.2.2.2.1)=true
  ·try simp only [if_pos b1] at h ⊢
   by_cases b2:(g97_0 x0.2.2.2.2.2.1)=true
   ·try simp only [if_pos b2] at h ⊢
    exact AtV.ret Tryz.func67 tabOk ext67Ok mixed false [] tys67 [false,false,false,true,true,false,false,false,false] (a1 trivial (a1 b0 (a1 (rfl:false=false) (a1 (rfl:false=false) (a1 trivial (a1 b1 (a1 trivial (a1 b2 (a1 trivial (a1 (rfl:false=false) (a1 (rfl:false=false) (a1 (rfl:false=false) (a1 (rfl:false=false) trivial))))))))))))) (by kernel_rfl)
   ·try simp only [if_neg b2] at h ⊢
    replace b2:=Bool.eq_false_iff.2 b2
    exact AtV.ret Tryz.func67 tabOk ext67Ok mixed false [] tys67 [false,false,false,true,false,false,false,false,false] (a1 trivial (a1 b0 (a1 (rfl:false=false) (a1 (rfl:false=false) (a1 trivial (a1 b1 (a1 trivial (a1 b2 (a1 (rfl:false=false) (a1 (rfl:false=false) (a1 (rfl:false=false) (a1 (rfl:false=false) trivial)))))))))))) (by kernel_rfl)
  ·try simp only [if_neg b1] at h ⊢
   replace b1:=Bool.eq_false_iff.2 b1
   exact AtV.ret Tryz.func67 tabOk ext67Ok mixed false [] tys67 [false,false,false,false,false,false,false,false,false] (a1 trivial (a1 b0 (a1 (rfl:false=false) (a1 (rfl:false=false) (a1 trivial (a1 b1 (a1 (rfl:false=false) (a1 (rfl:false=false) (a1 (rfl:false=false) (a1 (rfl:false=false) (a1 (rfl:false=false) trivial))))))))))) (by kernel_rfl)
def S67:Am.Spec:={ sig:=sig67,pre:=fun ⟨x0,_⟩=>P67 x0,res:=fun ⟨x0,_⟩=>[⟨Ty.bool,g67_0 x0⟩],kds:=kds67 }
theorem con67:Contract Tryz.prog 67 S67:=contract_of Tryz.func67 hb67 (Nat.le_of_ble_eq_true (by kernel_rfl)) (fun ⟨x0,_⟩ h _ K q=>at67 x0 h K q)
end
noncomputable section
def ext102:Ext:=[(103,S103)]
theorem ext102Ok:ExtOk Tryz.prog ext102:=⟨⟨ca103,con103⟩,trivial⟩
noncomputable def b102:Code:=bodyOf Tryz.f102
theorem hb102:Tryz.f102.body=some b102:=by kernel_rfl
def sig102:List AT:=[AT.v YA2]
def tys102:List Ty:=[Ty.int .i64,Ty.int .i64,Ty.bool]
def kds102:List RK:=[]
def oks102:List AT:=owns sig102
def P102 (x0:List TyB4×Int×Int×Unit):Prop:=((P103 x0)∧((InR .i64 (g103_0 x0 - x0.2.2.1))∧((P103 x0)∧((InR .i64 (g103_0 x0 - x0.2.1))∧True))))
def g102_0 (x0:List TyB4×Int×Int×Unit):Int:=if x0.2.1<g103_0 x0 - x0.2.2.1 then g103_0 x0 - x0.2.2.1 else x0.2.1
def g102_1 (x0:List TyB4×Int×Int×Unit):Int:=if g103_0 x0 - x0.2.1<x0.2.2.1 then g103_0 x0 - x0.2.1 else x0.2.2.1
def g102_2 (x0:List TyB4×Int×Int×Unit):Bool:=decide ((if x0.2.1<g103_0 x0 - x0.2.2.1 then g103_0 x0 - x0.2.2.1 else x0.2.1)≤if g103_0 x0 - x0.2.1<x0.2.2.1 then g103_0 x0 - x0.2.1 else x0.2.2.1)
theorem at102 (x0:List TyB4×Int×Int×Unit) (h:P102 x0) (K:Ctx) (q:Nat→Value):AtV Tryz.prog 102 (PostR kds102 oks102 [⟨Ty.int .i64,g102_0 x0⟩,⟨Ty.int .i64,g102_1 x0⟩,⟨Ty.bool,g102_2 x0⟩] [] [] q K) 28 K q [] [.code b102] (entE 0 0 sig102 (x0,())) (entL sig102 (x0,())):=by
 unfold P102 at h
 unfold g102_0 g102_1 g102_2
 obtain ⟨s0,h⟩:=h
 obtain ⟨s1,h⟩:=h
 obtain ⟨s2,h⟩:=h
 obtain ⟨s3,h⟩:=h
 exact AtV.ret Tryz.func102 tabOk ext102Ok mixed false [] tys102 [] (a1 s0 (a1 s1 (a1 s2 (a1 s3 trivial)))) (by kernel_rfl)
def S102:Am.Spec:={ sig:=sig102,pre:=fun ⟨x0,_⟩=>P102 x0,res:=fun ⟨x0,_⟩=>[⟨Ty.int .i64,g102_0 x0⟩,⟨Ty.int .i64,g102_1 x0⟩,⟨Ty.bool,g102_2 x0⟩],kds:=kds102 }
theorem con102:Contract Tryz.prog 102 S102:=contract_of Tryz.func102 hb102 (Nat.le_of_ble_eq_true (by kernel_rfl)) (fun ⟨x0,_⟩ h _ K q=>at102 x0 h K q)
end
noncomputable section
def ext130:Ext:=[]
theorem ext130Ok:ExtOk Tryz.prog ext130:=trivial
noncomputable def b130:Code:=bodyOf Tryz.f130
theorem hb130:Tryz.f130.body=some b130:=by kernel_rfl
def sig130:List AT:=[AT.v (Ty.int .i64)]
def tys130:List Ty:=[Ty.int .i64]
def kds130:List RK:=[]
def oks130:List AT:=owns sig130
def P130 (x0:Int):Prop:=(if (decide (x0<0))=true then ((InR .i64 (0 - x0))∧True) else True)
def g130_0 (x0:Int):Int:=(if (decide (x0<0))=true then 0 - x0 else x0)
theorem at130 (x0:Int) (h:P130 x0) (K:Ctx) (q:Nat→Value):AtV Tryz.prog 130 (PostR kds130 oks130 [⟨Ty.int .i64,g130_0 x0⟩] [] [] q K) 8 K q [] [.code b130] (entE 0 0 sig130 (x0,())) (entL sig130 (x0,())):=by
 unfold P130 at h
 unfold g130_0
 by_cases b0:(decide (x0<0))=true
 ·try simp only [if_pos b0] at h ⊢
  obtain ⟨s0,h⟩:=h
  exact AtV.ret Tryz.func130 tabOk ext130Ok mixed false [] tys130 [true] (a1 b0 (a1 s0 trivial)) (by kernel_rfl)
 ·try simp only [if_neg b0] at h ⊢
  replace b0:=Bool.eq_false_iff.2 b0
  exact AtV.ret Tryz.func130 tabOk ext130Ok mixed false [] tys130 [false] (a1 b0 trivial) (by kernel_rfl)
def S130:Am.Spec:={ sig:=sig130,pre:=fun ⟨x0,_⟩=>P130 x0,res:=fun ⟨x0,_⟩=>[⟨Ty.int .i64,g130_0 x0⟩],kds:=kds130 }
theorem con130:Contract Tryz.prog 130 S130:=contract_of Tryz.func130 hb130 (Nat.le_of_ble_eq_true (by kernel_rfl)) (fun ⟨x0,_⟩ h _ K q=>at130 x0 h K q)
end
noncomputable section
def ext104:Ext:=[(103,S103),(130,S130)]
theorem ext104Ok:ExtOk Tryz.prog ext104:=⟨⟨ca103,con103⟩,⟨ca130,con130⟩,trivial⟩
noncomputable def b104:Code:=bodyOf Tryz.f104
theorem hb104:Tryz.f104.body=some b104:=by kernel_rfl
def sig104:List AT:=[AT.v YA2,AT.v (Ty.int .i64)]
def tys104:List Ty:=[Ty.int .i64]
def kds104:List RK:=[]
def oks104:List AT:=owns sig104
def P104 (x0:List TyB4×Int×Int×Unit) (x1:Int):Prop:=((P103 x0)∧((InR .i64 (2*x1))∧((InR .i64 (g103_0 x0 - 2*x1))∧((P130 (g103_0 x0 - 2*x1))∧True))))
def g104_0 (x0:List TyB4×Int×Int×Unit) (x1:Int):Int:=g130_0 (g103_0 x0 - 2*x1)
theorem at104 (x0:List TyB4×Int×Int×Unit) (x1:Int) (h:P104 x0 x1) (K:Ctx) (q:Nat→Value):AtV Tryz.prog 104 (PostR kds104 oks104 [⟨Ty.int .i64,g104_0 x0 x1⟩] [] [] q K) 11 K q [] [.code b104] (entE 0 0 sig104 (x0,x1,())) (entL sig104 (x0,x1,())):=by
 unfold P104 at h
 unfold g104_0
 obtain ⟨s0,h⟩:=h
 obtain ⟨s1,h⟩:=h
 obtain ⟨s2,h⟩:=h
 obtain ⟨s3,h⟩:=h
 exact AtV.ret Tryz.func104 tabOk ext104Ok mixed false [] tys104 [] (a1 s0 (a1 s1 (a1 s2 (a1 s3 trivial)))) (by kernel_rfl)
def S104:Am.Spec:={ sig:=sig104,pre:=fun ⟨x0,x1,_⟩=>P104 x0 x1,res:=fun ⟨x0,x1,_⟩=>[⟨Ty.int .i64,g104_0 x0 x1⟩],kds:=kds104 }
theorem con104:Contract Tryz.prog 104 S104:=contract_of Tryz.func104 hb104 (Nat.le_of_ble_eq_true (by kernel_rfl)) (fun ⟨x0,x1,_⟩ h _ K q=>at104 x0 x1 h K q)
end
noncomputable section
def ext69:Ext:=[(102,S102),(103,S103),(104,S104)]
theorem ext69Ok:ExtOk Tryz.prog ext69:=⟨⟨ca102,con102⟩,⟨ca103,con103⟩,⟨ca104,con104⟩,trivial⟩
noncomputable def b69:Code:=bodyOf Tryz.f69
theorem hb69:Tryz.f69.body=some b69:=by kernel_rfl
def sig69:List AT:=[AT.v YA2]
def tys69:List Ty:=[Ty.int .i64,Ty.bool]
def kds69:List RK:=[]
def oks69:List AT:=owns sig69
def P69 (x0:List TyB4×Int×Int×Unit):Prop:=((P102 x0)∧(if (!g102_2 x0)=true then ((P103 x0)∧((InR .i64 (Int.tmod (g103_0 x0) 2))∧True)) else (if (g102_0 x0==0)=true then True else ((InR .i64 (g102_0 x0 - 1))∧((P104 x0 (g102_0 x0 - 1))∧True)))))
def g69_0 (x0:List TyB4×Int×Int×Unit):Int:=(if (!g102_2 x0)=true then Int.tmod (g103_0 x0) 2 else (if (g102_0 x0==0)=true then 0 else g104_0 x0 (g102_0 x0 - 1)))
def g69_1 (x0:List TyB4×Int×Int×Unit):Bool:=(if (!g102_2 x0)=true then true else (if (g102_0 x0==0)=true then false else true))
theorem at69 (x0:List TyB4×Int×Int×Unit) (h:P69 x0) (K:Ctx) (q:Nat→Value):AtV Tryz.prog 69 (PostR kds69 oks69 [⟨Ty.int .i64,g69_0 x0⟩,⟨Ty.bool,g69_1 x0⟩] [] [] q K) 26 K q [] [.code b69] (entE 0 0 sig69 (x0,())) (entL sig69 (x0,())):=by
 unfold P69 at h
 unfold g69_0 g69_1
 obtain ⟨s0,h⟩:=h
 by_cases b0:(!g102_2 x0)=true
 ·try simp only [if_pos b0] at h ⊢
  obtain ⟨s1,h⟩:=h
  obtain ⟨s2,h⟩:=h
  exact AtV.ret Tryz.func69 tabOk ext69Ok mixed false [] tys69 [true] (a1 s0 (a1 b0 (a1 s1 (a1 ((by decide):(2:Int)≠(0:Int)) (a1 s2 trivial))))) (by kernel_rfl)
 ·try simp only [if_neg b0] at h ⊢
  replace b0:=Bool.eq_false_iff.2 b0
  by_cases b1:(g102_0 x0==0)=true
  ·try simp only [if_pos b1] at h ⊢
   exact AtV.ret Tryz.func69 tabOk ext69Ok mixed false [] tys69 [false,true] (a1 s0 (a1 b0 (a1 b1 trivial))) (by kernel_rfl)
  ·try simp only [if_neg b1] at h ⊢
   replace b1:=Bool.eq_false_iff.2 b1
   obtain ⟨s1,h⟩:=h
   obtain ⟨s2,h⟩:=h
   exact AtV.ret Tryz.func69 tabOk ext69Ok mixed false [] tys69 [false,false] (a1 s0 (a1 b0 (a1 b1 (a1 s1 (a1 s2 trivial))))) (by kernel_rfl)
def S69:Am.Spec:={ sig:=sig69,pre:=fun ⟨x0,_⟩=>P69 x0,res:=fun ⟨x0,_⟩=>[⟨Ty.int .i64,g69_0 x0⟩,⟨Ty.bool,g69_1 x0⟩],kds:=kds69 }
theorem con69:Contract Tryz.prog 69 S69:=contract_of Tryz.func69 hb69 (Nat.le_of_ble_eq_true (by kernel_rfl)) (fun ⟨x0,_⟩ h _ K q=>at69 x0 h K q)
end
noncomputable section
def ext68:Ext:=[(102,S102),(69,S69)]
theorem ext68Ok:ExtOk Tryz.prog ext68:=⟨⟨ca102,con102⟩,⟨ca69,con69⟩,trivial⟩
noncomputable def b68:Code:=bodyOf Tryz.f68
theorem hb68:Tryz.f68.body=some b68:=by kernel_rfl
def sig68:List AT:=[AT.v YA2,AT.v (Ty.int .i64)]
def tys68:List Ty:=[Ty.bool]
def kds68:List RK:=[]
def oks68:List AT:=owns sig68
def P68 (x0:List TyB4×Int×Int×Unit) (x1:Int):Prop:=((P102 x0)∧((P69 x0)∧True))
def g68_0 (x0:List TyB4×Int×Int×Unit) (x1:Int):Bool:=(if (g102_2 x0)=true then (if (!g69_1 x0)=true then true else decide (g69_0 x0≥x1)) else false)
theorem at68 (x0:List TyB4×Int×Int×Unit) (x1:Int) (h:P68 x0 x1) (K:Ctx) (q:Nat→Value):AtV Tryz.prog 68 (PostR kds68 oks68 [⟨Ty.bool,g68_0 x0 x1⟩] [] [] q K) 31 K q [] [.code b68] (entE 0 0 sig68 (x0,x1,())) (entL sig68 (x0,x1,())):=by
 unfold P68 at h
 unfold g68_0
 obtain ⟨s0,h⟩:=h
 obtain ⟨s1,h⟩:=h
 by_cases b0:(g102_2 x0)=true
 ·try simp only [if_pos b0] at h ⊢
  by_cases b1:(!g69_1 x0)=true
  ·try simp only [if_pos b1] at h ⊢
   exact AtV.ret Tryz.func68 tabOk ext68Ok mixed false [] tys68 [true,true] (a1 s0 (a1 s1 (a1 b0 (a1 b1 trivial)))) (by kernel_rfl)
  ·try simp only [if_neg b1] at h ⊢
   replace b1:=Bool.eq_false_iff.2 b1
   exact AtV.ret Tryz.func68 tabOk ext68Ok mixed false [] tys68 [true,false] (a1 s0 (a1 s1 (a1 b0 (a1 b1 trivial)))) (by kernel_rfl)
 ·try simp only [if_neg b0] at h ⊢
  replace b0:=Bool.eq_false_iff.2 b0
  exact AtV.ret Tryz.func68 tabOk ext68Ok mixed false [] tys68 [false] (a1 s0 (a1 s1 (a1 b0 trivial))) (by kernel_rfl)
def S68:Am.Spec:={ sig:=sig68,pre:=fun ⟨x0,x1,_⟩=>P68 x0 x1,res:=fun ⟨x0,x1,_⟩=>[⟨Ty.bool,g68_0 x0 x1⟩],kds:=kds68 }
theorem con68:Contract Tryz.prog 68 S68:=contract_of Tryz.func68 hb68 (Nat.le_of_ble_eq_true (by kernel_rfl)) (fun ⟨x0,x1,_⟩ h _ K q=>at68 x0 x1 h K q)
end
def sig105:List AT:=[AT.v (Ty.int .i64),AT.v (Ty.int .i64)]
def g105_0 (x0 x1:Int):ByteArray:=numB x0
def P105 (x0 x1:Int):Prop:=x1=10
def S105:Am.Spec:={ sig:=sig105,pre:=fun ⟨x0,x1,_⟩=>P105 x0 x1,res:=fun ⟨x0,x1,_⟩=>[⟨Ty.str,g105_0 x0 x1⟩] }
theorem con105:Contract Tryz.prog 105 S105:=contract_flat rfl fun w ⟨x0,x1,_⟩ vs bss hg hp hw ha=>by
 obtain ⟨v0,s0,_,_,rfl,_,⟨_,rfl,hi⟩,v1,s1,_,_,rfl,_,⟨_,rfl,_⟩,rfl,_⟩:=ha
 obtain rfl:x1=10:=hp
 have hi:InR .i64 x0:=hi
 rw [i64_iff] at hi
 refine ⟨fun d hd => ?_,?_⟩
 ·rw [List.mem_singleton.1 hd]
  refine ⟨rfl,?_⟩
  show (numB x0).size≤maxLen
  have:=numB_size x0 hi.1 hi.2
  unfold maxLen;omega
 ·refine (Tryz.strconv_FormatInt_10 x0 hi.1 hi.2 w (pow10G hg)).mono ?_
  rintro e w' ⟨rfl,n,os,rfl⟩
  exact ⟨rfl,kept_grow _ _ _⟩
noncomputable section
def ext70:Ext:=[(105,S105)]
theorem ext70Ok:ExtOk Tryz.prog ext70:=⟨⟨ca105,con105⟩,trivial⟩
noncomputable def b70:Code:=bodyOf Tryz.f70
theorem hb70:Tryz.f70.body=some b70:=by kernel_rfl
def sig70:List AT:=[AT.v (Ty.int .i64)]
def tys70:List Ty:=[Ty.str]
def kds70:List RK:=[]
def oks70:List AT:=owns sig70
def P70 (x0:Int):Prop:=((P105 x0 10)∧True)
def g70_0 (x0:Int):ByteArray:=g105_0 x0 10
theorem at70 (x0:Int) (h:P70 x0) (K:Ctx) (q:Nat→Value):AtV Tryz.prog 70 (PostR kds70 oks70 [⟨Ty.str,g70_0 x0⟩] [] [] q K) 5 K q [] [.code b70] (entE 0 0 sig70 (x0,())) (entL sig70 (x0,())):=by
 unfold P70 at h
 unfold g70_0
 obtain ⟨s0,h⟩:=h
 exact AtV.ret Tryz.func70 tabOk ext70Ok mixed false [] tys70 [] (a1 s0 trivial) (by kernel_rfl)
def S70:Am.Spec:={ sig:=sig70,pre:=fun ⟨x0,_⟩=>P70 x0,res:=fun ⟨x0,_⟩=>[⟨Ty.str,g70_0 x0⟩],kds:=kds70 }
theorem con70:Contract Tryz.prog 70 S70:=contract_of Tryz.func70 hb70 (Nat.le_of_ble_eq_true (by kernel_rfl)) (fun ⟨x0,_⟩ h _ K q=>at70 x0 h K q)
end
noncomputable section
def ext152:Ext:=[]
theorem ext152Ok:ExtOk Tryz.prog ext152:=trivial
noncomputable def b152:Code:=bodyOf Tryz.f152
theorem hb152:Tryz.f152.body=some b152:=by kernel_rfl
def sig152:List AT:=[AT.v (Ty.int .i64),AT.p (.cons (.int .i64) (.cons (.int .i64) (.cons (.int .i64) (.cons (.int .i64) .unit)))),AT.p (.int .i64)]
def tys152:List Ty:=[Ty.bool]
def kds152:List RK:=[]
def oks152:List AT:=owns sig152
def P152 (x0:Int) (x1:Int×Int×Int×Int×Unit) (x2:Int):Prop:=((InR .i64 (x0*x0))∧((InR .i64 (x1.2.2.1*x1.2.2.1))∧((InR .i64 (2*x1.1))∧((InR .i64 (x2 - x0))∧((InR .i64 (x2 - x0 - x1.2.2.2.1))∧((InR .i64 (2*x1.1*if 0<x2 - x0 - x1.2.2.2.1 then x2 - x0 - x1.2.2.2.1 else 0))∧((InR .i64 (x1.2.2.1*x1.2.2.1+2*x1.1*if 0<x2 - x0 - x1.2.2.2.1 then x2 - x0 - x1.2.2.2.1 else 0))∧True)))))))
def g152_0 (x0:Int) (x1:Int×Int×Int×Int×Unit) (x2:Int):Bool:=decide (x0*x0>x1.2.2.1*x1.2.2.1+2*x1.1*if 0<x2 - x0 - x1.2.2.2.1 then x2 - x0 - x1.2.2.2.1 else 0)
theorem at152 (x0:Int) (x1:Int×Int×Int×Int×Unit) (x2:Int) (h:P152 x0 x1 x2) (K:Ctx) (q:Nat→Value):AtV Tryz.prog 152 (PostR kds152 oks152 [⟨Ty.bool,g152_0 x0 x1 x2⟩] [] [] q K) 26 K q [] [.code b152] (entE 0 0 sig152 (x0,x1,x2,())) (entL sig152 (x0,x1,x2,())):=by
 unfold P152 at h
 unfold g152_0
 obtain ⟨s0,h⟩:=h
 obtain ⟨s1,h⟩:=h
 obtain ⟨s2,h⟩:=h
 obtain ⟨s3,h⟩:=h
 obtain ⟨s4,h⟩:=h
 obtain ⟨s5,h⟩:=h
 obtain ⟨s6,h⟩:=h
 exact AtV.ret Tryz.func152 tabOk ext152Ok mixed false [] tys152 [] (a1 s0 (a1 s1 (a1 s2 (a1 s3 (a1 s4 (a1 s5 (a1 s6 trivial))))))) (by kernel_rfl)
def S152:Am.Spec:={ sig:=sig152,pre:=fun ⟨x0,x1,x2,_⟩=>P152 x0 x1 x2,res:=fun ⟨x0,x1,x2,_⟩=>[⟨Ty.bool,g152_0 x0 x1 x2⟩],kds:=kds152 }
theorem con152:Contract Tryz.prog 152 S152:=contract_of Tryz.func152 hb152 (Nat.le_of_ble_eq_true (by kernel_rfl)) (fun ⟨x0,x1,x2,_⟩ h _ K q=>at152 x0 x1 x2 h K q)
end
def bsI (C:Int→Bool):Nat→Int→Int→Int
 | 0,lo,_=>lo
 | n+1,lo,e=>if lo<e then (if C (Int.tdiv (lo+e) 2)=true then bsI C n lo (Int.tdiv (lo+e) 2) else bsI C n (Int.tdiv (lo+e) 2+1) e) else lo
theorem half_in {lo e:Int} (h0:0≤lo) (h:lo<e):lo≤Int.tdiv (lo+e) 2∧Int.tdiv (lo+e) 2<e:=by
 rw [Int.tdiv_eq_ediv_of_nonneg (by omega)]
 omega
theorem bsI_ok (C:Int→Bool) (l0 e0:Int):∀ (n:Nat) (lo e:Int),0≤lo→lo≤e→e - lo≤(n:Int)→(e=e0∨C e=true)→(lo=l0∨C (lo - 1)=false)→l0≤lo→e≤e0 →
  l0≤bsI C n lo e∧bsI C n lo e≤e0∧(bsI C n lo e=e0∨C (bsI C n lo e)=true)∧(bsI C n lo e=l0∨C (bsI C n lo e - 1)=false)
 | 0,lo,e,h0,h1,h2,h3,h4,h5,h6=>by
  obtain rfl:e=lo:=by omega
  exact ⟨h5,h6,h3,h4⟩
 | n+1,lo,e,h0,h1,h2,h3,h4,h5,h6=>by
  unfold bsI
  by_cases h:lo<e
  ·obtain ⟨m1,m2⟩:=half_in h0 h
   rw [if_pos h]
   by_cases hc:C (Int.tdiv (lo+e) 2)=true
   ·rw [if_pos hc]
    exact bsI_ok C l0 e0 n lo _ h0 m1 (by omega) (.inr hc) h4 h5 (by omega)
   ·rw [if_neg hc]
    refine bsI_ok C l0 e0 n _ e (by omega) (by omega) (by omega) h3 (.inr ?_) (by omega) h6
    rw [Int.add_sub_cancel]
    exact Bool.eq_false_iff.2 hc
  ·rw [if_neg h]
   obtain rfl:e=lo:=by omega
   exact ⟨h5,h6,h3,h4⟩
def bsS (M:Int→Bool):Nat→Int→Int→Int
 | 0,lo,_=>lo
 | n+1,lo,hi=>if lo<hi then (if M (Int.tdiv (lo+hi+1) 2)=true then bsS M n (Int.tdiv (lo+hi+1) 2) hi else bsS M n lo (Int.tdiv (lo+hi+1) 2 - 1)) else lo
theorem half_up {lo hi:Int} (h0:0≤lo) (h:lo<hi):lo<Int.tdiv (lo+hi+1) 2∧Int.tdiv (lo+hi+1) 2≤hi:=by
 rw [Int.tdiv_eq_ediv_of_nonneg (by omega)]
 omega
theorem bsS_ok (M:Int→Bool) (l0 h9:Int):∀ (n:Nat) (lo hi:Int),0≤lo→lo≤hi→hi - lo≤(n:Int)→(lo=l0∨M lo=true)→(hi=h9∨M (hi+1)=false)→l0≤lo→hi≤h9 →
  l0≤bsS M n lo hi∧bsS M n lo hi≤h9∧(bsS M n lo hi=l0∨M (bsS M n lo hi)=true)∧(bsS M n lo hi=h9∨M (bsS M n lo hi+1)=false)
 | 0,lo,hi,h0,h1,h2,h3,h4,h5,h6=>by
  obtain rfl:hi=lo:=by omega
  exact ⟨h5,h6,h3,h4⟩
 | n+1,lo,hi,h0,h1,h2,h3,h4,h5,h6=>by
  unfold bsS
  by_cases h:lo<hi
  ·obtain ⟨m1,m2⟩:=half_up h0 h
   rw [if_pos h]
   by_cases hc:M (Int.tdiv (lo+hi+1) 2)=true
   ·rw [if_pos hc]
    exact bsS_ok M l0 h9 n _ hi (by omega) m2 (by omega) (.inr hc) h4 (by omega) h6
   ·rw [if_neg hc]
    refine bsS_ok M l0 h9 n lo _ h0 (by omega) (by omega) h3 (.inr ?_) h5 (by omega)
    rw [Int.sub_add_cancel]
    exact Bool.eq_false_iff.2 hc
  ·rw [if_neg h]
   obtain rfl:hi=lo:=by omega
   exact ⟨h5,h6,h3,h4⟩
theorem bs_same (M C:Int→Bool) (c h:Int) (n m:Nat) (hc:0≤c) (hh:c<h) (hn:h+1 - c≤(n:Int)) (hm:h - c≤(m:Int)) (hCM:∀ v,c≤v→v≤h→C v = !M v) (h0:M c=true) (hmono:∀ v v',c≤v→v≤v'→v'≤h→M v'=true→M v=true) :
  bsI C n c (h+1) - 1=bsS M m c h:=by
 obtain ⟨a1,a2,a3,a4⟩:=bsI_ok C c (h+1) n c (h+1) hc (by omega) hn (.inl rfl) (.inl rfl) (Int.le_refl _) (Int.le_refl _)
 obtain ⟨b1,b2,b3,b4⟩:=bsS_ok M c h m c h hc (by omega) hm (.inl rfl) (.inl rfl) (Int.le_refl _) (Int.le_refl _)
 generalize bsI C n c (h+1)=r at *
 generalize bsS M m c h=s at *
 have hs:M s=true:=by
  rcases b3 with rfl | b3
  ·exact h0
  ·exact b3
 have hr:r≠c:=by
  rintro rfl
  rcases a3 with a3 | a3
  ·omega
  ·rw [hCM r (Int.le_refl _) (by omega),h0] at a3
   cases a3
 have hr1:M (r - 1)=true:=by
  rcases a4 with a4 | a4
  ·exact absurd a4 hr
  ·rw [hCM (r - 1) (by omega) (by omega)] at a4
   simpa using a4
 rcases Int.lt_trichotomy (r - 1) s with hlt | heq | hgt
 ·rcases a3 with a3 | a3
  ·omega
  ·rw [hCM r (by omega) (by omega)] at a3
   rw [hmono r s (by omega) (by omega) b2 hs] at a3
   cases a3
 ·exact heq
 ·rcases b4 with b4 | b4
  ·omega
  ·rw [hmono (s+1) (r - 1) (by omega) (by omega) (by omega) hr1] at b4
   cases b4
noncomputable section
def ext151c152:Ext:=[(152,S152)]
theorem ext151c152Ok:ExtOk Tryz.prog ext151c152:=⟨⟨ca152,con152⟩,trivial⟩
noncomputable def b151c152:Code:=bodyOf Tryz.f151
theorem hb151c152:Tryz.f151.body=some b151c152:=by kernel_rfl
def sig151c152:List AT:=[AT.v (Ty.int .i64),AT.v (Ty.int .i64),AT.fn 152 [(true,(.cons (.int .i64) (.cons (.int .i64) (.cons (.int .i64) (.cons (.int .i64) .unit))))),(true,(.int .i64))]]
def tys151c152:List Ty:=[Ty.int .i64]
def kds151c152:List RK:=[]
def oks151c152:List AT:=owns sig151c152
def E151c152_2 (v7:Int) (x0:Int) (x2:Int×Int×Int×Int×Unit) (x2c:Int):Env:=[(0,PV.a (Atom.val (Value.int .i64 x0))),(2,PV.fn 152 [Atom.ptr YA4 x2,Atom.ptr (Ty.int .i64) x2c]),(7,PV.a (Atom.val (Value.int .i64 v7)))]
def L151c152_2 (v7:Int) (x0:Int) (x2:Int×Int×Int×Int×Unit) (x2c:Int):Heap:=[]
mutual
def R151c152:Nat→Int→Int→Int×Int×Int×Int×Unit→Int→List Dyn→Prop
 | 0,_,_,_,_,_=>False
 | n+1,x0,x1,x2,x2c,ds=>((InR .i64 (x1+1))∧(R151c152_2 n (x1+1) (x0) (x2) (x2c) ds))
def R151c152_2:Nat→Int→Int→Int×Int×Int×Int×Unit→Int→List Dyn→Prop
 | 0,_,_,_,_,_=>False
 | n+1,v7,x0,x2,x2c,ds=>(if (decide (x0<v7))=true then ((InR .i64 (x0+v7))∧((InR .i64 (Int.tdiv (x0+v7) 2))∧((P152 (Int.tdiv (x0+v7) 2) x2 x2c)∧(if (g152_0 (Int.tdiv (x0+v7) 2) x2 x2c)=true then (R151c152_2 n (Int.tdiv (x0+v7) 2) (x0) (x2) (x2c) ds) else ((InR .i64 (Int.tdiv (x0+v7) 2+1))∧(R151c152_2 n (v7) (Int.tdiv (x0+v7) 2+1) (x2) (x2c) ds)))))) else (ds=[Dyn.mk (Ty.int .i64) x0]))
end
theorem snd151c152:∀ n,(∀ (x0:Int) (x1:Int) (x2:Int×Int×Int×Int×Unit) (x2c:Int) ds,R151c152 n x0 x1 x2 x2c ds→∀ K q,AtV Tryz.prog 151 (PostR kds151c152 oks151c152 ds [] [] q K) 25 K q [] [.code b151c152] (entE 0 0 sig151c152 (x0,x1,(x2,x2c,()),())) (entL sig151c152 (x0,x1,(x2,x2c,()),())))∧(∀ (v7:Int) (x0:Int) (x2:Int×Int×Int×Int×Unit) (x2c:Int) ds,R151c152_2 n v7 x0 x2 x2c ds→∀ K q,AtV Tryz.prog 151 (PostR kds151c152 oks151c152 ds [] [] q K) 25 K q [] (cutAt b151c152 2) (E151c152_2 v7 x0 x2 x2c) (L151c152_2 v7 x0 x2 x2c)):=by
 intro n
 induction n with
 | zero=>exact ⟨fun _ _ _ _ _ h=>by simp only [R151c152] at h,fun _ _ _ _ _ h=>by simp only [R151c152_2] at h⟩
 | succ n ih =>
 obtain ⟨ih,ih2⟩:=ih
 refine ⟨?_,?_⟩
 ·intro x0 x1 x2 x2c ds h K q
  rw [R151c152] at h
  obtain ⟨s0,h⟩:=h
  exact AtV.go tabOk ext151c152Ok mixed false [] [] [0,2,7] [] [] (a1 s0 trivial) (ih2 _ _ _ _ _ h K q) (by kernel_rfl)
 ·intro v7 x0 x2 x2c ds h K q
  rw [R151c152_2] at h
  by_cases b0:(decide (x0<v7))=true
  ·rw [if_pos b0] at h
   obtain ⟨s0,h⟩:=h
   obtain ⟨s1,h⟩:=h
   obtain ⟨s2,h⟩:=h
   by_cases b1:(g152_0 (Int.tdiv (x0+v7) 2) x2 x2c)=true
   ·rw [if_pos b1] at h
    exact AtV.go tabOk ext151c152Ok mixed false [] [] [0,2,7] [] [true,true] (a1 b0 (a1 s0 (a1 ((by decide):(2:Int)≠(0:Int)) (a1 s1 (a1 s2 (a1 b1 trivial)))))) (ih2 _ _ _ _ _ h K q) (by kernel_rfl)
   ·rw [if_neg b1] at h
    replace b1:=Bool.eq_false_iff.2 b1
    obtain ⟨s3,h⟩:=h
    exact AtV.go tabOk ext151c152Ok mixed false [] [] [0,2,7] [] [true,false] (a1 b0 (a1 s0 (a1 ((by decide):(2:Int)≠(0:Int)) (a1 s1 (a1 s2 (a1 b1 (a1 s3 trivial))))))) (ih2 _ _ _ _ _ h K q) (by kernel_rfl)
  ·rw [if_neg b0] at h
   replace b0:=Bool.eq_false_iff.2 b0
   subst h
   exact AtV.ret Tryz.func151 tabOk ext151c152Ok mixed false [] tys151c152 [false] (a1 b0 trivial) (by kernel_rfl)
def g151c152_0 (x0 x1:Int) (y0:Int×Int×Int×Int×Unit) (y1:Int):Int:=bsI (fun x=>g152_0 x y0 y1) (x1+1 - x0).toNat x0 (x1+1)
def P151c152 (x0 x1:Int) (y0:Int×Int×Int×Int×Unit) (y1:Int):Prop:=(0≤x0∧x0≤x1+1∧x1≤1000000000)∧∀ v,0≤v→v≤x1→P152 v y0 y1
theorem run151c152 (y0:Int×Int×Int×Int×Unit) (y1:Int) (e9:Int) (he:e9≤1000000000) (hp:∀ v,0≤v→v≤e9→P152 v y0 y1):∀ (k:Nat) (lo e:Int),0≤lo→lo≤e→e≤e9+1→e - lo≤(k:Int)→R151c152_2 (k+1) e lo y0 y1 [⟨.int .i64,bsI (fun x=>g152_0 x y0 y1) k lo e⟩]:=by
 intro k
 induction k with
 | zero =>
  intro lo e h0 h1 h2 h3
  rw [R151c152_2,if_neg (by simp only [decide_eq_true_eq];omega)]
  rfl
 | succ k ih =>
  intro lo e h0 h1 h2 h3
  unfold bsI
  by_cases hlt:lo<e
  ·obtain ⟨m1,m2⟩:=half_in h0 hlt
   rw [R151c152_2,if_pos (by simpa using hlt),if_pos hlt]
   refine ⟨by rw [i64_iff];omega,by rw [i64_iff];omega,hp _ (by omega) (by omega),?_⟩
   split
   ·exact ih lo _ h0 m1 (by omega) (by omega)
   ·exact ⟨by rw [i64_iff];omega,ih _ e (by omega) (by omega) h2 (by omega)⟩
  ·rw [R151c152_2,if_neg (by simpa using hlt),if_neg hlt]
theorem top151c152 (x0 x1:Int) (y0:Int×Int×Int×Int×Unit) (y1:Int) (h:P151c152 x0 x1 y0 y1):R151c152 ((x1+1 - x0).toNat+1+1) x0 x1 y0 y1 [⟨.int .i64,g151c152_0 x0 x1 y0 y1⟩]:=by
 obtain ⟨⟨h1,h2,h3⟩,hp⟩:=h
 rw [R151c152]
 exact ⟨by rw [i64_iff];omega,run151c152 y0 y1 x1 h3 hp _ _ _ h1 h2 (by omega) (by omega)⟩
def S151c152:Am.Spec:={ sig:=sig151c152,pre:=fun ⟨x0,x1,⟨y0,y1,_⟩,_⟩=>P151c152 x0 x1 y0 y1,res:=fun ⟨x0,x1,⟨y0,y1,_⟩,_⟩=>[⟨.int .i64,g151c152_0 x0 x1 y0 y1⟩] }
theorem con151c152:Contract Tryz.prog 151 S151c152:=contract_of Tryz.func151 hb151c152 (Nat.le_of_ble_eq_true (by kernel_rfl)) (fun ⟨x0,x1,⟨y0,y1,_⟩,_⟩ h hwf K q =>
 (snd151c152 _).1 x0 x1 y0 y1 _ (top151c152 x0 x1 y0 y1 h) K q)
end
noncomputable section
def ext132:Ext:=[(151,S151c152)]
theorem ext132Ok:ExtOk Tryz.prog ext132:=⟨⟨ca151,con151c152⟩,trivial⟩
noncomputable def b132:Code:=bodyOf Tryz.f132
theorem hb132:Tryz.f132.body=some b132:=by kernel_rfl
def sig132:List AT:=[AT.v YA4,AT.v (Ty.int .i64),AT.v (Ty.int .i64)]
def tys132:List Ty:=[Ty.int .i64]
def kds132:List RK:=[]
def oks132:List AT:=owns sig132
def P132 (x0:Int×Int×Int×Int×Unit) (x1:Int) (x2:Int):Prop:=((InR .i64 (x1+x0.1))∧(if (decide ((if x1+x0.1<x0.2.1 then x1+x0.1 else x0.2.1)>x0.2.2.1))=true then ((P151c152 x0.2.2.1 (if x1+x0.1<x0.2.1 then x1+x0.1 else x0.2.1) x0 x2)∧((InR .i64 (g151c152_0 x0.2.2.1 (if x1+x0.1<x0.2.1 then x1+x0.1 else x0.2.1) x0 x2 - 1))∧True)) else True))
def g132_0 (x0:Int×Int×Int×Int×Unit) (x1:Int) (x2:Int):Int:=(if (decide ((if x1+x0.1<x0.2.1 then x1+x0.1 else x0.2.1)>x0.2.2.1))=true then if x2<g151c152_0 x0.2.2.1 (if x1+x0.1<x0.2.1 then x1+x0.1 else x0.2.1) x0 x2 - 1 then x2 else g151c152_0 x0.2.2.1 (if x1+x0.1<x0.2.1 then x1+x0.1 else x0.2.1) x0 x2 - 1 else if x2<x0.2.2.1 then x2 else x0.2.2.1)
theorem at132 (x0:Int×Int×Int×Int×Unit) (x1:Int) (x2:Int) (h:P132 x0 x1 x2) (K:Ctx) (q:Nat→Value):AtV Tryz.prog 132 (PostR kds132 oks132 [⟨Ty.int .i64,g132_0 x0 x1 x2⟩] [] [] q K) 31 K q [] [.code b132] (entE 0 0 sig132 (x0,x1,x2,())) (entL sig132 (x0,x1,x2,())):=by
 unfold P132 at h
 unfold g132_0
 obtain ⟨s0,h⟩:=h
 by_cases b0:(decide ((if x1+x0.1<x0.2.1 then x1+x0.1 else x0.2.1)>x0.2.2.1))=true
 ·try simp only [if_pos b0] at h ⊢
  obtain ⟨s1,h⟩:=h
  obtain ⟨s2,h⟩:=h
  exact AtV.ret Tryz.func132 tabOk ext132Ok mixed false [] tys132 [true] (a1 s0 (a1 b0 (a1 s1 (a1 s2 trivial)))) (by kernel_rfl)
 ·try simp only [if_neg b0] at h ⊢
  replace b0:=Bool.eq_false_iff.2 b0
  exact AtV.ret Tryz.func132 tabOk ext132Ok mixed false [] tys132 [false] (a1 s0 (a1 b0 trivial)) (by kernel_rfl)
def S132:Am.Spec:={ sig:=sig132,pre:=fun ⟨x0,x1,x2,_⟩=>P132 x0 x1 x2,res:=fun ⟨x0,x1,x2,_⟩=>[⟨Ty.int .i64,g132_0 x0 x1 x2⟩],kds:=kds132 }
theorem con132:Contract Tryz.prog 132 S132:=contract_of Tryz.func132 hb132 (Nat.le_of_ble_eq_true (by kernel_rfl)) (fun ⟨x0,x1,x2,_⟩ h _ K q=>at132 x0 x1 x2 h K q)
end
def worstL (down:Bool) (g:Int) (xs:List TyB4):Int:=xs.foldl (fun g x=>if down=true then (if g<x.2.1 then x.2.1 else g) else (if x.2.1<g then x.2.1 else g)) g
theorem worst_cons (down:Bool) (g:Int) (x:Int×Int×Unit) (xs:List TyB4):worstL down g (x :: xs)=worstL down (if down=true then (if g<x.2.1 then x.2.1 else g) else (if x.2.1<g then x.2.1 else g)) xs:=rfl
theorem worst_mem (down:Bool):∀ (xs:List TyB4) (g:Int),worstL down g xs=g∨∃ x∈xs,worstL down g xs=x.2.1
 | [],g => .inl rfl
 | x :: xs,g=>by
  rw [worst_cons]
  rcases worst_mem down xs (if down=true then (if g<x.2.1 then x.2.1 else g) else (if x.2.1<g then x.2.1 else g)) with h | ⟨y,hy,h⟩
  ·rw [h]
   split
   ·split
    ·exact .inr ⟨x,List.mem_cons_self .., rfl⟩
    ·exact .inl rfl
   ·split
    ·exact .inr ⟨x,List.mem_cons_self .., rfl⟩
    ·exact .inl rfl
  ·exact .inr ⟨y,List.mem_cons_of_mem _ hy,h⟩
theorem worst_le:∀ (xs:List TyB4) (g:Int),(g≤worstL true g xs∧∀ x∈xs,x.2.1≤worstL true g xs)∧(worstL false g xs≤g∧∀ x∈xs,worstL false g xs≤x.2.1)
 | [],g=>⟨⟨Int.le_refl _,fun x hx=>by cases hx⟩,Int.le_refl _,fun x hx=>by cases hx⟩
 | x :: xs,g=>by
  rw [worst_cons,worst_cons]
  simp only [if_true,Bool.false_eq_true,if_false]
  obtain ⟨⟨a1,a2⟩,_⟩:=worst_le xs (if g<x.2.1 then x.2.1 else g)
  obtain ⟨_,b1,b2⟩:=worst_le xs (if x.2.1<g then x.2.1 else g)
  have c1:g≤(if g<x.2.1 then x.2.1 else g)∧x.2.1≤(if g<x.2.1 then x.2.1 else g):=by split <;> omega
  have c2:(if x.2.1<g then x.2.1 else g)≤g∧(if x.2.1<g then x.2.1 else g)≤x.2.1:=by split <;> omega
  refine ⟨⟨Int.le_trans c1.1 a1,fun y hy => ?_⟩,Int.le_trans b1 c2.1,fun y hy => ?_⟩
  ·rcases List.mem_cons.1 hy with rfl | hy
   ·exact Int.le_trans c1.2 a1
   ·exact a2 y hy
  ·rcases List.mem_cons.1 hy with rfl | hy
   ·exact Int.le_trans b1 c2.2
   ·exact b2 y hy
theorem worst_same (down:Bool) (xs:List TyB4) (g g':Int) (h:∃ x∈xs,g=x.2.1) (h':∃ x∈xs,g'=x.2.1):worstL down g xs=worstL down g' xs:=by
 obtain ⟨x,hx,rfl⟩:=h
 obtain ⟨y,hy,rfl⟩:=h'
 have w1:∃ z∈xs,worstL down x.2.1 xs=z.2.1:=by
  rcases worst_mem down xs x.2.1 with h | h
  ·exact ⟨x,hx,h⟩
  ·exact h
 have w2:∃ z∈xs,worstL down y.2.1 xs=z.2.1:=by
  rcases worst_mem down xs y.2.1 with h | h
  ·exact ⟨y,hy,h⟩
  ·exact h
 obtain ⟨z1,m1,e1⟩:=w1
 obtain ⟨z2,m2,e2⟩:=w2
 obtain ⟨⟨_,a⟩,_,b⟩:=worst_le xs x.2.1
 obtain ⟨⟨_,c⟩,_,d⟩:=worst_le xs y.2.1
 cases down with
 | true=>have:=a z2 m2;have:=c z1 m1;omega
 | false=>have:=b z2 m2;have:=d z1 m1;omega
noncomputable section
def ext134:Ext:=[]
theorem ext134Ok:ExtOk Tryz.prog ext134:=trivial
noncomputable def b134:Code:=bodyOf Tryz.f134
theorem hb134:Tryz.f134.body=some b134:=by kernel_rfl
def sig134:List AT:=[AT.v YA2,AT.v (Ty.bool)]
def tys134:List Ty:=[Ty.int .i64]
def kds134:List RK:=[]
def oks134:List AT:=owns sig134
def E134_3 (v5:Int) (v16:Int) (x1:Bool) (x0:List TyB4×Int×Int×Unit):Env:=[(1,PV.a (Atom.val (Value.bool x1))),(5,PV.a (Atom.val (Value.int .i64 v5))),(14,PV.a (Atom.sl YA9 x0.1)),(15,PV.a (Atom.val (Value.int .i64 (↑(List.length x0.1):Int)))),(16,PV.a (Atom.val (Value.int .i64 v16)))]
def L134_3 (v5:Int) (v16:Int) (x1:Bool) (x0:List TyB4×Int×Int×Unit):Heap:=[]
mutual
def R134:Nat→List TyB4×Int×Int×Unit→Bool→List Dyn→Prop
 | 0,_,_,_=>False
 | n+1,x0,x1,ds=>((0<(↑(List.length x0.1):Int))∧(R134_3 n (List.getD x0.1 0 (0,0,())).2.1 (0) (x1) (x0) ds))
def R134_3:Nat→Int→Int→Bool→List TyB4×Int×Int×Unit→List Dyn→Prop
 | 0,_,_,_,_,_=>False
 | n+1,v5,v16,x1,x0,ds=>(if (decide (v16<(↑(List.length x0.1):Int)))=true then ((0≤v16)∧(v16<(↑(List.length x0.1):Int))∧(if (x1)=true then ((InR .i64 (v16+1))∧(R134_3 n (if v5<(List.getD x0.1 (Int.toNat v16) (0,0,())).2.1 then (List.getD x0.1 (Int.toNat v16) (0,0,())).2.1 else v5) (v16+1) (x1) (x0) ds)) else ((InR .i64 (v16+1))∧(R134_3 n (if (List.getD x0.1 (Int.toNat v16) (0,0,())).2.1<v5 then (List.getD x0.1 (Int.toNat v16) (0,0,())).2.1 else v5) (v16+1) (x1) (x0) ds)))) else (ds=[Dyn.mk (Ty.int .i64) v5]))
end
theorem snd134:∀ n,(∀ (x0:List TyB4×Int×Int×Unit) (x1:Bool) ds,R134 n x0 x1 ds→∀ K q,AtV Tryz.prog 134 (PostR kds134 oks134 ds [] [] q K) 31 K q [] [.code b134] (entE 0 0 sig134 (x0,x1,())) (entL sig134 (x0,x1,())))∧(∀ (v5:Int) (v16:Int) (x1:Bool) (x0:List TyB4×Int×Int×Unit) ds,R134_3 n v5 v16 x1 x0 ds→∀ K q,AtV Tryz.prog 134 (PostR kds134 oks134 ds [] [] q K) 31 K q [] (cutAt b134 3) (E134_3 v5 v16 x1 x0) (L134_3 v5 v16 x1 x0)):=by
 intro n
 induction n with
 | zero=>exact ⟨fun _ _ _ h=>by simp only [R134] at h,fun _ _ _ _ _ h=>by simp only [R134_3] at h⟩
 | succ n ih =>
 obtain ⟨ih,ih3⟩:=ih
 refine ⟨?_,?_⟩
 ·intro x0 x1 ds h K q
  rw [R134] at h
  obtain ⟨s0,h⟩:=h
  exact AtV.go tabOk ext134Ok mixed false [] [] [1,5,14,15,16] [] [] (a1 ((by decide):(0:Int)≤(0:Int)) (a1 s0 trivial)) (ih3 _ _ _ _ _ h K q) (by kernel_rfl)
 ·intro v5 v16 x1 x0 ds h K q
  rw [R134_3] at h
  by_cases b0:(decide (v16<(↑(List.length x0.1):Int)))=true
  ·rw [if_pos b0] at h
   obtain ⟨s0,s1,h⟩:=h
   by_cases b1:(x1)=true
   ·rw [if_pos b1] at h
    obtain ⟨s2,h⟩:=h
    exact AtV.go tabOk ext134Ok mixed false [] [] [1,5,14,15,16] [] [true,true] (a1 b0 (a1 s0 (a1 s1 (a1 b1 (a1 s2 trivial))))) (ih3 _ _ _ _ _ h K q) (by kernel_rfl)
   ·rw [if_neg b1] at h
    replace b1:=Bool.eq_false_iff.2 b1
    obtain ⟨s2,h⟩:=h
    exact AtV.go tabOk ext134Ok mixed false [] [] [1,5,14,15,16] [] [true,false] (a1 b0 (a1 s0 (a1 s1 (a1 b1 (a1 s2 trivial))))) (ih3 _ _ _ _ _ h K q) (by kernel_rfl)
  ·rw [if_neg b0] at h
   replace b0:=Bool.eq_false_iff.2 b0
   subst h
   exact AtV.ret Tryz.func134 tabOk ext134Ok mixed false [] tys134 [false] (a1 b0 trivial) (by kernel_rfl)
def g134_0 (x0:List TyB4×Int×Int×Unit) (x1:Bool):Int:=worstL x1 (x0.1.getD 0 ((0:Int),(0:Int),())).2.1 x0.1
def P134 (x0:List TyB4×Int×Int×Unit) (x1:Bool):Prop:=1≤x0.1.length∧x0.1.length≤1000
theorem run134 (x0:List TyB4×Int×Int×Unit) (x1:Bool) (hl:x0.1.length≤1000):∀ (k i:Nat) (g:Int),i+k=x0.1.length→R134_3 (k+1) g (i:Int) x1 x0 [⟨.int .i64,worstL x1 g (x0.1.drop i)⟩]:=by
 intro k
 induction k with
 | zero =>
  intro i g hi
  rw [R134_3,if_neg (by simp only [decide_eq_true_eq];omega),List.drop_eq_nil_of_le (by omega)]
  rfl
 | succ k ih =>
  intro i g hi
  have hlt:i<x0.1.length:=by omega
  have e:(i:Int)+1=((i+1:Nat):Int):=by omega
  rw [R134_3,if_pos (by simp only [decide_eq_true_eq];omega),List.drop_eq_getElem_cons hlt,worst_cons]
  simp only [Int.toNat_natCast,getD_lt x0.1 i _ hlt]
  refine ⟨by omega,by omega,?_⟩
  have h:=fun g=>ih (i+1) g (by omega)
  cases x1 with
  | true =>
   simp only [if_true]
   rw [e]
   exact ⟨by rw [i64_iff];omega,h _⟩
  | false =>
   simp only [Bool.false_eq_true,if_false]
   rw [e]
   exact ⟨by rw [i64_iff];omega,h _⟩
theorem top134 (x0:List TyB4×Int×Int×Unit) (x1:Bool) (h:P134 x0 x1):R134 (x0.1.length+1+1) x0 x1 [⟨.int .i64,g134_0 x0 x1⟩]:=by
 rw [R134]
 exact ⟨by have:=h.1;omega,run134 x0 x1 h.2 x0.1.length 0 _ (by omega)⟩
def S134:Am.Spec:={ sig:=sig134,pre:=fun ⟨x0,x1,_⟩=>P134 x0 x1,res:=fun ⟨x0,x1,_⟩=>[⟨.int .i64,g134_0 x0 x1⟩] }
theorem con134:Contract Tryz.prog 134 S134:=contract_of Tryz.func134 hb134 (Nat.le_of_ble_eq_true (by kernel_rfl)) (fun ⟨x0,x1,_⟩ h hwf K q =>
 (snd134 _).1 x0 x1 _ (top134 x0 x1 h) K q)
end
noncomputable section
def ext175:Ext:=[(130,S130)]
theorem ext175Ok:ExtOk Tryz.prog ext175:=⟨⟨ca130,con130⟩,trivial⟩
noncomputable def b175:Code:=bodyOf Tryz.f175
theorem hb175:Tryz.f175.body=some b175:=by kernel_rfl
def sig175:List AT:=[AT.v (Ty.int .i64),AT.v (Ty.int .i64)]
def tys175:List Ty:=[Ty.int .i64]
def kds175:List RK:=[]
def oks175:List AT:=owns sig175
def P175 (x0:Int) (x1:Int):Prop:=((x1≠0)∧(InR .i64 (Int.tdiv x0 x1))∧((x1≠0)∧(InR .i64 (Int.tmod x0 x1))∧((P130 (Int.tmod x0 x1))∧((P130 x1)∧((InR .i64 (g130_0 x1 - g130_0 (Int.tmod x0 x1)))∧(if (decide (g130_0 (Int.tmod x0 x1)≥g130_0 x1 - g130_0 (Int.tmod x0 x1)))=true then (if (!decide (x0<0)==decide (x1<0))=true then ((InR .i64 (Int.tdiv x0 x1 - 1))∧True) else ((InR .i64 (Int.tdiv x0 x1+1))∧True)) else True))))))
def g175_0 (x0:Int) (x1:Int):Int:=(if (decide (g130_0 (Int.tmod x0 x1)≥g130_0 x1 - g130_0 (Int.tmod x0 x1)))=true then (if (!decide (x0<0)==decide (x1<0))=true then Int.tdiv x0 x1 - 1 else Int.tdiv x0 x1+1) else Int.tdiv x0 x1)
theorem at175 (x0:Int) (x1:Int) (h:P175 x0 x1) (K:Ctx) (q:Nat→Value):AtV Tryz.prog 175 (PostR kds175 oks175 [⟨Ty.int .i64,g175_0 x0 x1⟩] [] [] q K) 30 K q [] [.code b175] (entE 0 0 sig175 (x0,x1,())) (entL sig175 (x0,x1,())):=by
 unfold P175 at h
 unfold g175_0
 obtain ⟨s0,s1,h⟩:=h
 obtain ⟨s2,s3,h⟩:=h
 obtain ⟨s4,h⟩:=h
 obtain ⟨s5,h⟩:=h
 obtain ⟨s6,h⟩:=h
 by_cases b0:(decide (g130_0 (Int.tmod x0 x1)≥g130_0 x1 - g130_0 (Int.tmod x0 x1)))=true
 ·try simp only [if_pos b0] at h ⊢
  by_cases b1:(!decide (x0<0)==decide (x1<0))=true
  ·try simp only [if_pos b1] at h ⊢
   obtain ⟨s7,h⟩:=h
   exact AtV.ret Tryz.func175 tabOk ext175Ok mixed false [] tys175 [true,true] (a1 s0 (a1 s1 (a1 s2 (a1 s3 (a1 s4 (a1 s5 (a1 s6 (a1 b0 (a1 b1 (a1 s7 trivial)))))))))) (by kernel_rfl)
  ·try simp only [if_neg b1] at h ⊢
   replace b1:=Bool.eq_false_iff.2 b1
   obtain ⟨s7,h⟩:=h
   exact AtV.ret Tryz.func175 tabOk ext175Ok mixed false [] tys175 [true,false] (a1 s0 (a1 s1 (a1 s2 (a1 s3 (a1 s4 (a1 s5 (a1 s6 (a1 b0 (a1 b1 (a1 s7 trivial)))))))))) (by kernel_rfl)
 ·try simp only [if_neg b0] at h ⊢
  replace b0:=Bool.eq_false_iff.2 b0
  exact AtV.ret Tryz.func175 tabOk ext175Ok mixed false [] tys175 [false] (a1 s0 (a1 s1 (a1 s2 (a1 s3 (a1 s4 (a1 s5 (a1 s6 (a1 b0 trivial)))))))) (by kernel_rfl)
def S175:Am.Spec:={ sig:=sig175,pre:=fun ⟨x0,x1,_⟩=>P175 x0 x1,res:=fun ⟨x0,x1,_⟩=>[⟨Ty.int .i64,g175_0 x0 x1⟩],kds:=kds175 }
theorem con175:Contract Tryz.prog 175 S175:=contract_of Tryz.func175 hb175 (Nat.le_of_ble_eq_true (by kernel_rfl)) (fun ⟨x0,x1,_⟩ h _ K q=>at175 x0 x1 h K q)
end
noncomputable section
def ext166:Ext:=[(175,S175)]
theorem ext166Ok:ExtOk Tryz.prog ext166:=⟨⟨ca175,con175⟩,trivial⟩
noncomputable def b166:Code:=bodyOf Tryz.f166
theorem hb166:Tryz.f166.body=some b166:=by kernel_rfl
def sig166:List AT:=[AT.v YA9,AT.v (Ty.int .i64),AT.v (Ty.bool)]
def tys166:List Ty:=[Ty.int .i64]
def kds166:List RK:=[]
def oks166:List AT:=owns sig166
def P166 (x0:Int×Int×Unit) (x1:Int) (x2:Bool):Prop:=((InR .i64 (x1*981))∧((P175 (x1*981) 100)∧(if (x2)=true then ((InR .i64 (x0.2.1 - g175_0 (x1*981) 100))∧True) else ((InR .i64 (x0.2.1+g175_0 (x1*981) 100))∧True))))
def g166_0 (x0:Int×Int×Unit) (x1:Int) (x2:Bool):Int:=(if (x2)=true then x0.2.1 - g175_0 (x1*981) 100 else x0.2.1+g175_0 (x1*981) 100)
theorem at166 (x0:Int×Int×Unit) (x1:Int) (x2:Bool) (h:P166 x0 x1 x2) (K:Ctx) (q:Nat→Value):AtV Tryz.prog 166 (PostR kds166 oks166 [⟨Ty.int .i64,g166_0 x0 x1 x2⟩] [] [] q K) 20 K q [] [.code b166] (entE 0 0 sig166 (x0,x1,x2,())) (entL sig166 (x0,x1,x2,())):=by
 unfold P166 at h
 unfold g166_0
 obtain ⟨s0,h⟩:=h
 obtain ⟨s1,h⟩:=h
 by_cases b0:(x2)=true
 ·try simp only [if_pos b0] at h ⊢
  obtain ⟨s2,h⟩:=h
  exact AtV.ret Tryz.func166 tabOk ext166Ok mixed false [] tys166 [true] (a1 s0 (a1 s1 (a1 b0 (a1 s2 trivial)))) (by kernel_rfl)
 ·try simp only [if_neg b0] at h ⊢
  replace b0:=Bool.eq_false_iff.2 b0
  obtain ⟨s2,h⟩:=h
  exact AtV.ret Tryz.func166 tabOk ext166Ok mixed false [] tys166 [false] (a1 s0 (a1 s1 (a1 b0 (a1 s2 trivial)))) (by kernel_rfl)
def S166:Am.Spec:={ sig:=sig166,pre:=fun ⟨x0,x1,x2,_⟩=>P166 x0 x1 x2,res:=fun ⟨x0,x1,x2,_⟩=>[⟨Ty.int .i64,g166_0 x0 x1 x2⟩],kds:=kds166 }
theorem con166:Contract Tryz.prog 166 S166:=contract_of Tryz.func166 hb166 (Nat.le_of_ble_eq_true (by kernel_rfl)) (fun ⟨x0,x1,x2,_⟩ h _ K q=>at166 x0 x1 x2 h K q)
end
noncomputable section
def ext167:Ext:=[]
theorem ext167Ok:ExtOk Tryz.prog ext167:=trivial
noncomputable def b167:Code:=bodyOf Tryz.f167
theorem hb167:Tryz.f167.body=some b167:=by kernel_rfl
def sig167:List AT:=[AT.v (Ty.int .i64),AT.v (Ty.int .i64)]
def tys167:List Ty:=[Ty.int .i64]
def kds167:List RK:=[]
def oks167:List AT:=owns sig167
def P167 (x0:Int) (x1:Int):Prop:=((InR .i64 (x0+x1))∧((InR .i64 (x0+x1 - 1))∧((x1≠0)∧(InR .i64 (Int.tdiv (x0+x1 - 1) x1))∧True)))
def g167_0 (x0:Int) (x1:Int):Int:=Int.tdiv (x0+x1 - 1) x1
theorem at167 (x0:Int) (x1:Int) (h:P167 x0 x1) (K:Ctx) (q:Nat→Value):AtV Tryz.prog 167 (PostR kds167 oks167 [⟨Ty.int .i64,g167_0 x0 x1⟩] [] [] q K) 11 K q [] [.code b167] (entE 0 0 sig167 (x0,x1,())) (entL sig167 (x0,x1,())):=by
 unfold P167 at h
 unfold g167_0
 obtain ⟨s0,h⟩:=h
 obtain ⟨s1,h⟩:=h
 obtain ⟨s2,s3,h⟩:=h
 exact AtV.ret Tryz.func167 tabOk ext167Ok mixed false [] tys167 [] (a1 s0 (a1 s1 (a1 s2 (a1 s3 trivial)))) (by kernel_rfl)
def S167:Am.Spec:={ sig:=sig167,pre:=fun ⟨x0,x1,_⟩=>P167 x0 x1,res:=fun ⟨x0,x1,_⟩=>[⟨Ty.int .i64,g167_0 x0 x1⟩],kds:=kds167 }
theorem con167:Contract Tryz.prog 167 S167:=contract_of Tryz.func167 hb167 (Nat.le_of_ble_eq_true (by kernel_rfl)) (fun ⟨x0,x1,_⟩ h _ K q=>at167 x0 x1 h K q)
end
noncomputable section
def ext153:Ext:=[(166,S166),(167,S167)]
theorem ext153Ok:ExtOk Tryz.prog ext153:=⟨⟨ca166,con166⟩,⟨ca167,con167⟩,trivial⟩
noncomputable def b153:Code:=bodyOf Tryz.f153
theorem hb153:Tryz.f153.body=some b153:=by kernel_rfl
def sig153:List AT:=[AT.v YA9,AT.v (Ty.int .i64),AT.v (Ty.int .i64),AT.v (Ty.bool)]
def tys153:List Ty:=[Ty.int .i64,Ty.bool]
def kds153:List RK:=[]
def oks153:List AT:=owns sig153
def P153 (x0:Int×Int×Unit) (x1:Int) (x2:Int) (x3:Bool):Prop:=((P166 x0 x2 x3)∧(if (decide (g166_0 x0 x2 x3≤0))=true then True else ((InR .i64 (x1*x0.1))∧((P167 (x1*x0.1) 10)∧((InR .i64 (x1*x1))∧((InR .i64 (2*g166_0 x0 x2 x3))∧((P167 (x1*x1) (2*g166_0 x0 x2 x3))∧((InR .i64 (g167_0 (x1*x0.1) 10+g167_0 (x1*x1) (2*g166_0 x0 x2 x3)))∧True))))))))
def g153_0 (x0:Int×Int×Unit) (x1:Int) (x2:Int) (x3:Bool):Int:=(if (decide (g166_0 x0 x2 x3≤0))=true then 0 else g167_0 (x1*x0.1) 10+g167_0 (x1*x1) (2*g166_0 x0 x2 x3))
def g153_1 (x0:Int×Int×Unit) (x1:Int) (x2:Int) (x3:Bool):Bool:=(if (decide (g166_0 x0 x2 x3≤0))=true then false else true)
theorem at153 (x0:Int×Int×Unit) (x1:Int) (x2:Int) (x3:Bool) (h:P153 x0 x1 x2 x3) (K:Ctx) (q:Nat→Value):AtV Tryz.prog 153 (PostR kds153 oks153 [⟨Ty.int .i64,g153_0 x0 x1 x2 x3⟩,⟨Ty.bool,g153_1 x0 x1 x2 x3⟩] [] [] q K) 29 K q [] [.code b153] (entE 0 0 sig153 (x0,x1,x2,x3,())) (entL sig153 (x0,x1,x2,x3,())):=by
 unfold P153 at h
 unfold g153_0 g153_1
 obtain ⟨s0,h⟩:=h
 by_cases b0:(decide (g166_0 x0 x2 x3≤0))=true
 ·try simp only [if_pos b0] at h ⊢
  exact AtV.ret Tryz.func153 tabOk ext153Ok mixed false [] tys153 [true] (a1 s0 (a1 b0 trivial)) (by kernel_rfl)
 ·try simp only [if_neg b0] at h ⊢
  replace b0:=Bool.eq_false_iff.2 b0
  obtain ⟨s1,h⟩:=h
  obtain ⟨s2,h⟩:=h
  obtain ⟨s3,h⟩:=h
  obtain ⟨s4,h⟩:=h
  obtain ⟨s5,h⟩:=h
  obtain ⟨s6,h⟩:=h
  exact AtV.ret Tryz.func153 tabOk ext153Ok mixed false [] tys153 [false] (a1 s0 (a1 b0 (a1 s1 (a1 s2 (a1 s3 (a1 s4 (a1 s5 (a1 s6 trivial)))))))) (by kernel_rfl)
def S153:Am.Spec:={ sig:=sig153,pre:=fun ⟨x0,x1,x2,x3,_⟩=>P153 x0 x1 x2 x3,res:=fun ⟨x0,x1,x2,x3,_⟩=>[⟨Ty.int .i64,g153_0 x0 x1 x2 x3⟩,⟨Ty.bool,g153_1 x0 x1 x2 x3⟩],kds:=kds153 }
theorem con153:Contract Tryz.prog 153 S153:=contract_of Tryz.func153 hb153 (Nat.le_of_ble_eq_true (by kernel_rfl)) (fun ⟨x0,x1,x2,x3,_⟩ h _ K q=>at153 x0 x1 x2 x3 h K q)
end
noncomputable section
def ext133:Ext:=[(153,S153)]
theorem ext133Ok:ExtOk Tryz.prog ext133:=⟨⟨ca153,con153⟩,trivial⟩
noncomputable def b133:Code:=bodyOf Tryz.f133
theorem hb133:Tryz.f133.body=some b133:=by kernel_rfl
def sig133:List AT:=[AT.v YA9,AT.v (Ty.int .i64),AT.v (Ty.int .i64),AT.v (Ty.int .i64),AT.v (Ty.bool)]
def tys133:List Ty:=[Ty.bool]
def kds133:List RK:=[]
def oks133:List AT:=owns sig133
def P133 (x0:Int×Int×Unit) (x1:Int) (x2:Int) (x3:Int) (x4:Bool):Prop:=((P153 x0 x1 x3 x4)∧True)
def g133_0 (x0:Int×Int×Unit) (x1:Int) (x2:Int) (x3:Int) (x4:Bool):Bool:=(if (g153_1 x0 x1 x3 x4)=true then decide (g153_0 x0 x1 x3 x4≤x2) else false)
theorem at133 (x0:Int×Int×Unit) (x1:Int) (x2:Int) (x3:Int) (x4:Bool) (h:P133 x0 x1 x2 x3 x4) (K:Ctx) (q:Nat→Value):AtV Tryz.prog 133 (PostR kds133 oks133 [⟨Ty.bool,g133_0 x0 x1 x2 x3 x4⟩] [] [] q K) 27 K q [] [.code b133] (entE 0 0 sig133 (x0,x1,x2,x3,x4,())) (entL sig133 (x0,x1,x2,x3,x4,())):=by
 unfold P133 at h
 unfold g133_0
 obtain ⟨s0,h⟩:=h
 by_cases b0:(g153_1 x0 x1 x3 x4)=true
 ·try simp only [if_pos b0] at h ⊢
  exact AtV.ret Tryz.func133 tabOk ext133Ok mixed false [] tys133 [true] (a1 s0 (a1 b0 trivial)) (by kernel_rfl)
 ·try simp only [if_neg b0] at h ⊢
  replace b0:=Bool.eq_false_iff.2 b0
  exact AtV.ret Tryz.func133 tabOk ext133Ok mixed false [] tys133 [false] (a1 s0 (a1 b0 trivial)) (by kernel_rfl)
def S133:Am.Spec:={ sig:=sig133,pre:=fun ⟨x0,x1,x2,x3,x4,_⟩=>P133 x0 x1 x2 x3 x4,res:=fun ⟨x0,x1,x2,x3,x4,_⟩=>[⟨Ty.bool,g133_0 x0 x1 x2 x3 x4⟩],kds:=kds133 }
theorem con133:Contract Tryz.prog 133 S133:=contract_of Tryz.func133 hb133 (Nat.le_of_ble_eq_true (by kernel_rfl)) (fun ⟨x0,x1,x2,x3,x4,_⟩ h _ K q=>at133 x0 x1 x2 x3 x4 h K q)
end
noncomputable section
def ext108:Ext:=[(103,S103),(134,S134),(133,S133)]
theorem ext108Ok:ExtOk Tryz.prog ext108:=⟨⟨ca103,con103⟩,⟨ca134,con134⟩,⟨ca133,con133⟩,trivial⟩
noncomputable def b108:Code:=bodyOf Tryz.f108
theorem hb108:Tryz.f108.body=some b108:=by kernel_rfl
def sig108:List AT:=[AT.v YA2,AT.v YA9,AT.v (Ty.int .i64),AT.v (Ty.int .i64),AT.v (Ty.bool)]
def tys108:List Ty:=[Ty.bool]
def kds108:List RK:=[]
def oks108:List AT:=owns sig108
def P108 (x0:List TyB4×Int×Int×Unit) (x1:Int×Int×Unit) (x2:Int) (x3:Int) (x4:Bool):Prop:=((P103 x0)∧((InR .i64 (g103_0 x0 - x2))∧(if (x4)=true then ((P134 x0 x4)∧((P133 x1 x3 x2 (g134_0 x0 x4) x4)∧True)) else ((P134 x0 x4)∧((P133 x1 x3 (g103_0 x0 - x2) (g134_0 x0 x4) x4)∧True)))))
def g108_0 (x0:List TyB4×Int×Int×Unit) (x1:Int×Int×Unit) (x2:Int) (x3:Int) (x4:Bool):Bool:=(if (x4)=true then g133_0 x1 x3 x2 (g134_0 x0 x4) x4 else g133_0 x1 x3 (g103_0 x0 - x2) (g134_0 x0 x4) x4)
theorem at108 (x0:List TyB4×Int×Int×Unit) (x1:Int×Int×Unit) (x2:Int) (x3:Int) (x4:Bool) (h:P108 x0 x1 x2 x3 x4) (K:Ctx) (q:Nat→Value):AtV Tryz.prog 108 (PostR kds108 oks108 [⟨Ty.bool,g108_0 x0 x1 x2 x3 x4⟩] [] [] q K) 26 K q [] [.code b108] (entE 0 0 sig108 (x0,x1,x2,x3,x4,())) (entL sig108 (x0,x1,x2,x3,x4,())):=by
 unfold P108 at h
 unfold g108_0
 obtain ⟨s0,h⟩:=h
 obtain ⟨s1,h⟩:=h
 by_cases b0:(x4)=true
 ·try simp only [if_pos b0] at h ⊢
  obtain ⟨s2,h⟩:=h
  obtain ⟨s3,h⟩:=h
  exact AtV.ret Tryz.func108 tabOk ext108Ok mixed false [] tys108 [true] (a1 s0 (a1 s1 (a1 b0 (a1 s2 (a1 s3 trivial))))) (by kernel_rfl)
 ·try simp only [if_neg b0] at h ⊢
  replace b0:=Bool.eq_false_iff.2 b0
  obtain ⟨s2,h⟩:=h
  obtain ⟨s3,h⟩:=h
  exact AtV.ret Tryz.func108 tabOk ext108Ok mixed false [] tys108 [false] (a1 s0 (a1 s1 (a1 b0 (a1 s2 (a1 s3 trivial))))) (by kernel_rfl)
def S108:Am.Spec:={ sig:=sig108,pre:=fun ⟨x0,x1,x2,x3,x4,_⟩=>P108 x0 x1 x2 x3 x4,res:=fun ⟨x0,x1,x2,x3,x4,_⟩=>[⟨Ty.bool,g108_0 x0 x1 x2 x3 x4⟩],kds:=kds108 }
theorem con108:Contract Tryz.prog 108 S108:=contract_of Tryz.func108 hb108 (Nat.le_of_ble_eq_true (by kernel_rfl)) (fun ⟨x0,x1,x2,x3,x4,_⟩ h _ K q=>at108 x0 x1 x2 x3 x4 h K q)
end
noncomputable section
def ext107:Ext:=[(108,S108)]
theorem ext107Ok:ExtOk Tryz.prog ext107:=⟨⟨ca108,con108⟩,trivial⟩
noncomputable def b107:Code:=bodyOf Tryz.f107
theorem hb107:Tryz.f107.body=some b107:=by kernel_rfl
def sig107:List AT:=[AT.v (Ty.int .i64),AT.v (Ty.int .i64),AT.pb (.int .i64),AT.p .bool,AT.p (.int .i64),AT.p (.cons (.sl (.cons (.int .i64) (.cons (.int .i64) .unit))) (.cons (.int .i64) (.cons (.int .i64) .unit))),AT.p (.cons (.int .i64) (.cons (.int .i64) .unit)),AT.pb .bool]
def tys107:List Ty:=[Ty.bool]
def kds107:List RK:=[]
def oks107:List AT:=owns sig107
def P107 (x0:Int) (x1:Int) (x2:Int) (x3:Bool) (x4:Int) (x5:List TyB4×Int×Int×Unit) (x6:Int×Int×Unit) (x7:Bool):Prop:=((InR .i64 (x2+1))∧(if (x3)=true then ((InR .i64 (x4 - x0))∧(if (decide (x0<x4))=true then ((P108 x5 x6 (x4 - x0) x1 x3)∧True) else True)) else (if (decide (x0<x4))=true then ((P108 x5 x6 x0 x1 x3)∧True) else True)))
def g107_0 (x0:Int) (x1:Int) (x2:Int) (x3:Bool) (x4:Int) (x5:List TyB4×Int×Int×Unit) (x6:Int×Int×Unit) (x7:Bool):Bool:=(if (x3)=true then (if (decide (x0<x4))=true then !!g108_0 x5 x6 (x4 - x0) x1 x3 else true) else (if (decide (x0<x4))=true then !!g108_0 x5 x6 x0 x1 x3 else true))
def u107_0 (x0:Int) (x1:Int) (x2:Int) (x3:Bool) (x4:Int) (x5:List TyB4×Int×Int×Unit) (x6:Int×Int×Unit) (x7:Bool):Int:=(if (x3)=true then (if (decide (x0<x4))=true then x2+1 else x2+1) else (if (decide (x0<x4))=true then x2+1 else x2+1))
def u107_1 (x0:Int) (x1:Int) (x2:Int) (x3:Bool) (x4:Int) (x5:List TyB4×Int×Int×Unit) (x6:Int×Int×Unit) (x7:Bool):Bool:=(if (x3)=true then (if (decide (x0<x4))=true then !g108_0 x5 x6 (x4 - x0) x1 x3 else false) else (if (decide (x0<x4))=true then !g108_0 x5 x6 x0 x1 x3 else false))
theorem at107 (x0:Int) (x1:Int) (x2:Int) (x3:Bool) (x4:Int) (x5:List TyB4×Int×Int×Unit) (x6:Int×Int×Unit) (x7:Bool) (h:P107 x0 x1 x2 x3 x4 x5 x6 x7) (K:Ctx) (q:Nat→Value):AtV Tryz.prog 107 (PostR kds107 oks107 [⟨Ty.bool,g107_0 x0 x1 x2 x3 x4 x5 x6 x7⟩] [some ⟨Ty.int .i64,[u107_0 x0 x1 x2 x3 x4 x5 x6 x7]⟩,some ⟨Ty.bool,[u107_1 x0 x1 x2 x3 x4 x5 x6 x7]⟩] [2,7] q K) 33 K q [2,7] [.code b107] (entE 0 0 sig107 (x0,x1,x2,x3,x4,x5,x6,x7,())) (entL sig107 (x0,x1,x2,x3,x4,x5,x6,x7,())):=by
 unfold P107 at h
 unfold g107_0 u107_0 u107_1
 obtain ⟨s0,h⟩:=h
 by_cases b0:(x3)=true
 ·try simp only [if_pos b0] at h ⊢
  obtain ⟨s1,h⟩:=h
  by_cases b1:(decide (x0<x4))=true
  ·try simp only [if_pos b1] at h ⊢
   obtain ⟨s2,h⟩:=h
   exact AtV.weak (AtV.ret (us:=[Option.some (Lst.mk (Ty.int .i64) [x2+1]),Option.some (Lst.mk Ty.bool [!g108_0 x5 x6 (x4 - x0) x1 x3])]) Tryz.func107 tabOk ext107Ok mixed false [] tys107 [true,true] (a1 s0 (a1 b0 (a1 s1 (a1 b1 (a1 s2 trivial))))) (by kernel_rfl)) ⟨.inl rfl,.inl rfl,trivial⟩
  ·try simp only [if_neg b1] at h ⊢
   replace b1:=Bool.eq_false_iff.2 b1
   exact AtV.weak (AtV.ret (us:=[Option.some (Lst.mk (Ty.int .i64) [x2+1]),Option.some (Lst.mk Ty.bool [false])]) Tryz.func107 tabOk ext107Ok mixed false [] tys107 [true,false] (a1 s0 (a1 b0 (a1 s1 (a1 b1 trivial)))) (by kernel_rfl)) ⟨.inl rfl,.inl rfl,trivial⟩
 ·try simp only [if_neg b0] at h ⊢
  replace b0:=Bool.eq_false_iff.2 b0
  by_cases b1:(decide (x0<x4))=true
  ·try simp only [if_pos b1] at h ⊢
   obtain ⟨s1,h⟩:=h
   exact AtV.weak (AtV.ret (us:=[Option.some (Lst.mk (Ty.int .i64) [x2+1]),Option.some (Lst.mk Ty.bool [!g108_0 x5 x6 x0 x1 x3])]) Tryz.func107 tabOk ext107Ok mixed false [] tys107 [false,true] (a1 s0 (a1 b0 (a1 b1 (a1 s1 trivial)))) (by kernel_rfl)) ⟨.inl rfl,.inl rfl,trivial⟩
  ·try simp only [if_neg b1] at h ⊢
   replace b1:=Bool.eq_false_iff.2 b1
   exact AtV.weak (AtV.ret (us:=[Option.some (Lst.mk (Ty.int .i64) [x2+1]),Option.some (Lst.mk Ty.bool [false])]) Tryz.func107 tabOk ext107Ok mixed false [] tys107 [false,false] (a1 s0 (a1 b0 (a1 b1 trivial))) (by kernel_rfl)) ⟨.inl rfl,.inl rfl,trivial⟩
def S107:Am.Spec:={ sig:=sig107,pre:=fun ⟨x0,x1,x2,x3,x4,x5,x6,x7,_⟩=>P107 x0 x1 x2 x3 x4 x5 x6 x7,upd:=fun ⟨x0,x1,x2,x3,x4,x5,x6,x7,_⟩=>[some ⟨Ty.int .i64,[u107_0 x0 x1 x2 x3 x4 x5 x6 x7]⟩,some ⟨Ty.bool,[u107_1 x0 x1 x2 x3 x4 x5 x6 x7]⟩],res:=fun ⟨x0,x1,x2,x3,x4,x5,x6,x7,_⟩=>[⟨Ty.bool,g107_0 x0 x1 x2 x3 x4 x5 x6 x7⟩],kds:=kds107 }
theorem con107:Contract Tryz.prog 107 S107:=contract_of Tryz.func107 hb107 (Nat.le_of_ble_eq_true (by kernel_rfl)) (fun ⟨x0,x1,x2,x3,x4,x5,x6,x7,_⟩ h _ K q=>at107 x0 x1 x2 x3 x4 x5 x6 x7 h K q)
end
def rideL (nx:Int→Int→Int) (bad:Int→Int→Bool) (n:Int):Nat→Int→Int→Int→Option Int
 | 0,_,_,_=>none
 | f+1,place,speed,k=>if place<n then (if (decide (place+nx speed (n - place)<n)&&bad (place+nx speed (n - place)) (nx speed (n - place)))=true then some (k+1) else rideL nx bad n f (place+nx speed (n - place)) (nx speed (n - place)) (k+1)) else none
theorem rideL_congr {nx nx':Int→Int→Int} {bad bad':Int→Int→Bool} {n:Int} (h1:∀ speed left,0≤speed→speed≤15000→1≤left→left≤n→nx speed left=nx' speed left∧1≤nx speed left∧nx speed left≤left∧nx speed left≤15000) (h2:∀ place speed,0≤place→place<n→0≤speed→speed≤15000→bad place speed=bad' place speed) :
  ∀ (f:Nat) (place speed k:Int),0≤place→0≤speed→speed≤15000→rideL nx bad n f place speed k=rideL nx' bad' n f place speed k
 | 0,_,_,_,_,_,_=>rfl
 | f+1,place,speed,k,hp,hs,hs2=>by
  unfold rideL
  by_cases hc:place<n
  ·obtain ⟨e,e1,e2,e3⟩:=h1 speed (n - place) hs hs2 (by omega) (by omega)
   rw [if_pos hc,if_pos hc, ← e]
   have ih:=rideL_congr h1 h2 f (place+nx speed (n - place)) (nx speed (n - place)) (k+1) (by omega) (by omega) e3
   by_cases hd:place+nx speed (n - place)<n
   ·rw [h2 _ _ (by omega) hd (by omega) e3,ih]
   ·rw [decide_eq_false hd,Bool.false_and,Bool.false_and,ih]
  ·rw [if_neg hc,if_neg hc]
end Go.Proofs.YthpljjnbniefpaaGreatDoor
-- facts: rideLoop
set_option linter.unusedVariables false
set_option linter.unusedSimpArgs false
set_option maxRecDepth 100000
namespace Go.Proofs.YthpljjnbniefpaaGreatDoor
open Go Go.Am Go.Proofs Go.RowKit
abbrev TR71:=List TyB4×Int×Int×Unit
abbrev TY71:Ty := .cons (.sl (.cons (.int .i64) (.cons (.int .i64) .unit))) (.cons (.int .i64) (.cons (.int .i64) .unit))
abbrev BR71:=Int×Int×Unit
abbrev BY71:Ty := .cons (.int .i64) (.cons (.int .i64) .unit)
abbrev PR71:=Int×Int×Int×Int×Unit
abbrev PY71:Ty := .cons (.int .i64) (.cons (.int .i64) (.cons (.int .i64) (.cons (.int .i64) .unit)))
abbrev ptr71 (b:Nat):Value := .pointer (some ⟨b,0,none⟩)
def Box71 (w:World) (b:Nat) (u:Value):Prop:=∃ cur ty fz,w.heap[b]? = some (.cells cur ty fz)∧cur[0]? = some u∧FreeS 1 fz cur.size
theorem Box71.cell {w:World} {b:Nat} {u:Value} (h:Box71 w b u):w.cell? ⟨b,0,none⟩=some u:=by
 obtain ⟨cur,ty,fz,h1,h2,_⟩:=h
 unfold World.cell?
 rw [show w.heap[(⟨b,0,none⟩:Addr).block]? = _ from h1]
 exact h2
theorem Box71.lt {w:World} {b:Nat} {u:Value} (h:Box71 w b u):b<w.heap.size:=by
 obtain ⟨cur,ty,fz,h1,_⟩:=h
 exact (Array.getElem?_eq_some_iff.1 h1).1
theorem Box71.keep {w w':World} {b:Nat} {u:Value} (h:Box71 w b u) (he:w'.heap[b]? = w.heap[b]?):Box71 w' b u:=by
 obtain ⟨cur,ty,fz,h1,h2⟩:=h
 exact ⟨cur,ty,fz,he.trans h1,h2⟩
theorem Box71.pb {w:World} {G0:Nat→Prop} {b:Nat} {t:Ty} {x:t.den} {u:Value} (hs:t.size=1) (h:Box71 w b u) (hr:RepC w G0 t x [u]):PbAt w G0 t x (ptr71 b) [b]:=by
 obtain ⟨cur,ty,fz,h1,h2,h3⟩:=h
 have hc:0<cur.size:=(Array.getElem?_eq_some_iff.1 h2).1
 refine ⟨b,0,rfl,by show 1≤maxLen;decide,.inr ⟨b,0,1,cur,ty,fz,[[]],rfl,Nat.le_refl _,by decide,?_,h1,?_,rfl,rfl,fun i y bi hx hbi => ?_⟩⟩
 ·show 0+1*t.size≤cur.size
  rw [hs];omega
 ·show FreeS t.size fz cur.size
  rw [hs];exact h3
 ·rcases i with _ | i
  ·simp at hx hbi
   subst hx hbi
   refine ⟨[u],by show 1=t.size;rw [hs],fun j c hj => ?_,hr,rfl⟩
   rcases j with _ | j
   ·simp at hj;subst hj
    rw [Nat.zero_mul];exact h2
   ·simp at hj
  ·simp at hx
theorem pbBox71 {w:World} {G0:Nat→Prop} {b:Nat} {t:Ty} {x:t.den} {u:Value} {bs:List Nat} (hs:t.size=1) (h:PbAt w G0 t x (ptr71 b) bs) (hu:∀ cs,RepC w G0 t x cs→cs=[u]):Box71 w b u:=by
 obtain ⟨b',off',he,hm,h⟩:=h
 cases he
 rcases h with ⟨ad,_,h0,_⟩ | ⟨b2,off2,cap,cur,ty,fz,bss,hv,hc,_,hz,hh,hf,hl,_,hr⟩
 ·cases h0
 ·simp only [Value.slice.injEq,Option.some.injEq,Addr.mk.injEq,and_true] at hv
  obtain ⟨⟨rfl,rfl⟩,_,rfl⟩:=hv
  obtain ⟨bi,hbi⟩:∃ bi,bss[0]? = some bi:=⟨_,List.getElem?_eq_getElem (by rw [hl];exact Nat.zero_lt_one)⟩
  obtain ⟨cs,h1,h2,h3,_⟩:=hr 0 x bi rfl hbi
  rw [hu cs h3] at h2
  have h4:=h2 0 u rfl
  simp only [Nat.zero_mul,Nat.add_zero] at h4
  refine ⟨cur,ty,fz,hh,h4,?_⟩
  have:FreeS t.size fz cur.size:=hf
  rw [hs] at this
  exact this
def bad71 (tr:TR71) (br:BR71) (down:Bool) (way place speed:Int):Bool := !g108_0 tr br (if down=true then way - place else place) speed down
theorem clo71 (W:World) (S D Wy T Bk F:Nat) (place speed k:Int) (fd down:Bool) (way:Int) (tr:TR71) (br:BR71) (hgo:GOk W [S,F]) (hne:S≠F) (hS:Box71 W S (.int .i64 k)) (ik:InR .i64 k) (hF:Box71 W F (.bool fd))
  (hD:PtrAt W (Am.Good W [S,F]) .bool down (ptr71 D)) (hW:PtrAt W (Am.Good W [S,F]) (.int .i64) way (ptr71 Wy)) (hT:PtrAt W (Am.Good W [S,F]) TY71 tr (ptr71 T)) (hB:PtrAt W (Am.Good W [S,F]) BY71 br (ptr71 Bk)) (ip:InR .i64 place) (is:InR .i64 speed) (hp:P107 place speed k down way tr br fd) :
  Calls Tryz.prog 107 #[.int .i64 place,.int .i64 speed,ptr71 S,ptr71 D,ptr71 Wy,ptr71 T,ptr71 Bk,ptr71 F] W fun e w'=>e = .returned (.bool (!(decide (place<way)&&bad71 tr br down way place speed)))∧Kept [S,F] W w'∧Box71 w' S (.int .i64 (k+1))∧Box71 w' F (.bool (decide (place<way)&&bad71 tr br down way place speed)):=by
 have h:=con107 W (Am.Good W [S,F]) (Am.Good W [S,F]) (place,speed,k,down,way,tr,br,fd,()) [.int .i64 place,.int .i64 speed,ptr71 S,ptr71 D,ptr71 Wy,ptr71 T,ptr71 Bk,ptr71 F] [[],[],[S],[],[],[],[],[F]] hgo (fun _ h=>h) (fun _ h=>h) hp
  ⟨_,_,_,_,rfl,rfl,⟨rfl,rfl,ip⟩,_,_,_,_,rfl,rfl,⟨rfl,rfl,is⟩,_,_,_,_,rfl,rfl,hS.pb rfl ⟨rfl,ik⟩,_,_,_,_,rfl,rfl,⟨rfl,hD⟩,_,_,_,_,rfl,rfl,⟨rfl,hW⟩,_,_,_,_,rfl,rfl,⟨rfl,hT⟩,_,_,_,_,rfl,rfl,⟨rfl,hB⟩,_,_,_,_,rfl,rfl,hF.pb rfl rfl,rfl,rfl⟩
  (by simpa using hne)
 have eg:g107_0 place speed k down way tr br fd = !(decide (place<way)&&bad71 tr br down way place speed):=by
  unfold g107_0 bad71
  by_cases hl:place<way
  ·simp only [decide_eq_true hl,if_true,Bool.true_and]
   cases down <;> rfl
  ·simp only [decide_eq_false hl,Bool.false_eq_true,if_false,Bool.false_and]
   cases down <;> rfl
 have eu:u107_0 place speed k down way tr br fd=k+1:=by
  unfold u107_0
  split <;> split <;> rfl
 have ef:u107_1 place speed k down way tr br fd=(decide (place<way)&&bad71 tr br down way place speed):=by
  unfold u107_1 bad71
  by_cases hl:place<way
  ·simp only [decide_eq_true hl,if_true,Bool.true_and]
   cases down <;> rfl
  ·simp only [decide_eq_false hl,Bool.false_eq_true,if_false,Bool.false_and]
   cases down <;> rfl
 refine h.mono ?_
 rintro e w' ⟨rs,ubs,rbs,Fz,rfl,hk,⟨v,s,b,bs,rfl,rfl,⟨cs,ho,hi⟩,rfl,rfl⟩,⟨v1,s1,b1,bs1,hv1,rfl,⟨y1,hy1,hp1⟩,v2,s2,b2,bs2,hv2,rfl,⟨y2,hy2,hp2⟩,_⟩,_⟩
 obtain ⟨ho,_⟩:=ho
 have hi:cs=[v]:=hi
 rw [ho] at hi
 cases hi
 cases hv1
 cases hv2
 cases hy1
 cases hy2
 rw [eu] at hp1
 rw [ef] at hp2
 refine ⟨by rw [← eg];rfl,hk,pbBox71 rfl hp1 (fun cs h=>h.1),pbBox71 rfl hp2 (fun cs h=>h)⟩
theorem nxt71 (W:World) (pf:PR71) (s l:Int) (hgo:GOk W []) (hw:Wf PY71 pf) (is:InR .i64 s) (il:InR .i64 l) (hp:P132 pf s l) :
  Calls Tryz.prog 132 #[.agg #[.int .i64 pf.1,.int .i64 pf.2.1,.int .i64 pf.2.2.1,.int .i64 pf.2.2.2.1],.int .i64 s,.int .i64 l] W fun e w'=>e = .returned (.int .i64 (g132_0 pf s l))∧Below W.heap.size W w':=by
 have hr:RepC W (Am.Good W []) PY71 pf (fcells PY71 pf):=(OwnC.flat (w:=W) (w':=W) (G:=Am.Good W []) rfl (own_of_wf rfl hw)).1
 have h:=con132.down rfl W (pf,s,l,()) [.agg #[.int .i64 pf.1,.int .i64 pf.2.1,.int .i64 pf.2.2.1,.int .i64 pf.2.2.2.1],.int .i64 s,.int .i64 l] [[],[],[]] hgo hp ⟨_,_,_,_,rfl,rfl,⟨rfl,fcells PY71 pf,rfl,hr⟩,_,_,_,_,rfl,rfl,⟨rfl,rfl,is⟩,_,_,_,_,rfl,rfl,⟨rfl,rfl,il⟩,rfl,rfl⟩ (by simp)
 refine h.mono ?_
 rintro e w' ⟨rs,ubs,rbs,rfl,hk,⟨u,s,b1,bs1,cs,rfl,rfl,ho,hv,rfl,rfl⟩,_⟩
 obtain ⟨ho,_⟩:=ho
 have hv:cs=[u]:=hv
 rw [ho] at hv
 cases hv
 exact ⟨rfl,hk.below⟩
theorem gokK71 {O:List Nat} {w W:World} (h:GOk w O) (hk:Kept O w W):GOk W O where
 inv:=h.inv.keep fun b hb hs=>hk.block b hs fun ho=>by have:=h.out b ho;omega
 size:=Nat.le_trans h.size hk.size
 out:=h.out
theorem good71 {O:List Nat} {w W:World} (hk:Kept O w W):∀ b,Am.Good w O b→Am.Good W O b:=fun b h=>⟨Nat.lt_of_lt_of_le h.1 hk.size,h.2⟩
theorem ptrK71 {O:List Nat} {w W:World} (hk:Kept O w W) {t:Ty} {x:t.den} {v:Value} (h:PtrAt w (Am.Good w O) t x v):PtrAt W (Am.Good W O) t x v:=h.keepB (good71 hk) (fun b hb=>hk.block b hb.1 hb.2)
def Fin71 (w:World) (S F:Nat):Option Int→Prop
 | some r=>Box71 w S (.int .i64 r)∧Box71 w F (.bool true)
 | none=>Box71 w F (.bool false)
theorem rideEnd71 (nx:Int→Int→Int) (bad:Int→Int→Bool) (n:Int) (f:Nat) (place speed k:Int) (h:¬ place<n):rideL nx bad n f place speed k=none:=by
 cases f with
 | zero=>rfl
 | succ f=>rw [rideL,if_neg h]
theorem cel71 {w:World} {b:Nat} {cs:Array Value} {ty:TypeId} (h:w.heap[b]? = some (.cells cs ty)) (j:Nat) (u:Value) (hj:cs[j]? = some u):w.cell? ⟨b,j,none⟩=some u:=by
 unfold World.cell?
 rw [show w.heap[(⟨b,j,none⟩:Addr).block]? = _ from h]
 exact hj
set_option maxHeartbeats 4000000 in
theorem ride71 (W:World) (S D Wy T Bk F:Nat) (down:Bool) (way:Int) (tr:TR71) (br:BR71) (pf:PR71) (fu:Nat) (hgo:GOk W [S,F]) (hne:S≠F) (hS:Box71 W S (.int .i64 0)) (hF:Box71 W F (.bool false))
  (hD:PtrAt W (Am.Good W [S,F]) .bool down (ptr71 D)) (hW:PtrAt W (Am.Good W [S,F]) (.int .i64) way (ptr71 Wy)) (hT:PtrAt W (Am.Good W [S,F]) TY71 tr (ptr71 T)) (hB:PtrAt W (Am.Good W [S,F]) BY71 br (ptr71 Bk)) (hw:Wf PY71 pf) (hway:0≤way∧way≤3000000) (hfu:way≤(fu:Int))
  (hnx:∀ s l,0≤s→s≤15000→1≤l→l≤way→P132 pf s l∧1≤g132_0 pf s l∧g132_0 pf s l≤l∧g132_0 pf s l≤15000)
  (hcl:∀ place s k fd,0≤place→place≤way→0≤s→s≤15000→0≤k→k≤3000000→P107 place s k down way tr br fd) :
  Calls Tryz.prog 106 #[.agg #[.int .i64 pf.1,.int .i64 pf.2.1,.int .i64 pf.2.2.1,.int .i64 pf.2.2.2.1],.int .i64 way,.func (.func 107) #[] #[ptr71 S,ptr71 D,ptr71 Wy,ptr71 T,ptr71 Bk,ptr71 F]] W fun e w'=>e = .returned (.tuple #[])∧Kept [S,F] W w' ∧
   Fin71 w' S F (rideL (g132_0 pf) (bad71 tr br down way) way fu 0 0 0):=by
 have lS:=hS.lt
 have lF:=hF.lt
 have HG:Aside (GOk W [S,F]):=hgo
 have HD:Aside (PtrAt W (Am.Good W [S,F]) .bool down (ptr71 D)):=hD
 have HW:Aside (PtrAt W (Am.Good W [S,F]) (.int .i64) way (ptr71 Wy)):=hW
 have HT:Aside (PtrAt W (Am.Good W [S,F]) TY71 tr (ptr71 T)):=hT
 have HB:Aside (PtrAt W (Am.Good W [S,F]) BY71 br (ptr71 Bk)):=hB
 have HS0:Aside (Box71 W S (.int .i64 0)):=hS
 have HF0:Aside (Box71 W F (.bool false)):=hF
 clear hgo hD hW hT hB hS hF
 go_enter Tryz.func106,Tryz.ntmps106
 go_wp2
 go_loopw [6,7] (fun pl sp wr=>∃ (place speed k:Int) (f:Nat),pl = .int .i64 place∧sp = .int .i64 speed∧(0≤place∧place≤way)∧(0≤speed∧speed≤15000)∧(0≤k∧k≤place)∧way - place≤(f:Int)∧Kept [S,F] W wr ∧
   wr.heap[W.heap.size]? = some (.cells #[.int .i64 pf.1,.int .i64 pf.2.1,.int .i64 pf.2.2.1,.int .i64 pf.2.2.2.1] 45)∧Box71 wr S (.int .i64 k)∧Box71 wr F (.bool false) ∧
   rideL (g132_0 pf) (bad71 tr br down way) way f place speed k=rideL (g132_0 pf) (bad71 tr br down way) way fu 0 0 0) (fun pl _ _=>(way - intOf pl).toNat)
 case atStart=>exact ⟨0,0,0,fu,rfl,rfl,by omega,by omega,by omega,by omega,(Kept.refl _ W).alloc _,heap_alloc_new W _,HS0.out.keep (Below.heap_alloc _ _ _ lS),HF0.out.keep (Below.heap_alloc _ _ _ lF),rfl⟩
 case round =>
  obtain ⟨place,speed,k,f,rfl,rfl,hpl,hsp,hk,hf,hkp,hpb,hbs,hbf,hr⟩:=hrel
  have HK:Aside (Kept [S,F] W wr):=hkp
  have HBS:Aside (Box71 wr S (.int .i64 k)):=hbs
  have HBF:Aside (Box71 wr F (.bool false)):=hbf
  have HR:Aside (rideL (g132_0 pf) (bad71 tr br down way) way f place speed k=rideL (g132_0 pf) (bad71 tr br down way) way fu 0 0 0):=hr
  have lS2:S<wr.heap.size:=hbs.lt
  have lF2:F<wr.heap.size:=hbf.lt
  have G1:Aside (GOk wr []):=⟨(gokK71 HG.out hkp).inv,(gokK71 HG.out hkp).size,fun b h=>by cases h⟩
  have lW:W.heap.size<wr.heap.size:=(Array.getElem?_eq_some_iff.1 hpb).1
  have q0:wr.cell? ⟨W.heap.size,0,none⟩=some (.int .i64 pf.1):=cel71 hpb 0 _ rfl
  have q1:wr.cell? ⟨W.heap.size,1,none⟩=some (.int .i64 pf.2.1):=cel71 hpb 1 _ rfl
  have q2:wr.cell? ⟨W.heap.size,2,none⟩=some (.int .i64 pf.2.2.1):=cel71 hpb 2 _ rfl
  have q3:wr.cell? ⟨W.heap.size,3,none⟩=some (.int .i64 pf.2.2.2.1):=cel71 hpb 3 _ rfl
  have HPB:Aside (wr.heap[W.heap.size]? = some (.cells #[.int .i64 pf.1,.int .i64 pf.2.1,.int .i64 pf.2.2.1,.int .i64 pf.2.2.2.1] 45)):=hpb
  clear hkp hbs hbf hr hpb
  by_cases hlt:place<way
  ·obtain ⟨np,n1,n2,n3⟩:=hnx speed (way - place) hsp.1 hsp.2 (by omega) (by omega)
   have HN:Aside (∀ W1,GOk W1 []→Calls Tryz.prog 132 #[.agg #[.int .i64 pf.1,.int .i64 pf.2.1,.int .i64 pf.2.2.1,.int .i64 pf.2.2.2.1],.int .i64 speed,.int .i64 (way - place)] W1 fun e w'=>e = .returned (.int .i64 (g132_0 pf speed (way - place)))∧Below W1.heap.size W1 w'):=fun W1 h=>nxt71 W1 pf speed (way - place) h hw (by rw [i64_iff];omega) (by rw [i64_iff];omega) np
   obtain ⟨f,rfl⟩:∃ f',f=f'+1:=⟨f - 1,by omega⟩
   have HR2:Aside (rideL (g132_0 pf) (bad71 tr br down way) way fu 0 0 0=if (decide (place+g132_0 pf speed (way - place)<way)&&bad71 tr br down way (place+g132_0 pf speed (way - place)) (g132_0 pf speed (way - place)))=true then some (k+1) else rideL (g132_0 pf) (bad71 tr br down way) way f (place+g132_0 pf speed (way - place)) (g132_0 pf speed (way - place)) (k+1)):=by
    have h:=HR.out
    rw [rideL,if_pos hlt] at h
    exact h.symm
   generalize g132_0 pf speed (way - place)=s at *
   have HC:Aside (∀ W2,Kept [S,F] W W2→Box71 W2 S (.int .i64 k)→Box71 W2 F (.bool false)→Calls Tryz.prog 107 #[.int .i64 (place+s),.int .i64 s,ptr71 S,ptr71 D,ptr71 Wy,ptr71 T,ptr71 Bk,ptr71 F] W2 fun e w'=>e = .returned (.bool (!(decide (place+s<way)&&bad71 tr br down way (place+s) s)))∧Kept [S,F] W2 w'∧Box71 w' S (.int .i64 (k+1))∧Box71 w' F (.bool (decide (place+s<way)&&bad71 tr br down way (place+s) s))) :=
    fun W2 hk2 h1 h2=>clo71 W2 S D Wy T Bk F (place+s) s k false down way tr br (gokK71 HG.out hk2) hne h1 (by rw [i64_iff];omega) h2 (ptrK71 hk2 HD.out) (ptrK71 hk2 HW.out) (ptrK71 hk2 HT.out) (ptrK71 hk2 HB.out) (by rw [i64_iff];omega) (by rw [i64_iff];omega) (hcl _ _ _ _ (by omega) (by omega) (by omega) (by omega) (by omega) (by omega))
   have hq1:IntKind.i64.wrap (way - place)=way - place:=by rw [IntKind.wrap_i64];omega
   have hq2:IntKind.i64.wrap (place+s)=place+s:=by rw [IntKind.wrap_i64];omega
   have hnx:True:=trivial
   have hcl:True:=trivial
   generalize (decide (place+s<way)&&bad71 tr br down way (place+s) s)=bb at *
   cases bb with
   | true =>
    go_wp2_with (first
     | (go_at_call 132;refine (HN.out wr G1.out).mono ?_;rintro e w4 ⟨rfl,b4⟩;have K4:Aside (Kept [S,F] W w4):=HK.out.trans (Kept.of_below b4).of_nil;have S4:Aside (Box71 w4 S (.int .i64 k)):=HBS.out.keep (b4.block S lS2);have F4:Aside (Box71 w4 F (.bool false)):=HBF.out.keep (b4.block F lF2))
     | (go_at_call 107;refine (HC.out w4 K4.out S4.out F4.out).mono ?_;rintro e w5 ⟨rfl,k5,s5,f5⟩;have K5:Aside (Kept [S,F] W w5):=K4.out.trans k5;have S5:Aside (Box71 w5 S (.int .i64 (k+1))):=s5;have F5:Aside (Box71 w5 F (.bool true)):=f5;clear k5 s5 f5))
    (try simp only [Exit.inBlock,Exit.then])
    refine bodyPost_ret (results_none rfl _ _ _) rfl ?_
    exact ⟨rfl,K5.out,by rw [HR2.out,if_pos (by first | exact rfl | exact trivial)];exact ⟨S5.out,F5.out⟩⟩
   | false =>
    go_wp2_with (first
     | (go_at_call 132;refine (HN.out wr G1.out).mono ?_;rintro e w4 ⟨rfl,b4⟩;have K4:Aside (Kept [S,F] W w4):=HK.out.trans (Kept.of_below b4).of_nil;have S4:Aside (Box71 w4 S (.int .i64 k)):=HBS.out.keep (b4.block S lS2);have F4:Aside (Box71 w4 F (.bool false)):=HBF.out.keep (b4.block F lF2);have P4:Aside (w4.heap[W.heap.size]? = some (.cells #[.int .i64 pf.1,.int .i64 pf.2.1,.int .i64 pf.2.2.1,.int .i64 pf.2.2.2.1] 45)):=(b4.block _ lW).trans HPB.out;have lW4:W.heap.size<w4.heap.size:=Nat.lt_of_lt_of_le lW b4.size)
     | (go_at_call 107;refine (HC.out w4 K4.out S4.out F4.out).mono ?_;rintro e w5 ⟨rfl,k5,s5,f5⟩;have K5:Aside (Kept [S,F] W w5):=K4.out.trans k5;have S5:Aside (Box71 w5 S (.int .i64 (k+1))):=s5;have F5:Aside (Box71 w5 F (.bool false)):=f5;have P5:Aside (w5.heap[W.heap.size]? = some (.cells #[.int .i64 pf.1,.int .i64 pf.2.1,.int .i64 pf.2.2.1,.int .i64 pf.2.2.2.1] 45)):=(k5.block _ lW4 (by simp;omega)).trans P4.out;clear k5 s5 f5))
    exact ⟨⟨place+s,s,k+1,f,rfl,rfl,by omega,by omega,by omega,by omega,K5.out,P5.out,S5.out,F5.out,by rw [HR2.out,if_neg (by simp)]⟩,by simp [intOf];omega⟩
  ·go_wp2
   go_end0
   exact ⟨rfl,HK.out,by rw [← HR.out,rideEnd71 _ _ _ _ _ _ _ (by omega)];exact HBF.out⟩
def P71 (x0:TR71) (x1:BR71) (x2:PR71) (x3:Bool):Prop:=g92_0 x0=true→g94_0 x1=true→g95_0 x2=true→P103 x0∧(0≤g103_0 x0∧g103_0 x0≤3000000) ∧
 (∀ s l,0≤s→s≤15000→1≤l→l≤g103_0 x0→P132 x2 s l∧1≤g132_0 x2 s l∧g132_0 x2 s l≤l∧g132_0 x2 s l≤15000) ∧
 (∀ place s k fd,0≤place→place≤g103_0 x0→0≤s→s≤15000→0≤k→k≤3000000→P107 place s k x3 (g103_0 x0) x0 x1 fd)
def code71:Option Int→Int
 | some _=>0
 | none=>3
def run71 (x0:TR71) (x1:BR71) (x2:PR71) (x3:Bool):Option Int:=rideL (g132_0 x2) (bad71 x0 x1 x3 (g103_0 x0)) (g103_0 x0) (g103_0 x0).toNat 0 0 0
def g71_0 (x0:TR71) (x1:BR71) (x2:PR71) (x3:Bool):Int:=if (g92_0 x0&&g94_0 x1&&g95_0 x2)=true then (run71 x0 x1 x2 x3).getD 0 else 0
def g71_1 (x0:TR71) (x1:BR71) (x2:PR71) (x3:Bool):Int:=if (g92_0 x0&&g94_0 x1&&g95_0 x2)=true then code71 (run71 x0 x1 x2 x3) else 1
theorem rideNon71 {nx:Int→Int→Int} {bad:Int→Int→Bool} {n:Int}:∀ {f:Nat} {p s k r:Int},0≤k→rideL nx bad n f p s k=some r→0≤r∧r≤k+(f:Int)
 | 0,_,_,_,_,_,h=>by cases h
 | f+1,p,s,k,r,hk,h=>by
  rw [rideL] at h
  split at h
  ·split at h
   ·cases h;omega
   ·have:=rideNon71 (by omega) h
    omega
  ·cases h
theorem trk71 (W:World) (tr:TR71) (v:Value) (hgo:GOk W []) (hv:∃ cs,v = .agg cs.toArray∧RepC W (Am.Good W []) TY71 tr cs) :
  Calls Tryz.prog 92 #[v] W fun e w'=>e = .returned (.bool (g92_0 tr))∧Below W.heap.size W w':=by
 have h:=con92.down rfl W (tr,()) [v] [[]] hgo trivial ⟨_,_,_,_,rfl,rfl,⟨rfl,hv⟩,rfl,rfl⟩ (by simp)
 refine h.mono ?_
 rintro e w' ⟨rs,ubs,rbs,rfl,hk,⟨u,s,b1,bs1,cs,rfl,rfl,ho,hv,rfl,rfl⟩,_⟩
 obtain ⟨ho,_⟩:=ho
 have hv:cs=[u]:=hv
 rw [ho] at hv
 cases hv
 exact ⟨rfl,hk.below⟩
theorem len71 (W:World) (tr:TR71) (v:Value) (hgo:GOk W []) (hv:∃ cs,v = .agg cs.toArray∧RepC W (Am.Good W []) TY71 tr cs) (hp:P103 tr) :
  Calls Tryz.prog 103 #[v] W fun e w'=>e = .returned (.int .i64 (g103_0 tr))∧Below W.heap.size W w':=by
 have h:=con103.down rfl W (tr,()) [v] [[]] hgo hp ⟨_,_,_,_,rfl,rfl,⟨rfl,hv⟩,rfl,rfl⟩ (by simp)
 refine h.mono ?_
 rintro e w' ⟨rs,ubs,rbs,rfl,hk,⟨u,s,b1,bs1,cs,rfl,rfl,ho,hv,rfl,rfl⟩,_⟩
 obtain ⟨ho,_⟩:=ho
 have hv:cs=[u]:=hv
 rw [ho] at hv
 cases hv
 exact ⟨rfl,hk.below⟩
theorem brk71 (W:World) (br:BR71) (hgo:GOk W []) (hw:Wf BY71 br) :
  Calls Tryz.prog 94 #[.agg #[.int .i64 br.1,.int .i64 br.2.1]] W fun e w'=>e = .returned (.bool (g94_0 br))∧Below W.heap.size W w':=by
 have hr:RepC W (Am.Good W []) BY71 br (fcells BY71 br):=(OwnC.flat (w:=W) (w':=W) (G:=Am.Good W []) rfl (own_of_wf rfl hw)).1
 have h:=con94.down rfl W (br,()) [.agg #[.int .i64 br.1,.int .i64 br.2.1]] [[]] hgo trivial ⟨_,_,_,_,rfl,rfl,⟨rfl,fcells BY71 br,rfl,hr⟩,rfl,rfl⟩ (by simp)
 refine h.mono ?_
 rintro e w' ⟨rs,ubs,rbs,rfl,hk,⟨u,s,b1,bs1,cs,rfl,rfl,ho,hv,rfl,rfl⟩,_⟩
 obtain ⟨ho,_⟩:=ho
 have hv:cs=[u]:=hv
 rw [ho] at hv
 cases hv
 exact ⟨rfl,hk.below⟩
theorem prf71 (W:World) (pf:PR71) (hgo:GOk W []) (hw:Wf PY71 pf) :
  Calls Tryz.prog 95 #[.agg #[.int .i64 pf.1,.int .i64 pf.2.1,.int .i64 pf.2.2.1,.int .i64 pf.2.2.2.1]] W fun e w'=>e = .returned (.bool (g95_0 pf))∧Below W.heap.size W w':=by
 have hr:RepC W (Am.Good W []) PY71 pf (fcells PY71 pf):=(OwnC.flat (w:=W) (w':=W) (G:=Am.Good W []) rfl (own_of_wf rfl hw)).1
 have h:=con95.down rfl W (pf,()) [.agg #[.int .i64 pf.1,.int .i64 pf.2.1,.int .i64 pf.2.2.1,.int .i64 pf.2.2.2.1]] [[]] hgo trivial ⟨_,_,_,_,rfl,rfl,⟨rfl,fcells PY71 pf,rfl,hr⟩,rfl,rfl⟩ (by simp)
 refine h.mono ?_
 rintro e w' ⟨rs,ubs,rbs,rfl,hk,⟨u,s,b1,bs1,cs,rfl,rfl,ho,hv,rfl,rfl⟩,_⟩
 obtain ⟨ho,_⟩:=ho
 have hv:cs=[u]:=hv
 rw [ho] at hv
 cases hv
 exact ⟨rfl,hk.below⟩
theorem gokB71 {w W:World} (h:GOk w []) (hb:Below w.heap.size w W):GOk W []:=gokK71 h (Kept.of_below hb)
theorem trkB71 {w W:World} (hb:Below w.heap.size w W) {tr:TR71} {v:Value} (hv:∃ cs,v = .agg cs.toArray∧RepC w (Am.Good w []) TY71 tr cs):∃ cs,v = .agg cs.toArray∧RepC W (Am.Good W []) TY71 tr cs:=by
 obtain ⟨cs,rfl,h⟩:=hv
 exact ⟨cs,rfl,h.keep (good71 (Kept.of_below hb)) (fun b hb'=>hb.block b hb'.1)⟩
structure Env71 (w:World) (sl:Value) (tr:TR71) (br:BR71) (pf:PR71) (down:Bool) (W:World):Prop where
 low:Below w.heap.size w W
 t:W.heap[w.heap.size]? = some (.cells #[sl,.int .i64 tr.2.1,.int .i64 tr.2.2.1] 43)
 b:W.heap[w.heap.size+1]? = some (.cells #[.int .i64 br.1,.int .i64 br.2.1] 44)
 p:W.heap[w.heap.size+1+1]? = some (.cells #[.int .i64 pf.1,.int .i64 pf.2.1,.int .i64 pf.2.2.1,.int .i64 pf.2.2.2.1] 45)
 d:W.heap[w.heap.size+1+1+1]? = some (.cells #[.bool down] 4)
theorem Env71.keep {w W W':World} {sl:Value} {tr:TR71} {br:BR71} {pf:PR71} {down:Bool} (h:Env71 w sl tr br pf down W) (hb:Below W.heap.size W W'):Env71 w sl tr br pf down W' where
 low:=h.low.trans (hb.mono h.low.size)
 t:=(hb.block _ (Array.getElem?_eq_some_iff.1 h.t).1).trans h.t
 b:=(hb.block _ (Array.getElem?_eq_some_iff.1 h.b).1).trans h.b
 p:=(hb.block _ (Array.getElem?_eq_some_iff.1 h.p).1).trans h.p
 d:=(hb.block _ (Array.getElem?_eq_some_iff.1 h.d).1).trans h.d
theorem new71 (w:World) (o:Obj) (n:Nat) (hn:w.heap.size=n):(w.alloc o).heap[n]? = some o:=by
 subst hn
 exact heap_alloc_new w o
theorem env71 (w:World) (sl:Value) (tr:TR71) (br:BR71) (pf:PR71) (down:Bool) :
  Env71 w sl tr br pf down ((((w.alloc (.cells #[sl,.int .i64 tr.2.1,.int .i64 tr.2.2.1] 43)).alloc (.cells #[.int .i64 br.1,.int .i64 br.2.1] 44)).alloc (.cells #[.int .i64 pf.1,.int .i64 pf.2.1,.int .i64 pf.2.2.1,.int .i64 pf.2.2.2.1] 45)).alloc (.cells #[.bool down] 4)):=by
 refine ⟨((((Below.refl _ w).alloc (Nat.le_refl _) _).alloc (by simp) _).alloc (by simp <;> omega) _).alloc (by simp <;> omega) _,?_,?_,?_,?_⟩
 ·rw [Below.heap_alloc _ _ _ (by simp <;> omega),Below.heap_alloc _ _ _ (by simp <;> omega),Below.heap_alloc _ _ _ (by simp)]
  exact heap_alloc_new w _
 ·rw [Below.heap_alloc _ _ _ (by simp <;> omega),Below.heap_alloc _ _ _ (by simp)]
  exact new71 _ _ _ (by simp)
 ·rw [Below.heap_alloc _ _ _ (by simp)]
  exact new71 _ _ _ (by simp)
 ·exact new71 _ _ _ (by simp)
theorem boxOf71 {W:World} {b:Nat} {u:Value} {ty:TypeId} (h:W.heap[b]? = some (.cells #[u] ty)):Box71 W b u:=⟨#[u],ty,(0,0),h,rfl,fun j _ hj=>by have:=hj.2;omega,.inl rfl⟩
abbrev W771 (w4:World) (way:Int):World:=((w4.alloc (.cells #[.int .i64 way] 2)).alloc (.cells #[.int .i64 0] 2)).alloc (.cells #[.bool false] 4)
theorem low771 (w4:World) (way:Int):Below w4.heap.size w4 (W771 w4 way):=(((Below.refl _ w4).alloc (Nat.le_refl _) _).alloc (by simp) _).alloc (by simp <;> omega) _
theorem way771 (w4:World) (way:Int):(W771 w4 way).heap[w4.heap.size]? = some (.cells #[.int .i64 way] 2):=by
 rw [Below.heap_alloc _ _ _ (by simp <;> omega),Below.heap_alloc _ _ _ (by simp)]
 exact heap_alloc_new w4 _
theorem sec771 (w4:World) (way:Int):(W771 w4 way).heap[w4.heap.size+1]? = some (.cells #[.int .i64 0] 2):=by
 rw [Below.heap_alloc _ _ _ (by simp)]
 exact new71 _ _ _ (by simp)
theorem fnd771 (w4:World) (way:Int):(W771 w4 way).heap[w4.heap.size+1+1]? = some (.cells #[.bool false] 4):=new71 _ _ _ (by simp)
theorem call71 {w w4:World} {sl:Value} {tr:TR71} {br:BR71} {pf:PR71} {down:Bool} (E4:Env71 w sl tr br pf down w4) (hgo:GOk w []) (hv:∃ cs,Value.agg #[sl,.int .i64 tr.2.1,.int .i64 tr.2.2.1] = .agg cs.toArray∧RepC w (Am.Good w []) TY71 tr cs) (hw1:Wf BY71 br) (hw2:Wf PY71 pf)
  (p2:0≤g103_0 tr∧g103_0 tr≤3000000)
  (p3:∀ s l,0≤s→s≤15000→1≤l→l≤g103_0 tr→P132 pf s l∧1≤g132_0 pf s l∧g132_0 pf s l≤l∧g132_0 pf s l≤15000)
  (p4:∀ place s k fd,0≤place→place≤g103_0 tr→0≤s→s≤15000→0≤k→k≤3000000→P107 place s k down (g103_0 tr) tr br fd) :
  Calls Tryz.prog 106 #[.agg #[.int .i64 pf.1,.int .i64 pf.2.1,.int .i64 pf.2.2.1,.int .i64 pf.2.2.2.1],.int .i64 (g103_0 tr),.func (.func 107) #[] #[ptr71 (w4.heap.size+1),ptr71 (w.heap.size+1+1+1),ptr71 w4.heap.size,ptr71 w.heap.size,ptr71 (w.heap.size+1),ptr71 (w4.heap.size+1+1)]] (W771 w4 (g103_0 tr)) fun e w' =>
   e = .returned (.tuple #[])∧Below w.heap.size w w'∧Fin71 w' (w4.heap.size+1) (w4.heap.size+1+1) (run71 tr br pf down):=by
 have low:=low771 w4 (g103_0 tr)
 have E7:=E4.keep low
 have ls:(W771 w4 (g103_0 tr)).heap.size=w4.heap.size+3:=by simp
 have l4:w.heap.size+4≤w4.heap.size:=by have:=(Array.getElem?_eq_some_iff.1 E4.d).1;omega
 have g7:GOk (W771 w4 (g103_0 tr)) []:=gokB71 hgo E7.low
 have g4:GOk w4 []:=gokB71 hgo E4.low
 have gs:=g4.size
 obtain ⟨cs,hcs,hrep⟩:=hv
 obtain rfl:cs=[sl,.int .i64 tr.2.1,.int .i64 tr.2.2.1]:=by
  have:=congrArg Value.cells hcs
  simpa [Value.cells] using congrArg Array.toList (show cs.toArray = #[sl,.int .i64 tr.2.1,.int .i64 tr.2.2.1] by cases hcs;rfl)
 have hr:=ride71 (W771 w4 (g103_0 tr)) (w4.heap.size+1) (w.heap.size+1+1+1) w4.heap.size w.heap.size (w.heap.size+1) (w4.heap.size+1+1) down (g103_0 tr) tr br pf (g103_0 tr).toNat
  ⟨g7.inv,g7.size,fun b hb=>by simp at hb;omega⟩ (by omega) (boxOf71 (sec771 _ _)) (boxOf71 (fnd771 _ _))
  ⟨_,_,[.bool down],rfl,⟨by rw [ls];omega,by simp <;> omega⟩,fun j c hj => ?_,rfl⟩
  ⟨_,_,[.int .i64 (g103_0 tr)],rfl,⟨by rw [ls];omega,by simp <;> omega⟩,fun j c hj => ?_,rfl,by rw [i64_iff];omega⟩
  ⟨_,_,[sl,.int .i64 tr.2.1,.int .i64 tr.2.2.1],rfl,⟨by rw [ls];omega,by simp <;> omega⟩,fun j c hj => ?_,hrep.keep (fun b hb=>⟨by rw [ls];have:=hb.1;omega,by have:=hb.1;simp;omega⟩) (fun b hb=>E7.low.block b hb.1)⟩
  ⟨_,_,fcells BY71 br,rfl,⟨by rw [ls];omega,by simp <;> omega⟩,fun j c hj => ?_,(OwnC.flat (w:=w) (G:=Am.Good (W771 w4 (g103_0 tr)) [w4.heap.size+1,w4.heap.size+1+1]) rfl (own_of_wf rfl hw1)).1⟩
  hw2 p2 (by omega) p3 p4
 ·refine hr.mono ?_
  rintro e w' ⟨rfl,hk,hf⟩
  refine ⟨rfl,⟨hk.os.trans E7.low.os,hk.tape.trans E7.low.tape,hk.output.trans E7.low.output,Nat.le_trans E7.low.size hk.size,fun q hq => ?_⟩,hf⟩
  exact (hk.block q (by rw [ls];omega) (by simp <;> omega)).trans (E7.low.block q hq)
 ·rcases j with _ | j
  ·simp at hj;subst hj
   exact cel71 E7.d 0 _ rfl
  ·simp at hj
 ·rcases j with _ | j
  ·simp at hj;subst hj
   exact cel71 (way771 _ _) 0 _ rfl
  ·simp at hj
 ·rw [Nat.zero_add]
  exact cel71 E7.t j c (by simpa using hj)
 ·rw [Nat.zero_add]
  exact cel71 E7.b j c (by simpa [fcells] using hj)
set_option maxHeartbeats 8000000 in
theorem walk71 (w:World) (sl:Value) (tr:TR71) (br:BR71) (pf:PR71) (down:Bool) (hgo:GOk w []) (hv:∃ cs,Value.agg #[sl,.int .i64 tr.2.1,.int .i64 tr.2.2.1] = .agg cs.toArray∧RepC w (Am.Good w []) TY71 tr cs) (hw1:Wf BY71 br) (hw2:Wf PY71 pf)
  (h1:g92_0 tr=true) (h2:g94_0 br=true) (h3:g95_0 pf=true) (hp:P71 tr br pf down) :
  Calls Tryz.prog 71 #[.agg #[sl,.int .i64 tr.2.1,.int .i64 tr.2.2.1],.agg #[.int .i64 br.1,.int .i64 br.2.1],.agg #[.int .i64 pf.1,.int .i64 pf.2.1,.int .i64 pf.2.2.1,.int .i64 pf.2.2.2.1],.bool down] w fun e w' =>
   e = .returned (.tuple #[.int .i64 ((run71 tr br pf down).getD 0),.int .i64 (code71 (run71 tr br pf down))])∧Below w.heap.size w w':=by
 obtain ⟨p1,p2,p3,p4⟩:=hp h1 h2 h3
 have HG:Aside (GOk w []):=hgo
 have HV:Aside (∃ cs,Value.agg #[sl,.int .i64 tr.2.1,.int .i64 tr.2.2.1] = .agg cs.toArray∧RepC w (Am.Good w []) TY71 tr cs):=hv
 clear hgo hv hp
 have hmf:∀ (fn:Fn) (first cap:Array Value) (w:World),(Instr.makeFunc fn first cap).run Tryz.prog w = .ok (.func fn first cap) w:=fun _ _ _ _=>rfl
 go_enter Tryz.func71,Tryz.ntmps71
 have E0:Aside (Env71 w sl tr br pf down ((((w.alloc (.cells #[sl,.int .i64 tr.2.1,.int .i64 tr.2.2.1] 43)).alloc (.cells #[.int .i64 br.1,.int .i64 br.2.1] 44)).alloc (.cells #[.int .i64 pf.1,.int .i64 pf.2.1,.int .i64 pf.2.2.1,.int .i64 pf.2.2.2.1] 45)).alloc (.cells #[.bool down] 4))):=env71 w sl tr br pf down
 go_wp2_with (go_at_call 92;refine (trk71 _ tr _ (gokB71 HG.out E0.out.low) (trkB71 E0.out.low HV.out)).mono ?_;rintro e w1 ⟨rfl,b1⟩;rw [h1];have E1:Aside (Env71 w sl tr br pf down w1):=E0.out.keep b1;clear b1;have c0:w1.cell? ⟨w.heap.size+1,0,none⟩=some (.int .i64 br.1):=cel71 E1.out.b 0 _ rfl;have c1:w1.cell? ⟨w.heap.size+1,1,none⟩=some (.int .i64 br.2.1):=cel71 E1.out.b 1 _ rfl)
 go_wp2_with (go_at_call 94;refine (brk71 w1 br (gokB71 HG.out E1.out.low) hw1).mono ?_;rintro e w2 ⟨rfl,b2⟩;rw [h2];have E2:Aside (Env71 w sl tr br pf down w2):=E1.out.keep b2;clear b2 c0 c1;have c0:w2.cell? ⟨w.heap.size+1+1,0,none⟩=some (.int .i64 pf.1):=cel71 E2.out.p 0 _ rfl;have c1:w2.cell? ⟨w.heap.size+1+1,1,none⟩=some (.int .i64 pf.2.1):=cel71 E2.out.p 1 _ rfl;have c2:w2.cell? ⟨w.heap.size+1+1,2,none⟩=some (.int .i64 pf.2.2.1):=cel71 E2.out.p 2 _ rfl;have c3:w2.cell? ⟨w.heap.size+1+1,3,none⟩=some (.int .i64 pf.2.2.2.1):=cel71 E2.out.p 3 _ rfl)
 go_wp2_with (go_at_call 95;refine (prf71 w2 pf (gokB71 HG.out E2.out.low) hw2).mono ?_;rintro e w3 ⟨rfl,b3⟩;rw [h3];have E3:Aside (Env71 w sl tr br pf down w3):=E2.out.keep b3;clear b3 c0 c1 c2 c3;have c0:w3.cell? ⟨w.heap.size,0,none⟩=some sl:=cel71 E3.out.t 0 _ rfl;have c1:w3.cell? ⟨w.heap.size,1,none⟩=some (.int .i64 tr.2.1):=cel71 E3.out.t 1 _ rfl;have c2:w3.cell? ⟨w.heap.size,2,none⟩=some (.int .i64 tr.2.2.1):=cel71 E3.out.t 2 _ rfl)
 go_wp2_with (go_at_call 103;refine (len71 w3 tr _ (gokB71 HG.out E3.out.low) (trkB71 E3.out.low HV.out) p1).mono ?_;rintro e w4 ⟨rfl,b4⟩;have E4:Aside (Env71 w sl tr br pf down w4):=E3.out.keep b4;clear b4 c0 c1 c2;have E7:Aside (Env71 w sl tr br pf down (W771 w4 (g103_0 tr))):=E4.out.keep (low771 w4 _);have c0:(W771 w4 (g103_0 tr)).cell? ⟨w.heap.size+1+1,0,none⟩=some (.int .i64 pf.1):=cel71 E7.out.p 0 _ rfl;have c1:(W771 w4 (g103_0 tr)).cell? ⟨w.heap.size+1+1,1,none⟩=some (.int .i64 pf.2.1):=cel71 E7.out.p 1 _ rfl;have c2:(W771 w4 (g103_0 tr)).cell? ⟨w.heap.size+1+1,2,none⟩=some (.int .i64 pf.2.2.1):=cel71 E7.out.p 2 _ rfl;have c3:(W771 w4 (g103_0 tr)).cell? ⟨w.heap.size+1+1,3,none⟩=some (.int .i64 pf.2.2.2.1):=cel71 E7.out.p 3 _ rfl;have c4:(W771 w4 (g103_0 tr)).cell? ⟨w4.heap.size,0,none⟩=some (.int .i64 (g103_0 tr)):=cel71 (way771 w4 _) 0 _ rfl)
 cases hrun:run71 tr br pf down with
 | none =>
  go_wp2_with (go_at_call 106;refine (call71 E4.out HG.out HV.out hw1 hw2 p2 p3 p4).mono ?_;rintro e w5 ⟨rfl,b5,f5⟩;rw [hrun] at f5;have B5:Aside (Below w.heap.size w w5):=b5;have c5:w5.cell? ⟨w4.heap.size+1+1,0,none⟩=some (.bool false):=Box71.cell f5;clear b5 f5)
  go_ret2
  exact ⟨by rw [hrun];rfl,B5.out⟩
 | some r =>
  go_wp2_with (go_at_call 106;refine (call71 E4.out HG.out HV.out hw1 hw2 p2 p3 p4).mono ?_;rintro e w5 ⟨rfl,b5,f5⟩;rw [hrun] at f5;have B5:Aside (Below w.heap.size w w5):=b5;have c5:w5.cell? ⟨w4.heap.size+1+1,0,none⟩=some (.bool true):=Box71.cell f5.2;have c6:w5.cell? ⟨w4.heap.size+1,0,none⟩=some (.int .i64 r):=Box71.cell f5.1;clear b5 f5)
  go_ret2
  exact ⟨by rw [hrun];rfl,B5.out⟩
set_option maxHeartbeats 4000000 in
theorem bad171 (w:World) (sl:Value) (tr:TR71) (br:BR71) (pf:PR71) (down:Bool) (hgo:GOk w []) (hv:∃ cs,Value.agg #[sl,.int .i64 tr.2.1,.int .i64 tr.2.2.1] = .agg cs.toArray∧RepC w (Am.Good w []) TY71 tr cs) (h1:g92_0 tr=false) :
  Calls Tryz.prog 71 #[.agg #[sl,.int .i64 tr.2.1,.int .i64 tr.2.2.1],.agg #[.int .i64 br.1,.int .i64 br.2.1],.agg #[.int .i64 pf.1,.int .i64 pf.2.1,.int .i64 pf.2.2.1,.int .i64 pf.2.2.2.1],.bool down] w fun e w'=>e = .returned (.tuple #[.int .i64 0,.int .i64 1])∧Below w.heap.size w w':=by
 have HG:Aside (GOk w []):=hgo
 have HV:Aside (∃ cs,Value.agg #[sl,.int .i64 tr.2.1,.int .i64 tr.2.2.1] = .agg cs.toArray∧RepC w (Am.Good w []) TY71 tr cs):=hv
 clear hgo hv
 go_enter Tryz.func71,Tryz.ntmps71
 have E0:Aside (Env71 w sl tr br pf down ((((w.alloc (.cells #[sl,.int .i64 tr.2.1,.int .i64 tr.2.2.1] 43)).alloc (.cells #[.int .i64 br.1,.int .i64 br.2.1] 44)).alloc (.cells #[.int .i64 pf.1,.int .i64 pf.2.1,.int .i64 pf.2.2.1,.int .i64 pf.2.2.2.1] 45)).alloc (.cells #[.bool down] 4))):=env71 w sl tr br pf down
 go_wp2_with (go_at_call 92;refine (trk71 _ tr _ (gokB71 HG.out E0.out.low) (trkB71 E0.out.low HV.out)).mono ?_;rintro e w1 ⟨rfl,b1⟩;rw [h1];have E1:Aside (Env71 w sl tr br pf down w1):=E0.out.keep b1;clear b1)
 go_ret2
 exact ⟨rfl,E1.out.low⟩
set_option maxHeartbeats 4000000 in
theorem bad271 (w:World) (sl:Value) (tr:TR71) (br:BR71) (pf:PR71) (down:Bool) (hgo:GOk w []) (hv:∃ cs,Value.agg #[sl,.int .i64 tr.2.1,.int .i64 tr.2.2.1] = .agg cs.toArray∧RepC w (Am.Good w []) TY71 tr cs) (hw1:Wf BY71 br) (h1:g92_0 tr=true) (h2:g94_0 br=false) :
  Calls Tryz.prog 71 #[.agg #[sl,.int .i64 tr.2.1,.int .i64 tr.2.2.1],.agg #[.int .i64 br.1,.int .i64 br.2.1],.agg #[.int .i64 pf.1,.int .i64 pf.2.1,.int .i64 pf.2.2.1,.int .i64 pf.2.2.2.1],.bool down] w fun e w'=>e = .returned (.tuple #[.int .i64 0,.int .i64 1])∧Below w.heap.size w w':=by
 have HG:Aside (GOk w []):=hgo
 have HV:Aside (∃ cs,Value.agg #[sl,.int .i64 tr.2.1,.int .i64 tr.2.2.1] = .agg cs.toArray∧RepC w (Am.Good w []) TY71 tr cs):=hv
 clear hgo hv
 go_enter Tryz.func71,Tryz.ntmps71
 have E0:Aside (Env71 w sl tr br pf down ((((w.alloc (.cells #[sl,.int .i64 tr.2.1,.int .i64 tr.2.2.1] 43)).alloc (.cells #[.int .i64 br.1,.int .i64 br.2.1] 44)).alloc (.cells #[.int .i64 pf.1,.int .i64 pf.2.1,.int .i64 pf.2.2.1,.int .i64 pf.2.2.2.1] 45)).alloc (.cells #[.bool down] 4))):=env71 w sl tr br pf down
 go_wp2_with (go_at_call 92;refine (trk71 _ tr _ (gokB71 HG.out E0.out.low) (trkB71 E0.out.low HV.out)).mono ?_;rintro e w1 ⟨rfl,b1⟩;rw [h1];have E1:Aside (Env71 w sl tr br pf down w1):=E0.out.keep b1;clear b1;have c0:w1.cell? ⟨w.heap.size+1,0,none⟩=some (.int .i64 br.1):=cel71 E1.out.b 0 _ rfl;have c1:w1.cell? ⟨w.heap.size+1,1,none⟩=some (.int .i64 br.2.1):=cel71 E1.out.b 1 _ rfl)
 go_wp2_with (go_at_call 94;refine (brk71 w1 br (gokB71 HG.out E1.out.low) hw1).mono ?_;rintro e w2 ⟨rfl,b2⟩;rw [h2];have E2:Aside (Env71 w sl tr br pf down w2):=E1.out.keep b2;clear b2 c0 c1)
 go_ret2
 exact ⟨rfl,E2.out.low⟩
set_option maxHeartbeats 4000000 in
theorem bad371 (w:World) (sl:Value) (tr:TR71) (br:BR71) (pf:PR71) (down:Bool) (hgo:GOk w []) (hv:∃ cs,Value.agg #[sl,.int .i64 tr.2.1,.int .i64 tr.2.2.1] = .agg cs.toArray∧RepC w (Am.Good w []) TY71 tr cs) (hw1:Wf BY71 br) (hw2:Wf PY71 pf) (h1:g92_0 tr=true) (h2:g94_0 br=true) (h3:g95_0 pf=false) :
  Calls Tryz.prog 71 #[.agg #[sl,.int .i64 tr.2.1,.int .i64 tr.2.2.1],.agg #[.int .i64 br.1,.int .i64 br.2.1],.agg #[.int .i64 pf.1,.int .i64 pf.2.1,.int .i64 pf.2.2.1,.int .i64 pf.2.2.2.1],.bool down] w fun e w'=>e = .returned (.tuple #[.int .i64 0,.int .i64 1])∧Below w.heap.size w w':=by
 have HG:Aside (GOk w []):=hgo
 have HV:Aside (∃ cs,Value.agg #[sl,.int .i64 tr.2.1,.int .i64 tr.2.2.1] = .agg cs.toArray∧RepC w (Am.Good w []) TY71 tr cs):=hv
 clear hgo hv
 go_enter Tryz.func71,Tryz.ntmps71
 have E0:Aside (Env71 w sl tr br pf down ((((w.alloc (.cells #[sl,.int .i64 tr.2.1,.int .i64 tr.2.2.1] 43)).alloc (.cells #[.int .i64 br.1,.int .i64 br.2.1] 44)).alloc (.cells #[.int .i64 pf.1,.int .i64 pf.2.1,.int .i64 pf.2.2.1,.int .i64 pf.2.2.2.1] 45)).alloc (.cells #[.bool down] 4))):=env71 w sl tr br pf down
 go_wp2_with (go_at_call 92;refine (trk71 _ tr _ (gokB71 HG.out E0.out.low) (trkB71 E0.out.low HV.out)).mono ?_;rintro e w1 ⟨rfl,b1⟩;rw [h1];have E1:Aside (Env71 w sl tr br pf down w1):=E0.out.keep b1;clear b1;have c0:w1.cell? ⟨w.heap.size+1,0,none⟩=some (.int .i64 br.1):=cel71 E1.out.b 0 _ rfl;have c1:w1.cell? ⟨w.heap.size+1,1,none⟩=some (.int .i64 br.2.1):=cel71 E1.out.b 1 _ rfl)
 go_wp2_with (go_at_call 94;refine (brk71 w1 br (gokB71 HG.out E1.out.low) hw1).mono ?_;rintro e w2 ⟨rfl,b2⟩;rw [h2];have E2:Aside (Env71 w sl tr br pf down w2):=E1.out.keep b2;clear b2 c0 c1;have c0:w2.cell? ⟨w.heap.size+1+1,0,none⟩=some (.int .i64 pf.1):=cel71 E2.out.p 0 _ rfl;have c1:w2.cell? ⟨w.heap.size+1+1,1,none⟩=some (.int .i64 pf.2.1):=cel71 E2.out.p 1 _ rfl;have c2:w2.cell? ⟨w.heap.size+1+1,2,none⟩=some (.int .i64 pf.2.2.1):=cel71 E2.out.p 2 _ rfl;have c3:w2.cell? ⟨w.heap.size+1+1,3,none⟩=some (.int .i64 pf.2.2.2.1):=cel71 E2.out.p 3 _ rfl)
 go_wp2_with (go_at_call 95;refine (prf71 w2 pf (gokB71 HG.out E2.out.low) hw2).mono ?_;rintro e w3 ⟨rfl,b3⟩;rw [h3];have E3:Aside (Env71 w sl tr br pf down w3):=E2.out.keep b3;clear b3 c0 c1 c2 c3)
 go_ret2
 exact ⟨rfl,E3.out.low⟩
def sig71:List AT:=[AT.v TY71,AT.v BY71,AT.v PY71,AT.v Ty.bool]
def S71:Am.Spec:={ sig:=sig71,pre:=fun ⟨x0,x1,x2,x3,_⟩=>P71 x0 x1 x2 x3,res:=fun ⟨x0,x1,x2,x3,_⟩=>[⟨.int .i64,g71_0 x0 x1 x2 x3⟩,⟨.int .i64,g71_1 x0 x1 x2 x3⟩] }
theorem rng71 (x0:TR71) (x1:BR71) (x2:PR71) (x3:Bool) (hp:P71 x0 x1 x2 x3):InR .i64 (g71_0 x0 x1 x2 x3)∧InR .i64 (g71_1 x0 x1 x2 x3):=by
 unfold g71_0 g71_1
 by_cases h:(g92_0 x0&&g94_0 x1&&g95_0 x2)=true
 ·rw [if_pos h,if_pos h]
  simp only [Bool.and_eq_true] at h
  obtain ⟨_,p2,_⟩:=hp h.1.1 h.1.2 h.2
  cases hr:run71 x0 x1 x2 x3 with
  | none=>exact ⟨by rw [i64_iff];show _≤(0:Int)∧(0:Int)≤_;omega,by rw [i64_iff];show _≤(3:Int)∧(3:Int)≤_;omega⟩
  | some r =>
   have:=rideNon71 (Int.le_refl 0) hr
   exact ⟨by rw [i64_iff];show _≤r∧r≤_;omega,by rw [i64_iff];show _≤(0:Int)∧(0:Int)≤_;omega⟩
 ·rw [if_neg h,if_neg h]
  exact ⟨by rw [i64_iff];omega,by rw [i64_iff];omega⟩
theorem core71 (w:World) (x0:TR71) (x1:BR71) (x2:PR71) (x3:Bool) (v v1 v2:Value) (hgo:GOk w []) (hp:P71 x0 x1 x2 x3) (h0:∃ cs,v = .agg cs.toArray∧RepC w (Am.Good w []) TY71 x0 cs) (h1:∃ cs,v1 = .agg cs.toArray∧RepC w (Am.Good w []) BY71 x1 cs) (h2:∃ cs,v2 = .agg cs.toArray∧RepC w (Am.Good w []) PY71 x2 cs) :
  Calls Tryz.prog 71 #[v,v1,v2,.bool x3] w fun e w'=>e = .returned (.tuple #[.int .i64 (g71_0 x0 x1 x2 x3),.int .i64 (g71_1 x0 x1 x2 x3)])∧Below w.heap.size w w':=by
 obtain ⟨cs,rfl,c1,c2,rfl,⟨sl,rfl,hsl⟩,c3,c4,rfl,⟨rfl,ia⟩,c5,c6,rfl,⟨rfl,ib⟩,rfl⟩:=h0
 obtain ⟨cs1,rfl,d1,d2,rfl,⟨rfl,ic⟩,d3,d4,rfl,⟨rfl,id⟩,rfl⟩:=h1
 obtain ⟨cs2,rfl,e1,e2,rfl,⟨rfl,ie⟩,e3,e4,rfl,⟨rfl,if'⟩,e5,e6,rfl,⟨rfl,ig⟩,e7,e8,rfl,⟨rfl,ih⟩,rfl⟩:=h2
 have hv:∃ cs,Value.agg #[sl,.int .i64 x0.2.1,.int .i64 x0.2.2.1] = .agg cs.toArray∧RepC w (Am.Good w []) TY71 x0 cs:=⟨_,rfl,_,_,rfl,⟨sl,rfl,hsl⟩,_,_,rfl,⟨rfl,ia⟩,_,_,rfl,⟨rfl,ib⟩,rfl⟩
 have hw1:Wf BY71 x1:=⟨ic,id,trivial⟩
 have hw2:Wf PY71 x2:=⟨ie,if',ig,ih,trivial⟩
 unfold g71_0 g71_1
 cases t1:g92_0 x0 with
 | false=>exact bad171 w sl x0 x1 x2 x3 hgo hv t1
 | true =>
  cases t2:g94_0 x1 with
  | false=>exact bad271 w sl x0 x1 x2 x3 hgo hv hw1 t1 t2
  | true =>
   cases t3:g95_0 x2 with
   | false=>exact bad371 w sl x0 x1 x2 x3 hgo hv hw1 hw2 t1 t2 t3
   | true=>exact walk71 w sl x0 x1 x2 x3 hgo hv hw1 hw2 t1 t2 t3 hp
theorem con71:Contract Tryz.prog 71 S71:=by
 refine Contract0.up rfl rfl ?_
 rintro w ⟨x0,x1,x2,x3,u⟩ vs bss hgo hp ⟨v,s,b,bs,rfl,rfl,⟨rfl,h0⟩,v1,s1,b1,bs1,rfl,rfl,⟨rfl,h1⟩,v2,s2,b2,bs2,rfl,rfl,⟨rfl,h2⟩,v3,s3,b3,bs3,rfl,rfl,⟨rfl,h3⟩,rfl,rfl⟩ hnd
 obtain ⟨rfl,_⟩:v3 = .bool x3∧True:=⟨h3.1,trivial⟩
 refine (core71 w x0 x1 x2 x3 v v1 v2 hgo hp h0 h1 h2).mono ?_
 rintro e w' ⟨rfl,hb⟩
 have hi:InR .i64 (g71_0 x0 x1 x2 x3)∧InR .i64 (g71_1 x0 x1 x2 x3):=rng71 x0 x1 x2 x3 hp
 exact ⟨[.int .i64 (g71_0 x0 x1 x2 x3),.int .i64 (g71_1 x0 x1 x2 x3)],[],[[],[]],rfl,Kept.of_below hb,⟨_,_,_,_,_,rfl,rfl,⟨rfl,hi.1,rfl⟩,rfl,_,_,_,_,_,rfl,rfl,⟨rfl,hi.2,rfl⟩,rfl,rfl,rfl⟩,⟨rfl,rfl⟩,by simp,fun b hb=>by simp at hb⟩
noncomputable section
def ext29:Ext:=[(68,S68),(69,S69),(70,S70),(71,S71)]
theorem ext29Ok:ExtOk Tryz.prog ext29:=⟨⟨ca68,con68⟩,⟨ca69,con69⟩,⟨ca70,con70⟩,⟨ca71,con71⟩,trivial⟩
noncomputable def b29:Code:=bodyOf Tryz.f29
theorem hb29:Tryz.f29.body=some b29:=by kernel_rfl
def sig29:List AT:=[AT.v YA0]
def tys29:List Ty:=[Ty.sl YA8]
def kds29:List RK:=[]
def oks29:List AT:=owns sig29
def E29_6 (v30:Int) (h1:List TyB3) (x0:TyA0):Env:=[(1,PV.a (Atom.optr 0 0 [])),(3,PV.a (Atom.osl 1 Option.none)),(28,PV.a (Atom.osl 2 Option.none)),(29,PV.a (Atom.val (Value.int .i64 2))),(30,PV.a (Atom.val (Value.int .i64 v30)))]
def L29_6 (v30:Int) (h1:List TyB3) (x0:TyA0):Heap:=[Option.some (Arr.mk YA0 [x0] true Option.none (Option.some false)),Option.some (Arr.mk YA8 h1 false Option.none Option.none),Option.some (Arr.mk Ty.str [ByteArray.mk #[117,112],ByteArray.mk #[100,111,119,110]] false Option.none Option.none)]
mutual
def R29:Nat→TyA0→List Dyn→Prop
 | 0,_,_=>False
 | n+1,x0,ds=>((P68 x0.1 x0.2.1)∧(if (!g68_0 x0.1 x0.2.1)=true then ((P69 x0.1)∧((P70 (g69_0 x0.1))∧(R29_6 n (0) ([(1,ByteArray.mk #[99,97,114,115],g70_0 (g69_0 x0.1),())]) (x0) ds))) else (R29_6 n (0) ([]) (x0) ds)))
def R29_6:Nat→Int→List TyB3→TyA0→List Dyn→Prop
 | 0,_,_,_,_=>False
 | n+1,v30,h1,x0,ds=>(if (decide (v30<2))=true then ((0≤v30)∧(v30<2)∧((P71 x0.1 x0.2.2.1 x0.2.2.2.1 (ByteArray.toList (List.getD [ByteArray.mk #[117,112],ByteArray.mk #[100,111,119,110]] (Int.toNat v30) ByteArray.empty)==ByteArray.toList (ByteArray.mk #[100,111,119,110])))∧(if (g71_1 x0.1 x0.2.2.1 x0.2.2.2.1 (ByteArray.toList (List.getD [ByteArray.mk #[117,112],ByteArray.mk #[100,111,119,110]] (Int.toNat v30) ByteArray.empty)==ByteArray.toList (ByteArray.mk #[100,111,119,110]))==0)=true then ((P70 (g71_0 x0.1 x0.2.2.1 x0.2.2.2.1 (ByteArray.toList (List.getD [ByteArray.mk #[117,112],ByteArray.mk #[100,111,119,110]] (Int.toNat v30) ByteArray.empty)==ByteArray.toList (ByteArray.mk #[100,111,119,110]))))∧(((List.length h1+1)*40≤140737488355328)∧((InR .i64 (v30+1))∧(R29_6 n (v30+1) (h1++[(2,List.getD [ByteArray.mk #[117,112],ByteArray.mk #[100,111,119,110]] (Int.toNat v30) ByteArray.empty,g70_0 (g71_0 x0.1 x0.2.2.1 x0.2.2.2.1 (ByteArray.toList (List.getD [ByteArray.mk #[117,112],ByteArray.mk #[100,111,119,110]] (Int.toNat v30) ByteArray.empty)==ByteArray.toList (ByteArray.mk #[100,111,119,110]))),())]) (x0) ds)))) else ((InR .i64 (v30+1))∧(R29_6 n (v30+1) (h1) (x0) ds))))) else (ds=[Dyn.mk (Ty.sl YA8) h1]))
end
theorem snd29:∀ n,(∀ (x0:TyA0) ds,R29 n x0 ds→∀ K q,AtV Tryz.prog 29 (PostR kds29 oks29 ds [] [] q K) 57 K q [] [.code b29] (entE 0 0 sig29 (x0,())) (entL sig29 (x0,())))∧(∀ (v30:Int) (h1:List TyB3) (x0:TyA0) ds,R29_6 n v30 h1 x0 ds→∀ K q,AtV Tryz.prog 29 (PostR kds29 oks29 ds [] [] q K) 57 K q [] (cutAt b29 6) (E29_6 v30 h1 x0) (L29_6 v30 h1 x0)):=by
 intro n
 induction n with
 | zero=>exact ⟨fun _ _ h=>by simp only [R29] at h,fun _ _ _ _ h=>by simp only [R29_6] at h⟩
 | succ n ih =>
 obtain ⟨ih,ih6⟩:=ih
 refine ⟨?_,?_⟩
 ·intro x0 ds h K q
  rw [R29] at h
  obtain ⟨s0,h⟩:=h
  by_cases b0:(!g68_0 x0.1 x0.2.1)=true
  ·rw [if_pos b0] at h
   obtain ⟨s1,h⟩:=h
   obtain ⟨s2,h⟩:=h
   exact AtV.go tabOk ext29Ok mixed false [] [(3,Ty.cons (Ty.int .i64) (Ty.cons Ty.str (Ty.cons Ty.str Ty.unit)))] [1,3,28,29,30] [0,2,3] [true] (a1 s0 (a1 b0 (a1 s1 (a1 s2 (a1 ((by decide):(1:Nat)*(40:Nat)≤(140737488355328:Nat)) trivial))))) (ih6 _ _ _ _ h K q) (by kernel_rfl)
  ·rw [if_neg b0] at h
   replace b0:=Bool.eq_false_iff.2 b0
   exact AtV.go tabOk ext29Ok mixed false [] [(3,Ty.cons (Ty.int .i64) (Ty.cons Ty.str (Ty.cons Ty.str Ty.unit)))] [1,3,28,29,30] [0,2,1] [false] (a1 s0 (a1 b0 trivial)) (ih6 _ _ _ _ h K q) (by kernel_rfl)
 ·intro v30 h1 x0 ds h K q
  rw [R29_6] at h
  by_cases b0:(decide (v30<2))=true
  ·rw [if_pos b0] at h
   obtain ⟨s0,s1,h⟩:=h
   obtain ⟨s2,h⟩:=h
   by_cases b1:(g71_1 x0.1 x0.2.2.1 x0.2.2.2.1 (ByteArray.toList (List.getD [ByteArray.mk #[117,112],ByteArray.mk #[100,111,119,110]] (Int.toNat v30) ByteArray.empty)==ByteArray.toList (ByteArray.mk #[100,111,119,110]))==0)=true
   ·rw [if_pos b1] at h
    obtain ⟨s3,h⟩:=h
    obtain ⟨s4,h⟩:=h
    obtain ⟨s5,h⟩:=h
    exact AtV.go tabOk ext29Ok mixed false [] [(3,Ty.cons (Ty.int .i64) (Ty.cons Ty.str (Ty.cons Ty.str Ty.unit)))] [1,3,28,29,30] [0,1,2] [true,true] (a1 b0 (a1 s0 (a1 s1 (a1 s2 (a1 b1 (a1 s3 (a1 s4 (a1 s5 trivial)))))))) (ih6 _ _ _ _ h K q) (by kernel_rfl)
   ·rw [if_neg b1] at h
    replace b1:=Bool.eq_false_iff.2 b1
    obtain ⟨s3,h⟩:=h
    exact AtV.go tabOk ext29Ok mixed false [] [(3,Ty.cons (Ty.int .i64) (Ty.cons Ty.str (Ty.cons Ty.str Ty.unit)))] [1,3,28,29,30] [0,1,2] [true,false] (a1 b0 (a1 s0 (a1 s1 (a1 s2 (a1 b1 (a1 s3 trivial)))))) (ih6 _ _ _ _ h K q) (by kernel_rfl)
  ·rw [if_neg b0] at h
   replace b0:=Bool.eq_false_iff.2 b0
   subst h
   exact AtV.ret Tryz.func29 tabOk ext29Ok mixed false [] tys29 [false] (a1 b0 trivial) (by kernel_rfl)
def one29 (x0:(TyA0)) (who:ByteArray) (d:Bool):List TyB3:=if (g71_1 x0.1 x0.2.2.1 x0.2.2.2.1 d==0)=true then [(2,who,g70_0 (g71_0 x0.1 x0.2.2.1 x0.2.2.2.1 d),())] else []
def trk029 (x0:(TyA0)):List TyB3:=if (!g68_0 x0.1 x0.2.1)=true then [(1,ByteArray.mk #[99,97,114,115],g70_0 (g69_0 x0.1),())] else []
def g29_0 (x0:(TyA0)):List TyB3:=trk029 x0++one29 x0 (ByteArray.mk #[117,112]) false++one29 x0 (ByteArray.mk #[100,111,119,110]) true
def Pd29 (x0:(TyA0)) (d:Bool):Prop:=P71 x0.1 x0.2.2.1 x0.2.2.2.1 d∧((g71_1 x0.1 x0.2.2.1 x0.2.2.2.1 d==0)=true→P70 (g71_0 x0.1 x0.2.2.1 x0.2.2.2.1 d))
def P29 (x0:(TyA0)):Prop:=P68 x0.1 x0.2.1∧((!g68_0 x0.1 x0.2.1)=true→P69 x0.1∧P70 (g69_0 x0.1))∧Pd29 x0 false∧Pd29 x0 true
theorem r229 (n:Nat) (h:List TyB3) (x0:(TyA0)):R29_6 (n+1) 2 h x0 [⟨.sl (.cons (.int .i64) (.cons .str (.cons .str .unit))),h⟩]:=by
 rw [R29_6,if_neg (by decide)]
theorem r129 (n:Nat) (h:List TyB3) (x0:(TyA0)) (hl:h.length≤5) (hp:Pd29 x0 true):R29_6 (n+1+1) 1 h x0 [⟨.sl (.cons (.int .i64) (.cons .str (.cons .str .unit))),h++one29 x0 (ByteArray.mk #[100,111,119,110]) true⟩]:=by
 have e1:List.getD [ByteArray.mk #[117,112],ByteArray.mk #[100,111,119,110]] (Int.toNat 1) ByteArray.empty=ByteArray.mk #[100,111,119,110]:=rfl
 have e2:(ByteArray.toList (ByteArray.mk #[100,111,119,110])==ByteArray.toList (ByteArray.mk #[100,111,119,110]))=true:=by rw [beq_self_eq_true]
 rw [R29_6,if_pos (by decide),e1,e2]
 refine ⟨by decide,by decide,hp.1,?_⟩
 unfold one29
 by_cases c:(g71_1 x0.1 x0.2.2.1 x0.2.2.2.1 true==0)=true
 ·rw [if_pos c,if_pos c]
  exact ⟨hp.2 c,by omega,by rw [i64_iff];omega,r229 n _ x0⟩
 ·rw [if_neg c,if_neg c,List.append_nil]
  exact ⟨by rw [i64_iff];omega,r229 n _ x0⟩
theorem r029 (n:Nat) (h:List TyB3) (x0:(TyA0)) (hl:h.length≤4) (hp0:Pd29 x0 false) (hp:Pd29 x0 true):R29_6 (n+1+1+1) 0 h x0 [⟨.sl (.cons (.int .i64) (.cons .str (.cons .str .unit))),h++one29 x0 (ByteArray.mk #[117,112]) false++one29 x0 (ByteArray.mk #[100,111,119,110]) true⟩]:=by
 have e1:List.getD [ByteArray.mk #[117,112],ByteArray.mk #[100,111,119,110]] (Int.toNat 0) ByteArray.empty=ByteArray.mk #[117,112]:=rfl
 have e2:(ByteArray.toList (ByteArray.mk #[117,112])==ByteArray.toList (ByteArray.mk #[100,111,119,110]))=false:=by
  rw [Bool.eq_false_iff]
  intro h
  rw [bytes_eq] at h
  exact absurd (congrArg (fun b=>b.data.size) h) (by decide)
 rw [R29_6,if_pos (by decide),e1,e2]
 refine ⟨by decide,by decide,hp0.1,?_⟩
 by_cases c:(g71_1 x0.1 x0.2.2.1 x0.2.2.2.1 false==0)=true
 ·have eo:one29 x0 (ByteArray.mk #[117,112]) false=[(2,ByteArray.mk #[117,112],g70_0 (g71_0 x0.1 x0.2.2.1 x0.2.2.2.1 false),())]:=by
   unfold one29
   rw [if_pos c]
  rw [if_pos c,eo]
  exact ⟨hp0.2 c,by omega,by rw [i64_iff];omega,r129 n _ x0 (by rw [List.length_append,List.length_singleton];omega) hp⟩
 ·have eo:one29 x0 (ByteArray.mk #[117,112]) false=[]:=by
   unfold one29
   rw [if_neg c]
  rw [if_neg c,eo,List.append_nil]
  exact ⟨by rw [i64_iff];omega,r129 n _ x0 (by omega) hp⟩
theorem top29 (x0:(TyA0)) (h:P29 x0):R29 5 x0 [⟨.sl (.cons (.int .i64) (.cons .str (.cons .str .unit))),g29_0 x0⟩]:=by
 obtain ⟨p1,p2,p3,p4⟩:=h
 rw [R29]
 refine ⟨p1,?_⟩
 unfold g29_0 trk029
 by_cases c:(!g68_0 x0.1 x0.2.1)=true
 ·rw [if_pos c,if_pos c]
  exact ⟨(p2 c).1,(p2 c).2,r029 1 _ x0 (by simp) p3 p4⟩
 ·rw [if_neg c,if_neg c]
  exact r029 1 _ x0 (by simp) p3 p4
def S29:Am.Spec:={ sig:=sig29,pre:=fun ⟨x0,_⟩=>P29 x0,res:=fun ⟨x0,_⟩=>[⟨.sl (.cons (.int .i64) (.cons .str (.cons .str .unit))),g29_0 x0⟩] }
theorem con29:Contract Tryz.prog 29 S29:=contract_of Tryz.func29 hb29 (Nat.le_of_ble_eq_true (by kernel_rfl)) (fun ⟨x0,_⟩ h hwf K q =>
 (snd29 _).1 x0 _ (top29 x0 h) K q)
end
noncomputable section
def ext28c29:Ext:=[(67,S67),(29,S29)]
theorem ext28c29Ok:ExtOk Tryz.prog ext28c29:=⟨⟨ca67,con67⟩,⟨ca29,con29⟩,trivial⟩
noncomputable def b28c29:Code:=bodyOf Tryz.f28
theorem hb28c29:Tryz.f28.body=some b28c29:=by kernel_rfl
def sig28c29:List AT:=[AT.v YA0,AT.fns [29]]
def tys28c29:List Ty:=[Ty.sl YA8,Ty.int .i64]
def kds28c29:List RK:=[]
def oks28c29:List AT:=owns sig28c29
def P28c29 (x0:TyA0):Prop:=(if (!g67_0 x0)=true then True else ((P29 x0)∧((List.length (g29_0 x0)*40≤140737488355328)∧True)))
def g28c29_0 (x0:TyA0):List TyB3:=(if (!g67_0 x0)=true then [] else g29_0 x0)
def g28c29_1 (x0:TyA0):Int:=(if (!g67_0 x0)=true then 1 else 0)
theorem at28c29 (x0:TyA0) (h:P28c29 x0) (K:Ctx) (q:Nat→Value):AtV Tryz.prog 28 (PostR kds28c29 oks28c29 [⟨Ty.sl YA8,g28c29_0 x0⟩,⟨Ty.int .i64,g28c29_1 x0⟩] [] [] q K) 25 K q [] [.code b28c29] (entE 0 0 sig28c29 (x0,(),())) (entL sig28c29 (x0,(),())):=by
 unfold P28c29 at h
 unfold g28c29_0 g28c29_1
 by_cases b0:(!g67_0 x0)=true
 ·try simp only [if_pos b0] at h ⊢
  exact AtV.ret Tryz.func28 tabOk ext28c29Ok mixed false [1000007] tys28c29 [true] (a1 trivial (a1 b0 trivial)) (by kernel_rfl)
 ·try simp only [if_neg b0] at h ⊢
  replace b0:=Bool.eq_false_iff.2 b0
  obtain ⟨s0,h⟩:=h
  obtain ⟨s1,h⟩:=h
  exact AtV.ret Tryz.func28 tabOk ext28c29Ok mixed false [1000007] tys28c29 [false,true,false] (a1 trivial (a1 b0 (a1 (rfl:true=true) (a1 ((by decide):(0:Int)≤(0:Int)) (a1 ((by decide):(0:Int)<(1:Int)) (a1 s0 (a1 s1 (a1 ((by decide):InR .i64 1) (a1 (rfl:false=false) trivial))))))))) (by kernel_rfl)
def S28c29:Am.Spec:={ sig:=sig28c29,pre:=fun ⟨x0,_⟩=>P28c29 x0,res:=fun ⟨x0,_⟩=>[⟨Ty.sl YA8,g28c29_0 x0⟩,⟨Ty.int .i64,g28c29_1 x0⟩],kds:=kds28c29 }
theorem con28c29:Contract Tryz.prog 28 S28c29:=contract_of Tryz.func28 hb28c29 (Nat.le_of_ble_eq_true (by kernel_rfl)) (fun ⟨x0,_⟩ h _ K q=>at28c29 x0 h K q)
end
noncomputable section
def ext7:Ext:=[(28,S28c29)]
theorem ext7Ok:ExtOk Tryz.prog ext7:=⟨⟨ca28,con28c29⟩,trivial⟩
noncomputable def b7:Code:=bodyOf Tryz.f7
theorem hb7:Tryz.f7.body=some b7:=by kernel_rfl
def sig7:List AT:=[AT.v YA0]
def tys7:List Ty:=[Ty.sl YA8,Ty.int .i64]
def kds7:List RK:=[]
def oks7:List AT:=owns sig7
def P7 (x0:TyA0):Prop:=((P28c29 x0)∧True)
def g7_0 (x0:TyA0):List TyB3:=g28c29_0 x0
def g7_1 (x0:TyA0):Int:=g28c29_1 x0
theorem at7 (x0:TyA0) (h:P7 x0) (K:Ctx) (q:Nat→Value):AtV Tryz.prog 7 (PostR kds7 oks7 [⟨Ty.sl YA8,g7_0 x0⟩,⟨Ty.int .i64,g7_1 x0⟩] [] [] q K) 9 K q [] [.code b7] (entE 0 0 sig7 (x0,())) (entL sig7 (x0,())):=by
 unfold P7 at h
 unfold g7_0 g7_1
 obtain ⟨s0,h⟩:=h
 exact AtV.ret Tryz.func7 tabOk ext7Ok mixed false [] tys7 [] (a1 s0 trivial) (by kernel_rfl)
def S7:Am.Spec:={ sig:=sig7,pre:=fun ⟨x0,_⟩=>P7 x0,res:=fun ⟨x0,_⟩=>[⟨Ty.sl YA8,g7_0 x0⟩,⟨Ty.int .i64,g7_1 x0⟩],kds:=kds7 }
theorem con7:Contract Tryz.prog 7 S7:=contract_of Tryz.func7 hb7 (Nat.le_of_ble_eq_true (by kernel_rfl)) (fun ⟨x0,_⟩ h _ K q=>at7 x0 h K q)
end
noncomputable section
def ext78:Ext:=[]
theorem ext78Ok:ExtOk Tryz.prog ext78:=trivial
noncomputable def b78:Code:=bodyOf Tryz.f78
theorem hb78:Tryz.f78.body=some b78:=by kernel_rfl
def sig78:List AT:=[AT.v (Ty.int .i64),AT.v (Ty.int .i64),AT.v (Ty.int .i64)]
def tys78:List Ty:=[Ty.bool]
def kds78:List RK:=[]
def oks78:List AT:=owns sig78
def P78 (x0:Int) (x1:Int) (x2:Int):Prop:=True
def g78_0 (x0:Int) (x1:Int) (x2:Int):Bool:=(if (decide (x0≥x1))=true then decide (x0≤x2) else false)
theorem at78 (x0:Int) (x1:Int) (x2:Int) (h:P78 x0 x1 x2) (K:Ctx) (q:Nat→Value):AtV Tryz.prog 78 (PostR kds78 oks78 [⟨Ty.bool,g78_0 x0 x1 x2⟩] [] [] q K) 15 K q [] [.code b78] (entE 0 0 sig78 (x0,x1,x2,())) (entL sig78 (x0,x1,x2,())):=by
 unfold P78 at h
 unfold g78_0
 by_cases b0:(decide (x0≥x1))=true
 ·try simp only [if_pos b0] at h ⊢
  exact AtV.ret Tryz.func78 tabOk ext78Ok mixed false [] tys78 [true] (a1 b0 trivial) (by kernel_rfl)
 ·try simp only [if_neg b0] at h ⊢
  replace b0:=Bool.eq_false_iff.2 b0
  exact AtV.ret Tryz.func78 tabOk ext78Ok mixed false [] tys78 [false] (a1 b0 trivial) (by kernel_rfl)
def S78:Am.Spec:={ sig:=sig78,pre:=fun ⟨x0,x1,x2,_⟩=>P78 x0 x1 x2,res:=fun ⟨x0,x1,x2,_⟩=>[⟨Ty.bool,g78_0 x0 x1 x2⟩],kds:=kds78 }
theorem con78:Contract Tryz.prog 78 S78:=contract_of Tryz.func78 hb78 (Nat.le_of_ble_eq_true (by kernel_rfl)) (fun ⟨x0,x1,x2,_⟩ h _ K q=>at78 x0 x1 x2 h K q)
end
noncomputable section
def ext79:Ext:=[]
theorem ext79Ok:ExtOk Tryz.prog ext79:=trivial
noncomputable def b79:Code:=bodyOf Tryz.f79
theorem hb79:Tryz.f79.body=some b79:=by kernel_rfl
def sig79:List AT:=[AT.p YA2]
def tys79:List Ty:=[Ty.int .i64]
def kds79:List RK:=[]
def oks79:List AT:=owns sig79
def E79_3 (v3:Int) (v4:Int) (x0:List TyB4×Int×Int×Unit):Env:=[(0,PV.a (Atom.ptr YA2 x0)),(3,PV.a (Atom.val (Value.int .i64 v3))),(4,PV.a (Atom.val (Value.int .i64 v4)))]
def L79_3 (v3:Int) (v4:Int) (x0:List TyB4×Int×Int×Unit):Heap:=[]
mutual
def R79:Nat→List TyB4×Int×Int×Unit→List Dyn→Prop
 | 0,_,_=>False
 | n+1,x0,ds=>(R79_3 n (0) (0) (x0) ds)
def R79_3:Nat→Int→Int→List TyB4×Int×Int×Unit→List Dyn→Prop
 | 0,_,_,_,_=>False
 | n+1,v3,v4,x0,ds=>(if (decide (v4<(↑(List.length x0.1):Int)))=true then ((0≤v4)∧(v4<(↑(List.length x0.1):Int))∧((InR .i64 (v3+(List.getD x0.1 (Int.toNat v4) (0,0,())).1))∧((InR .i64 (v4+1))∧(R79_3 n (v3+(List.getD x0.1 (Int.toNat v4) (0,0,())).1) (v4+1) (x0) ds)))) else (ds=[Dyn.mk (Ty.int .i64) v3]))
end
theorem snd79:∀ n,(∀ (x0:List TyB4×Int×Int×Unit) ds,R79 n x0 ds→∀ K q,AtV Tryz.prog 79 (PostR kds79 oks79 ds [] [] q K) 25 K q [] [.code b79] (entE 0 0 sig79 (x0,())) (entL sig79 (x0,())))∧(∀ (v3:Int) (v4:Int) (x0:List TyB4×Int×Int×Unit) ds,R79_3 n v3 v4 x0 ds→∀ K q,AtV Tryz.prog 79 (PostR kds79 oks79 ds [] [] q K) 25 K q [] (cutAt b79 3) (E79_3 v3 v4 x0) (L79_3 v3 v4 x0)):=by
 intro n
 induction n with
 | zero=>exact ⟨fun _ _ h=>by simp only [R79] at h,fun _ _ _ _ h=>by simp only [R79_3] at h⟩
 | succ n ih =>
 obtain ⟨ih,ih3⟩:=ih
 refine ⟨?_,?_⟩
 ·intro x0 ds h K q
  rw [R79] at h
  exact AtV.go tabOk ext79Ok mixed false [] [] [0,3,4] [] [] trivial (ih3 _ _ _ _ h K q) (by kernel_rfl)
 ·intro v3 v4 x0 ds h K q
  rw [R79_3] at h
  by_cases b0:(decide (v4<(↑(List.length x0.1):Int)))=true
  ·rw [if_pos b0] at h
   obtain ⟨s0,s1,h⟩:=h
   obtain ⟨s2,h⟩:=h
   obtain ⟨s3,h⟩:=h
   exact AtV.go tabOk ext79Ok mixed false [] [] [0,3,4] [] [true] (a1 b0 (a1 s0 (a1 s1 (a1 s2 (a1 s3 trivial))))) (ih3 _ _ _ _ h K q) (by kernel_rfl)
  ·rw [if_neg b0] at h
   replace b0:=Bool.eq_false_iff.2 b0
   subst h
   exact AtV.ret Tryz.func79 tabOk ext79Ok mixed false [] tys79 [false] (a1 b0 trivial) (by kernel_rfl)
def sum79 (xs:List TyB4):Int:=xs.foldr (fun x n=>x.1+n) 0
def g79_0 (x0:List TyB4×Int×Int×Unit):Int:=sum79 x0.1
def P79 (x0:List TyB4×Int×Int×Unit):Prop:=x0.1.length≤1000000∧∀ x∈x0.1,0≤x.1∧x.1≤1000000000
theorem run79 (x0:List TyB4×Int×Int×Unit) (hl:x0.1.length≤1000000) (hx:∀ x∈x0.1,0≤x.1∧x.1≤1000000000):∀ (k i:Nat) (v:Int),i+k=x0.1.length→0≤v→v≤1000000000*(i:Int) →
  R79_3 (k+1) v (i:Int) x0 [⟨.int .i64,v+sum79 (x0.1.drop i)⟩]:=by
 intro k
 induction k with
 | zero =>
  intro i v hi h0 h1
  rw [R79_3,if_neg (by simp only [decide_eq_true_eq];omega),drop_end _ _ (by omega)]
  simp [sum79]
 | succ k ih =>
  intro i v hi h0 h1
  have hlt:i<x0.1.length:=by omega
  have hm:=hx _ (mem_getD x0.1 i ((0:Int),(0:Int),()) hlt)
  have h:=ih (i+1) (v+(x0.1.getD i ((0:Int),(0:Int),())).1) (by omega) (by omega) (by omega)
  rw [R79_3,if_pos (by simp only [decide_eq_true_eq];omega)]
  simp only [Int.toNat_natCast]
  refine ⟨by omega,by omega,by rw [i64_iff];omega,by rw [i64_iff];omega,?_⟩
  rw [drop_get x0.1 i ((0:Int),(0:Int),()) hlt]
  have e:∀ (y:Int×Int×Unit) l,v+sum79 (y :: l)=v+y.1+sum79 l:=fun y l=>by
   show v+(y.1+sum79 l)=_;omega
  rw [e]
  exact h
theorem top79 (x0:List TyB4×Int×Int×Unit) (h:P79 x0):R79 (x0.1.length+1+1) x0 [⟨.int .i64,g79_0 x0⟩]:=by
 rw [R79]
 have:=run79 x0 h.1 h.2 x0.1.length 0 0 (by omega) (by omega) (by omega)
 simpa [g79_0] using this
def S79:Am.Spec:={ sig:=sig79,pre:=fun ⟨x0,_⟩=>P79 x0,res:=fun ⟨x0,_⟩=>[⟨.int .i64,g79_0 x0⟩] }
theorem con79:Contract Tryz.prog 79 S79:=contract_of Tryz.func79 hb79 (Nat.le_of_ble_eq_true (by kernel_rfl)) (fun ⟨x0,_⟩ h hwf K q =>
 (snd79 _).1 x0 _ (top79 x0 h) K q)
theorem sum79_le (xs:List TyB4) (h:∀ x∈xs,0≤x.1∧x.1≤3000000):0≤sum79 xs∧sum79 xs≤3000000*(xs.length:Int):=by
 induction xs with
 | nil=>exact ⟨Int.le_refl _,Int.le_refl _⟩
 | cons x r ih =>
  obtain ⟨i1,i2⟩:=ih fun y hy=>h y (List.mem_cons_of_mem _ hy)
  obtain ⟨x1,x2⟩:=h x (List.mem_cons_self ..)
  show 0≤x.1+sum79 r∧x.1+sum79 r≤_
  simp only [List.length_cons]
  omega
end
noncomputable section
def ext49:Ext:=[(78,S78),(79,S79)]
theorem ext49Ok:ExtOk Tryz.prog ext49:=⟨⟨ca78,con78⟩,⟨ca79,con79⟩,trivial⟩
noncomputable def b49:Code:=bodyOf Tryz.f49
theorem hb49:Tryz.f49.body=some b49:=by kernel_rfl
def sig49:List AT:=[AT.p YA2]
def tys49:List Ty:=[Ty.bool]
def kds49:List RK:=[]
def oks49:List AT:=owns sig49
def E49_2 (v3:Int) (x0:List TyB4×Int×Int×Unit):Env:=[(0,PV.a (Atom.ptr YA2 x0)),(3,PV.a (Atom.val (Value.int .i64 v3)))]
def L49_2 (v3:Int) (x0:List TyB4×Int×Int×Unit):Heap:=[]
mutual
def R49:Nat→List TyB4×Int×Int×Unit→List Dyn→Prop
 | 0,_,_=>False
 | n+1,x0,ds=>(R49_2 n (0) (x0) ds)
def R49_2:Nat→Int→List TyB4×Int×Int×Unit→List Dyn→Prop
 | 0,_,_,_=>False
 | n+1,v3,x0,ds=>(if (decide (v3<(↑(List.length x0.1):Int)))=true then ((0≤v3)∧(v3<(↑(List.length x0.1):Int))∧(if (!g78_0 (List.getD x0.1 (Int.toNat v3) (0,0,())).1 1 3000000)=true then (ds=[Dyn.mk Ty.bool false]) else ((0≤v3)∧(v3<(↑(List.length x0.1):Int))∧(if (!g78_0 (List.getD x0.1 (Int.toNat v3) (0,0,())).2.1 0 900)=true then (ds=[Dyn.mk Ty.bool false]) else ((InR .i64 (v3+1))∧(R49_2 n (v3+1) (x0) ds)))))) else (if ((↑(List.length x0.1):Int)==0)=true then (ds=[Dyn.mk Ty.bool false]) else (if (decide ((↑(List.length x0.1):Int)>12))=true then (ds=[Dyn.mk Ty.bool false]) else ((P79 x0)∧(if (decide (g79_0 x0≤3000000))=true then (if (g78_0 x0.2.1 0 (g79_0 x0))=true then (ds=[Dyn.mk Ty.bool (g78_0 x0.2.2.1 x0.2.1 (g79_0 x0))]) else (ds=[Dyn.mk Ty.bool false])) else (ds=[Dyn.mk Ty.bool false]))))))
end
theorem snd49:∀ n,(∀ (x0:List TyB4×Int×Int×Unit) ds,R49 n x0 ds→∀ K q,AtV Tryz.prog 49 (PostR kds49 oks49 ds [] [] q K) 74 K q [] [.code b49] (entE 0 0 sig49 (x0,())) (entL sig49 (x0,())))∧(∀ (v3:Int) (x0:List TyB4×Int×Int×Unit) ds,R49_2 n v3 x0 ds→∀ K q,AtV Tryz.prog 49 (PostR kds49 oks49 ds [] [] q K) 74 K q [] (cutAt b49 2) (E49_2 v3 x0) (L49_2 v3 x0)):=by
 intro n
 induction n with
 | zero=>exact ⟨fun _ _ h=>by simp only [R49] at h,fun _ _ _ h=>by simp only [R49_2] at h⟩
 | succ n ih =>
 obtain ⟨ih,ih2⟩:=ih
 refine ⟨?_,?_⟩
 ·intro x0 ds h K q
  rw [R49] at h
  exact AtV.go tabOk ext49Ok mixed false [] [] [0,3] [] [] trivial (ih2 _ _ _ h K q) (by kernel_rfl)
 ·intro v3 x0 ds h K q
  rw [R49_2] at h
  by_cases b0:(decide (v3<(↑(List.length x0.1):Int)))=true
  ·rw [if_pos b0] at h
   obtain ⟨s0,s1,h⟩:=h
   by_cases b1:(!g78_0 (List.getD x0.1 (Int.toNat v3) (0,0,())).1 1 3000000)=true
   ·rw [if_pos b1] at h
    subst h
    exact AtV.ret Tryz.func49 tabOk ext49Ok mixed false [] tys49 [true,true,true] (a1 b0 (a1 s0 (a1 s1 (a1 trivial (a1 b1 (a1 (rfl:true=true) trivial)))))) (by kernel_rfl)
   ·rw [if_neg b1] at h
    replace b1:=Bool.eq_false_iff.2 b1
    obtain ⟨s2,s3,h⟩:=h
    by_cases b2:(!g78_0 (List.getD x0.1 (Int.toNat v3) (0,0,())).2.1 0 900)=true
    ·rw [if_pos b2] at h
     subst h
     exact AtV.ret Tryz.func49 tabOk ext49Ok mixed false [] tys49 [true,false,true] (a1 b0 (a1 s0 (a1 s1 (a1 trivial (a1 b1 (a1 s2 (a1 s3 (a1 trivial (a1 b2 trivial))))))))) (by kernel_rfl)
    ·rw [if_neg b2] at h
     replace b2:=Bool.eq_false_iff.2 b2
     obtain ⟨s4,h⟩:=h
     exact AtV.go tabOk ext49Ok mixed false [] [] [0,3] [] [true,false,false] (a1 b0 (a1 s0 (a1 s1 (a1 trivial (a1 b1 (a1 s2 (a1 s3 (a1 trivial (a1 b2 (a1 s4 trivial)))))))))) (ih2 _ _ _ h K q) (by kernel_rfl)
  ·rw [if_neg b0] at h
   replace b0:=Bool.eq_false_iff.2 b0
   by_cases b1:((↑(List.length x0.1):Int)==0)=true
   ·rw [if_pos b1] at h
    subst h
    exact AtV.ret Tryz.func49 tabOk ext49Ok mixed false [] tys49 [false,true,true] (a1 b0 (a1 b1 (a1 (rfl:true=true) trivial))) (by kernel_rfl)
   ·rw [if_neg b1] at h
    replace b1:=Bool.eq_false_iff.2 b1
    by_cases b2:(decide ((↑(List.length x0.1):Int)>12))=true
    ·rw [if_pos b2] at h
     subst h
     exact AtV.ret Tryz.func49 tabOk ext49Ok mixed false [] tys49 [false,false,true] (a1 b0 (a1 b1 (a1 b2 trivial))) (by kernel_rfl)
    ·rw [if_neg b2] at h
     replace b2:=Bool.eq_false_iff.2 b2
     obtain ⟨s0,h⟩:=h
     by_cases b3:(decide (g79_0 x0≤3000000))=true
     ·rw [if_pos b3] at h
      by_cases b4:(g78_0 x0.2.1 0 (g79_0 x0))=true
      ·rw [if_pos b4] at h
       subst h
       exact AtV.ret Tryz.func49 tabOk ext49Ok mixed false [] tys49 [false,false,false,true,true] (a1 b0 (a1 b1 (a1 b2 (a1 s0 (a1 b3 (a1 trivial (a1 b4 (a1 trivial trivial)))))))) (by kernel_rfl)
      ·rw [if_neg b4] at h
       replace b4:=Bool.eq_false_iff.2 b4
       subst h
       exact AtV.ret Tryz.func49 tabOk ext49Ok mixed false [] tys49 [false,false,false,true,false] (a1 b0 (a1 b1 (a1 b2 (a1 s0 (a1 b3 (a1 trivial (a1 b4 trivial))))))) (by kernel_rfl)
     ·rw [if_neg b3] at h
      replace b3:=Bool.eq_false_iff.2 b3
      subst h
      exact AtV.ret Tryz.func49 tabOk ext49Ok mixed false [] tys49 [false,false,false,false,false] (a1 b0 (a1 b1 (a1 b2 (a1 s0 (a1 b3 (a1 (rfl:false=false) trivial)))))) (by kernel_rfl)
def ok49 (x:TyB4):Bool:=g78_0 x.1 1 3000000&&g78_0 x.2.1 0 900
def fine49 (x0:(List TyB4×Int×Int×Unit)):Bool:=if decide (g79_0 x0≤3000000)=true then (if g78_0 x0.2.1 0 (g79_0 x0)=true then g78_0 x0.2.2.1 x0.2.1 (g79_0 x0) else false) else false
def g49_0 (x0:(List TyB4×Int×Int×Unit)):Bool:=x0.1.all ok49&&(decide (1≤x0.1.length)&&decide (x0.1.length≤12))&&fine49 x0
def P49 (x0:(List TyB4×Int×Int×Unit)):Prop:=True
theorem in49 {x a b:Int}:g78_0 x a b=true↔a≤x∧x≤b:=by
 unfold g78_0
 by_cases c1:x≥a
 ·by_cases c2:x≤b
  ·simp [c1,c2]
  ·simp [c1,c2]
 ·have:¬ a≤x:=c1
  simp [c1,this]
theorem lenp49 {x0:(List TyB4×Int×Int×Unit)} (h:x0.1.all ok49=true) (hl:x0.1.length≤12):P79 x0∧0≤g79_0 x0∧g79_0 x0≤36000000:=by
 have hx:∀ x∈x0.1,0≤x.1∧x.1≤3000000:=fun x hx=>by
  have:=List.all_eq_true.1 h x hx
  unfold ok49 at this
  rw [Bool.and_eq_true] at this
  have:=in49.1 this.1
  omega
 obtain ⟨s1,s2⟩:=sum79_le x0.1 hx
 refine ⟨⟨by omega,fun x h=>by have:=hx x h;omega⟩,s1,?_⟩
 show sum79 x0.1≤_
 omega
theorem run49 (x0:(List TyB4×Int×Int×Unit)) (hm:x0.1.length≤maxLen) (yes:List Dyn) (hend:∀ n,x0.1.all ok49=true→R49_2 (n+1) (x0.1.length:Int) x0 yes):∀ (k i:Nat) (B:Bool),i+k=x0.1.length→(x0.1.drop i).all ok49=B→(∀ j,j<i→ok49 (x0.1.getD j ((0:Int),(0:Int),()))=true) →
  R49_2 (k+1) (i:Int) x0 (if B=true then yes else [⟨.bool,false⟩]):=by
 intro k
 induction k with
 | zero =>
  intro i B hi hB hp
  have:i=x0.1.length:=by omega
  subst this
  rw [drop_end _ _ (by omega)] at hB
  subst hB
  refine hend 0 (List.all_eq_true.2 fun x hx => ?_)
  obtain ⟨j,hj,rfl⟩:=List.getElem_of_mem hx
  have:=hp j (by omega)
  rwa [getD_lt _ _ _ hj] at this
 | succ k ih =>
  intro i B hi hB hp
  have hlt:i<x0.1.length:=by omega
  have hu:=inR_up hm hlt
  rw [R49_2,if_pos (by simp only [decide_eq_true_eq];omega)]
  rw [drop_get x0.1 i ((0:Int),(0:Int),()) hlt,List.all_cons] at hB
  simp only [Int.toNat_natCast]
  refine ⟨by omega,by omega,?_⟩
  by_cases h1:ok49 (x0.1.getD i ((0:Int),(0:Int),()))=true
  case neg =>
   have h1:=Bool.eq_false_iff.2 h1
   rw [h1,Bool.false_and] at hB
   subst hB
   by_cases c1:g78_0 (x0.1.getD i ((0:Int),(0:Int),())).1 1 3000000=true
   ·rw [if_neg (by rw [c1];simp)]
    have c2:g78_0 (x0.1.getD i ((0:Int),(0:Int),())).2.1 0 900=false:=by
     unfold ok49 at h1;rw [c1] at h1;simpa using h1
    exact ⟨by omega,by omega,by rw [if_pos (by rw [c2];rfl)] <;> rfl⟩
   ·rw [if_pos (by rw [Bool.eq_false_iff.2 c1];rfl)] <;> rfl
  case pos =>
   have hb:=h1
   rw [h1,Bool.true_and] at hB
   unfold ok49 at hb
   rw [Bool.and_eq_true] at hb
   rw [if_neg (by rw [hb.1];simp)]
   have e1:(((i+1:Nat)):Int)=(i:Int)+1:=by omega
   have hnext:=ih (i+1) B (by omega) hB (fun j hj=>by
    rcases Nat.lt_or_ge j i with h | h
    ·exact hp j h
    ·have:j=i:=by omega
     subst this;exact h1)
   rw [e1] at hnext
   exact ⟨by omega,by omega,by rw [if_neg (by rw [hb.2];simp)];exact ⟨hu,hnext⟩⟩
theorem end49 (x0:(List TyB4×Int×Int×Unit)) (n:Nat) (h:x0.1.all ok49=true):R49_2 (n+1) (x0.1.length:Int) x0 [⟨.bool,(decide (1≤x0.1.length)&&decide (x0.1.length≤12))&&fine49 x0⟩]:=by
 rw [R49_2,if_neg (by simp)]
 by_cases c1:((x0.1.length:Int)==0)=true
 ·rw [if_pos c1]
  have:¬ 1≤x0.1.length:=by simp only [beq_iff_eq] at c1;omega
  rw [decide_eq_false this];rfl
 ·rw [if_neg c1]
  have d1:1≤x0.1.length:=by simp only [beq_iff_eq] at c1;omega
  by_cases c2:(x0.1.length:Int)>12
  ·rw [if_pos (decide_eq_true c2)]
   have:¬ x0.1.length≤12:=by omega
   rw [decide_eq_false this,Bool.and_false];rfl
  ·rw [if_neg (by simpa using c2)]
   have d2:x0.1.length≤12:=by omega
   rw [decide_eq_true d1,decide_eq_true d2]
   refine ⟨(lenp49 h d2).1,?_⟩
   unfold fine49
   split
   ·split
    ·rfl
    ·rfl
   ·rfl
theorem top49 (x0:(List TyB4×Int×Int×Unit)) (hm:x0.1.length≤maxLen):∃ n,R49 n x0 [⟨.bool,g49_0 x0⟩]:=by
 refine ⟨x0.1.length+1+1,?_⟩
 rw [R49]
 have key:=run49 x0 hm _ (end49 x0) x0.1.length 0 _ (by omega) rfl (fun j hj=>by omega)
 rw [List.drop_zero] at key
 unfold g49_0
 cases h:x0.1.all ok49 with
 | true=>rw [if_pos h] at key;rw [Bool.true_and];exact key
 | false=>rw [if_neg (by rw [h];simp)] at key;exact key
def S49:Am.Spec:={ sig:=sig49,pre:=fun ⟨x0,_⟩=>P49 x0,res:=fun ⟨x0,_⟩=>[⟨Ty.bool,g49_0 x0⟩] }
theorem con49:Contract Tryz.prog 49 S49:=contract_of Tryz.func49 hb49 (Nat.le_of_ble_eq_true (by kernel_rfl)) (fun ⟨x0,_⟩ h hwf K q =>
 let ⟨n,hn⟩:=top49 x0 hwf.1.1.1
 (snd49 n).1 x0 _ hn K q)
end
noncomputable section
def ext50:Ext:=[(78,S78)]
theorem ext50Ok:ExtOk Tryz.prog ext50:=⟨⟨ca78,con78⟩,trivial⟩
noncomputable def b50:Code:=bodyOf Tryz.f50
theorem hb50:Tryz.f50.body=some b50:=by kernel_rfl
def sig50:List AT:=[AT.v (Ty.int .i64)]
def tys50:List Ty:=[Ty.bool]
def kds50:List RK:=[]
def oks50:List AT:=owns sig50
def P50 (x0:Int):Prop:=True
def g50_0 (x0:Int):Bool:=g78_0 x0 0 3000000
theorem at50 (x0:Int) (h:P50 x0) (K:Ctx) (q:Nat→Value):AtV Tryz.prog 50 (PostR kds50 oks50 [⟨Ty.bool,g50_0 x0⟩] [] [] q K) 5 K q [] [.code b50] (entE 0 0 sig50 (x0,())) (entL sig50 (x0,())):=by
 unfold P50 at h
 unfold g50_0
 exact AtV.ret Tryz.func50 tabOk ext50Ok mixed false [] tys50 [] (a1 trivial trivial) (by kernel_rfl)
def S50:Am.Spec:={ sig:=sig50,pre:=fun ⟨x0,_⟩=>P50 x0,res:=fun ⟨x0,_⟩=>[⟨Ty.bool,g50_0 x0⟩],kds:=kds50 }
theorem con50:Contract Tryz.prog 50 S50:=contract_of Tryz.func50 hb50 (Nat.le_of_ble_eq_true (by kernel_rfl)) (fun ⟨x0,_⟩ h _ K q=>at50 x0 h K q)
end
noncomputable section
def ext51:Ext:=[(78,S78)]
theorem ext51Ok:ExtOk Tryz.prog ext51:=⟨⟨ca78,con78⟩,trivial⟩
noncomputable def b51:Code:=bodyOf Tryz.f51
theorem hb51:Tryz.f51.body=some b51:=by kernel_rfl
def sig51:List AT:=[AT.p YA9]
def tys51:List Ty:=[Ty.bool]
def kds51:List RK:=[]
def oks51:List AT:=owns sig51
def P51 (x0:Int×Int×Unit):Prop:=True
def g51_0 (x0:Int×Int×Unit):Bool:=(if (g78_0 x0.1 0 100)=true then g78_0 x0.2.1 1 10000 else false)
theorem at51 (x0:Int×Int×Unit) (h:P51 x0) (K:Ctx) (q:Nat→Value):AtV Tryz.prog 51 (PostR kds51 oks51 [⟨Ty.bool,g51_0 x0⟩] [] [] q K) 15 K q [] [.code b51] (entE 0 0 sig51 (x0,())) (entL sig51 (x0,())):=by
 unfold P51 at h
 unfold g51_0
 by_cases b0:(g78_0 x0.1 0 100)=true
 ·try simp only [if_pos b0] at h ⊢
  exact AtV.ret Tryz.func51 tabOk ext51Ok mixed false [] tys51 [true] (a1 trivial (a1 b0 (a1 trivial trivial))) (by kernel_rfl)
 ·try simp only [if_neg b0] at h ⊢
  replace b0:=Bool.eq_false_iff.2 b0
  exact AtV.ret Tryz.func51 tabOk ext51Ok mixed false [] tys51 [false] (a1 trivial (a1 b0 trivial)) (by kernel_rfl)
def S51:Am.Spec:={ sig:=sig51,pre:=fun ⟨x0,_⟩=>P51 x0,res:=fun ⟨x0,_⟩=>[⟨Ty.bool,g51_0 x0⟩],kds:=kds51 }
theorem con51:Contract Tryz.prog 51 S51:=contract_of Tryz.func51 hb51 (Nat.le_of_ble_eq_true (by kernel_rfl)) (fun ⟨x0,_⟩ h _ K q=>at51 x0 h K q)
end
noncomputable section
def ext52:Ext:=[(78,S78)]
theorem ext52Ok:ExtOk Tryz.prog ext52:=⟨⟨ca78,con78⟩,trivial⟩
noncomputable def b52:Code:=bodyOf Tryz.f52
theorem hb52:Tryz.f52.body=some b52:=by kernel_rfl
def sig52:List AT:=[AT.p YA4]
def tys52:List Ty:=[Ty.bool]
def kds52:List RK:=[]
def oks52:List AT:=owns sig52
def P52 (x0:Int×Int×Int×Int×Unit):Prop:=True
def g52_0 (x0:Int×Int×Int×Int×Unit):Bool:=(if (g78_0 x0.1 1 2000)=true then (if (g78_0 x0.2.1 100 15000)=true then (if (g78_0 x0.2.2.1 100 x0.2.1)=true then g78_0 x0.2.2.2.1 0 3000000 else false) else false) else false)
theorem at52 (x0:Int×Int×Int×Int×Unit) (h:P52 x0) (K:Ctx) (q:Nat→Value):AtV Tryz.prog 52 (PostR kds52 oks52 [⟨Ty.bool,g52_0 x0⟩] [] [] q K) 33 K q [] [.code b52] (entE 0 0 sig52 (x0,())) (entL sig52 (x0,())):=by
 unfold P52 at h
 unfold g52_0
 by_cases b0:(g78_0 x0.1 1 2000)=true
 ·try simp only [if_pos b0] at h ⊢
  by_cases b1:(g78_0 x0.2.1 100 15000)=true
  ·try simp only [if_pos b1] at h ⊢
   by_cases b2:(g78_0 x0.2.2.1 100 x0.2.1)=true
   ·try simp only [if_pos b2] at h ⊢
    exact AtV.ret Tryz.func52 tabOk ext52Ok mixed false [] tys52 [true,true,true] (a1 trivial (a1 b0 (a1 trivial (a1 b1 (a1 trivial (a1 b2 (a1 trivial trivial))))))) (by kernel_rfl)
   ·try simp only [if_neg b2] at h ⊢
    replace b2:=Bool.eq_false_iff.2 b2
    exact AtV.ret Tryz.func52 tabOk ext52Ok mixed false [] tys52 [true,true,false] (a1 trivial (a1 b0 (a1 trivial (a1 b1 (a1 trivial (a1 b2 trivial)))))) (by kernel_rfl)
  ·try simp only [if_neg b1] at h ⊢
   replace b1:=Bool.eq_false_iff.2 b1
   exact AtV.ret Tryz.func52 tabOk ext52Ok mixed false [] tys52 [true,false,false] (a1 trivial (a1 b0 (a1 trivial (a1 b1 (a1 (rfl:false=false) trivial))))) (by kernel_rfl)
 ·try simp only [if_neg b0] at h ⊢
  replace b0:=Bool.eq_false_iff.2 b0
  exact AtV.ret Tryz.func52 tabOk ext52Ok mixed false [] tys52 [false,false,false] (a1 trivial (a1 b0 (a1 (rfl:false=false) (a1 (rfl:false=false) trivial)))) (by kernel_rfl)
def S52:Am.Spec:={ sig:=sig52,pre:=fun ⟨x0,_⟩=>P52 x0,res:=fun ⟨x0,_⟩=>[⟨Ty.bool,g52_0 x0⟩],kds:=kds52 }
theorem con52:Contract Tryz.prog 52 S52:=contract_of Tryz.func52 hb52 (Nat.le_of_ble_eq_true (by kernel_rfl)) (fun ⟨x0,_⟩ h _ K q=>at52 x0 h K q)
end
noncomputable section
def ext135:Ext:=[]
theorem ext135Ok:ExtOk Tryz.prog ext135:=trivial
noncomputable def b135:Code:=bodyOf Tryz.f135
theorem hb135:Tryz.f135.body=some b135:=by kernel_rfl
def sig135:List AT:=[AT.v (Ty.int .u8)]
def tys135:List Ty:=[Ty.bool]
def kds135:List RK:=[]
def oks135:List AT:=owns sig135
def P135 (x0:Int):Prop:=True
def g135_0 (x0:Int):Bool:=(if (decide (x0≥97))=true then decide (x0≤122) else false)
theorem at135 (x0:Int) (h:P135 x0) (K:Ctx) (q:Nat→Value):AtV Tryz.prog 135 (PostR kds135 oks135 [⟨Ty.bool,g135_0 x0⟩] [] [] q K) 9 K q [] [.code b135] (entE 0 0 sig135 (x0,())) (entL sig135 (x0,())):=by
 unfold P135 at h
 unfold g135_0
 by_cases b0:(decide (x0≥97))=true
 ·try simp only [if_pos b0] at h ⊢
  exact AtV.ret Tryz.func135 tabOk ext135Ok mixed false [] tys135 [true] (a1 b0 trivial) (by kernel_rfl)
 ·try simp only [if_neg b0] at h ⊢
  replace b0:=Bool.eq_false_iff.2 b0
  exact AtV.ret Tryz.func135 tabOk ext135Ok mixed false [] tys135 [false] (a1 b0 trivial) (by kernel_rfl)
def S135:Am.Spec:={ sig:=sig135,pre:=fun ⟨x0,_⟩=>P135 x0,res:=fun ⟨x0,_⟩=>[⟨Ty.bool,g135_0 x0⟩],kds:=kds135 }
theorem con135:Contract Tryz.prog 135 S135:=contract_of Tryz.func135 hb135 (Nat.le_of_ble_eq_true (by kernel_rfl)) (fun ⟨x0,_⟩ h _ K q=>at135 x0 h K q)
end
noncomputable section
def ext136:Ext:=[]
theorem ext136Ok:ExtOk Tryz.prog ext136:=trivial
noncomputable def b136:Code:=bodyOf Tryz.f136
theorem hb136:Tryz.f136.body=some b136:=by kernel_rfl
def sig136:List AT:=[AT.v (Ty.int .u8)]
def tys136:List Ty:=[Ty.bool]
def kds136:List RK:=[]
def oks136:List AT:=owns sig136
def P136 (x0:Int):Prop:=True
def g136_0 (x0:Int):Bool:=(if (decide (x0≥48))=true then decide (x0≤57) else false)
theorem at136 (x0:Int) (h:P136 x0) (K:Ctx) (q:Nat→Value):AtV Tryz.prog 136 (PostR kds136 oks136 [⟨Ty.bool,g136_0 x0⟩] [] [] q K) 9 K q [] [.code b136] (entE 0 0 sig136 (x0,())) (entL sig136 (x0,())):=by
 unfold P136 at h
 unfold g136_0
 by_cases b0:(decide (x0≥48))=true
 ·try simp only [if_pos b0] at h ⊢
  exact AtV.ret Tryz.func136 tabOk ext136Ok mixed false [] tys136 [true] (a1 b0 trivial) (by kernel_rfl)
 ·try simp only [if_neg b0] at h ⊢
  replace b0:=Bool.eq_false_iff.2 b0
  exact AtV.ret Tryz.func136 tabOk ext136Ok mixed false [] tys136 [false] (a1 b0 trivial) (by kernel_rfl)
def S136:Am.Spec:={ sig:=sig136,pre:=fun ⟨x0,_⟩=>P136 x0,res:=fun ⟨x0,_⟩=>[⟨Ty.bool,g136_0 x0⟩],kds:=kds136 }
theorem con136:Contract Tryz.prog 136 S136:=contract_of Tryz.func136 hb136 (Nat.le_of_ble_eq_true (by kernel_rfl)) (fun ⟨x0,_⟩ h _ K q=>at136 x0 h K q)
end
noncomputable section
def ext110:Ext:=[(135,S135),(136,S136)]
theorem ext110Ok:ExtOk Tryz.prog ext110:=⟨⟨ca135,con135⟩,⟨ca136,con136⟩,trivial⟩
noncomputable def b110:Code:=bodyOf Tryz.f110
theorem hb110:Tryz.f110.body=some b110:=by kernel_rfl
def sig110:List AT:=[AT.v (Ty.str)]
def tys110:List Ty:=[Ty.bool]
def kds110:List RK:=[]
def oks110:List AT:=owns sig110
def E110_4 (v3:Int) (x0:ByteArray):Env:=[(0,PV.a (Atom.val (Value.string x0))),(3,PV.a (Atom.val (Value.int .i64 v3)))]
def L110_4 (v3:Int) (x0:ByteArray):Heap:=[]
mutual
def R110:Nat→ByteArray→List Dyn→Prop
 | 0,_,_=>False
 | n+1,x0,ds=>(if (ByteArray.toList x0==ByteArray.toList (ByteArray.mk #[]))=true then (ds=[Dyn.mk Ty.bool false]) else (if (decide ((↑(ByteArray.size x0):Int)>10))=true then (ds=[Dyn.mk Ty.bool false]) else ((0<(↑(ByteArray.size x0):Int))∧(if (!g135_0 (↑(UInt8.toNat (List.getD (Array.toList (ByteArray.data x0)) 0 0)):Int))=true then (ds=[Dyn.mk Ty.bool false]) else (R110_4 n (0) (x0) ds)))))
def R110_4:Nat→Int→ByteArray→List Dyn→Prop
 | 0,_,_,_=>False
 | n+1,v3,x0,ds=>(if (decide (v3<(↑(ByteArray.size x0):Int)))=true then ((0≤v3)∧(v3<(↑(ByteArray.size x0):Int))∧(if (!g135_0 (↑(UInt8.toNat (List.getD (Array.toList (ByteArray.data x0)) (Int.toNat v3) 0)):Int))=true then ((0≤v3)∧(v3<(↑(ByteArray.size x0):Int))∧(if (!g136_0 (↑(UInt8.toNat (List.getD (Array.toList (ByteArray.data x0)) (Int.toNat v3) 0)):Int))=true then (ds=[Dyn.mk Ty.bool false]) else ((InR .i64 (v3+1))∧(R110_4 n (v3+1) (x0) ds)))) else ((InR .i64 (v3+1))∧(R110_4 n (v3+1) (x0) ds)))) else (ds=[Dyn.mk Ty.bool true]))
end
theorem snd110:∀ n,(∀ (x0:ByteArray) ds,R110 n x0 ds→∀ K q,AtV Tryz.prog 110 (PostR kds110 oks110 ds [] [] q K) 35 K q [] [.code b110] (entE 0 0 sig110 (x0,())) (entL sig110 (x0,())))∧(∀ (v3:Int) (x0:ByteArray) ds,R110_4 n v3 x0 ds→∀ K q,AtV Tryz.prog 110 (PostR kds110 oks110 ds [] [] q K) 35 K q [] (cutAt b110 4) (E110_4 v3 x0) (L110_4 v3 x0)):=by
 intro n
 induction n with
 | zero=>exact ⟨fun _ _ h=>by simp only [R110] at h,fun _ _ _ h=>by simp only [R110_4] at h⟩
 | succ n ih =>
 obtain ⟨ih,ih4⟩:=ih
 refine ⟨?_,?_⟩
 ·intro x0 ds h K q
  rw [R110] at h
  by_cases b0:(ByteArray.toList x0==ByteArray.toList (ByteArray.mk #[]))=true
  ·rw [if_pos b0] at h
   subst h
   exact AtV.ret Tryz.func110 tabOk ext110Ok mixed false [] tys110 [true,true,true] (a1 b0 (a1 (rfl:true=true) (a1 (rfl:true=true) trivial))) (by kernel_rfl)
  ·rw [if_neg b0] at h
   replace b0:=Bool.eq_false_iff.2 b0
   by_cases b1:(decide ((↑(ByteArray.size x0):Int)>10))=true
   ·rw [if_pos b1] at h
    subst h
    exact AtV.ret Tryz.func110 tabOk ext110Ok mixed false [] tys110 [false,true,true] (a1 b0 (a1 b1 (a1 (rfl:true=true) trivial))) (by kernel_rfl)
   ·rw [if_neg b1] at h
    replace b1:=Bool.eq_false_iff.2 b1
    obtain ⟨s0,h⟩:=h
    by_cases b2:(!g135_0 (↑(UInt8.toNat (List.getD (Array.toList (ByteArray.data x0)) 0 0)):Int))=true
    ·rw [if_pos b2] at h
     subst h
     exact AtV.ret Tryz.func110 tabOk ext110Ok mixed false [] tys110 [false,false,true] (a1 b0 (a1 b1 (a1 ((by decide):(0:Int)≤(0:Int)) (a1 s0 (a1 trivial (a1 b2 trivial)))))) (by kernel_rfl)
    ·rw [if_neg b2] at h
     replace b2:=Bool.eq_false_iff.2 b2
     exact AtV.go tabOk ext110Ok mixed false [] [] [0,3] [] [false,false,false] (a1 b0 (a1 b1 (a1 ((by decide):(0:Int)≤(0:Int)) (a1 s0 (a1 trivial (a1 b2 trivial)))))) (ih4 _ _ _ h K q) (by kernel_rfl)
 ·intro v3 x0 ds h K q
  rw [R110_4] at h
  by_cases b0:(decide (v3<(↑(ByteArray.size x0):Int)))=true
  ·rw [if_pos b0] at h
   obtain ⟨s0,s1,h⟩:=h
   by_cases b1:(!g135_0 (↑(UInt8.toNat (List.getD (Array.toList (ByteArray.data x0)) (Int.toNat v3) 0)):Int))=true
   ·rw [if_pos b1] at h
    obtain ⟨s2,s3,h⟩:=h
    by_cases b2:(!g136_0 (↑(UInt8.toNat (List.getD (Array.toList (ByteArray.data x0)) (Int.toNat v3) 0)):Int))=true
    ·rw [if_pos b2] at h
     subst h
     exact AtV.ret Tryz.func110 tabOk ext110Ok mixed false [] tys110 [true,true,true] (a1 b0 (a1 s0 (a1 s1 (a1 trivial (a1 b1 (a1 s2 (a1 s3 (a1 trivial (a1 b2 trivial))))))))) (by kernel_rfl)
    ·rw [if_neg b2] at h
     replace b2:=Bool.eq_false_iff.2 b2
     obtain ⟨s4,h⟩:=h
     exact AtV.go tabOk ext110Ok mixed false [] [] [0,3] [] [true,true,false] (a1 b0 (a1 s0 (a1 s1 (a1 trivial (a1 b1 (a1 s2 (a1 s3 (a1 trivial (a1 b2 (a1 s4 trivial)))))))))) (ih4 _ _ _ h K q) (by kernel_rfl)
   ·rw [if_neg b1] at h
    replace b1:=Bool.eq_false_iff.2 b1
    obtain ⟨s2,h⟩:=h
    exact AtV.go tabOk ext110Ok mixed false [] [] [0,3] [] [true,false,false] (a1 b0 (a1 s0 (a1 s1 (a1 trivial (a1 b1 (a1 (rfl:false=false) (a1 s2 trivial))))))) (ih4 _ _ _ h K q) (by kernel_rfl)
  ·rw [if_neg b0] at h
   replace b0:=Bool.eq_false_iff.2 b0
   subst h
   exact AtV.ret Tryz.func110 tabOk ext110Ok mixed false [] tys110 [false] (a1 b0 trivial) (by kernel_rfl)
def g110_0 (x0:ByteArray):Bool:=decide (1≤x0.size)&&decide (x0.size≤10)&&g135_0 ((bytesOf x0).getD 0 0)&&(bytesOf x0).all fun b=>g135_0 b||g136_0 b
def P110 (x0:ByteArray):Prop:=True
theorem top110 (x0:ByteArray) (hw:Wf .str x0):R110 (x0.size+1+1) x0 [⟨.bool,g110_0 x0⟩]:=by
 have hl:=bytesOf_length x0
 rw [R110]
 by_cases h0:x0=ByteArray.mk #[]
 ·rw [if_pos ((bytes_eq _ _).2 h0)]
  subst h0
  rfl
 ·rw [if_neg (fun h=>h0 ((bytes_eq _ _).1 h))]
  have hs:1≤x0.size:=by
   rcases Nat.lt_or_ge 0 x0.size with h | h
   ·exact h
   ·exact absurd (bytesOf_inj (s:=x0) (t:=ByteArray.mk #[]) (List.eq_nil_of_length_eq_zero (by rw [hl];omega))) h0
  by_cases h1:(x0.size:Int)>10
  ·rw [if_pos (by simpa using h1)]
   have:¬ x0.size≤10:=by omega
   simp [g110_0,this]
  ·rw [if_neg (by simpa using h1)]
   refine ⟨by omega,?_⟩
   rw [byte_get]
   cases h2:g135_0 ((bytesOf x0).getD 0 0) with
   | false =>
    rw [if_pos (by simp)]
    simp [g110_0,h2, -List.getD_eq_getElem?_getD]
   | true =>
    rw [if_neg (by simp)]
    have key:=loop_test (bytesOf x0) 0 (fun b=>g135_0 b||g136_0 b) [(⟨.bool,false⟩:Dyn)] [⟨.bool,true⟩] (fun n i ds=>R110_4 n i x0 ds) (fun n => ?_) (fun n i hi hok ds hr => ?_) (fun n i hi hok => ?_)
    ·rw [hl] at key
     have e:g110_0 x0=(bytesOf x0).all fun b=>g135_0 b||g136_0 b:=by
      have:x0.size≤10:=by omega
      unfold g110_0
      simp only [hs,this,decide_true,Bool.true_and,h2]
     rw [e]
     cases h:(bytesOf x0).all fun b=>g135_0 b||g136_0 b with
     | true=>rw [if_pos h] at key;exact key
     | false=>rw [if_neg (by rw [h];simp)] at key;exact key
    ·show R110_4 (n+1) ((bytesOf x0).length:Int) x0 _
     rw [R110_4,hl,if_neg (by simp)]
    ·rw [R110_4,if_pos (by simp;omega)]
     simp only [Int.toNat_natCast,byte_get]
     generalize (bytesOf x0).getD i 0=c at *
     refine ⟨by omega,by omega,?_⟩
     have hu:=inR_up (xs:=bytesOf x0) (by rw [hl];exact hw) hi
     cases h3:g135_0 c with
     | true=>rw [if_neg (by simp)];exact ⟨hu,hr⟩
     | false =>
      rw [if_pos (by simp)]
      rw [h3,Bool.false_or] at hok
      refine ⟨by omega,by omega,?_⟩
      rw [if_neg (by rw [hok];simp)]
      exact ⟨hu,hr⟩
    ·simp only [Bool.or_eq_false_iff] at hok
     rw [R110_4,if_pos (by simp;omega)]
     simp only [Int.toNat_natCast,byte_get]
     refine ⟨by omega,by omega,?_⟩
     rw [if_pos (by rw [hok.1];rfl)]
     refine ⟨by omega,by omega,?_⟩
     rw [if_pos (by rw [hok.2];rfl)] <;> trivial
def S110:Am.Spec:={ sig:=sig110,pre:=fun ⟨x0,_⟩=>P110 x0,res:=fun ⟨x0,_⟩=>[⟨Ty.bool,g110_0 x0⟩] }
theorem con110:Contract Tryz.prog 110 S110:=contract_of Tryz.func110 hb110 (Nat.le_of_ble_eq_true (by kernel_rfl)) (fun ⟨x0,_⟩ h hwf K q =>
 (snd110 _).1 x0 _ (top110 x0 hwf.1) K q)
end
noncomputable section
def ext80:Ext:=[(110,S110),(78,S78)]
theorem ext80Ok:ExtOk Tryz.prog ext80:=⟨⟨ca110,con110⟩,⟨ca78,con78⟩,trivial⟩
noncomputable def b80:Code:=bodyOf Tryz.f80
theorem hb80:Tryz.f80.body=some b80:=by kernel_rfl
def sig80:List AT:=[AT.p YA5]
def tys80:List Ty:=[Ty.bool]
def kds80:List RK:=[]
def oks80:List AT:=owns sig80
def P80 (x0:ByteArray×Int×Int×Int×Unit):Prop:=True
def g80_0 (x0:ByteArray×Int×Int×Int×Unit):Bool:=(if (g110_0 x0.1)=true then (if (g78_0 x0.2.1 1 200)=true then (if (g78_0 x0.2.2.1 0 40)=true then g78_0 x0.2.2.2.1 0 100000 else false) else false) else false)
theorem at80 (x0:ByteArray×Int×Int×Int×Unit) (h:P80 x0) (K:Ctx) (q:Nat→Value):AtV Tryz.prog 80 (PostR kds80 oks80 [⟨Ty.bool,g80_0 x0⟩] [] [] q K) 29 K q [] [.code b80] (entE 0 0 sig80 (x0,())) (entL sig80 (x0,())):=by
 unfold P80 at h
 unfold g80_0
 by_cases b0:(g110_0 x0.1)=true
 ·try simp only [if_pos b0] at h ⊢
  by_cases b1:(g78_0 x0.2.1 1 200)=true
  ·try simp only [if_pos b1] at h ⊢
   by_cases b2:(g78_0 x0.2.2.1 0 40)=true
   ·try simp only [if_pos b2] at h ⊢
    exact AtV.ret Tryz.func80 tabOk ext80Ok mixed false [] tys80 [true,true,true] (a1 trivial (a1 b0 (a1 trivial (a1 b1 (a1 trivial (a1 b2 (a1 trivial trivial))))))) (by kernel_rfl)
   ·try simp only [if_neg b2] at h ⊢
    replace b2:=Bool.eq_false_iff.2 b2
    exact AtV.ret Tryz.func80 tabOk ext80Ok mixed false [] tys80 [true,true,false] (a1 trivial (a1 b0 (a1 trivial (a1 b1 (a1 trivial (a1 b2 trivial)))))) (by kernel_rfl)
  ·try simp only [if_neg b1] at h ⊢
   replace b1:=Bool.eq_false_iff.2 b1
   exact AtV.ret Tryz.func80 tabOk ext80Ok mixed false [] tys80 [true,false,false] (a1 trivial (a1 b0 (a1 trivial (a1 b1 (a1 (rfl:false=false) trivial))))) (by kernel_rfl)
 ·try simp only [if_neg b0] at h ⊢
  replace b0:=Bool.eq_false_iff.2 b0
  exact AtV.ret Tryz.func80 tabOk ext80Ok mixed false [] tys80 [false,false,false] (a1 trivial (a1 b0 (a1 (rfl:false=false) (a1 (rfl:false=false) trivial)))) (by kernel_rfl)
def S80:Am.Spec:={ sig:=sig80,pre:=fun ⟨x0,_⟩=>P80 x0,res:=fun ⟨x0,_⟩=>[⟨Ty.bool,g80_0 x0⟩],kds:=kds80 }
theorem con80:Contract Tryz.prog 80 S80:=contract_of Tryz.func80 hb80 (Nat.le_of_ble_eq_true (by kernel_rfl)) (fun ⟨x0,_⟩ h _ K q=>at80 x0 h K q)
end
noncomputable section
def ext53:Ext:=[(80,S80)]
theorem ext53Ok:ExtOk Tryz.prog ext53:=⟨⟨ca80,con80⟩,trivial⟩
noncomputable def b53:Code:=bodyOf Tryz.f53
theorem hb53:Tryz.f53.body=some b53:=by kernel_rfl
def sig53:List AT:=[AT.v (Ty.sl YA5)]
def tys53:List Ty:=[Ty.bool]
def kds53:List RK:=[]
def oks53:List AT:=owns sig53
def E53_2 (v3:Int) (x0:List TyB1):Env:=[(0,PV.a (Atom.sl YA5 x0)),(3,PV.a (Atom.val (Value.int .i64 v3)))]
def L53_2 (v3:Int) (x0:List TyB1):Heap:=[]
mutual
def R53:Nat→List TyB1→List Dyn→Prop
 | 0,_,_=>False
 | n+1,x0,ds=>(R53_2 n (0) (x0) ds)
def R53_2:Nat→Int→List TyB1→List Dyn→Prop
 | 0,_,_,_=>False
 | n+1,v3,x0,ds=>(if (decide (v3<(↑(List.length x0):Int)))=true then ((0≤v3)∧(v3<(↑(List.length x0):Int))∧(if (!g80_0 (List.getD x0 (Int.toNat v3) (ByteArray.empty,0,0,0,())))=true then (ds=[Dyn.mk Ty.bool false]) else (if (decide (v3>0))=true then ((InR .i64 (v3 - 1))∧((0≤v3 - 1)∧(v3 - 1<(↑(List.length x0):Int))∧((0≤v3)∧(v3<(↑(List.length x0):Int))∧(if (!Op.bytesLess (ByteArray.toList (List.getD x0 (Int.toNat (v3 - 1)) (ByteArray.empty,0,0,0,())).1) (ByteArray.toList (List.getD x0 (Int.toNat v3) (ByteArray.empty,0,0,0,())).1))=true then (ds=[Dyn.mk Ty.bool false]) else ((InR .i64 (v3+1))∧(R53_2 n (v3+1) (x0) ds)))))) else ((InR .i64 (v3+1))∧(R53_2 n (v3+1) (x0) ds))))) else (ds=[Dyn.mk Ty.bool (decide ((↑(List.length x0):Int)≤12))]))
end
theorem snd53:∀ n,(∀ (x0:List TyB1) ds,R53 n x0 ds→∀ K q,AtV Tryz.prog 53 (PostR kds53 oks53 ds [] [] q K) 36 K q [] [.code b53] (entE 0 0 sig53 (x0,())) (entL sig53 (x0,())))∧(∀ (v3:Int) (x0:List TyB1) ds,R53_2 n v3 x0 ds→∀ K q,AtV Tryz.prog 53 (PostR kds53 oks53 ds [] [] q K) 36 K q [] (cutAt b53 2) (E53_2 v3 x0) (L53_2 v3 x0)):=by
 intro n
 induction n with
 | zero=>exact ⟨fun _ _ h=>by simp only [R53] at h,fun _ _ _ h=>by simp only [R53_2] at h⟩
 | succ n ih =>
 obtain ⟨ih,ih2⟩:=ih
 refine ⟨?_,?_⟩
 ·intro x0 ds h K q
  rw [R53] at h
  exact AtV.go tabOk ext53Ok mixed false [] [] [0,3] [] [] trivial (ih2 _ _ _ h K q) (by kernel_rfl)
 ·intro v3 x0 ds h K q
  rw [R53_2] at h
  by_cases b0:(decide (v3<(↑(List.length x0):Int)))=true
  ·rw [if_pos b0] at h
   obtain ⟨s0,s1,h⟩:=h
   by_cases b1:(!g80_0 (List.getD x0 (Int.toNat v3) (ByteArray.empty,0,0,0,())))=true
   ·rw [if_pos b1] at h
    subst h
    exact AtV.ret Tryz.func53 tabOk ext53Ok mixed false [] tys53 [true,true,true] (a1 b0 (a1 s0 (a1 s1 (a1 trivial (a1 b1 (a1 (rfl:true=true) trivial)))))) (by kernel_rfl)
   ·rw [if_neg b1] at h
    replace b1:=Bool.eq_false_iff.2 b1
    by_cases b2:(decide (v3>0))=true
    ·rw [if_pos b2] at h
     obtain ⟨s2,h⟩:=h
     obtain ⟨s3,s4,h⟩:=h
     obtain ⟨s5,s6,h⟩:=h
     by_cases b3:(!Op.bytesLess (ByteArray.toList (List.getD x0 (Int.toNat (v3 - 1)) (ByteArray.empty,0,0,0,())).1) (ByteArray.toList (List.getD x0 (Int.toNat v3) (ByteArray.empty,0,0,0,())).1))=true
     ·rw [if_pos b3] at h
      subst h
      exact AtV.ret Tryz.func53 tabOk ext53Ok mixed false [] tys53 [true,false,true,true] (a1 b0 (a1 s0 (a1 s1 (a1 trivial (a1 b1 (a1 b2 (a1 s2 (a1 s3 (a1 s4 (a1 s5 (a1 s6 (a1 b3 trivial)))))))))))) (by kernel_rfl)
     ·rw [if_neg b3] at h
      replace b3:=Bool.eq_false_iff.2 b3
      obtain ⟨s7,h⟩:=h
      exact AtV.go tabOk ext53Ok mixed false [] [] [0,3] [] [true,false,true,false] (a1 b0 (a1 s0 (a1 s1 (a1 trivial (a1 b1 (a1 b2 (a1 s2 (a1 s3 (a1 s4 (a1 s5 (a1 s6 (a1 b3 (a1 s7 trivial))))))))))))) (ih2 _ _ _ h K q) (by kernel_rfl)
    ·rw [if_neg b2] at h
     replace b2:=Bool.eq_false_iff.2 b2
     obtain ⟨s2,h⟩:=h
     exact AtV.go tabOk ext53Ok mixed false [] [] [0,3] [] [true,false,false,false] (a1 b0 (a1 s0 (a1 s1 (a1 trivial (a1 b1 (a1 b2 (a1 (rfl:false=false) (a1 s2 trivial)))))))) (ih2 _ _ _ h K q) (by kernel_rfl)
  ·rw [if_neg b0] at h
   replace b0:=Bool.eq_false_iff.2 b0
   subst h
   exact AtV.ret Tryz.func53 tabOk ext53Ok mixed false [] tys53 [false] (a1 b0 trivial) (by kernel_rfl)
def ok53 (x0:List TyB1) (i:Nat) (x:TyB1):Bool :=
 g80_0 x&&(i==0||Op.bytesLess (ByteArray.toList (x0.getD (i - 1) (ByteArray.empty,(0:Int),(0:Int),(0:Int),())).1) (ByteArray.toList x.1))
def g53_0 (x0:List TyB1):Bool:=allI (ok53 x0) 0 x0&&decide (x0.length≤12)
def P53 (x0:List TyB1):Prop:=True
theorem step53 (n i : Nat) (x0 : List TyB1) (hm : x0.length ≤ maxLen) (hi : i < x0.length) (ds : List Dyn) :
    (if ok53 x0 i (x0.getD i (ByteArray.empty, (0 : Int), (0 : Int), (0 : Int), ())) = true then R53_2 n ((i : Int) + 1) x0 ds else ds = [⟨.bool, false⟩]) → R53_2 (n + 1) (i : Int) x0 ds := by
  intro h
  have hu := inR_up hm hi
  rw [R53_2, if_pos (by simp; omega)]
  refine ⟨by omega, by omega, ?_⟩
  simp only [Int.toNat_natCast]
  unfold ok53 at h
  cases h1 : g80_0 (x0.getD i (ByteArray.empty, (0 : Int), (0 : Int), (0 : Int), ())) with
  | false =>
    rw [h1] at h
    rw [if_pos (by rfl)]
    simpa using h
  | true =>
    rw [h1] at h
    rw [if_neg (by simp)]
    by_cases h0 : (i : Int) > 0
    · rw [if_pos (by simpa using h0)]
      have hi0 : (i == 0) = false := by simp; omega
      have e : ((i : Int) - 1).toNat = i - 1 := by omega
      refine ⟨by rw [i64_iff]; have : maxLen ≤ 9223372036854775807 := by decide
                 omega, by omega, by omega, by omega, by omega, ?_⟩
      rw [e]
      by_cases h2 : Op.bytesLess (ByteArray.toList (x0.getD (i - 1) (ByteArray.empty, (0 : Int), (0 : Int), (0 : Int), ())).1) (ByteArray.toList (x0.getD i (ByteArray.empty, (0 : Int), (0 : Int), (0 : Int), ())).1) = true
      · rw [h2, hi0] at h
        rw [if_neg (by rw [h2]; simp)]
        exact ⟨hu, by simpa using h⟩
      · have h2 := Bool.eq_false_iff.2 h2
        rw [h2, hi0] at h
        rw [if_pos (by rw [h2]; rfl)]
        simpa using h
    · rw [if_neg (by simpa using h0)]
      have hi0 : (i == 0) = true := by simp; omega
      rw [hi0] at h
      exact ⟨hu, by simpa using h⟩
theorem top53 (x0:List TyB1) (hw:x0.length≤maxLen):R53 (x0.length+1+1) x0 [⟨.bool,g53_0 x0⟩]:=by
 rw [R53]
 have key:=loop_testI x0 (ByteArray.empty,(0:Int),(0:Int),(0:Int),()) (ok53 x0) [(⟨.bool,false⟩:Dyn)] [⟨.bool,decide (x0.length≤12)⟩] (fun n i ds=>R53_2 n i x0 ds) (fun n => ?_) (fun n i hi hok ds hr => ?_) (fun n i hi hok => ?_)
 ·unfold g53_0
  cases h:allI (ok53 x0) 0 x0 with
  | true=>rw [if_pos h] at key;simpa using key
  | false=>rw [if_neg (by rw [h];simp)] at key;simpa using key
 ·rw [R53_2,if_neg (by simp)]
  have hc:decide ((x0.length:Int)≤12)=decide (x0.length≤12):=by
   congr 1;exact propext ⟨fun h=>by omega,fun h=>by omega⟩
  rw [hc]
 ·exact step53 n i x0 hw hi ds (by rw [if_pos hok];exact hr)
 ·exact step53 n i x0 hw hi _ (by rw [if_neg (by rw [hok];simp)])
def S53:Am.Spec:={ sig:=sig53,pre:=fun ⟨x0,_⟩=>P53 x0,res:=fun ⟨x0,_⟩=>[⟨Ty.bool,g53_0 x0⟩] }
theorem con53:Contract Tryz.prog 53 S53:=contract_of Tryz.func53 hb53 (Nat.le_of_ble_eq_true (by kernel_rfl)) (fun ⟨x0,_⟩ h hwf K q =>
 (snd53 _).1 x0 _ (top53 x0 hwf.1.1) K q)
end
noncomputable section
def ext54:Ext:=[(78,S78)]
theorem ext54Ok:ExtOk Tryz.prog ext54:=⟨⟨ca78,con78⟩,trivial⟩
noncomputable def b54:Code:=bodyOf Tryz.f54
theorem hb54:Tryz.f54.body=some b54:=by kernel_rfl
def sig54:List AT:=[AT.p YA7]
def tys54:List Ty:=[Ty.bool]
def kds54:List RK:=[]
def oks54:List AT:=owns sig54
def P54 (x0:Int×Int×Int×Unit):Prop:=True
def g54_0 (x0:Int×Int×Int×Unit):Bool:=(if (g78_0 x0.1 0 200)=true then (if (g78_0 x0.2.1 0 40)=true then g78_0 x0.2.2.1 0 100000 else false) else false)
theorem at54 (x0:Int×Int×Int×Unit) (h:P54 x0) (K:Ctx) (q:Nat→Value):AtV Tryz.prog 54 (PostR kds54 oks54 [⟨Ty.bool,g54_0 x0⟩] [] [] q K) 22 K q [] [.code b54] (entE 0 0 sig54 (x0,())) (entL sig54 (x0,())):=by
 unfold P54 at h
 unfold g54_0
 by_cases b0:(g78_0 x0.1 0 200)=true
 ·try simp only [if_pos b0] at h ⊢
  by_cases b1:(g78_0 x0.2.1 0 40)=true
  ·try simp only [if_pos b1] at h ⊢
   exact AtV.ret Tryz.func54 tabOk ext54Ok mixed false [] tys54 [true,true] (a1 trivial (a1 b0 (a1 trivial (a1 b1 (a1 trivial trivial))))) (by kernel_rfl)
  ·try simp only [if_neg b1] at h ⊢
   replace b1:=Bool.eq_false_iff.2 b1
   exact AtV.ret Tryz.func54 tabOk ext54Ok mixed false [] tys54 [true,false] (a1 trivial (a1 b0 (a1 trivial (a1 b1 trivial)))) (by kernel_rfl)
 ·try simp only [if_neg b0] at h ⊢
  replace b0:=Bool.eq_false_iff.2 b0
  exact AtV.ret Tryz.func54 tabOk ext54Ok mixed false [] tys54 [false,false] (a1 trivial (a1 b0 (a1 (rfl:false=false) trivial))) (by kernel_rfl)
def S54:Am.Spec:={ sig:=sig54,pre:=fun ⟨x0,_⟩=>P54 x0,res:=fun ⟨x0,_⟩=>[⟨Ty.bool,g54_0 x0⟩],kds:=kds54 }
theorem con54:Contract Tryz.prog 54 S54:=contract_of Tryz.func54 hb54 (Nat.le_of_ble_eq_true (by kernel_rfl)) (fun ⟨x0,_⟩ h _ K q=>at54 x0 h K q)
end
noncomputable section
def ext82:Ext:=[(78,S78)]
theorem ext82Ok:ExtOk Tryz.prog ext82:=⟨⟨ca78,con78⟩,trivial⟩
noncomputable def b82:Code:=bodyOf Tryz.f82
theorem hb82:Tryz.f82.body=some b82:=by kernel_rfl
def sig82:List AT:=[AT.v (Ty.int .i64)]
def tys82:List Ty:=[Ty.bool]
def kds82:List RK:=[]
def oks82:List AT:=owns sig82
def P82 (x0:Int):Prop:=True
def g82_0 (x0:Int):Bool:=g78_0 x0 0 100000
theorem at82 (x0:Int) (h:P82 x0) (K:Ctx) (q:Nat→Value):AtV Tryz.prog 82 (PostR kds82 oks82 [⟨Ty.bool,g82_0 x0⟩] [] [] q K) 5 K q [] [.code b82] (entE 0 0 sig82 (x0,())) (entL sig82 (x0,())):=by
 unfold P82 at h
 unfold g82_0
 exact AtV.ret Tryz.func82 tabOk ext82Ok mixed false [] tys82 [] (a1 trivial trivial) (by kernel_rfl)
def S82:Am.Spec:={ sig:=sig82,pre:=fun ⟨x0,_⟩=>P82 x0,res:=fun ⟨x0,_⟩=>[⟨Ty.bool,g82_0 x0⟩],kds:=kds82 }
theorem con82:Contract Tryz.prog 82 S82:=contract_of Tryz.func82 hb82 (Nat.le_of_ble_eq_true (by kernel_rfl)) (fun ⟨x0,_⟩ h _ K q=>at82 x0 h K q)
end
noncomputable section
def ext83:Ext:=[(78,S78)]
theorem ext83Ok:ExtOk Tryz.prog ext83:=⟨⟨ca78,con78⟩,trivial⟩
noncomputable def b83:Code:=bodyOf Tryz.f83
theorem hb83:Tryz.f83.body=some b83:=by kernel_rfl
def sig83:List AT:=[AT.v (Ty.int .i64)]
def tys83:List Ty:=[Ty.bool]
def kds83:List RK:=[]
def oks83:List AT:=owns sig83
def P83 (x0:Int):Prop:=True
def g83_0 (x0:Int):Bool:=g78_0 x0 0 1000000
theorem at83 (x0:Int) (h:P83 x0) (K:Ctx) (q:Nat→Value):AtV Tryz.prog 83 (PostR kds83 oks83 [⟨Ty.bool,g83_0 x0⟩] [] [] q K) 5 K q [] [.code b83] (entE 0 0 sig83 (x0,())) (entL sig83 (x0,())):=by
 unfold P83 at h
 unfold g83_0
 exact AtV.ret Tryz.func83 tabOk ext83Ok mixed false [] tys83 [] (a1 trivial trivial) (by kernel_rfl)
def S83:Am.Spec:={ sig:=sig83,pre:=fun ⟨x0,_⟩=>P83 x0,res:=fun ⟨x0,_⟩=>[⟨Ty.bool,g83_0 x0⟩],kds:=kds83 }
theorem con83:Contract Tryz.prog 83 S83:=contract_of Tryz.func83 hb83 (Nat.le_of_ble_eq_true (by kernel_rfl)) (fun ⟨x0,_⟩ h _ K q=>at83 x0 h K q)
end
noncomputable section
def ext111:Ext:=[(110,S110),(78,S78),(82,S82),(83,S83)]
theorem ext111Ok:ExtOk Tryz.prog ext111:=⟨⟨ca110,con110⟩,⟨ca78,con78⟩,⟨ca82,con82⟩,⟨ca83,con83⟩,trivial⟩
noncomputable def b111:Code:=bodyOf Tryz.f111
theorem hb111:Tryz.f111.body=some b111:=by kernel_rfl
def sig111:List AT:=[AT.p YA3]
def tys111:List Ty:=[Ty.bool]
def kds111:List RK:=[]
def oks111:List AT:=owns sig111
def P111 (x0:ByteArray×Int×Int×Int×Int×Unit):Prop:=True
def g111_0 (x0:ByteArray×Int×Int×Int×Int×Unit):Bool:=(if (g110_0 x0.1)=true then (if (g78_0 x0.2.1 1 100000)=true then (if (g78_0 x0.2.2.1 1 1000000)=true then (if (g82_0 x0.2.2.2.1)=true then g83_0 x0.2.2.2.2.1 else false) else false) else false) else false)
theorem at111 (x0:ByteArray×Int×Int×Int×Int×Unit) (h:P111 x0) (K:Ctx) (q:Nat→Value):AtV Tryz.prog 111 (PostR kds111 oks111 [⟨Ty.bool,g111_0 x0⟩] [] [] q K) 36 K q [] [.code b111] (entE 0 0 sig111 (x0,())) (entL sig111 (x0,())):=by
 unfold P111 at h
 unfold g111_0
 by_cases b0:(g110_0 x0.1)=true
 ·try simp only [if_pos b0] at h ⊢
  by_cases b1:(g78_0 x0.2.1 1 100000)=true
  ·try simp only [if_pos b1] at h ⊢
   by_cases b2:(g78_0 x0.2.2.1 1 1000000)=true
   ·try simp only [if_pos b2] at h ⊢
    by_cases b3:(g82_0 x0.2.2.2.1)=true
    ·try simp only [if_pos b3] at h ⊢
     exact AtV.ret Tryz.func111 tabOk ext111Ok mixed false [] tys111 [true,true,true,true] (a1 trivial (a1 b0 (a1 trivial (a1 b1 (a1 trivial (a1 b2 (a1 trivial (a1 b3 (a1 trivial trivial))))))))) (by kernel_rfl)
    ·try simp only [if_neg b3] at h ⊢
     replace b3:=Bool.eq_false_iff.2 b3
     exact AtV.ret Tryz.func111 tabOk ext111Ok mixed false [] tys111 [true,true,true,false] (a1 trivial (a1 b0 (a1 trivial (a1 b1 (a1 trivial (a1 b2 (a1 trivial (a1 b3 trivial)))))))) (by kernel_rfl)
   ·try simp only [if_neg b2] at h ⊢
    replace b2:=Bool.eq_false_iff.2 b2
    exact AtV.ret Tryz.func111 tabOk ext111Ok mixed false [] tys111 [true,true,false,false] (a1 trivial (a1 b0 (a1 trivial (a1 b1 (a1 trivial (a1 b2 (a1 (rfl:false=false) trivial))))))) (by kernel_rfl)
  ·try simp only [if_neg b1] at h ⊢
   replace b1:=Bool.eq_false_iff.2 b1
   exact AtV.ret Tryz.func111 tabOk ext111Ok mixed false [] tys111 [true,false,false,false] (a1 trivial (a1 b0 (a1 trivial (a1 b1 (a1 (rfl:false=false) (a1 (rfl:false=false) trivial)))))) (by kernel_rfl)
 ·try simp only [if_neg b0] at h ⊢
  replace b0:=Bool.eq_false_iff.2 b0
  exact AtV.ret Tryz.func111 tabOk ext111Ok mixed false [] tys111 [false,false,false,false] (a1 trivial (a1 b0 (a1 (rfl:false=false) (a1 (rfl:false=false) (a1 (rfl:false=false) trivial))))) (by kernel_rfl)
def S111:Am.Spec:={ sig:=sig111,pre:=fun ⟨x0,_⟩=>P111 x0,res:=fun ⟨x0,_⟩=>[⟨Ty.bool,g111_0 x0⟩],kds:=kds111 }
theorem con111:Contract Tryz.prog 111 S111:=contract_of Tryz.func111 hb111 (Nat.le_of_ble_eq_true (by kernel_rfl)) (fun ⟨x0,_⟩ h _ K q=>at111 x0 h K q)
end
noncomputable section
def ext81:Ext:=[(111,S111)]
theorem ext81Ok:ExtOk Tryz.prog ext81:=⟨⟨ca111,con111⟩,trivial⟩
noncomputable def b81:Code:=bodyOf Tryz.f81
theorem hb81:Tryz.f81.body=some b81:=by kernel_rfl
def sig81:List AT:=[AT.v (Ty.sl YA3)]
def tys81:List Ty:=[Ty.bool]
def kds81:List RK:=[]
def oks81:List AT:=owns sig81
def E81_2 (v3:Int) (x0:List TyB0):Env:=[(0,PV.a (Atom.sl YA3 x0)),(3,PV.a (Atom.val (Value.int .i64 v3)))]
def L81_2 (v3:Int) (x0:List TyB0):Heap:=[]
mutual
def R81:Nat→List TyB0→List Dyn→Prop
 | 0,_,_=>False
 | n+1,x0,ds=>(R81_2 n (0) (x0) ds)
def R81_2:Nat→Int→List TyB0→List Dyn→Prop
 | 0,_,_,_=>False
 | n+1,v3,x0,ds=>(if (decide (v3<(↑(List.length x0):Int)))=true then ((0≤v3)∧(v3<(↑(List.length x0):Int))∧(if (!g111_0 (List.getD x0 (Int.toNat v3) (ByteArray.empty,0,0,0,0,())))=true then (ds=[Dyn.mk Ty.bool false]) else (if (decide (v3>0))=true then ((InR .i64 (v3 - 1))∧((0≤v3 - 1)∧(v3 - 1<(↑(List.length x0):Int))∧((0≤v3)∧(v3<(↑(List.length x0):Int))∧(if (!Op.bytesLess (ByteArray.toList (List.getD x0 (Int.toNat (v3 - 1)) (ByteArray.empty,0,0,0,0,())).1) (ByteArray.toList (List.getD x0 (Int.toNat v3) (ByteArray.empty,0,0,0,0,())).1))=true then (ds=[Dyn.mk Ty.bool false]) else ((InR .i64 (v3+1))∧(R81_2 n (v3+1) (x0) ds)))))) else ((InR .i64 (v3+1))∧(R81_2 n (v3+1) (x0) ds))))) else (ds=[Dyn.mk Ty.bool (decide ((↑(List.length x0):Int)≤16))]))
end
theorem snd81:∀ n,(∀ (x0:List TyB0) ds,R81 n x0 ds→∀ K q,AtV Tryz.prog 81 (PostR kds81 oks81 ds [] [] q K) 36 K q [] [.code b81] (entE 0 0 sig81 (x0,())) (entL sig81 (x0,())))∧(∀ (v3:Int) (x0:List TyB0) ds,R81_2 n v3 x0 ds→∀ K q,AtV Tryz.prog 81 (PostR kds81 oks81 ds [] [] q K) 36 K q [] (cutAt b81 2) (E81_2 v3 x0) (L81_2 v3 x0)):=by
 intro n
 induction n with
 | zero=>exact ⟨fun _ _ h=>by simp only [R81] at h,fun _ _ _ h=>by simp only [R81_2] at h⟩
 | succ n ih =>
 obtain ⟨ih,ih2⟩:=ih
 refine ⟨?_,?_⟩
 ·intro x0 ds h K q
  rw [R81] at h
  exact AtV.go tabOk ext81Ok mixed false [] [] [0,3] [] [] trivial (ih2 _ _ _ h K q) (by kernel_rfl)
 ·intro v3 x0 ds h K q
  rw [R81_2] at h
  by_cases b0:(decide (v3<(↑(List.length x0):Int)))=true
  ·rw [if_pos b0] at h
   obtain ⟨s0,s1,h⟩:=h
   by_cases b1:(!g111_0 (List.getD x0 (Int.toNat v3) (ByteArray.empty,0,0,0,0,())))=true
   ·rw [if_pos b1] at h
    subst h
    exact AtV.ret Tryz.func81 tabOk ext81Ok mixed false [] tys81 [true,true,true] (a1 b0 (a1 s0 (a1 s1 (a1 trivial (a1 b1 (a1 (rfl:true=true) trivial)))))) (by kernel_rfl)
   ·rw [if_neg b1] at h
    replace b1:=Bool.eq_false_iff.2 b1
    by_cases b2:(decide (v3>0))=true
    ·rw [if_pos b2] at h
     obtain ⟨s2,h⟩:=h
     obtain ⟨s3,s4,h⟩:=h
     obtain ⟨s5,s6,h⟩:=h
     by_cases b3:(!Op.bytesLess (ByteArray.toList (List.getD x0 (Int.toNat (v3 - 1)) (ByteArray.empty,0,0,0,0,())).1) (ByteArray.toList (List.getD x0 (Int.toNat v3) (ByteArray.empty,0,0,0,0,())).1))=true
     ·rw [if_pos b3] at h
      subst h
      exact AtV.ret Tryz.func81 tabOk ext81Ok mixed false [] tys81 [true,false,true,true] (a1 b0 (a1 s0 (a1 s1 (a1 trivial (a1 b1 (a1 b2 (a1 s2 (a1 s3 (a1 s4 (a1 s5 (a1 s6 (a1 b3 trivial)))))))))))) (by kernel_rfl)
     ·rw [if_neg b3] at h
      replace b3:=Bool.eq_false_iff.2 b3
      obtain ⟨s7,h⟩:=h
      exact AtV.go tabOk ext81Ok mixed false [] [] [0,3] [] [true,false,true,false] (a1 b0 (a1 s0 (a1 s1 (a1 trivial (a1 b1 (a1 b2 (a1 s2 (a1 s3 (a1 s4 (a1 s5 (a1 s6 (a1 b3 (a1 s7 trivial))))))))))))) (ih2 _ _ _ h K q) (by kernel_rfl)
    ·rw [if_neg b2] at h
     replace b2:=Bool.eq_false_iff.2 b2
     obtain ⟨s2,h⟩:=h
     exact AtV.go tabOk ext81Ok mixed false [] [] [0,3] [] [true,false,false,false] (a1 b0 (a1 s0 (a1 s1 (a1 trivial (a1 b1 (a1 b2 (a1 (rfl:false=false) (a1 s2 trivial)))))))) (ih2 _ _ _ h K q) (by kernel_rfl)
  ·rw [if_neg b0] at h
   replace b0:=Bool.eq_false_iff.2 b0
   subst h
   exact AtV.ret Tryz.func81 tabOk ext81Ok mixed false [] tys81 [false] (a1 b0 trivial) (by kernel_rfl)
def ok81 (x0:List TyB0) (i:Nat) (x:TyB0):Bool :=
 g111_0 x&&(i==0||Op.bytesLess (ByteArray.toList (x0.getD (i - 1) (ByteArray.empty,(0:Int),(0:Int),(0:Int),(0:Int),())).1) (ByteArray.toList x.1))
def g81_0 (x0:List TyB0):Bool:=allI (ok81 x0) 0 x0&&decide (x0.length≤16)
def P81 (x0:List TyB0):Prop:=True
theorem step81 (n i : Nat) (x0 : List TyB0) (hm : x0.length ≤ maxLen) (hi : i < x0.length) (ds : List Dyn) :
    (if ok81 x0 i (x0.getD i (ByteArray.empty, (0 : Int), (0 : Int), (0 : Int), (0 : Int), ())) = true then R81_2 n ((i : Int) + 1) x0 ds else ds = [⟨.bool, false⟩]) → R81_2 (n + 1) (i : Int) x0 ds := by
  intro h
  have hu := inR_up hm hi
  rw [R81_2, if_pos (by simp; omega)]
  refine ⟨by omega, by omega, ?_⟩
  simp only [Int.toNat_natCast]
  unfold ok81 at h
  cases h1 : g111_0 (x0.getD i (ByteArray.empty, (0 : Int), (0 : Int), (0 : Int), (0 : Int), ())) with
  | false =>
    rw [h1] at h
    rw [if_pos (by rfl)]
    simpa using h
  | true =>
    rw [h1] at h
    rw [if_neg (by simp)]
    by_cases h0 : (i : Int) > 0
    · rw [if_pos (by simpa using h0)]
      have hi0 : (i == 0) = false := by simp; omega
      have e : ((i : Int) - 1).toNat = i - 1 := by omega
      refine ⟨by rw [i64_iff]; have : maxLen ≤ 9223372036854775807 := by decide
                 omega, by omega, by omega, by omega, by omega, ?_⟩
      rw [e]
      by_cases h2 : Op.bytesLess (ByteArray.toList (x0.getD (i - 1) (ByteArray.empty, (0 : Int), (0 : Int), (0 : Int), (0 : Int), ())).1) (ByteArray.toList (x0.getD i (ByteArray.empty, (0 : Int), (0 : Int), (0 : Int), (0 : Int), ())).1) = true
      · rw [h2, hi0] at h
        rw [if_neg (by rw [h2]; simp)]
        exact ⟨hu, by simpa using h⟩
      · have h2 := Bool.eq_false_iff.2 h2
        rw [h2, hi0] at h
        rw [if_pos (by rw [h2]; rfl)]
        simpa using h
    · rw [if_neg (by simpa using h0)]
      have hi0 : (i == 0) = true := by simp; omega
      rw [hi0] at h
      exact ⟨hu, by simpa using h⟩
theorem top81 (x0:List TyB0) (hw:x0.length≤maxLen):R81 (x0.length+1+1) x0 [⟨.bool,g81_0 x0⟩]:=by
 rw [R81]
 have key:=loop_testI x0 (ByteArray.empty,(0:Int),(0:Int),(0:Int),(0:Int),()) (ok81 x0) [(⟨.bool,false⟩:Dyn)] [⟨.bool,decide (x0.length≤16)⟩] (fun n i ds=>R81_2 n i x0 ds) (fun n => ?_) (fun n i hi hok ds hr => ?_) (fun n i hi hok => ?_)
 ·unfold g81_0
  cases h:allI (ok81 x0) 0 x0 with
  | true=>rw [if_pos h] at key;simpa using key
  | false=>rw [if_neg (by rw [h];simp)] at key;simpa using key
 ·rw [R81_2,if_neg (by simp)]
  have hc:decide ((x0.length:Int)≤16)=decide (x0.length≤16):=by
   congr 1;exact propext ⟨fun h=>by omega,fun h=>by omega⟩
  rw [hc]
 ·exact step81 n i x0 hw hi ds (by rw [if_pos hok];exact hr)
 ·exact step81 n i x0 hw hi _ (by rw [if_neg (by rw [hok];simp)])
def S81:Am.Spec:={ sig:=sig81,pre:=fun ⟨x0,_⟩=>P81 x0,res:=fun ⟨x0,_⟩=>[⟨Ty.bool,g81_0 x0⟩] }
theorem con81:Contract Tryz.prog 81 S81:=contract_of Tryz.func81 hb81 (Nat.le_of_ble_eq_true (by kernel_rfl)) (fun ⟨x0,_⟩ h hwf K q =>
 (snd81 _).1 x0 _ (top81 x0 hwf.1.1) K q)
end
noncomputable section
def ext84:Ext:=[]
theorem ext84Ok:ExtOk Tryz.prog ext84:=trivial
noncomputable def b84:Code:=bodyOf Tryz.f84
theorem hb84:Tryz.f84.body=some b84:=by kernel_rfl
def sig84:List AT:=[AT.p YA3,AT.v (Ty.int .i64),AT.v (Ty.int .i64)]
def tys84:List Ty:=[Ty.bool]
def kds84:List RK:=[]
def oks84:List AT:=owns sig84
def P84 (x0:ByteArray×Int×Int×Int×Int×Unit) (x1:Int) (x2:Int):Prop:=True
def g84_0 (x0:ByteArray×Int×Int×Int×Int×Unit) (x1:Int) (x2:Int):Bool:=(if (decide (x0.2.2.2.1≤x1))=true then decide (x0.2.2.2.2.1≤x2) else false)
theorem at84 (x0:ByteArray×Int×Int×Int×Int×Unit) (x1:Int) (x2:Int) (h:P84 x0 x1 x2) (K:Ctx) (q:Nat→Value):AtV Tryz.prog 84 (PostR kds84 oks84 [⟨Ty.bool,g84_0 x0 x1 x2⟩] [] [] q K) 21 K q [] [.code b84] (entE 0 0 sig84 (x0,x1,x2,())) (entL sig84 (x0,x1,x2,())):=by
 unfold P84 at h
 unfold g84_0
 by_cases b0:(decide (x0.2.2.2.1≤x1))=true
 ·try simp only [if_pos b0] at h ⊢
  exact AtV.ret Tryz.func84 tabOk ext84Ok mixed false [] tys84 [true] (a1 b0 trivial) (by kernel_rfl)
 ·try simp only [if_neg b0] at h ⊢
  replace b0:=Bool.eq_false_iff.2 b0
  exact AtV.ret Tryz.func84 tabOk ext84Ok mixed false [] tys84 [false] (a1 b0 trivial) (by kernel_rfl)
def S84:Am.Spec:={ sig:=sig84,pre:=fun ⟨x0,x1,x2,_⟩=>P84 x0 x1 x2,res:=fun ⟨x0,x1,x2,_⟩=>[⟨Ty.bool,g84_0 x0 x1 x2⟩],kds:=kds84 }
theorem con84:Contract Tryz.prog 84 S84:=contract_of Tryz.func84 hb84 (Nat.le_of_ble_eq_true (by kernel_rfl)) (fun ⟨x0,x1,x2,_⟩ h _ K q=>at84 x0 x1 x2 h K q)
end
noncomputable section
def ext55:Ext:=[(81,S81),(82,S82),(83,S83),(84,S84)]
theorem ext55Ok:ExtOk Tryz.prog ext55:=⟨⟨ca81,con81⟩,⟨ca82,con82⟩,⟨ca83,con83⟩,⟨ca84,con84⟩,trivial⟩
noncomputable def b55:Code:=bodyOf Tryz.f55
theorem hb55:Tryz.f55.body=some b55:=by kernel_rfl
def sig55:List AT:=[AT.v (Ty.sl YA3),AT.v (Ty.int .i64),AT.v (Ty.int .i64)]
def tys55:List Ty:=[Ty.int .i64]
def kds55:List RK:=[]
def oks55:List AT:=owns sig55
def E55_6 (v7:Int) (x0:List TyB0) (x1:Int) (x2:Int):Env:=[(0,PV.a (Atom.sl YA3 x0)),(1,PV.a (Atom.val (Value.int .i64 x1))),(2,PV.a (Atom.val (Value.int .i64 x2))),(7,PV.a (Atom.val (Value.int .i64 v7)))]
def L55_6 (v7:Int) (x0:List TyB0) (x1:Int) (x2:Int):Heap:=[]
mutual
def R55:Nat→List TyB0→Int→Int→List Dyn→Prop
 | 0,_,_,_,_=>False
 | n+1,x0,x1,x2,ds=>(if (!g81_0 x0)=true then (ds=[Dyn.mk (Ty.int .i64) 1]) else (if (!g82_0 x1)=true then (ds=[Dyn.mk (Ty.int .i64) 2]) else (if (!g83_0 x2)=true then (ds=[Dyn.mk (Ty.int .i64) 2]) else (R55_6 n (0) (x0) (x1) (x2) ds))))
def R55_6:Nat→Int→List TyB0→Int→Int→List Dyn→Prop
 | 0,_,_,_,_,_=>False
 | n+1,v7,x0,x1,x2,ds=>(if (decide (v7<(↑(List.length x0):Int)))=true then ((0≤v7)∧(v7<(↑(List.length x0):Int))∧(if (!g84_0 (List.getD x0 (Int.toNat v7) (ByteArray.empty,0,0,0,0,())) x1 x2)=true then (ds=[Dyn.mk (Ty.int .i64) 6]) else ((InR .i64 (v7+1))∧(R55_6 n (v7+1) (x0) (x1) (x2) ds)))) else (ds=[Dyn.mk (Ty.int .i64) 0]))
end
theorem snd55:∀ n,(∀ (x0:List TyB0) (x1:Int) (x2:Int) ds,R55 n x0 x1 x2 ds→∀ K q,AtV Tryz.prog 55 (PostR kds55 oks55 ds [] [] q K) 32 K q [] [.code b55] (entE 0 0 sig55 (x0,x1,x2,())) (entL sig55 (x0,x1,x2,())))∧(∀ (v7:Int) (x0:List TyB0) (x1:Int) (x2:Int) ds,R55_6 n v7 x0 x1 x2 ds→∀ K q,AtV Tryz.prog 55 (PostR kds55 oks55 ds [] [] q K) 32 K q [] (cutAt b55 6) (E55_6 v7 x0 x1 x2) (L55_6 v7 x0 x1 x2)):=by
 intro n
 induction n with
 | zero=>exact ⟨fun _ _ _ _ h=>by simp only [R55] at h,fun _ _ _ _ _ h=>by simp only [R55_6] at h⟩
 | succ n ih =>
 obtain ⟨ih,ih6⟩:=ih
 refine ⟨?_,?_⟩
 ·intro x0 x1 x2 ds h K q
  rw [R55] at h
  by_cases b0:(!g81_0 x0)=true
  ·rw [if_pos b0] at h
   subst h
   exact AtV.ret Tryz.func55 tabOk ext55Ok mixed false [] tys55 [true] (a1 trivial (a1 b0 trivial)) (by kernel_rfl)
  ·rw [if_neg b0] at h
   replace b0:=Bool.eq_false_iff.2 b0
   by_cases b1:(!g82_0 x1)=true
   ·rw [if_pos b1] at h
    subst h
    exact AtV.ret Tryz.func55 tabOk ext55Ok mixed false [] tys55 [false,true,true] (a1 trivial (a1 b0 (a1 trivial (a1 b1 (a1 (rfl:true=true) trivial))))) (by kernel_rfl)
   ·rw [if_neg b1] at h
    replace b1:=Bool.eq_false_iff.2 b1
    by_cases b2:(!g83_0 x2)=true
    ·rw [if_pos b2] at h
     subst h
     exact AtV.ret Tryz.func55 tabOk ext55Ok mixed false [] tys55 [false,false,true] (a1 trivial (a1 b0 (a1 trivial (a1 b1 (a1 trivial (a1 b2 trivial)))))) (by kernel_rfl)
    ·rw [if_neg b2] at h
     replace b2:=Bool.eq_false_iff.2 b2
     exact AtV.go tabOk ext55Ok mixed false [] [] [0,1,2,7] [] [false,false,false] (a1 trivial (a1 b0 (a1 trivial (a1 b1 (a1 trivial (a1 b2 trivial)))))) (ih6 _ _ _ _ _ h K q) (by kernel_rfl)
 ·intro v7 x0 x1 x2 ds h K q
  rw [R55_6] at h
  by_cases b0:(decide (v7<(↑(List.length x0):Int)))=true
  ·rw [if_pos b0] at h
   obtain ⟨s0,s1,h⟩:=h
   by_cases b1:(!g84_0 (List.getD x0 (Int.toNat v7) (ByteArray.empty,0,0,0,0,())) x1 x2)=true
   ·rw [if_pos b1] at h
    subst h
    exact AtV.ret Tryz.func55 tabOk ext55Ok mixed false [] tys55 [true,true] (a1 b0 (a1 s0 (a1 s1 (a1 trivial (a1 b1 trivial))))) (by kernel_rfl)
   ·rw [if_neg b1] at h
    replace b1:=Bool.eq_false_iff.2 b1
    obtain ⟨s2,h⟩:=h
    exact AtV.go tabOk ext55Ok mixed false [] [] [0,1,2,7] [] [true,false] (a1 b0 (a1 s0 (a1 s1 (a1 trivial (a1 b1 (a1 s2 trivial)))))) (ih6 _ _ _ _ _ h K q) (by kernel_rfl)
  ·rw [if_neg b0] at h
   replace b0:=Bool.eq_false_iff.2 b0
   subst h
   exact AtV.ret Tryz.func55 tabOk ext55Ok mixed false [] tys55 [false] (a1 b0 trivial) (by kernel_rfl)
def q55 (x1 x2:Int) (x:TyB0):Bool:=g84_0 x x1 x2
def g55_0 (x0:List TyB0) (x1 x2:Int):Int:=if g81_0 x0=true then (if g82_0 x1=true then (if g83_0 x2=true then (if x0.all (q55 x1 x2)=true then 0 else 6) else 2) else 2) else 1
def P55 (x0:List TyB0) (x1 x2:Int):Prop:=True
theorem top55 (x0:List TyB0) (x1 x2:Int) (hm:x0.length≤maxLen):R55 (x0.length+1+1) x0 x1 x2 [⟨.int .i64,g55_0 x0 x1 x2⟩]:=by
 rw [R55]
 unfold g55_0
 cases h0:g81_0 x0 with
 | false=>rw [if_pos (show (!false)=true from rfl),if_neg (by simp)]
 | true =>
 cases h1:g82_0 x1 with
 | false=>rw [if_neg (show ¬ (!true)=true by decide),if_pos (show (!false)=true from rfl),if_pos rfl,if_neg (by simp)]
 | true =>
 cases h2:g83_0 x2 with
 | false=>rw [if_neg (show ¬ (!true)=true by decide),if_neg (show ¬ (!true)=true by decide),if_pos (show (!false)=true from rfl),if_pos rfl,if_pos rfl,if_neg (by simp)]
 | true =>
 rw [if_neg (show ¬ (!true)=true by decide),if_neg (show ¬ (!true)=true by decide),if_neg (show ¬ (!true)=true by decide),if_pos rfl,if_pos rfl,if_pos rfl]
 have key:=loop_test x0 (ByteArray.empty,(0:Int),(0:Int),(0:Int),(0:Int),()) (q55 x1 x2) [(⟨.int .i64,6⟩:Dyn)] [⟨.int .i64,0⟩] (fun n i ds=>R55_6 n i x0 x1 x2 ds) (fun n => ?_) (fun n i hi hok ds hr => ?_) (fun n i hi hok => ?_)
 ·cases h:x0.all (q55 x1 x2) <;> rw [h] at key <;> simpa using key
 ·rw [R55_6,if_neg (by simp)]
 ·rw [R55_6,if_pos (by simp;omega)]
  simp only [Int.toNat_natCast]
  unfold q55 at hok
  refine ⟨by omega,by omega,?_⟩
  rw [if_neg (by rw [hok];simp)]
  exact ⟨inR_up hm hi,hr⟩
 ·rw [R55_6,if_pos (by simp;omega)]
  simp only [Int.toNat_natCast]
  unfold q55 at hok
  refine ⟨by omega,by omega,?_⟩
  rw [if_pos (by rw [hok];rfl)] <;> trivial
def S55:Am.Spec:={ sig:=sig55,pre:=fun ⟨x0,x1,x2,_⟩=>P55 x0 x1 x2,res:=fun ⟨x0,x1,x2,_⟩=>[⟨.int .i64,g55_0 x0 x1 x2⟩] }
theorem con55:Contract Tryz.prog 55 S55:=contract_of Tryz.func55 hb55 (Nat.le_of_ble_eq_true (by kernel_rfl)) (fun ⟨x0,x1,x2,_⟩ h hwf K q =>
 (snd55 _).1 x0 x1 x2 _ (top55 x0 x1 x2 hwf.1.1) K q)
end
noncomputable section
def ext86:Ext:=[(78,S78)]
theorem ext86Ok:ExtOk Tryz.prog ext86:=⟨⟨ca78,con78⟩,trivial⟩
noncomputable def b86:Code:=bodyOf Tryz.f86
theorem hb86:Tryz.f86.body=some b86:=by kernel_rfl
def sig86:List AT:=[AT.v (Ty.int .i64)]
def tys86:List Ty:=[Ty.bool]
def kds86:List RK:=[]
def oks86:List AT:=owns sig86
def P86 (x0:Int):Prop:=True
def g86_0 (x0:Int):Bool:=g78_0 x0 0 1440
theorem at86 (x0:Int) (h:P86 x0) (K:Ctx) (q:Nat→Value):AtV Tryz.prog 86 (PostR kds86 oks86 [⟨Ty.bool,g86_0 x0⟩] [] [] q K) 5 K q [] [.code b86] (entE 0 0 sig86 (x0,())) (entL sig86 (x0,())):=by
 unfold P86 at h
 unfold g86_0
 exact AtV.ret Tryz.func86 tabOk ext86Ok mixed false [] tys86 [] (a1 trivial trivial) (by kernel_rfl)
def S86:Am.Spec:={ sig:=sig86,pre:=fun ⟨x0,_⟩=>P86 x0,res:=fun ⟨x0,_⟩=>[⟨Ty.bool,g86_0 x0⟩],kds:=kds86 }
theorem con86:Contract Tryz.prog 86 S86:=contract_of Tryz.func86 hb86 (Nat.le_of_ble_eq_true (by kernel_rfl)) (fun ⟨x0,_⟩ h _ K q=>at86 x0 h K q)
end
noncomputable section
def ext112:Ext:=[(86,S86),(78,S78)]
theorem ext112Ok:ExtOk Tryz.prog ext112:=⟨⟨ca86,con86⟩,⟨ca78,con78⟩,trivial⟩
noncomputable def b112:Code:=bodyOf Tryz.f112
theorem hb112:Tryz.f112.body=some b112:=by kernel_rfl
def sig112:List AT:=[AT.p YA9]
def tys112:List Ty:=[Ty.bool]
def kds112:List RK:=[]
def oks112:List AT:=owns sig112
def P112 (x0:Int×Int×Unit):Prop:=(if (g86_0 x0.1)=true then (if (g78_0 x0.2.1 1 1440)=true then ((InR .i64 (x0.1+x0.2.1))∧True) else True) else True)
def g112_0 (x0:Int×Int×Unit):Bool:=(if (g86_0 x0.1)=true then (if (g78_0 x0.2.1 1 1440)=true then decide (x0.1+x0.2.1≤1440) else false) else false)
theorem at112 (x0:Int×Int×Unit) (h:P112 x0) (K:Ctx) (q:Nat→Value):AtV Tryz.prog 112 (PostR kds112 oks112 [⟨Ty.bool,g112_0 x0⟩] [] [] q K) 27 K q [] [.code b112] (entE 0 0 sig112 (x0,())) (entL sig112 (x0,())):=by
 unfold P112 at h
 unfold g112_0
 by_cases b0:(g86_0 x0.1)=true
 ·try simp only [if_pos b0] at h ⊢
  by_cases b1:(g78_0 x0.2.1 1 1440)=true
  ·try simp only [if_pos b1] at h ⊢
   obtain ⟨s0,h⟩:=h
   exact AtV.ret Tryz.func112 tabOk ext112Ok mixed false [] tys112 [true,true] (a1 trivial (a1 b0 (a1 trivial (a1 b1 (a1 s0 trivial))))) (by kernel_rfl)
  ·try simp only [if_neg b1] at h ⊢
   replace b1:=Bool.eq_false_iff.2 b1
   exact AtV.ret Tryz.func112 tabOk ext112Ok mixed false [] tys112 [true,false] (a1 trivial (a1 b0 (a1 trivial (a1 b1 trivial)))) (by kernel_rfl)
 ·try simp only [if_neg b0] at h ⊢
  replace b0:=Bool.eq_false_iff.2 b0
  exact AtV.ret Tryz.func112 tabOk ext112Ok mixed false [] tys112 [false,false] (a1 trivial (a1 b0 (a1 (rfl:false=false) trivial))) (by kernel_rfl)
def S112:Am.Spec:={ sig:=sig112,pre:=fun ⟨x0,_⟩=>P112 x0,res:=fun ⟨x0,_⟩=>[⟨Ty.bool,g112_0 x0⟩],kds:=kds112 }
theorem con112:Contract Tryz.prog 112 S112:=contract_of Tryz.func112 hb112 (Nat.le_of_ble_eq_true (by kernel_rfl)) (fun ⟨x0,_⟩ h _ K q=>at112 x0 h K q)
end
noncomputable section
def ext85:Ext:=[(112,S112)]
theorem ext85Ok:ExtOk Tryz.prog ext85:=⟨⟨ca112,con112⟩,trivial⟩
noncomputable def b85:Code:=bodyOf Tryz.f85
theorem hb85:Tryz.f85.body=some b85:=by kernel_rfl
def sig85:List AT:=[AT.v (Ty.sl YA9)]
def tys85:List Ty:=[Ty.bool]
def kds85:List RK:=[]
def oks85:List AT:=owns sig85
def E85_2 (v3:Int) (x0:List TyB4):Env:=[(0,PV.a (Atom.sl YA9 x0)),(3,PV.a (Atom.val (Value.int .i64 v3)))]
def L85_2 (v3:Int) (x0:List TyB4):Heap:=[]
mutual
def R85:Nat→List TyB4→List Dyn→Prop
 | 0,_,_=>False
 | n+1,x0,ds=>(R85_2 n (0) (x0) ds)
def R85_2:Nat→Int→List TyB4→List Dyn→Prop
 | 0,_,_,_=>False
 | n+1,v3,x0,ds=>(if (decide (v3<(↑(List.length x0):Int)))=true then ((0≤v3)∧(v3<(↑(List.length x0):Int))∧((P112 (List.getD x0 (Int.toNat v3) (0,0,())))∧(if (!g112_0 (List.getD x0 (Int.toNat v3) (0,0,())))=true then (ds=[Dyn.mk Ty.bool false]) else (if (decide (v3>0))=true then ((InR .i64 (v3 - 1))∧((0≤v3 - 1)∧(v3 - 1<(↑(List.length x0):Int))∧((InR .i64 (v3 - 1))∧((0≤v3 - 1)∧(v3 - 1<(↑(List.length x0):Int))∧((InR .i64 ((List.getD x0 (Int.toNat (v3 - 1)) (0,0,())).1+(List.getD x0 (Int.toNat (v3 - 1)) (0,0,())).2.1))∧((0≤v3)∧(v3<(↑(List.length x0):Int))∧(if (decide ((List.getD x0 (Int.toNat (v3 - 1)) (0,0,())).1+(List.getD x0 (Int.toNat (v3 - 1)) (0,0,())).2.1>(List.getD x0 (Int.toNat v3) (0,0,())).1))=true then (ds=[Dyn.mk Ty.bool false]) else ((InR .i64 (v3+1))∧(R85_2 n (v3+1) (x0) ds))))))))) else ((InR .i64 (v3+1))∧(R85_2 n (v3+1) (x0) ds)))))) else (ds=[Dyn.mk Ty.bool (decide ((↑(List.length x0):Int)≤24))]))
end
theorem snd85:∀ n,(∀ (x0:List TyB4) ds,R85 n x0 ds→∀ K q,AtV Tryz.prog 85 (PostR kds85 oks85 ds [] [] q K) 43 K q [] [.code b85] (entE 0 0 sig85 (x0,())) (entL sig85 (x0,())))∧(∀ (v3:Int) (x0:List TyB4) ds,R85_2 n v3 x0 ds→∀ K q,AtV Tryz.prog 85 (PostR kds85 oks85 ds [] [] q K) 43 K q [] (cutAt b85 2) (E85_2 v3 x0) (L85_2 v3 x0)):=by
 intro n
 induction n with
 | zero=>exact ⟨fun _ _ h=>by simp only [R85] at h,fun _ _ _ h=>by simp only [R85_2] at h⟩
 | succ n ih =>
 obtain ⟨ih,ih2⟩:=ih
 refine ⟨?_,?_⟩
 ·intro x0 ds h K q
  rw [R85] at h
  exact AtV.go tabOk ext85Ok mixed false [] [] [0,3] [] [] trivial (ih2 _ _ _ h K q) (by kernel_rfl)
 ·intro v3 x0 ds h K q
  rw [R85_2] at h
  by_cases b0:(decide (v3<(↑(List.length x0):Int)))=true
  ·rw [if_pos b0] at h
   obtain ⟨s0,s1,h⟩:=h
   obtain ⟨s2,h⟩:=h
   by_cases b1:(!g112_0 (List.getD x0 (Int.toNat v3) (0,0,())))=true
   ·rw [if_pos b1] at h
    subst h
    exact AtV.ret Tryz.func85 tabOk ext85Ok mixed false [] tys85 [true,true,true] (a1 b0 (a1 s0 (a1 s1 (a1 s2 (a1 b1 (a1 (rfl:true=true) trivial)))))) (by kernel_rfl)
   ·rw [if_neg b1] at h
    replace b1:=Bool.eq_false_iff.2 b1
    by_cases b2:(decide (v3>0))=true
    ·rw [if_pos b2] at h
     obtain ⟨s3,h⟩:=h
     obtain ⟨s4,s5,h⟩:=h
     obtain ⟨s6,h⟩:=h
     obtain ⟨s7,s8,h⟩:=h
     obtain ⟨s9,h⟩:=h
     obtain ⟨s10,s11,h⟩:=h
     by_cases b3:(decide ((List.getD x0 (Int.toNat (v3 - 1)) (0,0,())).1+(List.getD x0 (Int.toNat (v3 - 1)) (0,0,())).2.1>(List.getD x0 (Int.toNat v3) (0,0,())).1))=true
     ·rw [if_pos b3] at h
      subst h
      exact AtV.ret Tryz.func85 tabOk ext85Ok mixed false [] tys85 [true,false,true,true] (a1 b0 (a1 s0 (a1 s1 (a1 s2 (a1 b1 (a1 b2 (a1 s3 (a1 s4 (a1 s5 (a1 s6 (a1 s7 (a1 s8 (a1 s9 (a1 s10 (a1 s11 (a1 b3 trivial)))))))))))))))) (by kernel_rfl)
     ·rw [if_neg b3] at h
      replace b3:=Bool.eq_false_iff.2 b3
      obtain ⟨s12,h⟩:=h
      exact AtV.go tabOk ext85Ok mixed false [] [] [0,3] [] [true,false,true,false] (a1 b0 (a1 s0 (a1 s1 (a1 s2 (a1 b1 (a1 b2 (a1 s3 (a1 s4 (a1 s5 (a1 s6 (a1 s7 (a1 s8 (a1 s9 (a1 s10 (a1 s11 (a1 b3 (a1 s12 trivial))))))))))))))))) (ih2 _ _ _ h K q) (by kernel_rfl)
    ·rw [if_neg b2] at h
     replace b2:=Bool.eq_false_iff.2 b2
     obtain ⟨s3,h⟩:=h
     exact AtV.go tabOk ext85Ok mixed false [] [] [0,3] [] [true,false,false,false] (a1 b0 (a1 s0 (a1 s1 (a1 s2 (a1 b1 (a1 b2 (a1 (rfl:false=false) (a1 s3 trivial)))))))) (ih2 _ _ _ h K q) (by kernel_rfl)
  ·rw [if_neg b0] at h
   replace b0:=Bool.eq_false_iff.2 b0
   subst h
   exact AtV.ret Tryz.func85 tabOk ext85Ok mixed false [] tys85 [false] (a1 b0 trivial) (by kernel_rfl)
def one85 (x:TyB4):Bool:=g112_0 x
def ok85 (x0:List TyB4) (i:Nat) (x:TyB4):Bool:=one85 x&&(i==0||decide ((x0.getD (i - 1) ((0:Int),(0:Int),())).1+(x0.getD (i - 1) ((0:Int),(0:Int),())).2.1≤x.1))
def g85_0 (x0:List TyB4):Bool:=allI (ok85 x0) 0 x0&&decide ((x0.length:Int)≤24)
def P85 (x0:List TyB4):Prop:=True
theorem in85 {x a b:Int}:g78_0 x a b=true↔a≤x∧x≤b:=by
 unfold g78_0
 by_cases c1:x≥a
 ·by_cases c2:x≤b
  ·simp [c1,c2]
  ·simp [c1,c2]
 ·have:¬ a≤x:=c1
  simp [c1,this]
theorem one85_pre (x:TyB4):P112 x:=by
 unfold P112
 split
 ·rename_i h1
  split
  ·rename_i h2
   have h1:=in85.1 (show g78_0 x.1 0 1440=true from h1)
   have h2:=in85.1 (show g78_0 x.2.1 1 1440=true from h2)
   exact ⟨by rw [i64_iff];omega,trivial⟩
  ·trivial
 ·trivial
theorem one85_b {x:TyB4} (h:one85 x=true):(0≤x.1∧x.1≤1440)∧(1≤x.2.1∧x.2.1≤1440):=by
 unfold one85 g112_0 at h
 split at h
 ·rename_i h0
  split at h
  ·rename_i h1
   exact ⟨in85.1 h0,in85.1 h1⟩
  ·cases h
 ·cases h
theorem run85 (x0:List TyB4) (hm:x0.length≤maxLen):∀ (k i:Nat),i+k=x0.length→(∀ j,j<i→one85 (x0.getD j ((0:Int),(0:Int),()))=true) →
  R85_2 (k+1) (i:Int) x0 [⟨.bool,allI (ok85 x0) i (x0.drop i)&&decide ((x0.length:Int)≤24)⟩]:=by
 intro k
 induction k with
 | zero =>
  intro i hi _
  rw [R85_2,if_neg (by simp only [decide_eq_true_eq];omega),drop_end _ _ (by omega)]
  rfl
 | succ k ih =>
  intro i hi hp
  have hlt:i<x0.length:=by omega
  have hu:=inR_up hm hlt
  have hmx:maxLen≤9223372036854775807:=by decide
  rw [R85_2,if_pos (by simp only [decide_eq_true_eq];omega),drop_get x0 i ((0:Int),(0:Int),()) hlt]
  simp only [Int.toNat_natCast,allI]
  refine ⟨by omega,by omega,one85_pre _,?_⟩
  cases h1:one85 (x0.getD i ((0:Int),(0:Int),())) with
  | false =>
   unfold one85 at h1
   rw [if_pos (by rw [h1];rfl)]
   have:ok85 x0 i (x0.getD i ((0:Int),(0:Int),()))=false:=by unfold ok85 one85;rw [h1];rfl
   rw [this];rfl
  | true =>
   have h1':=h1
   unfold one85 at h1
   rw [if_neg (by rw [h1];simp)]
   have hnext:=ih (i+1) (by omega) (fun j hj=>by
    rcases Nat.lt_or_ge j i with h | h
    ·exact hp j h
    ·have:j=i:=by omega
     subst this;exact h1')
   have e1:(((i+1:Nat)):Int)=(i:Int)+1:=by omega
   rw [e1] at hnext
   by_cases h0:(i:Int)>0
   ·rw [if_pos (by simpa using h0)]
    have hi0:(i==0)=false:=by simp;omega
    have e:((i:Int) - 1).toNat=i - 1:=by omega
    obtain ⟨b1,b2⟩:=one85_b (hp (i - 1) (by omega))
    have hd:InR .i64 ((i:Int) - 1):=by rw [i64_iff];omega
    simp only [e]
    refine ⟨hd,by omega,by omega,hd,by omega,by omega,by rw [i64_iff];omega,by omega,by omega,?_⟩
    by_cases hc:(x0.getD (i - 1) ((0:Int),(0:Int),())).1+(x0.getD (i - 1) ((0:Int),(0:Int),())).2.1≤(x0.getD i ((0:Int),(0:Int),())).1
    ·rw [if_neg (by show ¬ decide ((x0.getD (i - 1) ((0:Int),(0:Int),())).1+(x0.getD (i - 1) ((0:Int),(0:Int),())).2.1>(x0.getD i ((0:Int),(0:Int),())).1)=true;rw [decide_eq_true_eq];omega)]
     have:ok85 x0 i (x0.getD i ((0:Int),(0:Int),()))=true:=by unfold ok85;rw [h1',hi0,decide_eq_true hc];rfl
     rw [this,Bool.true_and]
     exact ⟨hu,hnext⟩
    ·rw [if_pos (by show decide ((x0.getD (i - 1) ((0:Int),(0:Int),())).1+(x0.getD (i - 1) ((0:Int),(0:Int),())).2.1>(x0.getD i ((0:Int),(0:Int),())).1)=true;rw [decide_eq_true_eq];omega)]
     have:ok85 x0 i (x0.getD i ((0:Int),(0:Int),()))=false:=by unfold ok85;rw [hi0,decide_eq_false hc,Bool.or_false,Bool.and_false]
     rw [this,Bool.false_and,Bool.false_and]
   ·rw [if_neg (by simpa using h0)]
    have hi0:(i==0)=true:=by simp;omega
    have:ok85 x0 i (x0.getD i ((0:Int),(0:Int),()))=true:=by unfold ok85;rw [h1',hi0];rfl
    rw [this,Bool.true_and]
    exact ⟨hu,hnext⟩
theorem top85 (x0:List TyB4) (hw:x0.length≤maxLen):R85 (x0.length+1+1) x0 [⟨.bool,g85_0 x0⟩]:=by
 rw [R85]
 exact run85 x0 hw x0.length 0 (by omega) (fun j hj=>by omega)
def S85:Am.Spec:={ sig:=sig85,pre:=fun ⟨x0,_⟩=>P85 x0,res:=fun ⟨x0,_⟩=>[⟨Ty.bool,g85_0 x0⟩] }
theorem con85:Contract Tryz.prog 85 S85:=contract_of Tryz.func85 hb85 (Nat.le_of_ble_eq_true (by kernel_rfl)) (fun ⟨x0,_⟩ h hwf K q =>
 (snd85 _).1 x0 _ (top85 x0 hwf.1.1) K q)
end
noncomputable section
def ext56:Ext:=[(85,S85),(86,S86)]
theorem ext56Ok:ExtOk Tryz.prog ext56:=⟨⟨ca85,con85⟩,⟨ca86,con86⟩,trivial⟩
noncomputable def b56:Code:=bodyOf Tryz.f56
theorem hb56:Tryz.f56.body=some b56:=by kernel_rfl
def sig56:List AT:=[AT.v (Ty.sl YA9),AT.v (Ty.int .i64)]
def tys56:List Ty:=[Ty.int .i64]
def kds56:List RK:=[]
def oks56:List AT:=owns sig56
def P56 (x0:List TyB4) (x1:Int):Prop:=True
def g56_0 (x0:List TyB4) (x1:Int):Int:=(if (!g85_0 x0)=true then 1 else (if (!g86_0 x1)=true then 2 else 0))
theorem at56 (x0:List TyB4) (x1:Int) (h:P56 x0 x1) (K:Ctx) (q:Nat→Value):AtV Tryz.prog 56 (PostR kds56 oks56 [⟨Ty.int .i64,g56_0 x0 x1⟩] [] [] q K) 11 K q [] [.code b56] (entE 0 0 sig56 (x0,x1,())) (entL sig56 (x0,x1,())):=by
 unfold P56 at h
 unfold g56_0
 by_cases b0:(!g85_0 x0)=true
 ·try simp only [if_pos b0] at h ⊢
  exact AtV.ret Tryz.func56 tabOk ext56Ok mixed false [] tys56 [true] (a1 trivial (a1 b0 trivial)) (by kernel_rfl)
 ·try simp only [if_neg b0] at h ⊢
  replace b0:=Bool.eq_false_iff.2 b0
  by_cases b1:(!g86_0 x1)=true
  ·try simp only [if_pos b1] at h ⊢
   exact AtV.ret Tryz.func56 tabOk ext56Ok mixed false [] tys56 [false,true] (a1 trivial (a1 b0 (a1 trivial (a1 b1 trivial)))) (by kernel_rfl)
  ·try simp only [if_neg b1] at h ⊢
   replace b1:=Bool.eq_false_iff.2 b1
   exact AtV.ret Tryz.func56 tabOk ext56Ok mixed false [] tys56 [false,false] (a1 trivial (a1 b0 (a1 trivial (a1 b1 trivial)))) (by kernel_rfl)
def S56:Am.Spec:={ sig:=sig56,pre:=fun ⟨x0,x1,_⟩=>P56 x0 x1,res:=fun ⟨x0,x1,_⟩=>[⟨Ty.int .i64,g56_0 x0 x1⟩],kds:=kds56 }
theorem con56:Contract Tryz.prog 56 S56:=contract_of Tryz.func56 hb56 (Nat.le_of_ble_eq_true (by kernel_rfl)) (fun ⟨x0,x1,_⟩ h _ K q=>at56 x0 x1 h K q)
end
noncomputable section
def ext137:Ext:=[]
theorem ext137Ok:ExtOk Tryz.prog ext137:=trivial
noncomputable def b137:Code:=bodyOf Tryz.f137
theorem hb137:Tryz.f137.body=some b137:=by kernel_rfl
def sig137:List AT:=[AT.v (Ty.str),AT.v (Ty.int .u8)]
def tys137:List Ty:=[Ty.sl Ty.str]
def kds137:List RK:=[]
def oks137:List AT:=owns sig137
def E137_4 (v6:Int) (v7:Int) (h0:List ByteArray) (x0:ByteArray) (x1:Int):Env:=[(0,PV.a (Atom.val (Value.string x0))),(1,PV.a (Atom.val (Value.int .u8 x1))),(5,PV.a (Atom.osl 0 Option.none)),(6,PV.a (Atom.val (Value.int .i64 v6))),(7,PV.a (Atom.val (Value.int .i64 v7)))]
def L137_4 (v6:Int) (v7:Int) (h0:List ByteArray) (x0:ByteArray) (x1:Int):Heap:=[Option.some (Arr.mk Ty.str h0 false Option.none Option.none)]
mutual
def R137:Nat→ByteArray→Int→List Dyn→Prop
 | 0,_,_,_=>False
 | n+1,x0,x1,ds=>(R137_4 n (0) (0) ([]) (x0) (x1) ds)
def R137_4:Nat→Int→Int→List ByteArray→ByteArray→Int→List Dyn→Prop
 | 0,_,_,_,_,_,_=>False
 | n+1,v6,v7,h0,x0,x1,ds=>(if (decide (v7<(↑(ByteArray.size x0):Int)))=true then ((0≤v7)∧(v7<(↑(ByteArray.size x0):Int))∧(if ((↑(UInt8.toNat (List.getD (Array.toList (ByteArray.data x0)) (Int.toNat v7) 0)):Int)==x1)=true then ((0≤v6)∧(v6≤v7)∧(v7≤(↑(ByteArray.size x0):Int))∧(((List.length h0+1)*16≤140737488355328)∧((InR .i64 (v7+1))∧((InR .i64 (v7+1))∧(R137_4 n (v7+1) (v7+1) (h0++[ByteArray.extract x0 (Int.toNat v6) (Int.toNat v7)]) (x0) (x1) ds))))) else ((InR .i64 (v7+1))∧(R137_4 n (v6) (v7+1) (h0) (x0) (x1) ds)))) else ((0≤v6)∧(v6≤(↑(ByteArray.size x0):Int))∧(((List.length h0+1)*16≤140737488355328)∧(ds=[Dyn.mk (Ty.sl Ty.str) (h0++[ByteArray.extract x0 (Int.toNat v6) (Int.toNat (↑(ByteArray.size x0):Int))])]))))
end
theorem snd137:∀ n,(∀ (x0:ByteArray) (x1:Int) ds,R137 n x0 x1 ds→∀ K q,AtV Tryz.prog 137 (PostR kds137 oks137 ds [] [] q K) 35 K q [] [.code b137] (entE 0 0 sig137 (x0,x1,())) (entL sig137 (x0,x1,())))∧(∀ (v6:Int) (v7:Int) (h0:List ByteArray) (x0:ByteArray) (x1:Int) ds,R137_4 n v6 v7 h0 x0 x1 ds→∀ K q,AtV Tryz.prog 137 (PostR kds137 oks137 ds [] [] q K) 35 K q [] (cutAt b137 4) (E137_4 v6 v7 h0 x0 x1) (L137_4 v6 v7 h0 x0 x1)):=by
 intro n
 induction n with
 | zero=>exact ⟨fun _ _ _ h=>by simp only [R137] at h,fun _ _ _ _ _ _ h=>by simp only [R137_4] at h⟩
 | succ n ih =>
 obtain ⟨ih,ih4⟩:=ih
 refine ⟨?_,?_⟩
 ·intro x0 x1 ds h K q
  rw [R137] at h
  exact AtV.go tabOk ext137Ok mixed false [] [] [0,1,5,6,7] [0] [] trivial (ih4 _ _ _ _ _ _ h K q) (by kernel_rfl)
 ·intro v6 v7 h0 x0 x1 ds h K q
  rw [R137_4] at h
  by_cases b0:(decide (v7<(↑(ByteArray.size x0):Int)))=true
  ·rw [if_pos b0] at h
   obtain ⟨s0,s1,h⟩:=h
   by_cases b1:((↑(UInt8.toNat (List.getD (Array.toList (ByteArray.data x0)) (Int.toNat v7) 0)):Int)==x1)=true
   ·rw [if_pos b1] at h
    obtain ⟨s2,s3,s4,h⟩:=h
    obtain ⟨s5,h⟩:=h
    obtain ⟨s6,h⟩:=h
    obtain ⟨s7,h⟩:=h
    exact AtV.go tabOk ext137Ok mixed false [] [] [0,1,5,6,7] [0] [true,true] (a1 b0 (a1 s0 (a1 s1 (a1 b1 (a1 s2 (a1 s3 (a1 s4 (a1 s5 (a1 s6 (a1 s7 trivial)))))))))) (ih4 _ _ _ _ _ _ h K q) (by kernel_rfl)
   ·rw [if_neg b1] at h
    replace b1:=Bool.eq_false_iff.2 b1
    obtain ⟨s2,h⟩:=h
    exact AtV.go tabOk ext137Ok mixed false [] [] [0,1,5,6,7] [0] [true,false] (a1 b0 (a1 s0 (a1 s1 (a1 b1 (a1 s2 trivial))))) (ih4 _ _ _ _ _ _ h K q) (by kernel_rfl)
  ·rw [if_neg b0] at h
   replace b0:=Bool.eq_false_iff.2 b0
   obtain ⟨s0,s1,h⟩:=h
   obtain ⟨s2,h⟩:=h
   subst h
   exact AtV.ret Tryz.func137 tabOk ext137Ok mixed false [] tys137 [false] (a1 b0 (a1 s0 (a1 s1 (a1 s2 trivial)))) (by kernel_rfl)
def c137 (x1:Int):UInt8:=UInt8.ofNat x1.toNat
def g137_0 (x0:ByteArray) (x1:Int):List ByteArray:=bss (splitC (c137 x1) x0.data.toList)
def P137 (x0:ByteArray) (x1:Int):Prop:=x0.size<4294967281∧0≤x1∧x1≤255
theorem run137 (x0:ByteArray) (x1:Int) (hs:x0.size<4294967281) (h0:0≤x1) (h1:x1≤255):∀ (k i frm:Nat) (h:List ByteArray),i+k=x0.size→frm≤i→c137 x1 ∉ (x0.data.toList.drop frm).take (i - frm)→h.length≤i →
  R137_4 (k+1) (frm:Int) (i:Int) h x0 x1 [⟨.sl .str,h++bss (splitC (c137 x1) (x0.data.toList.drop frm))⟩]:=by
 intro k
 have hll:x0.data.toList.length=x0.size:=rfl
 induction k with
 | zero =>
  intro i frm h hi hf hc hl
  rw [R137_4,if_neg (by simp;omega)]
  refine ⟨by omega,by omega,by omega,?_⟩
  have e:(x0.data.toList.drop frm).take (i - frm)=x0.data.toList.drop frm:=List.take_of_length_le (by rw [List.length_drop];omega)
  rw [e] at hc
  rw [splitC_free _ hc,Int.toNat_natCast,Int.toNat_natCast,Lib.extract_from]
  rfl
 | succ k ih =>
  intro i frm h hi hf hc hl
  have hup:InR .i64 ((i:Int)+1):=by rw [i64_iff];omega
  have hlt:i<x0.data.toList.length:=by rw [hll];omega
  have hcons:x0.data.toList.drop i=x0.data.toList.getD i 0 :: x0.data.toList.drop (i+1):=drop_get _ i 0 hlt
  have hsplit:x0.data.toList.drop frm=(x0.data.toList.drop frm).take (i - frm)++x0.data.toList.drop i:=by
   conv=>lhs;rw [← List.take_append_drop (i - frm) (x0.data.toList.drop frm)]
   rw [List.drop_drop,show frm+(i - frm)=i by omega]
  rw [R137_4,if_pos (by simp;omega)]
  simp only [Int.toNat_natCast]
  refine ⟨by omega,by omega,?_⟩
  have hb:(((x0.data.toList.getD i 0).toNat:Int)==x1)=true↔x0.data.toList.getD i 0=c137 x1:=by
   have hlt':=(x0.data.toList.getD i 0).toNat_lt
   rw [beq_iff_eq, ← UInt8.toNat_inj]
   unfold c137
   have:(UInt8.ofNat x1.toNat).toNat=x1.toNat:=by rw [UInt8.toNat_ofNat'];omega
   rw [this]
   omega
  by_cases he:x0.data.toList.getD i 0=c137 x1
  ·rw [if_pos (hb.2 he)]
   refine ⟨by omega,by omega,by omega,by omega,hup,hup,?_⟩
   have:=ih (i+1) (i+1) (h++[x0.extract frm i]) (by omega) (Nat.le_refl _) (by simp) (by simp;omega)
   have e2:x0.extract frm i=⟨((x0.data.toList.drop frm).take (i - frm)).toArray⟩:=Lib.extract_mk x0.data.toList frm i
   have e3:splitC (c137 x1) (x0.data.toList.drop frm)=(x0.data.toList.drop frm).take (i - frm) :: splitC (c137 x1) (x0.data.toList.drop (i+1)):=by
    conv=>lhs;rw [hsplit,hcons,he]
    exact splitC_hit _ _ hc
   rw [e3,e2]
   rw [List.append_assoc,e2] at this
   exact this
  ·rw [if_neg (fun hh=>he (hb.1 hh))]
   refine ⟨hup,?_⟩
   refine ih (i+1) frm h (by omega) (by omega) (fun hm => ?_) (by omega)
   have e4:(x0.data.toList.drop frm).take (i+1 - frm)=(x0.data.toList.drop frm).take (i - frm)++[x0.data.toList.getD i 0]:=by
    conv=>lhs;rw [hsplit,hcons]
    rw [List.take_append,List.take_of_length_le (by rw [List.length_take,List.length_drop];omega)]
    have:i+1 - frm - ((x0.data.toList.drop frm).take (i - frm)).length=1:=by rw [List.length_take,List.length_drop];omega
    rw [this]
    rfl
   rw [e4] at hm
   rcases List.mem_append.1 hm with hm | hm
   ·exact hc hm
   ·exact he (List.mem_singleton.1 hm).symm
theorem top137 (x0:ByteArray) (x1:Int) (h:P137 x0 x1):R137 (x0.size+1+1) x0 x1 [⟨.sl .str,g137_0 x0 x1⟩]:=by
 rw [R137]
 have:=run137 x0 x1 h.1 h.2.1 h.2.2 x0.size 0 0 [] (by omega) (Nat.le_refl _) (by simp) (by simp)
 simpa [g137_0] using this
def S137:Am.Spec:={ sig:=sig137,pre:=fun ⟨x0,x1,_⟩=>P137 x0 x1,res:=fun ⟨x0,x1,_⟩=>[⟨.sl .str,g137_0 x0 x1⟩] }
theorem con137:Contract Tryz.prog 137 S137:=contract_of Tryz.func137 hb137 (Nat.le_of_ble_eq_true (by kernel_rfl)) (fun ⟨x0,x1,_⟩ h hwf K q =>
 (snd137 _).1 x0 x1 _ (top137 x0 x1 h) K q)
end
noncomputable section
def ext138:Ext:=[(136,S136)]
theorem ext138Ok:ExtOk Tryz.prog ext138:=⟨⟨ca136,con136⟩,trivial⟩
noncomputable def b138:Code:=bodyOf Tryz.f138
theorem hb138:Tryz.f138.body=some b138:=by kernel_rfl
def sig138:List AT:=[AT.v (Ty.str)]
def tys138:List Ty:=[Ty.bool]
def kds138:List RK:=[]
def oks138:List AT:=owns sig138
def E138_2 (v3:Int) (x0:ByteArray):Env:=[(0,PV.a (Atom.val (Value.string x0))),(3,PV.a (Atom.val (Value.int .i64 v3)))]
def L138_2 (v3:Int) (x0:ByteArray):Heap:=[]
mutual
def R138:Nat→ByteArray→List Dyn→Prop
 | 0,_,_=>False
 | n+1,x0,ds=>(R138_2 n (0) (x0) ds)
def R138_2:Nat→Int→ByteArray→List Dyn→Prop
 | 0,_,_,_=>False
 | n+1,v3,x0,ds=>(if (decide (v3<(↑(ByteArray.size x0):Int)))=true then ((0≤v3)∧(v3<(↑(ByteArray.size x0):Int))∧(if (!g136_0 (↑(UInt8.toNat (List.getD (Array.toList (ByteArray.data x0)) (Int.toNat v3) 0)):Int))=true then ((0≤v3)∧(v3<(↑(ByteArray.size x0):Int))∧(if (decide ((↑(UInt8.toNat (List.getD (Array.toList (ByteArray.data x0)) (Int.toNat v3) 0)):Int)<97))=true then (ds=[Dyn.mk Ty.bool false]) else ((0≤v3)∧(v3<(↑(ByteArray.size x0):Int))∧(if (decide ((↑(UInt8.toNat (List.getD (Array.toList (ByteArray.data x0)) (Int.toNat v3) 0)):Int)>122))=true then (ds=[Dyn.mk Ty.bool false]) else ((InR .i64 (v3+1))∧(R138_2 n (v3+1) (x0) ds)))))) else ((InR .i64 (v3+1))∧(R138_2 n (v3+1) (x0) ds)))) else (ds=[Dyn.mk Ty.bool (decide ((↑(ByteArray.size x0):Int)>0))]))
end
theorem snd138:∀ n,(∀ (x0:ByteArray) ds,R138 n x0 ds→∀ K q,AtV Tryz.prog 138 (PostR kds138 oks138 ds [] [] q K) 30 K q [] [.code b138] (entE 0 0 sig138 (x0,())) (entL sig138 (x0,())))∧(∀ (v3:Int) (x0:ByteArray) ds,R138_2 n v3 x0 ds→∀ K q,AtV Tryz.prog 138 (PostR kds138 oks138 ds [] [] q K) 30 K q [] (cutAt b138 2) (E138_2 v3 x0) (L138_2 v3 x0)):=by
 intro n
 induction n with
 | zero=>exact ⟨fun _ _ h=>by simp only [R138] at h,fun _ _ _ h=>by simp only [R138_2] at h⟩
 | succ n ih =>
 obtain ⟨ih,ih2⟩:=ih
 refine ⟨?_,?_⟩
 ·intro x0 ds h K q
  rw [R138] at h
  exact AtV.go tabOk ext138Ok mixed false [] [] [0,3] [] [] trivial (ih2 _ _ _ h K q) (by kernel_rfl)
 ·intro v3 x0 ds h K q
  rw [R138_2] at h
  by_cases b0:(decide (v3<(↑(ByteArray.size x0):Int)))=true
  ·rw [if_pos b0] at h
   obtain ⟨s0,s1,h⟩:=h
   by_cases b1:(!g136_0 (↑(UInt8.toNat (List.getD (Array.toList (ByteArray.data x0)) (Int.toNat v3) 0)):Int))=true
   ·rw [if_pos b1] at h
    obtain ⟨s2,s3,h⟩:=h
    by_cases b2:(decide ((↑(UInt8.toNat (List.getD (Array.toList (ByteArray.data x0)) (Int.toNat v3) 0)):Int)<97))=true
    ·rw [if_pos b2] at h
     subst h
     exact AtV.ret Tryz.func138 tabOk ext138Ok mixed false [] tys138 [true,true,true,true] (a1 b0 (a1 s0 (a1 s1 (a1 trivial (a1 b1 (a1 s2 (a1 s3 (a1 b2 (a1 (rfl:true=true) trivial))))))))) (by kernel_rfl)
    ·rw [if_neg b2] at h
     replace b2:=Bool.eq_false_iff.2 b2
     obtain ⟨s4,s5,h⟩:=h
     by_cases b3:(decide ((↑(UInt8.toNat (List.getD (Array.toList (ByteArray.data x0)) (Int.toNat v3) 0)):Int)>122))=true
     ·rw [if_pos b3] at h
      subst h
      exact AtV.ret Tryz.func138 tabOk ext138Ok mixed false [] tys138 [true,true,false,true] (a1 b0 (a1 s0 (a1 s1 (a1 trivial (a1 b1 (a1 s2 (a1 s3 (a1 b2 (a1 s4 (a1 s5 (a1 b3 trivial))))))))))) (by kernel_rfl)
     ·rw [if_neg b3] at h
      replace b3:=Bool.eq_false_iff.2 b3
      obtain ⟨s6,h⟩:=h
      exact AtV.go tabOk ext138Ok mixed false [] [] [0,3] [] [true,true,false,false] (a1 b0 (a1 s0 (a1 s1 (a1 trivial (a1 b1 (a1 s2 (a1 s3 (a1 b2 (a1 s4 (a1 s5 (a1 b3 (a1 s6 trivial)))))))))))) (ih2 _ _ _ h K q) (by kernel_rfl)
   ·rw [if_neg b1] at h
    replace b1:=Bool.eq_false_iff.2 b1
    obtain ⟨s2,h⟩:=h
    exact AtV.go tabOk ext138Ok mixed false [] [] [0,3] [] [true,false,false] (a1 b0 (a1 s0 (a1 s1 (a1 trivial (a1 b1 (a1 (rfl:false=false) (a1 s2 trivial))))))) (ih2 _ _ _ h K q) (by kernel_rfl)
  ·rw [if_neg b0] at h
   replace b0:=Bool.eq_false_iff.2 b0
   subst h
   exact AtV.ret Tryz.func138 tabOk ext138Ok mixed false [] tys138 [false] (a1 b0 trivial) (by kernel_rfl)
def ok138 (b:Int):Bool:=g136_0 b||(decide (97≤b)&&decide (b≤122))
def g138_0 (x0:ByteArray):Bool:=(bytesOf x0).all ok138&&decide ((x0.size:Int)>0)
def P138 (x0:ByteArray):Prop:=True
theorem top138 (x0:ByteArray) (hw:Wf .str x0):R138 (x0.size+1+1) x0 [⟨.bool,g138_0 x0⟩]:=by
 have hl:=bytesOf_length x0
 rw [R138]
 have key:=loop_test (bytesOf x0) 0 ok138 [(⟨.bool,false⟩:Dyn)] [⟨.bool,decide ((x0.size:Int)>0)⟩] (fun n i ds=>R138_2 n i x0 ds) (fun n => ?_) (fun n i hi hok ds hr => ?_) (fun n i hi hok => ?_)
 ·rw [hl] at key
  unfold g138_0
  cases h:(bytesOf x0).all ok138 <;> rw [h] at key <;> simpa using key
 ·show R138_2 (n+1) ((bytesOf x0).length:Int) x0 _
  rw [R138_2,hl,if_neg (by simp)]
 ·have hu:=inR_up (xs:=bytesOf x0) (by rw [hl];exact hw) hi
  rw [R138_2,if_pos (by simp;omega)]
  simp only [Int.toNat_natCast,byte_get]
  generalize (bytesOf x0).getD i 0=c at *
  unfold ok138 at hok
  refine ⟨by omega,by omega,?_⟩
  by_cases hd:g136_0 c=true
  ·rw [if_neg (by rw [hd];simp)]
   exact ⟨hu,hr⟩
  ·rw [Bool.eq_false_iff.2 hd] at hok
   simp only [Bool.false_or,Bool.and_eq_true,decide_eq_true_eq] at hok
   rw [if_pos (by rw [Bool.eq_false_iff.2 hd];rfl)]
   refine ⟨by omega,by omega,?_⟩
   rw [if_neg (by simp only [decide_eq_true_eq];omega)]
   refine ⟨by omega,by omega,?_⟩
   rw [if_neg (by simp only [decide_eq_true_eq];omega)]
   exact ⟨hu,hr⟩
 ·rw [R138_2,if_pos (by simp;omega)]
  simp only [Int.toNat_natCast,byte_get]
  generalize (bytesOf x0).getD i 0=c at *
  unfold ok138 at hok
  refine ⟨by omega,by omega,?_⟩
  simp only [Bool.or_eq_false_iff] at hok
  obtain ⟨hd,h2⟩:=hok
  rw [if_pos (by rw [hd];rfl)]
  refine ⟨by omega,by omega,?_⟩
  by_cases h1:c<97
  ·rw [if_pos (by simpa using h1)] <;> trivial
  ·rw [if_neg (by simpa using h1)]
   refine ⟨by omega,by omega,?_⟩
   rw [if_pos (by
    simp only [Bool.and_eq_false_iff,decide_eq_false_iff_not] at h2
    simp only [decide_eq_true_eq];omega)] <;> trivial
def S138:Am.Spec:={ sig:=sig138,pre:=fun ⟨x0,_⟩=>P138 x0,res:=fun ⟨x0,_⟩=>[⟨Ty.bool,g138_0 x0⟩] }
theorem con138:Contract Tryz.prog 138 S138:=contract_of Tryz.func138 hb138 (Nat.le_of_ble_eq_true (by kernel_rfl)) (fun ⟨x0,_⟩ h hwf K q =>
 (snd138 _).1 x0 _ (top138 x0 hwf.1) K q)
end
noncomputable section
def ext113:Ext:=[(137,S137),(138,S138)]
theorem ext113Ok:ExtOk Tryz.prog ext113:=⟨⟨ca137,con137⟩,⟨ca138,con138⟩,trivial⟩
noncomputable def b113:Code:=bodyOf Tryz.f113
theorem hb113:Tryz.f113.body=some b113:=by kernel_rfl
def sig113:List AT:=[AT.v (Ty.str)]
def tys113:List Ty:=[Ty.bool]
def kds113:List RK:=[]
def oks113:List AT:=owns sig113
def E113_5 (v4:Int) (x0:ByteArray):Env:=[(3,PV.a (Atom.osl 0 Option.none)),(4,PV.a (Atom.val (Value.int .i64 v4)))]
def L113_5 (v4:Int) (x0:ByteArray):Heap:=[Option.some (Arr.mk Ty.str (g137_0 x0 32) false Option.none Option.none)]
mutual
def R113:Nat→ByteArray→List Dyn→Prop
 | 0,_,_=>False
 | n+1,x0,ds=>(if ((↑(ByteArray.size x0):Int)==0)=true then (ds=[Dyn.mk Ty.bool false]) else (if (decide ((↑(ByteArray.size x0):Int)>40))=true then (ds=[Dyn.mk Ty.bool false]) else ((P137 x0 32)∧(R113_5 n (0) (x0) ds))))
def R113_5:Nat→Int→ByteArray→List Dyn→Prop
 | 0,_,_,_=>False
 | n+1,v4,x0,ds=>(if (decide (v4<(↑(List.length (g137_0 x0 32)):Int)))=true then ((0≤v4)∧(v4<(↑(List.length (g137_0 x0 32)):Int))∧(if (!g138_0 (List.getD (g137_0 x0 32) (Int.toNat v4) ByteArray.empty))=true then (ds=[Dyn.mk Ty.bool false]) else ((InR .i64 (v4+1))∧(R113_5 n (v4+1) (x0) ds)))) else (ds=[Dyn.mk Ty.bool true]))
end
theorem snd113:∀ n,(∀ (x0:ByteArray) ds,R113 n x0 ds→∀ K q,AtV Tryz.prog 113 (PostR kds113 oks113 ds [] [] q K) 27 K q [] [.code b113] (entE 0 0 sig113 (x0,())) (entL sig113 (x0,())))∧(∀ (v4:Int) (x0:ByteArray) ds,R113_5 n v4 x0 ds→∀ K q,AtV Tryz.prog 113 (PostR kds113 oks113 ds [] [] q K) 27 K q [] (cutAt b113 5) (E113_5 v4 x0) (L113_5 v4 x0)):=by
 intro n
 induction n with
 | zero=>exact ⟨fun _ _ h=>by simp only [R113] at h,fun _ _ _ h=>by simp only [R113_5] at h⟩
 | succ n ih =>
 obtain ⟨ih,ih5⟩:=ih
 refine ⟨?_,?_⟩
 ·intro x0 ds h K q
  rw [R113] at h
  by_cases b0:((↑(ByteArray.size x0):Int)==0)=true
  ·rw [if_pos b0] at h
   subst h
   exact AtV.ret Tryz.func113 tabOk ext113Ok mixed false [] tys113 [true,true] (a1 b0 (a1 (rfl:true=true) trivial)) (by kernel_rfl)
  ·rw [if_neg b0] at h
   replace b0:=Bool.eq_false_iff.2 b0
   by_cases b1:(decide ((↑(ByteArray.size x0):Int)>40))=true
   ·rw [if_pos b1] at h
    subst h
    exact AtV.ret Tryz.func113 tabOk ext113Ok mixed false [] tys113 [false,true] (a1 b0 (a1 b1 trivial)) (by kernel_rfl)
   ·rw [if_neg b1] at h
    replace b1:=Bool.eq_false_iff.2 b1
    obtain ⟨s0,h⟩:=h
    exact AtV.go tabOk ext113Ok mixed false [] [] [3,4] [0] [false,false] (a1 b0 (a1 b1 (a1 s0 trivial))) (ih5 _ _ _ h K q) (by kernel_rfl)
 ·intro v4 x0 ds h K q
  rw [R113_5] at h
  by_cases b0:(decide (v4<(↑(List.length (g137_0 x0 32)):Int)))=true
  ·rw [if_pos b0] at h
   obtain ⟨s0,s1,h⟩:=h
   by_cases b1:(!g138_0 (List.getD (g137_0 x0 32) (Int.toNat v4) ByteArray.empty))=true
   ·rw [if_pos b1] at h
    subst h
    exact AtV.ret Tryz.func113 tabOk ext113Ok mixed false [] tys113 [true,true] (a1 b0 (a1 s0 (a1 s1 (a1 trivial (a1 b1 trivial))))) (by kernel_rfl)
   ·rw [if_neg b1] at h
    replace b1:=Bool.eq_false_iff.2 b1
    obtain ⟨s2,h⟩:=h
    exact AtV.go tabOk ext113Ok mixed false [] [] [3,4] [0] [true,false] (a1 b0 (a1 s0 (a1 s1 (a1 trivial (a1 b1 (a1 s2 trivial)))))) (ih5 _ _ _ h K q) (by kernel_rfl)
  ·rw [if_neg b0] at h
   replace b0:=Bool.eq_false_iff.2 b0
   subst h
   exact AtV.ret Tryz.func113 tabOk ext113Ok mixed false [] tys113 [false] (a1 b0 trivial) (by kernel_rfl)
def g113_0 (x0:ByteArray):Bool := !(((x0.size:Nat):Int)==0) && !decide (((x0.size:Nat):Int)>40)&&(g137_0 x0 32).all g138_0
def P113 (x0:ByteArray):Prop:=True
theorem top113 (x0:ByteArray):∃ n,R113 n x0 [⟨.bool,g113_0 x0⟩]:=by
 unfold g113_0
 by_cases h0:(((x0.size:Nat):Int)==0)=true
 ·refine ⟨1,?_⟩
  rw [R113,if_pos h0,h0];rfl
 by_cases h1:((x0.size:Nat):Int)>40
 ·refine ⟨1,?_⟩
  rw [R113,if_neg h0,if_pos (decide_eq_true h1),Bool.eq_false_iff.2 h0,decide_eq_true h1];rfl
 ·have hl:(g137_0 x0 32).length=x0.data.toList.count 32+1:=by
   show (bss (splitC (32:UInt8) x0.data.toList)).length=_
   unfold bss
   rw [List.length_map,splitC_length]
  have hc:x0.data.toList.count (32:UInt8)≤x0.size:=List.count_le_length
  have hmx:1000≤maxLen:=by decide
  have key:=loop_test (g137_0 x0 32) ByteArray.empty g138_0 [(⟨.bool,false⟩:Dyn)] [⟨.bool,true⟩] (fun n i ds=>R113_5 n i x0 ds) (fun n => ?_) (fun n i hi hok ds hr => ?_) (fun n i hi hok => ?_)
  ·refine ⟨(g137_0 x0 32).length+1+1,?_⟩
   rw [R113,if_neg h0,if_neg (by simpa using h1),Bool.eq_false_iff.2 h0,decide_eq_false h1]
   refine ⟨⟨by omega,by omega,by omega⟩,?_⟩
   ·cases h:(g137_0 x0 32).all g138_0 <;> rw [h] at key <;> exact key
  ·rw [R113_5,if_neg (by simp)]
  ·rw [R113_5,if_pos (by simp;omega)]
   simp only [Int.toNat_natCast]
   refine ⟨by omega,by omega,?_⟩
   rw [if_neg (by rw [hok];simp)]
   exact ⟨by rw [i64_iff];omega,hr⟩
  ·rw [R113_5,if_pos (by simp;omega)]
   simp only [Int.toNat_natCast]
   refine ⟨by omega,by omega,?_⟩
   rw [if_pos (by rw [hok];rfl)] <;> trivial
def S113:Am.Spec:={ sig:=sig113,pre:=fun ⟨x0,_⟩=>P113 x0,res:=fun ⟨x0,_⟩=>[⟨Ty.bool,g113_0 x0⟩] }
theorem con113:Contract Tryz.prog 113 S113:=contract_of Tryz.func113 hb113 (Nat.le_of_ble_eq_true (by kernel_rfl)) (fun ⟨x0,_⟩ h hwf K q =>
 let ⟨n,hn⟩:=top113 x0
 (snd113 n).1 x0 _ hn K q)
end
noncomputable section
def ext87:Ext:=[(82,S82),(78,S78),(113,S113)]
theorem ext87Ok:ExtOk Tryz.prog ext87:=⟨⟨ca82,con82⟩,⟨ca78,con78⟩,⟨ca113,con113⟩,trivial⟩
noncomputable def b87:Code:=bodyOf Tryz.f87
theorem hb87:Tryz.f87.body=some b87:=by kernel_rfl
def sig87:List AT:=[AT.p YA6]
def tys87:List Ty:=[Ty.bool]
def kds87:List RK:=[]
def oks87:List AT:=owns sig87
def P87 (x0:Int×Int×ByteArray×Int×Unit):Prop:=True
def g87_0 (x0:Int×Int×ByteArray×Int×Unit):Bool:=(if (g82_0 x0.1)=true then (if (g78_0 x0.2.1 0 1439)=true then (if (g113_0 x0.2.2.1)=true then g78_0 x0.2.2.2.1 0 65535 else false) else false) else false)
theorem at87 (x0:Int×Int×ByteArray×Int×Unit) (h:P87 x0) (K:Ctx) (q:Nat→Value):AtV Tryz.prog 87 (PostR kds87 oks87 [⟨Ty.bool,g87_0 x0⟩] [] [] q K) 29 K q [] [.code b87] (entE 0 0 sig87 (x0,())) (entL sig87 (x0,())):=by
 unfold P87 at h
 unfold g87_0
 by_cases b0:(g82_0 x0.1)=true
 ·try simp only [if_pos b0] at h ⊢
  by_cases b1:(g78_0 x0.2.1 0 1439)=true
  ·try simp only [if_pos b1] at h ⊢
   by_cases b2:(g113_0 x0.2.2.1)=true
   ·try simp only [if_pos b2] at h ⊢
    exact AtV.ret Tryz.func87 tabOk ext87Ok mixed false [] tys87 [true,true,true] (a1 trivial (a1 b0 (a1 trivial (a1 b1 (a1 trivial (a1 b2 (a1 trivial trivial))))))) (by kernel_rfl)
   ·try simp only [if_neg b2] at h ⊢
    replace b2:=Bool.eq_false_iff.2 b2
    exact AtV.ret Tryz.func87 tabOk ext87Ok mixed false [] tys87 [true,true,false] (a1 trivial (a1 b0 (a1 trivial (a1 b1 (a1 trivial (a1 b2 trivial)))))) (by kernel_rfl)
  ·try simp only [if_neg b1] at h ⊢
   replace b1:=Bool.eq_false_iff.2 b1
   exact AtV.ret Tryz.func87 tabOk ext87Ok mixed false [] tys87 [true,false,false] (a1 trivial (a1 b0 (a1 trivial (a1 b1 (a1 (rfl:false=false) trivial))))) (by kernel_rfl)
 ·try simp only [if_neg b0] at h ⊢
  replace b0:=Bool.eq_false_iff.2 b0
  exact AtV.ret Tryz.func87 tabOk ext87Ok mixed false [] tys87 [false,false,false] (a1 trivial (a1 b0 (a1 (rfl:false=false) (a1 (rfl:false=false) trivial)))) (by kernel_rfl)
def S87:Am.Spec:={ sig:=sig87,pre:=fun ⟨x0,_⟩=>P87 x0,res:=fun ⟨x0,_⟩=>[⟨Ty.bool,g87_0 x0⟩],kds:=kds87 }
theorem con87:Contract Tryz.prog 87 S87:=contract_of Tryz.func87 hb87 (Nat.le_of_ble_eq_true (by kernel_rfl)) (fun ⟨x0,_⟩ h _ K q=>at87 x0 h K q)
end
noncomputable section
def ext57:Ext:=[(87,S87)]
theorem ext57Ok:ExtOk Tryz.prog ext57:=⟨⟨ca87,con87⟩,trivial⟩
noncomputable def b57:Code:=bodyOf Tryz.f57
theorem hb57:Tryz.f57.body=some b57:=by kernel_rfl
def sig57:List AT:=[AT.v (Ty.sl YA6)]
def tys57:List Ty:=[Ty.bool]
def kds57:List RK:=[]
def oks57:List AT:=owns sig57
def E57_2 (v3:Int) (x0:List TyB2):Env:=[(0,PV.a (Atom.sl YA6 x0)),(3,PV.a (Atom.val (Value.int .i64 v3)))]
def L57_2 (v3:Int) (x0:List TyB2):Heap:=[]
mutual
def R57:Nat→List TyB2→List Dyn→Prop
 | 0,_,_=>False
 | n+1,x0,ds=>(R57_2 n (0) (x0) ds)
def R57_2:Nat→Int→List TyB2→List Dyn→Prop
 | 0,_,_,_=>False
 | n+1,v3,x0,ds=>(if (decide (v3<(↑(List.length x0):Int)))=true then ((0≤v3)∧(v3<(↑(List.length x0):Int))∧(if (!g87_0 (List.getD x0 (Int.toNat v3) (0,0,ByteArray.empty,0,())))=true then (ds=[Dyn.mk Ty.bool false]) else (if (decide (v3>0))=true then ((InR .i64 (v3 - 1))∧((0≤v3 - 1)∧(v3 - 1<(↑(List.length x0):Int))∧(if (decide ((List.getD x0 (Int.toNat (v3 - 1)) (0,0,ByteArray.empty,0,())).1>(List.getD x0 (Int.toNat v3) (0,0,ByteArray.empty,0,())).1))=true then (ds=[Dyn.mk Ty.bool false]) else ((InR .i64 (v3 - 1))∧((0≤v3 - 1)∧(v3 - 1<(↑(List.length x0):Int))∧(if ((List.getD x0 (Int.toNat (v3 - 1)) (0,0,ByteArray.empty,0,())).1==(List.getD x0 (Int.toNat v3) (0,0,ByteArray.empty,0,())).1)=true then ((InR .i64 (v3 - 1))∧((0≤v3 - 1)∧(v3 - 1<(↑(List.length x0):Int))∧(if (decide ((List.getD x0 (Int.toNat (v3 - 1)) (0,0,ByteArray.empty,0,())).2.1>(List.getD x0 (Int.toNat v3) (0,0,ByteArray.empty,0,())).2.1))=true then (ds=[Dyn.mk Ty.bool false]) else ((InR .i64 (v3+1))∧(R57_2 n (v3+1) (x0) ds))))) else ((InR .i64 (v3+1))∧(R57_2 n (v3+1) (x0) ds)))))))) else ((InR .i64 (v3+1))∧(R57_2 n (v3+1) (x0) ds))))) else (ds=[Dyn.mk Ty.bool (decide ((↑(List.length x0):Int)≤40))]))
end
theorem snd57:∀ n,(∀ (x0:List TyB2) ds,R57 n x0 ds→∀ K q,AtV Tryz.prog 57 (PostR kds57 oks57 ds [] [] q K) 61 K q [] [.code b57] (entE 0 0 sig57 (x0,())) (entL sig57 (x0,())))∧(∀ (v3:Int) (x0:List TyB2) ds,R57_2 n v3 x0 ds→∀ K q,AtV Tryz.prog 57 (PostR kds57 oks57 ds [] [] q K) 61 K q [] (cutAt b57 2) (E57_2 v3 x0) (L57_2 v3 x0)):=by
 intro n
 induction n with
 | zero=>exact ⟨fun _ _ h=>by simp only [R57] at h,fun _ _ _ h=>by simp only [R57_2] at h⟩
 | succ n ih =>
 obtain ⟨ih,ih2⟩:=ih
 refine ⟨?_,?_⟩
 ·intro x0 ds h K q
  rw [R57] at h
  exact AtV.go tabOk ext57Ok mixed false [] [] [0,3] [] [] trivial (ih2 _ _ _ h K q) (by kernel_rfl)
 ·intro v3 x0 ds h K q
  rw [R57_2] at h
  by_cases b0:(decide (v3<(↑(List.length x0):Int)))=true
  ·rw [if_pos b0] at h
   obtain ⟨s0,s1,h⟩:=h
   by_cases b1:(!g87_0 (List.getD x0 (Int.toNat v3) (0,0,ByteArray.empty,0,())))=true
   ·rw [if_pos b1] at h
    subst h
    exact AtV.ret Tryz.func57 tabOk ext57Ok mixed false [] tys57 [true,true] (a1 b0 (a1 s0 (a1 s1 (a1 trivial (a1 b1 trivial))))) (by kernel_rfl)
   ·rw [if_neg b1] at h
    replace b1:=Bool.eq_false_iff.2 b1
    by_cases b2:(decide (v3>0))=true
    ·rw [if_pos b2] at h
     obtain ⟨s2,h⟩:=h
     obtain ⟨s3,s4,h⟩:=h
     by_cases b3:(decide ((List.getD x0 (Int.toNat (v3 - 1)) (0,0,ByteArray.empty,0,())).1>(List.getD x0 (Int.toNat v3) (0,0,ByteArray.empty,0,())).1))=true
     ·rw [if_pos b3] at h
      subst h
      exact AtV.ret Tryz.func57 tabOk ext57Ok mixed false [] tys57 [true,false,true,true,true] (a1 b0 (a1 s0 (a1 s1 (a1 trivial (a1 b1 (a1 b2 (a1 s2 (a1 s3 (a1 s4 (a1 b3 (a1 (rfl:true=true) trivial))))))))))) (by kernel_rfl)
     ·rw [if_neg b3] at h
      replace b3:=Bool.eq_false_iff.2 b3
      obtain ⟨s5,h⟩:=h
      obtain ⟨s6,s7,h⟩:=h
      by_cases b4:((List.getD x0 (Int.toNat (v3 - 1)) (0,0,ByteArray.empty,0,())).1==(List.getD x0 (Int.toNat v3) (0,0,ByteArray.empty,0,())).1)=true
      ·rw [if_pos b4] at h
       obtain ⟨s8,h⟩:=h
       obtain ⟨s9,s10,h⟩:=h
       by_cases b5:(decide ((List.getD x0 (Int.toNat (v3 - 1)) (0,0,ByteArray.empty,0,())).2.1>(List.getD x0 (Int.toNat v3) (0,0,ByteArray.empty,0,())).2.1))=true
       ·rw [if_pos b5] at h
        subst h
        exact AtV.ret Tryz.func57 tabOk ext57Ok mixed false [] tys57 [true,false,true,false,true,true] (a1 b0 (a1 s0 (a1 s1 (a1 trivial (a1 b1 (a1 b2 (a1 s2 (a1 s3 (a1 s4 (a1 b3 (a1 s5 (a1 s6 (a1 s7 (a1 b4 (a1 s8 (a1 s9 (a1 s10 (a1 b5 trivial)))))))))))))))))) (by kernel_rfl)
       ·rw [if_neg b5] at h
        replace b5:=Bool.eq_false_iff.2 b5
        obtain ⟨s11,h⟩:=h
        exact AtV.go tabOk ext57Ok mixed false [] [] [0,3] [] [true,false,true,false,true,false] (a1 b0 (a1 s0 (a1 s1 (a1 trivial (a1 b1 (a1 b2 (a1 s2 (a1 s3 (a1 s4 (a1 b3 (a1 s5 (a1 s6 (a1 s7 (a1 b4 (a1 s8 (a1 s9 (a1 s10 (a1 b5 (a1 s11 trivial))))))))))))))))))) (ih2 _ _ _ h K q) (by kernel_rfl)
      ·rw [if_neg b4] at h
       replace b4:=Bool.eq_false_iff.2 b4
       obtain ⟨s8,h⟩:=h
       exact AtV.go tabOk ext57Ok mixed false [] [] [0,3] [] [true,false,true,false,false,false] (a1 b0 (a1 s0 (a1 s1 (a1 trivial (a1 b1 (a1 b2 (a1 s2 (a1 s3 (a1 s4 (a1 b3 (a1 s5 (a1 s6 (a1 s7 (a1 b4 (a1 (rfl:false=false) (a1 s8 trivial)))))))))))))))) (ih2 _ _ _ h K q) (by kernel_rfl)
    ·rw [if_neg b2] at h
     replace b2:=Bool.eq_false_iff.2 b2
     obtain ⟨s2,h⟩:=h
     exact AtV.go tabOk ext57Ok mixed false [] [] [0,3] [] [true,false,false,false] (a1 b0 (a1 s0 (a1 s1 (a1 trivial (a1 b1 (a1 b2 (a1 (rfl:false=false) (a1 s2 trivial)))))))) (ih2 _ _ _ h K q) (by kernel_rfl)
  ·rw [if_neg b0] at h
   replace b0:=Bool.eq_false_iff.2 b0
   subst h
   exact AtV.ret Tryz.func57 tabOk ext57Ok mixed false [] tys57 [false] (a1 b0 trivial) (by kernel_rfl)
def bad57 (y x:TyB2):Bool:=if decide (y.1>x.1)=true then true else (if (y.1==x.1)=true then decide (y.2.1>x.2.1) else false)
def ok57 (x0:List TyB2) (i:Nat) (x:TyB2):Bool:=g87_0 x&&(i==0 || !bad57 (x0.getD (i - 1) ((0:Int),(0:Int),ByteArray.empty,(0:Int),())) x)
def g57_0 (x0:List TyB2):Bool:=allI (ok57 x0) 0 x0&&decide ((x0.length:Int)≤40)
def P57 (x0:List TyB2):Prop:=True
theorem step57 (n i:Nat) (x0:List TyB2) (hm:x0.length≤maxLen) (hi:i<x0.length) (ds:List Dyn)
  (h:if ok57 x0 i (x0.getD i ((0:Int),(0:Int),ByteArray.empty,(0:Int),()))=true then R57_2 n ((i:Int)+1) x0 ds else ds=[⟨.bool,false⟩]):R57_2 (n+1) (i:Int) x0 ds:=by
 have hu:=inR_up hm hi
 have hmx:maxLen≤9223372036854775807:=by decide
 rw [R57_2,if_pos (by simp only [decide_eq_true_eq];omega)]
 simp only [Int.toNat_natCast]
 refine ⟨by omega,by omega,?_⟩
 unfold ok57 at h
 by_cases hv:g87_0 (x0.getD i ((0:Int),(0:Int),ByteArray.empty,(0:Int),()))=true
 case neg=>rw [Bool.eq_false_iff.2 hv] at h;rw [if_pos (by rw [Bool.eq_false_iff.2 hv];rfl)];simpa using h
 rw [if_neg (by rw [hv];simp)]
 rw [hv] at h
 by_cases h0:(i:Int)>0
 case neg =>
  rw [if_neg (by simpa using h0)]
  have hi0:(i==0)=true:=by simp;omega
  rw [hi0] at h
  exact ⟨hu,by simpa using h⟩
 rw [if_pos (by simpa using h0)]
 have hi0:(i==0)=false:=by simp;omega
 have e:((i:Int) - 1).toNat=i - 1:=by omega
 have hd:InR .i64 ((i:Int) - 1):=by rw [i64_iff];omega
 rw [hi0] at h
 simp only [e]
 refine ⟨hd,by omega,by omega,?_⟩
 by_cases c0:(x0.getD (i - 1) ((0:Int),(0:Int),ByteArray.empty,(0:Int),())).1>(x0.getD i ((0:Int),(0:Int),ByteArray.empty,(0:Int),())).1
 ·rw [if_pos (decide_eq_true c0)]
  have:bad57 (x0.getD (i - 1) ((0:Int),(0:Int),ByteArray.empty,(0:Int),())) (x0.getD i ((0:Int),(0:Int),ByteArray.empty,(0:Int),()))=true:=by unfold bad57;rw [if_pos (decide_eq_true c0)]
  rw [this] at h
  simpa using h
 ·rw [if_neg (by simpa using c0)]
  refine ⟨hd,by omega,by omega,?_⟩
  by_cases c1:((x0.getD (i - 1) ((0:Int),(0:Int),ByteArray.empty,(0:Int),())).1==(x0.getD i ((0:Int),(0:Int),ByteArray.empty,(0:Int),())).1)=true
  ·rw [if_pos c1]
   refine ⟨hd,by omega,by omega,?_⟩
   have eb:bad57 (x0.getD (i - 1) ((0:Int),(0:Int),ByteArray.empty,(0:Int),())) (x0.getD i ((0:Int),(0:Int),ByteArray.empty,(0:Int),()))=decide ((x0.getD (i - 1) ((0:Int),(0:Int),ByteArray.empty,(0:Int),())).2.1>(x0.getD i ((0:Int),(0:Int),ByteArray.empty,(0:Int),())).2.1):=by unfold bad57;rw [if_neg (by simpa using c0),if_pos c1]
   rw [eb] at h
   by_cases c2:(x0.getD (i - 1) ((0:Int),(0:Int),ByteArray.empty,(0:Int),())).2.1>(x0.getD i ((0:Int),(0:Int),ByteArray.empty,(0:Int),())).2.1
   ·rw [if_pos (decide_eq_true c2)]
    rw [decide_eq_true c2] at h
    simpa using h
   ·rw [if_neg (by simpa using c2)]
    rw [decide_eq_false c2] at h
    exact ⟨hu,by simpa using h⟩
  ·rw [if_neg c1]
   have eb:bad57 (x0.getD (i - 1) ((0:Int),(0:Int),ByteArray.empty,(0:Int),())) (x0.getD i ((0:Int),(0:Int),ByteArray.empty,(0:Int),()))=false:=by unfold bad57;rw [if_neg (by simpa using c0),if_neg c1]
   rw [eb] at h
   exact ⟨hu,by simpa using h⟩
theorem top57 (x0:List TyB2) (hw:x0.length≤maxLen):R57 (x0.length+1+1) x0 [⟨.bool,g57_0 x0⟩]:=by
 rw [R57]
 have key:=loop_testI x0 ((0:Int),(0:Int),ByteArray.empty,(0:Int),()) (ok57 x0) [(⟨.bool,false⟩:Dyn)] [⟨.bool,decide ((x0.length:Int)≤40)⟩] (fun n i ds=>R57_2 n i x0 ds) (fun n => ?_) (fun n i hi hok ds hr => ?_) (fun n i hi hok => ?_)
 ·unfold g57_0
  cases h:allI (ok57 x0) 0 x0 with
  | true=>rw [if_pos h] at key;simpa using key
  | false=>rw [if_neg (by rw [h];simp)] at key;simpa using key
 ·rw [R57_2,if_neg (by simp)]
 ·exact step57 n i x0 hw hi ds (by rw [if_pos hok];exact hr)
 ·exact step57 n i x0 hw hi _ (by rw [if_neg (by rw [hok];simp)])
def S57:Am.Spec:={ sig:=sig57,pre:=fun ⟨x0,_⟩=>P57 x0,res:=fun ⟨x0,_⟩=>[⟨Ty.bool,g57_0 x0⟩] }
theorem con57:Contract Tryz.prog 57 S57:=contract_of Tryz.func57 hb57 (Nat.le_of_ble_eq_true (by kernel_rfl)) (fun ⟨x0,_⟩ h hwf K q =>
 (snd57 _).1 x0 _ (top57 x0 hwf.1.1) K q)
end
noncomputable section
def ext18:Ext:=[(49,S49),(50,S50),(51,S51),(52,S52),(53,S53),(54,S54),(55,S55),(56,S56),(57,S57)]
theorem ext18Ok:ExtOk Tryz.prog ext18:=⟨⟨ca49,con49⟩,⟨ca50,con50⟩,⟨ca51,con51⟩,⟨ca52,con52⟩,⟨ca53,con53⟩,⟨ca54,con54⟩,⟨ca55,con55⟩,⟨ca56,con56⟩,⟨ca57,con57⟩,trivial⟩
noncomputable def b18:Code:=bodyOf Tryz.f18
theorem hb18:Tryz.f18.body=some b18:=by kernel_rfl
def sig18:List AT:=[AT.p YA0]
def tys18:List Ty:=[Ty.bool]
def kds18:List RK:=[]
def oks18:List AT:=owns sig18
def P18 (x0:TyA0):Prop:=True
def g18_0 (x0:TyA0):Bool:=(if (!g49_0 x0.1)=true then false else (if (!g50_0 x0.2.1)=true then false else (if (!g51_0 x0.2.2.1)=true then false else (if (!g52_0 x0.2.2.2.1)=true then false else (if (!g53_0 x0.2.2.2.2.1)=true then false else (if (!g54_0 x0.2.2.2.2.2.1)=true then false else (if (g55_0 x0.2.2.2.2.2.2.1 x0.2.2.2.2.2.2.2.1 x0.2.2.2.2.2.2.2.2.1 != 0)=true then false else (if (g56_0 x0.2.2.2.2.2.2.2.2.2.1 x0.2.2.2.2.2.2.2.2.2.2.1==0)=true then g57_0 x0.2.2.2.2.2.2.2.2.2.2.2.1 else false))))))))
theorem at18 (x0:TyA0) (h:P18 x0) (K:Ctx) (q:Nat→Value):AtV Tryz.prog 18 (PostR kds18 oks18 [⟨Ty.bool,g18_0 x0⟩] [] [] q K) 76 K q [] [.code b18] (entE 0 0 sig18 (x0,())) (entL sig18 (x0,())):=by
 unfold P18 at h
 unfold g18_0
 by_cases b0:(!g49_0 x0.1)=true
 ·try simp only [if_pos b0] at h ⊢
  exact AtV.ret Tryz.func18 tabOk ext18Ok mixed false [] tys18 [true,true,true,true] (a1 trivial (a1 b0 (a1 (rfl:true=true) (a1 (rfl:true=true) (a1 (rfl:true=true) trivial))))) (by kernel_rfl)
 ·try simp only [if_neg b0] at h ⊢
  replace b0:=Bool.eq_false_iff.2 b0
  by_cases b1:(!g50_0 x0.2.1)=true
  ·try simp only [if_pos b1] at h ⊢
   exact AtV.ret Tryz.func18 tabOk ext18Ok mixed false [] tys18 [false,true,true,true] (a1 trivial (a1 b0 (a1 trivial (a1 b1 (a1 (rfl:true=true) (a1 (rfl:true=true) trivial)))))) (by kernel_rfl)
  ·try simp only [if_neg b1] at h ⊢
   replace b1:=Bool.eq_false_iff.2 b1
   by_cases b2:(!g51_0 x0.2.2.1)=true
   ·try simp only [if_pos b2] at h ⊢
    exact AtV.ret Tryz.func18 tabOk ext18Ok mixed false [] tys18 [false,false,true,true] (a1 trivial (a1 b0 (a1 trivial (a1 b1 (a1 trivial (a1 b2 (a1 (rfl:true=true) trivial))))))) (by kernel_rfl)
   ·try simp only [if_neg b2] at h ⊢
    replace b2:=Bool.eq_false_iff.2 b2
    by_cases b3:(!g52_0 x0.2.2.2.1)=true
    ·try simp only [if_pos b3] at h ⊢
     exact AtV.ret Tryz.func18 tabOk ext18Ok mixed false [] tys18 [false,false,false,true] (a1 trivial (a1 b0 (a1 trivial (a1 b1 (a1 trivial (a1 b2 (a1 trivial (a1 b3 trivial)))))))) (by kernel_rfl)
    ·try simp only [if_neg b3] at h ⊢
     replace b3:=Bool.eq_false_iff.2 b3
     by_cases b4:(!g53_0 x0.2.2.2.2.1)=true
     ·try simp only [if_pos b4] at h ⊢
      exact AtV.ret Tryz.func18 tabOk ext18Ok mixed false [] tys18 [false,false,false,false,true,true,true] (a1 trivial (a1 b0 (a1 trivial (a1 b1 (a1 trivial (a1 b2 (a1 trivial (a1 b3 (a1 trivial (a1 b4 (a1 (rfl:true=true) (a1 (rfl:true=true) trivial)))))))))))) (by kernel_rfl)
     ·try simp only [if_neg b4] at h ⊢
      replace b4:=Bool.eq_false_iff.2 b4
      by_cases b5:(!g54_0 x0.2.2.2.2.2.1)=true
      ·try simp only [if_pos b5] at h ⊢
       exact AtV.ret Tryz.func18 tabOk ext18Ok mixed false [] tys18 [false,false,false,false,false,true,true] (a1 trivial (a1 b0 (a1 trivial (a1 b1 (a1 trivial (a1 b2 (a1 trivial (a1 b3 (a1 trivial (a1 b4 (a1 trivial (a1 b5 (a1 (rfl:true=true) trivial))))))))))))) (by kernel_rfl)
      ·try simp only [if_neg b5] at h ⊢
       replace b5:=Bool.eq_false_iff.2 b5
       by_cases b6:(g55_0 x0.2.2.2.2.2.2.1 x0.2.2.2.2.2.2.2.1 x0.2.2.2.2.2.2.2.2.1 != 0)=true
       ·try simp only [if_pos b6] at h ⊢
        exact AtV.ret Tryz.func18 tabOk ext18Ok mixed false [] tys18 [false,false,false,false,false,false,true] (a1 trivial (a1 b0 (a1 trivial (a1 b1 (a1 trivial (a1 b2 (a1 trivial (a1 b3 (a1 trivial (a1 b4 (a1 trivial (a1 b5 (a1 trivial (a1 b6 trivial)))))))))))))) (by kernel_rfl)
       ·try simp only [if_neg b6] at h ⊢
        replace b6:=Bool.eq_false_iff.2 b6
        by_cases b7:(g56_0 x0.2.2.2.2.2.2.2.2.2.1 x0.2.2.2.2.2.2.2.2.2.2.1==0)=true
        ·try simp only [if_pos b7] at h ⊢
         exact AtV.ret Tryz.func18 tabOk ext18Ok mixed false [] tys18 [false,false,false,false,false,false,false,true] (a1 trivial (a1 b0 (a1 trivial (a1 b1 (a1 trivial (a1 b2 (a1 trivial (a1 b3 (a1 trivial (a1 b4 (a1 trivial (a1 b5 (a1 trivial (a1 b6 (a1 trivial (a1 b7 (a1 trivial trivial))))))))))))))))) (by kernel_rfl)
        ·try simp only [if_neg b7] at h ⊢
         replace b7:=Bool.eq_false_iff.2 b7
         exact AtV.ret Tryz.func18 tabOk ext18Ok mixed false [] tys18 [false,false,false,false,false,false,false,false] (a1 trivial (a1 b0 (a1 trivial (a1 b1 (a1 trivial (a1 b2 (a1 trivial (a1 b3 (a1 trivial (a1 b4 (a1 trivial (a1 b5 (a1 trivial (a1 b6 (a1 trivial (a1 b7 trivial)))))))))))))))) (by kernel_rfl)
def S18:Am.Spec:={ sig:=sig18,pre:=fun ⟨x0,_⟩=>P18 x0,res:=fun ⟨x0,_⟩=>[⟨Ty.bool,g18_0 x0⟩],kds:=kds18 }
theorem con18:Contract Tryz.prog 18 S18:=contract_of Tryz.func18 hb18 (Nat.le_of_ble_eq_true (by kernel_rfl)) (fun ⟨x0,_⟩ h _ K q=>at18 x0 h K q)
end
noncomputable section
def ext114:Ext:=[]
theorem ext114Ok:ExtOk Tryz.prog ext114:=trivial
noncomputable def b114:Code:=bodyOf Tryz.f114
theorem hb114:Tryz.f114.body=some b114:=by kernel_rfl
def sig114:List AT:=[AT.v (Ty.int .i64),AT.v (Ty.int .i64)]
def tys114:List Ty:=[Ty.int .i64]
def kds114:List RK:=[]
def oks114:List AT:=owns sig114
def P114 (x0:Int) (x1:Int):Prop:=True
def g114_0 (x0:Int) (x1:Int):Int:=(if (decide (x0>x1))=true then x0 else x1)
theorem at114 (x0:Int) (x1:Int) (h:P114 x0 x1) (K:Ctx) (q:Nat→Value):AtV Tryz.prog 114 (PostR kds114 oks114 [⟨Ty.int .i64,g114_0 x0 x1⟩] [] [] q K) 10 K q [] [.code b114] (entE 0 0 sig114 (x0,x1,())) (entL sig114 (x0,x1,())):=by
 unfold P114 at h
 unfold g114_0
 by_cases b0:(decide (x0>x1))=true
 ·try simp only [if_pos b0] at h ⊢
  exact AtV.ret Tryz.func114 tabOk ext114Ok mixed false [] tys114 [true] (a1 b0 trivial) (by kernel_rfl)
 ·try simp only [if_neg b0] at h ⊢
  replace b0:=Bool.eq_false_iff.2 b0
  exact AtV.ret Tryz.func114 tabOk ext114Ok mixed false [] tys114 [false] (a1 b0 trivial) (by kernel_rfl)
def S114:Am.Spec:={ sig:=sig114,pre:=fun ⟨x0,x1,_⟩=>P114 x0 x1,res:=fun ⟨x0,x1,_⟩=>[⟨Ty.int .i64,g114_0 x0 x1⟩],kds:=kds114 }
theorem con114:Contract Tryz.prog 114 S114:=contract_of Tryz.func114 hb114 (Nat.le_of_ble_eq_true (by kernel_rfl)) (fun ⟨x0,x1,_⟩ h _ K q=>at114 x0 x1 h K q)
end
noncomputable section
def ext115:Ext:=[]
theorem ext115Ok:ExtOk Tryz.prog ext115:=trivial
noncomputable def b115:Code:=bodyOf Tryz.f115
theorem hb115:Tryz.f115.body=some b115:=by kernel_rfl
def sig115:List AT:=[AT.v (Ty.int .i64),AT.v (Ty.int .i64)]
def tys115:List Ty:=[Ty.int .i64]
def kds115:List RK:=[]
def oks115:List AT:=owns sig115
def P115 (x0:Int) (x1:Int):Prop:=True
def g115_0 (x0:Int) (x1:Int):Int:=(if (decide (x0<x1))=true then x0 else x1)
theorem at115 (x0:Int) (x1:Int) (h:P115 x0 x1) (K:Ctx) (q:Nat→Value):AtV Tryz.prog 115 (PostR kds115 oks115 [⟨Ty.int .i64,g115_0 x0 x1⟩] [] [] q K) 10 K q [] [.code b115] (entE 0 0 sig115 (x0,x1,())) (entL sig115 (x0,x1,())):=by
 unfold P115 at h
 unfold g115_0
 by_cases b0:(decide (x0<x1))=true
 ·try simp only [if_pos b0] at h ⊢
  exact AtV.ret Tryz.func115 tabOk ext115Ok mixed false [] tys115 [true] (a1 b0 trivial) (by kernel_rfl)
 ·try simp only [if_neg b0] at h ⊢
  replace b0:=Bool.eq_false_iff.2 b0
  exact AtV.ret Tryz.func115 tabOk ext115Ok mixed false [] tys115 [false] (a1 b0 trivial) (by kernel_rfl)
def S115:Am.Spec:={ sig:=sig115,pre:=fun ⟨x0,x1,_⟩=>P115 x0 x1,res:=fun ⟨x0,x1,_⟩=>[⟨Ty.int .i64,g115_0 x0 x1⟩],kds:=kds115 }
theorem con115:Contract Tryz.prog 115 S115:=contract_of Tryz.func115 hb115 (Nat.le_of_ble_eq_true (by kernel_rfl)) (fun ⟨x0,x1,_⟩ h _ K q=>at115 x0 x1 h K q)
end
noncomputable section
def ext88:Ext:=[(79,S79),(114,S114),(115,S115)]
theorem ext88Ok:ExtOk Tryz.prog ext88:=⟨⟨ca79,con79⟩,⟨ca114,con114⟩,⟨ca115,con115⟩,trivial⟩
noncomputable def b88:Code:=bodyOf Tryz.f88
theorem hb88:Tryz.f88.body=some b88:=by kernel_rfl
def sig88:List AT:=[AT.p YA2]
def tys88:List Ty:=[Ty.int .i64,Ty.int .i64]
def kds88:List RK:=[]
def oks88:List AT:=owns sig88
def P88 (x0:List TyB4×Int×Int×Unit):Prop:=((P79 x0)∧((InR .i64 (g79_0 x0 - x0.2.2.1))∧((InR .i64 (g79_0 x0 - x0.2.1))∧True)))
def g88_0 (x0:List TyB4×Int×Int×Unit):Int:=g114_0 x0.2.1 (g79_0 x0 - x0.2.2.1)
def g88_1 (x0:List TyB4×Int×Int×Unit):Int:=g115_0 x0.2.2.1 (g79_0 x0 - x0.2.1)
theorem at88 (x0:List TyB4×Int×Int×Unit) (h:P88 x0) (K:Ctx) (q:Nat→Value):AtV Tryz.prog 88 (PostR kds88 oks88 [⟨Ty.int .i64,g88_0 x0⟩,⟨Ty.int .i64,g88_1 x0⟩] [] [] q K) 29 K q [] [.code b88] (entE 0 0 sig88 (x0,())) (entL sig88 (x0,())):=by
 unfold P88 at h
 unfold g88_0 g88_1
 obtain ⟨s0,h⟩:=h
 obtain ⟨s1,h⟩:=h
 obtain ⟨s2,h⟩:=h
 exact AtV.ret Tryz.func88 tabOk ext88Ok mixed false [] tys88 [] (a1 s0 (a1 s1 (a1 trivial (a1 s2 (a1 trivial trivial))))) (by kernel_rfl)
def S88:Am.Spec:={ sig:=sig88,pre:=fun ⟨x0,_⟩=>P88 x0,res:=fun ⟨x0,_⟩=>[⟨Ty.int .i64,g88_0 x0⟩,⟨Ty.int .i64,g88_1 x0⟩],kds:=kds88 }
theorem con88:Contract Tryz.prog 88 S88:=contract_of Tryz.func88 hb88 (Nat.le_of_ble_eq_true (by kernel_rfl)) (fun ⟨x0,_⟩ h _ K q=>at88 x0 h K q)
end
noncomputable section
def ext60:Ext:=[(88,S88),(79,S79)]
theorem ext60Ok:ExtOk Tryz.prog ext60:=⟨⟨ca88,con88⟩,⟨ca79,con79⟩,trivial⟩
noncomputable def b60:Code:=bodyOf Tryz.f60
theorem hb60:Tryz.f60.body=some b60:=by kernel_rfl
def sig60:List AT:=[AT.p YA2]
def tys60:List Ty:=[Ty.int .i64]
def kds60:List RK:=[]
def oks60:List AT:=owns sig60
def P60 (x0:List TyB4×Int×Int×Unit):Prop:=((P88 x0)∧((P79 x0)∧(if (decide (g88_0 x0>g88_1 x0))=true then ((InR .i64 (Int.tmod (g79_0 x0) 2))∧True) else (if (g88_0 x0==0)=true then True else ((InR .i64 (g88_0 x0 - 1))∧((InR .i64 (2*(g88_0 x0 - 1)))∧((InR .i64 (g79_0 x0 - 2*(g88_0 x0 - 1)))∧True)))))))
def g60_0 (x0:List TyB4×Int×Int×Unit):Int:=(if (decide (g88_0 x0>g88_1 x0))=true then Int.tmod (g79_0 x0) 2 else (if (g88_0 x0==0)=true then -1 else g79_0 x0 - 2*(g88_0 x0 - 1)))
theorem at60 (x0:List TyB4×Int×Int×Unit) (h:P60 x0) (K:Ctx) (q:Nat→Value):AtV Tryz.prog 60 (PostR kds60 oks60 [⟨Ty.int .i64,g60_0 x0⟩] [] [] q K) 25 K q [] [.code b60] (entE 0 0 sig60 (x0,())) (entL sig60 (x0,())):=by
 unfold P60 at h
 unfold g60_0
 obtain ⟨s0,h⟩:=h
 obtain ⟨s1,h⟩:=h
 by_cases b0:(decide (g88_0 x0>g88_1 x0))=true
 ·try simp only [if_pos b0] at h ⊢
  obtain ⟨s2,h⟩:=h
  exact AtV.ret Tryz.func60 tabOk ext60Ok mixed false [] tys60 [true] (a1 s0 (a1 s1 (a1 b0 (a1 ((by decide):(2:Int)≠(0:Int)) (a1 s2 trivial))))) (by kernel_rfl)
 ·try simp only [if_neg b0] at h ⊢
  replace b0:=Bool.eq_false_iff.2 b0
  by_cases b1:(g88_0 x0==0)=true
  ·try simp only [if_pos b1] at h ⊢
   exact AtV.ret Tryz.func60 tabOk ext60Ok mixed false [] tys60 [false,true] (a1 s0 (a1 s1 (a1 b0 (a1 b1 trivial)))) (by kernel_rfl)
  ·try simp only [if_neg b1] at h ⊢
   replace b1:=Bool.eq_false_iff.2 b1
   obtain ⟨s2,h⟩:=h
   obtain ⟨s3,h⟩:=h
   obtain ⟨s4,h⟩:=h
   exact AtV.ret Tryz.func60 tabOk ext60Ok mixed false [] tys60 [false,false] (a1 s0 (a1 s1 (a1 b0 (a1 b1 (a1 s2 (a1 s3 (a1 s4 trivial))))))) (by kernel_rfl)
def S60:Am.Spec:={ sig:=sig60,pre:=fun ⟨x0,_⟩=>P60 x0,res:=fun ⟨x0,_⟩=>[⟨Ty.int .i64,g60_0 x0⟩],kds:=kds60 }
theorem con60:Contract Tryz.prog 60 S60:=contract_of Tryz.func60 hb60 (Nat.le_of_ble_eq_true (by kernel_rfl)) (fun ⟨x0,_⟩ h _ K q=>at60 x0 h K q)
end
noncomputable section
def ext58:Ext:=[(88,S88),(60,S60)]
theorem ext58Ok:ExtOk Tryz.prog ext58:=⟨⟨ca88,con88⟩,⟨ca60,con60⟩,trivial⟩
noncomputable def b58:Code:=bodyOf Tryz.f58
theorem hb58:Tryz.f58.body=some b58:=by kernel_rfl
def sig58:List AT:=[AT.p YA2,AT.v (Ty.int .i64)]
def tys58:List Ty:=[Ty.bool]
def kds58:List RK:=[]
def oks58:List AT:=owns sig58
def P58 (x0:List TyB4×Int×Int×Unit) (x1:Int):Prop:=((P88 x0)∧((P60 x0)∧True))
def g58_0 (x0:List TyB4×Int×Int×Unit) (x1:Int):Bool:=(if (decide (g88_0 x0≤g88_1 x0))=true then (if (decide (g60_0 x0<0))=true then true else decide (g60_0 x0≥x1)) else false)
theorem at58 (x0:List TyB4×Int×Int×Unit) (x1:Int) (h:P58 x0 x1) (K:Ctx) (q:Nat→Value):AtV Tryz.prog 58 (PostR kds58 oks58 [⟨Ty.bool,g58_0 x0 x1⟩] [] [] q K) 27 K q [] [.code b58] (entE 0 0 sig58 (x0,x1,())) (entL sig58 (x0,x1,())):=by
 unfold P58 at h
 unfold g58_0
 obtain ⟨s0,h⟩:=h
 obtain ⟨s1,h⟩:=h
 by_cases b0:(decide (g88_0 x0≤g88_1 x0))=true
 ·try simp only [if_pos b0] at h ⊢
  by_cases b1:(decide (g60_0 x0<0))=true
  ·try simp only [if_pos b1] at h ⊢
   exact AtV.ret Tryz.func58 tabOk ext58Ok mixed false [] tys58 [true,true] (a1 s0 (a1 s1 (a1 b0 (a1 b1 trivial)))) (by kernel_rfl)
  ·try simp only [if_neg b1] at h ⊢
   replace b1:=Bool.eq_false_iff.2 b1
   exact AtV.ret Tryz.func58 tabOk ext58Ok mixed false [] tys58 [true,false] (a1 s0 (a1 s1 (a1 b0 (a1 b1 trivial)))) (by kernel_rfl)
 ·try simp only [if_neg b0] at h ⊢
  replace b0:=Bool.eq_false_iff.2 b0
  exact AtV.ret Tryz.func58 tabOk ext58Ok mixed false [] tys58 [false] (a1 s0 (a1 s1 (a1 b0 trivial))) (by kernel_rfl)
def S58:Am.Spec:={ sig:=sig58,pre:=fun ⟨x0,x1,_⟩=>P58 x0 x1,res:=fun ⟨x0,x1,_⟩=>[⟨Ty.bool,g58_0 x0 x1⟩],kds:=kds58 }
theorem con58:Contract Tryz.prog 58 S58:=contract_of Tryz.func58 hb58 (Nat.le_of_ble_eq_true (by kernel_rfl)) (fun ⟨x0,x1,_⟩ h _ K q=>at58 x0 x1 h K q)
end
end Go.Proofs.YthpljjnbniefpaaGreatDoor
