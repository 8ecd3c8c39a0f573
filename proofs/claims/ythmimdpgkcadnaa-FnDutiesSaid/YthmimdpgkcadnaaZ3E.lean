/- Several texts in one: the functions that this law reaches, and their laws. -/
import Derived.Test.YthmimdpgkcadnaaZ3A
import Derived.Test.YthmimdpgkcadnaaZ3B
import Derived.Test.YthmimdpgkcadnaaZ3C
import Derived.Test.YthmimdpgkcadnaaZ3D
import Derived.Lib.AppendZeros
import Derived.Lib.SliceRun
import Derived.Laws.AppendOwn
import Derived.Laws.AppendOwnNone
import Derived.WalkKit
import Derived.Deep.LoopGhost
import Derived.Lib.Walk
import Derived.Shelf.RegionOpenPlain
set_option linter.unusedVariables false
set_option linter.unusedSimpArgs false
set_option maxRecDepth 100000
namespace Go.Proofs.Ythmimdpgkcadnaa
open Go Go.Am Go.Proofs
noncomputable section
def ext30:Ext:=[(59,S59),(28,S28)]
theorem ext30Ok:ExtOk Try.prog ext30:=⟨⟨ca59,con59⟩,⟨ca28,con28⟩,trivial⟩
noncomputable def b30:Code:=bodyOf Try.f30
theorem hb30:Try.f30.body=some b30:=by kernel_rfl
def sig30:List AT:=[AT.v (.sl YA3),AT.v (.sl YA1),AT.v (.int .i64),AT.v (.str),AT.v (.int .i64)]
def tys30:List Ty:=[.bool]
def kds30:List RK:=[]
def oks30:List AT:=owns sig30
def E30_3 (v12:Int) (x0:List (ByteArray×List ByteArray×Unit)) (x1:List TyB0) (x2:Int) (x3:ByteArray) (x4:Int):Env:=[(0,.a (.sl YA3 x0)),(1,.a (.sl YA1 x1)),(2,.a (.val (.int .i64 x2))),(3,.a (.val (.string x3))),(4,.a (.val (.int .i64 x4))),(11,.a (.osl 0 Option.none)),(12,.a (.val (.int .i64 v12)))]
def L30_3 (v12:Int) (x0:List (ByteArray×List ByteArray×Unit)) (x1:List TyB0) (x2:Int) (x3:ByteArray) (x4:Int):Heap:=[Option.some (Arr.mk .bool (g59_0 x0 x2) false Option.none Option.none)]
mutual
def R30:Nat→List (ByteArray×List ByteArray×Unit)→List TyB0→Int→ByteArray→Int→List Dyn→Prop
 | 0,_,_,_,_,_,_=>False
 | n+1,x0,x1,x2,x3,x4,ds=>((P59 x0 x2)∧(R30_3 n (0) (x0) (x1) (x2) (x3) (x4) ds))
def R30_3:Nat→Int→List (ByteArray×List ByteArray×Unit)→List TyB0→Int→ByteArray→Int→List Dyn→Prop
 | 0,_,_,_,_,_,_,_=>False
 | n+1,v12,x0,x1,x2,x3,x4,ds=>(if (decide (v12<(x1.length:Int)))=true then ((0≤v12)∧(v12<(x1.length:Int))∧(if (g28_0 x0 (List.getD x1 (Int.toNat v12) (ByteArray.empty,ByteArray.empty,0,())).1==x2)=true then ((0≤v12)∧(v12<(x1.length:Int))∧(if (ByteArray.toList (List.getD x1 (Int.toNat v12) (ByteArray.empty,ByteArray.empty,0,())).2.1==ByteArray.toList x3)=true then ((0≤v12)∧(v12<(x1.length:Int))∧(if (decide ((List.getD x1 (Int.toNat v12) (ByteArray.empty,ByteArray.empty,0,())).2.2.1≥x4))=true then (ds=[Dyn.mk .bool true]) else ((InR .i64 (v12+1))∧(R30_3 n (v12+1) (x0) (x1) (x2) (x3) (x4) ds)))) else ((InR .i64 (v12+1))∧(R30_3 n (v12+1) (x0) (x1) (x2) (x3) (x4) ds)))) else ((0≤g28_0 x0 (List.getD x1 (Int.toNat v12) (ByteArray.empty,ByteArray.empty,0,())).1)∧(g28_0 x0 (List.getD x1 (Int.toNat v12) (ByteArray.empty,ByteArray.empty,0,())).1<(↑(List.length (g59_0 x0 x2)):Int))∧(if (List.getD (g59_0 x0 x2) (Int.toNat (g28_0 x0 (List.getD x1 (Int.toNat v12) (ByteArray.empty,ByteArray.empty,0,())).1)) false)=true then ((0≤v12)∧(v12<(x1.length:Int))∧(if (ByteArray.toList (List.getD x1 (Int.toNat v12) (ByteArray.empty,ByteArray.empty,0,())).2.1==ByteArray.toList x3)=true then ((0≤v12)∧(v12<(x1.length:Int))∧(if (decide ((List.getD x1 (Int.toNat v12) (ByteArray.empty,ByteArray.empty,0,())).2.2.1≥x4))=true then (ds=[Dyn.mk .bool true]) else ((InR .i64 (v12+1))∧(R30_3 n (v12+1) (x0) (x1) (x2) (x3) (x4) ds)))) else ((InR .i64 (v12+1))∧(R30_3 n (v12+1) (x0) (x1) (x2) (x3) (x4) ds)))) else ((InR .i64 (v12+1))∧(R30_3 n (v12+1) (x0) (x1) (x2) (x3) (x4) ds)))))) else (ds=[Dyn.mk .bool false]))
end
theorem snd30:∀ n,(∀ (x0:List (ByteArray×List ByteArray×Unit)) (x1:List TyB0) (x2:Int) (x3:ByteArray) (x4:Int) ds,R30 n x0 x1 x2 x3 x4 ds→∀ K q,AtV Try.prog 30 (PostR kds30 oks30 ds [] [] q K) 57 K q [] [.code b30] (entE 0 0 sig30 (x0,x1,x2,x3,x4,())) (entL sig30 (x0,x1,x2,x3,x4,())))∧(∀ (v12:Int) (x0:List (ByteArray×List ByteArray×Unit)) (x1:List TyB0) (x2:Int) (x3:ByteArray) (x4:Int) ds,R30_3 n v12 x0 x1 x2 x3 x4 ds→∀ K q,AtV Try.prog 30 (PostR kds30 oks30 ds [] [] q K) 57 K q [] (cutAt b30 3) (E30_3 v12 x0 x1 x2 x3 x4) (L30_3 v12 x0 x1 x2 x3 x4)):=by
 intro n
 induction n with
 | zero=>exact ⟨fun _ _ _ _ _ _ h=>by simp only [R30] at h,fun _ _ _ _ _ _ _ h=>by simp only [R30_3] at h⟩
 | succ n ih =>
 obtain ⟨ih,ih3⟩:=ih
 refine ⟨?_,?_⟩
 ·intro x0 x1 x2 x3 x4 ds h K q
  rw [R30] at h
  obtain ⟨s0,h⟩:=h
  exact AtV.go tabOk ext30Ok mixed false [] [] [0,1,2,3,4,11,12] [0] [] (a1 s0 trivial) (ih3 _ _ _ _ _ _ _ h K q) (by kernel_rfl)
 ·intro v12 x0 x1 x2 x3 x4 ds h K q
  rw [R30_3] at h
  by_cases b0:(decide (v12<(x1.length:Int)))=true
  ·rw [if_pos b0] at h
   obtain ⟨s0,s1,h⟩:=h
   by_cases b1:(g28_0 x0 (List.getD x1 (Int.toNat v12) (ByteArray.empty,ByteArray.empty,0,())).1==x2)=true
   ·rw [if_pos b1] at h
    obtain ⟨s2,s3,h⟩:=h
    by_cases b2:(ByteArray.toList (List.getD x1 (Int.toNat v12) (ByteArray.empty,ByteArray.empty,0,())).2.1==ByteArray.toList x3)=true
    ·rw [if_pos b2] at h
     obtain ⟨s4,s5,h⟩:=h
     by_cases b3:(decide ((List.getD x1 (Int.toNat v12) (ByteArray.empty,ByteArray.empty,0,())).2.2.1≥x4))=true
     ·rw [if_pos b3] at h
      subst h
      exact AtV.ret Try.func30 tabOk ext30Ok mixed false [] tys30 [true,true,true,true,true] (a1 b0 (a1 s0 (a1 s1 (a1 trivial (a1 b1 (a1 (rfl:true=true) (a1 s2 (a1 s3 (a1 b2 (a1 s4 (a1 s5 (a1 b3 trivial)))))))))))) (by kernel_rfl)
     ·rw [if_neg b3] at h
      replace b3:=bf_ b3
      obtain ⟨s6,h⟩:=h
      exact AtV.go tabOk ext30Ok mixed false [] [] [0,1,2,3,4,11,12] [0] [true,true,true,true,false] (a1 b0 (a1 s0 (a1 s1 (a1 trivial (a1 b1 (a1 (rfl:true=true) (a1 s2 (a1 s3 (a1 b2 (a1 s4 (a1 s5 (a1 b3 (a1 s6 trivial))))))))))))) (ih3 _ _ _ _ _ _ _ h K q) (by kernel_rfl)
    ·rw [if_neg b2] at h
     replace b2:=bf_ b2
     obtain ⟨s4,h⟩:=h
     exact AtV.go tabOk ext30Ok mixed false [] [] [0,1,2,3,4,11,12] [0] [true,true,true,false,false] (a1 b0 (a1 s0 (a1 s1 (a1 trivial (a1 b1 (a1 (rfl:true=true) (a1 s2 (a1 s3 (a1 b2 (a1 (rfl:false=false) (a1 s4 trivial))))))))))) (ih3 _ _ _ _ _ _ _ h K q) (by kernel_rfl)
   ·rw [if_neg b1] at h
    replace b1:=bf_ b1
    obtain ⟨s2,s3,h⟩:=h
    by_cases b2:(List.getD (g59_0 x0 x2) (Int.toNat (g28_0 x0 (List.getD x1 (Int.toNat v12) (ByteArray.empty,ByteArray.empty,0,())).1)) false)=true
    ·rw [if_pos b2] at h
     obtain ⟨s4,s5,h⟩:=h
     by_cases b3:(ByteArray.toList (List.getD x1 (Int.toNat v12) (ByteArray.empty,ByteArray.empty,0,())).2.1==ByteArray.toList x3)=true
     ·rw [if_pos b3] at h
      obtain ⟨s6,s7,h⟩:=h
      by_cases b4:(decide ((List.getD x1 (Int.toNat v12) (ByteArray.empty,ByteArray.empty,0,())).2.2.1≥x4))=true
      ·rw [if_pos b4] at h
       subst h
       exact AtV.ret Try.func30 tabOk ext30Ok mixed false [] tys30 [true,false,true,true,true] (a1 b0 (a1 s0 (a1 s1 (a1 trivial (a1 b1 (a1 s2 (a1 s3 (a1 b2 (a1 s4 (a1 s5 (a1 b3 (a1 s6 (a1 s7 (a1 b4 trivial)))))))))))))) (by kernel_rfl)
      ·rw [if_neg b4] at h
       replace b4:=bf_ b4
       obtain ⟨s8,h⟩:=h
       exact AtV.go tabOk ext30Ok mixed false [] [] [0,1,2,3,4,11,12] [0] [true,false,true,true,false] (a1 b0 (a1 s0 (a1 s1 (a1 trivial (a1 b1 (a1 s2 (a1 s3 (a1 b2 (a1 s4 (a1 s5 (a1 b3 (a1 s6 (a1 s7 (a1 b4 (a1 s8 trivial))))))))))))))) (ih3 _ _ _ _ _ _ _ h K q) (by kernel_rfl)
     ·rw [if_neg b3] at h
      replace b3:=bf_ b3
      obtain ⟨s6,h⟩:=h
      exact AtV.go tabOk ext30Ok mixed false [] [] [0,1,2,3,4,11,12] [0] [true,false,true,false,false] (a1 b0 (a1 s0 (a1 s1 (a1 trivial (a1 b1 (a1 s2 (a1 s3 (a1 b2 (a1 s4 (a1 s5 (a1 b3 (a1 (rfl:false=false) (a1 s6 trivial))))))))))))) (ih3 _ _ _ _ _ _ _ h K q) (by kernel_rfl)
    ·rw [if_neg b2] at h
     replace b2:=bf_ b2
     obtain ⟨s4,h⟩:=h
     exact AtV.go tabOk ext30Ok mixed false [] [] [0,1,2,3,4,11,12] [0] [true,false,false,false,false] (a1 b0 (a1 s0 (a1 s1 (a1 trivial (a1 b1 (a1 s2 (a1 s3 (a1 b2 (a1 (rfl:false=false) (a1 (rfl:false=false) (a1 s4 trivial))))))))))) (ih3 _ _ _ _ _ _ _ h K q) (by kernel_rfl)
  ·rw [if_neg b0] at h
   replace b0:=bf_ b0
   subst h
   exact AtV.ret Try.func30 tabOk ext30Ok mixed false [] tys30 [false] (a1 b0 trivial) (by kernel_rfl)
abbrev RL30:=ByteArray×List ByteArray×Unit
abbrev GR30:=ByteArray×ByteArray×Int×Unit
def hit30 (x0:List RL30) (x2:Int) (x3:ByteArray) (x4:Int) (x:GR30):Bool:=(g28_0 x0 x.1==x2||(g59_0 x0 x2).getD (g28_0 x0 x.1).toNat false)&&((ByteArray.toList x.2.1==ByteArray.toList x3)&&decide (x.2.2.1≥x4))
def g30_0 (x0:List RL30) (x1:List GR30) (x2:Int) (x3:ByteArray) (x4:Int):Bool:=x1.any (hit30 x0 x2 x3 x4)
def P30 (x0:List RL30) (x1:List GR30) (x2:Int) (x3:ByteArray) (x4:Int):Prop:=P59 x0 x2∧∀ x∈x1,0≤g28_0 x0 x.1∧g28_0 x0 x.1<(x0.length:Int)
theorem run30 (x0:List RL30) (x1:List GR30) (x2:Int) (x3:ByteArray) (x4:Int) (h:P30 x0 x1 x2 x3 x4) (hm:x1.length≤maxLen):∀ (k i:Nat),i+k=x1.length→R30_3 (k+1) (i:Int) x0 x1 x2 x3 x4 [⟨.bool,(x1.drop i).any (hit30 x0 x2 x3 x4)⟩]:=by
 intro k
 induction k with
 | zero =>
  intro i hi
  rw [R30_3,if_neg (by simp only [decide_eq_true_eq];omega),List.drop_eq_nil_of_le (by omega)]
  rfl
 | succ k ih =>
  intro i hi
  have hlt:i<x1.length:=by omega
  have hu:=inR_up hm hlt
  have e3:(i:Int)+1=((i+1:Nat):Int):=by omega
  have ih:=ih (i+1) (by omega)
  obtain ⟨f1,f2⟩:=h.2 _ (mem_getD x1 i (ByteArray.empty,ByteArray.empty,0,()) hlt)
  have hlen:=len59 x0 x2
  rw [← e3] at ih
  rw [R30_3,if_pos (by simp only [decide_eq_true_eq];omega),drop_get x1 i (ByteArray.empty,ByteArray.empty,0,()) hlt,List.any_cons]
  rw [Int.toNat_natCast]
  generalize x1.getD i (ByteArray.empty,ByteArray.empty,0,())=x at *
  refine ⟨by omega,by omega,?_⟩
  have no:hit30 x0 x2 x3 x4 x=false→InR .i64 ((i:Int)+1)∧R30_3 (k+1) ((i:Int)+1) x0 x1 x2 x3 x4 [⟨.bool,hit30 x0 x2 x3 x4 x||(x1.drop (i+1)).any (hit30 x0 x2 x3 x4)⟩]:=fun hh=>by
   rw [hh,Bool.false_or]
   exact ⟨hu,ih⟩
  have yes:hit30 x0 x2 x3 x4 x=true→([⟨.bool,hit30 x0 x2 x3 x4 x||(x1.drop (i+1)).any (hit30 x0 x2 x3 x4)⟩]:List Dyn)=[⟨.bool,true⟩]:=fun hh=>by
   rw [hh,Bool.true_or]
  have hx:hit30 x0 x2 x3 x4 x=((g28_0 x0 x.1==x2||(g59_0 x0 x2).getD (g28_0 x0 x.1).toNat false)&&((ByteArray.toList x.2.1==ByteArray.toList x3)&&decide (x.2.2.1≥x4))):=rfl
  by_cases c1:(g28_0 x0 x.1==x2)=true
  ·refine (if_pos c1).mpr ⟨by omega,by omega,?_⟩
   by_cases c2:(ByteArray.toList x.2.1==ByteArray.toList x3)=true
   ·refine (if_pos c2).mpr ⟨by omega,by omega,?_⟩
    by_cases c3:decide (x.2.2.1≥x4)=true
    ·exact (if_pos c3).mpr (yes (by rw [hx,c1,c2,c3];rfl))
    ·exact (if_neg c3).mpr (no (by rw [hx,bf_ c3,Bool.and_false,Bool.and_false]))
   ·exact (if_neg c2).mpr (no (by rw [hx,bf_ c2,Bool.false_and,Bool.and_false]))
  ·refine (if_neg c1).mpr ⟨f1,by rw [hlen];exact f2,?_⟩
   by_cases c0:(g59_0 x0 x2).getD (g28_0 x0 x.1).toNat false=true
   ·refine (if_pos c0).mpr ⟨by omega,by omega,?_⟩
    by_cases c2:(ByteArray.toList x.2.1==ByteArray.toList x3)=true
    ·refine (if_pos c2).mpr ⟨by omega,by omega,?_⟩
     by_cases c3:decide (x.2.2.1≥x4)=true
     ·exact (if_pos c3).mpr (yes (by rw [hx,c0,c2,c3,Bool.or_true];rfl))
     ·exact (if_neg c3).mpr (no (by rw [hx,bf_ c3,Bool.and_false,Bool.and_false]))
    ·exact (if_neg c2).mpr (no (by rw [hx,bf_ c2,Bool.false_and,Bool.and_false]))
   ·exact (if_neg c0).mpr (no (by rw [hx,bf_ c0,bf_ c1];rfl))
theorem top30 (x0:List RL30) (x1:List GR30) (x2:Int) (x3:ByteArray) (x4:Int) (h:P30 x0 x1 x2 x3 x4) (hm:x1.length≤maxLen):R30 (x1.length+1+1) x0 x1 x2 x3 x4 [⟨.bool,g30_0 x0 x1 x2 x3 x4⟩]:=by
 rw [R30]
 exact ⟨h.1,run30 x0 x1 x2 x3 x4 h hm x1.length 0 (by omega)⟩
def S30:Am.Spec:={ sig:=sig30,pre:=fun ⟨x0,x1,x2,x3,x4,_⟩=>P30 x0 x1 x2 x3 x4,res:=fun ⟨x0,x1,x2,x3,x4,_⟩=>[⟨.bool,g30_0 x0 x1 x2 x3 x4⟩] }
theorem con30:Contract Try.prog 30 S30:=contract_of Try.func30 hb30 (bl_ (by kernel_rfl)) (fun ⟨x0,x1,x2,x3,x4,_⟩ h hwf K q =>
 (snd30 _).1 x0 x1 x2 x3 x4 _ (top30 x0 x1 x2 x3 x4 h hwf.2.1.1) K q)
end
noncomputable section
def ext9:Ext:=[(27,S27),(28,S28),(29,S29),(30,S30)]
theorem ext9Ok:ExtOk Try.prog ext9:=⟨⟨ca27,con27⟩,⟨ca28,con28⟩,⟨ca29,con29⟩,⟨ca30,con30⟩,trivial⟩
noncomputable def b9:Code:=bodyOf Try.f9
theorem hb9:Try.f9.body=some b9:=by kernel_rfl
def sig9:List AT:=[AT.v (.sl YA3),AT.v (.sl YA1),AT.v (.str),AT.v (.str),AT.v (.int .i64)]
def tys9:List Ty:=[.bool]
def kds9:List RK:=[]
def oks9:List AT:=owns sig9
def P9 (x0:List (ByteArray×List ByteArray×Unit)) (x1:List TyB0) (x2:ByteArray) (x3:ByteArray) (x4:Int):Prop:=(if (!g27_0 x0 x1)=true then True else (if (decide (g28_0 x0 x2<0))=true then True else (if (!g29_0 x4)=true then True else ((P30 x0 x1 (g28_0 x0 x2) x3 x4)∧True))))
def g9_0 (x0:List (ByteArray×List ByteArray×Unit)) (x1:List TyB0) (x2:ByteArray) (x3:ByteArray) (x4:Int):Bool:=(if (!g27_0 x0 x1)=true then false else (if (decide (g28_0 x0 x2<0))=true then false else (if (!g29_0 x4)=true then false else g30_0 x0 x1 (g28_0 x0 x2) x3 x4)))
theorem at9 (x0:List (ByteArray×List ByteArray×Unit)) (x1:List TyB0) (x2:ByteArray) (x3:ByteArray) (x4:Int) (h:P9 x0 x1 x2 x3 x4) (K:Ctx) (q:Nat→Value):AtV Try.prog 9 (PostR kds9 oks9 [⟨.bool,g9_0 x0 x1 x2 x3 x4⟩] [] [] q K) 34 K q [] [.code b9] (entE 0 0 sig9 (x0,x1,x2,x3,x4,())) (entL sig9 (x0,x1,x2,x3,x4,())):=by
 unfold P9 at h
 unfold g9_0
 by_cases b0:(!g27_0 x0 x1)=true
 ·try simp only [if_pos b0] at h ⊢
  exact AtV.ret Try.func9 tabOk ext9Ok mixed false [] tys9 [true,true,true] (a1 trivial (a1 b0 (a1 (rfl:true=true) (a1 (rfl:true=true) trivial)))) (by kernel_rfl)
 ·try simp only [if_neg b0] at h ⊢
  replace b0:=bf_ b0
  by_cases b1:(decide (g28_0 x0 x2<0))=true
  ·try simp only [if_pos b1] at h ⊢
   exact AtV.ret Try.func9 tabOk ext9Ok mixed false [] tys9 [false,true,true] (a1 trivial (a1 b0 (a1 trivial (a1 b1 (a1 (rfl:true=true) trivial))))) (by kernel_rfl)
  ·try simp only [if_neg b1] at h ⊢
   replace b1:=bf_ b1
   by_cases b2:(!g29_0 x4)=true
   ·try simp only [if_pos b2] at h ⊢
    exact AtV.ret Try.func9 tabOk ext9Ok mixed false [] tys9 [false,false,true] (a1 trivial (a1 b0 (a1 trivial (a1 b1 (a1 trivial (a1 b2 trivial)))))) (by kernel_rfl)
   ·try simp only [if_neg b2] at h ⊢
    replace b2:=bf_ b2
    obtain ⟨s0,h⟩:=h
    exact AtV.ret Try.func9 tabOk ext9Ok mixed false [] tys9 [false,false,false] (a1 trivial (a1 b0 (a1 trivial (a1 b1 (a1 trivial (a1 b2 (a1 trivial (a1 s0 trivial)))))))) (by kernel_rfl)
def S9:Am.Spec:={ sig:=sig9,pre:=fun ⟨x0,x1,x2,x3,x4,_⟩=>P9 x0 x1 x2 x3 x4,res:=fun ⟨x0,x1,x2,x3,x4,_⟩=>[⟨.bool,g9_0 x0 x1 x2 x3 x4⟩],kds:=kds9 }
theorem con9:Contract Try.prog 9 S9:=contract_of Try.func9 hb9 (bl_ (by kernel_rfl)) (fun ⟨x0,x1,x2,x3,x4,_⟩ h _ K q=>at9 x0 x1 x2 x3 x4 h K q)
end
abbrev TYc31:Ty := .cons .str (.cons .str (.cons (.int .i64) .unit))
abbrev DEc31:=ByteArray×ByteArray×Int×Unit
open Go.RowKit in
set_option maxHeartbeats 4000000 in
theorem grow31 (w:World) (n:Nat) (hn:n≤1048576) :
  Calls Try.prog 60 #[.slice none 0 0,.int .i64 n] w fun r w'=>∃ v',r = .returned v'∧w'.ownsRow w.heap.size 27 3 v' 0 []∧Below w.heap.size w w':=by
 have mixed:=mixed
 have hinfo:TIOk Try.prog 25 (tabGet tab 25):=tabOk 25
 obtain ⟨_,_,⟨_,⟨i0,hi0,hz1,z,hz0,hzs,_⟩⟩,hby⟩:=hinfo
 rw [hi0] at hby
 simp only [Option.map_some,Option.some.injEq] at hby
 have hzs':z.cells.size=3:=by rw [← Array.length_toList,hzs];rfl
 have hs1:i0.size=3:=hz1
 have hb16:i0.bytes=40:=hby
 have hG:=grownCap_ge w n 0 27
 have hGm:grownCap w n 0 27≤maxLen:=grownCap_le_maxLen w n 0 27 (by unfold maxLen;omega)
 rcases Nat.eq_zero_or_pos n with h0 | h0
 ·subst h0
  clear hG hGm hzs' hzs hz0 hi0 hz1 hs1 hb16 hby
  go_enter Try.func60,Try.ntmps60
  go_wp2
  go_ret
  exact ⟨_,rfl,⟨rfl,.inl ⟨rfl,rfl⟩⟩,Below.refl _ w⟩
 have hrz:∀ ty,(Builtin.append_ #[25,3] ty #[.slice none 0 0,.int .i64 n]).run Try.prog w = .ok (.slice (some ⟨w.heap.size,0,none⟩) n (grownCap w n 0 27)) (w.drew.alloc (.cells (Builtin.zeroCells z.cells n++Builtin.zeroCells z.cells (grownCap w n 0 27 - n)) 27)):=fun ty =>
  Lib.run_append_nil_zeros w 25 3 ty 27 i0 z .i64 .i64 Try.underlying25 Try.underlying3 hi0 hz0 n (by omega) (by omega) (by omega) (by rw [hb16];omega)
 have hsz:(Builtin.zeroCells z.cells n++Builtin.zeroCells z.cells (grownCap w n 0 27 - n)).size=grownCap w n 0 27*3:=by
  rw [Array.size_append,size_zeroCells,size_zeroCells,hzs'];omega
 obtain ⟨cur,hcur⟩:∃ cur,Builtin.zeroCells z.cells n++Builtin.zeroCells z.cells (grownCap w n 0 27 - n)=cur:=⟨_,rfl⟩
 rw [hcur] at hrz hsz
 obtain ⟨G,eG⟩:∃ G,grownCap w n 0 27=G:=⟨_,rfl⟩
 rw [eG] at hrz hG hGm hsz
 have hG63:G≤9223372036854775807:=by unfold maxLen at hGm;omega
 clear eG hcur hzs' hzs hz0 hi0 hz1 hs1 hb16 hby
 have n1:¬ ((n:Int)<0):=by omega
 have n2:(n:Int)>0:=by omega
 go_enter Try.func60,Try.ntmps60
 go_wp2_with (at_builtin;refine Lib.wpList_append_run _ rfl _ _ _ _ rfl _ _ rfl rfl _ _ (hrz _) ?_)
 all_goals go_ret
 all_goals exact ⟨_,rfl,World.ownsRow_made w.drew cur G (Nat.le_refl _) hGm hsz,((Below.refl _ w).drew).alloc (Nat.le_refl _) _⟩
theorem sum31 (xss:List (List DEc31)) (k:Nat) (h:k<xss.length):(xss.take (k+1)).flatten.length=(xss.take k).flatten.length+(xss.getD k []).length:=by
 rw [List.take_add_one,List.getD_eq_getElem?_getD,List.getElem?_eq_getElem h,List.flatten_append,List.length_append]
 simp
theorem sumle31 (xss:List (List DEc31)) (k:Nat):(xss.take k).flatten.length≤xss.flatten.length:=by
 conv=>rhs;rw [← List.take_append_drop k xss,List.flatten_append,List.length_append]
 omega
theorem fcslen31:∀ (x:List DEc31),(fcs TYc31 x).length=x.length*3
 | []=>rfl
 | a :: r=>by
  have:=fcslen31 r
  have e:fcs TYc31 (a :: r)=fcells TYc31 a++fcs TYc31 r:=rfl
  have e2:(fcells TYc31 a).length=3:=rfl
  rw [e,List.length_append,e2,List.length_cons,this]
  omega
theorem fcsuc31 (xss:List (List DEc31)) (k:Nat) (h:k<xss.length):fcs TYc31 (xss.take (k+1)).flatten=fcs TYc31 (xss.take k).flatten++fcs TYc31 (xss.getD k []):=by
 rw [List.take_add_one,List.getD_eq_getElem?_getD,List.getElem?_eq_getElem h,List.flatten_append]
 unfold fcs
 simp
def Src31 (w:World) (v:Value) (news:List Value) (m:Nat):Prop :=
 (v = .slice none 0 0∧m=0)∨(∃ ad c,v = .slice (some ad) m c∧m=0)∨∃ b' off' c,v = .slice (some ⟨b',off',none⟩) m c∧b'<w.heap.size∧∀ j u,news[j]? = some u→w.cell? ⟨b',off'+j,none⟩=some u
open Go.RowKit in
theorem app31 (hinfo:TIOk Try.prog 25 (tabGet tab 25)) {w wr:World} (base:Nat) {v:Value} {n:Nat} {xs:List Value} (ho:wr.ownsRow base 27 3 v n xs) (v2:Value) {m:Nat} (news:List Value) (hsrc:Src31 w v2 news m) (hbw:Below w.heap.size w wr) (hl:news.length=m*3) (h1:∀ u∈news,u.oneCell'=true)
  (hnm:n+m≤1048576) (hbase:base≤wr.heap.size) (hbelow:base=w.heap.size)
  {ops:Array Oper} {rest:List Oper} {o:Oper} {a:Act} {Q:Exit→Act→World→Prop} {s x:Operand} (hgd:o.guard=none) (hop:o.op = .call { callee := .builtin .append,args := #[s,x],argTypes := #[25,25] }) (hs:a.eval s=v) (hx:a.eval x=v2)
  (h:∀ v' w',w'.ownsRow base 27 3 v' (n+m) (xs++news)→Below w.heap.size w w'→wpList Try.prog ops Q rest (a.put o.dst v') w'):wpList Try.prog ops Q (o :: rest) a wr:=by
 obtain ⟨_,_,⟨_,⟨i0,hi0,hz1,z,hz0,hzs,_⟩⟩,hby⟩:=hinfo
 rw [hi0] at hby
 simp only [Option.map_some,Option.some.injEq] at hby
 have hzs':z.cells.size=3:=by rw [← Array.length_toList,hzs];rfl
 have hb16:i0.bytes=40:=hby
 have gr:∀ w',wr.grownBy w' v.ownBlock→Below w.heap.size w w':=fun w' hg=>hbw.grown hg hbw.size (fun g hg=>by
  rcases ho.2 with ⟨rfl,_⟩ | ⟨g',cap,cur,rfl,hb,_⟩
  ·cases hg
  ·cases hg;rw [hbelow] at hb;exact hb)
 rcases hsrc with ⟨rfl,rfl⟩ | ⟨ad,c,rfl,rfl⟩ | ⟨b',off',c,rfl,hb',hc⟩
 ·have hn:news=[]:=List.eq_nil_of_length_eq_zero (by omega)
  subst hn
  exact wpList_append_own_none hgd s x 25 hop base 27 i0 3 Try.underlying25 hi0 v n xs hs ho hx (h _ _ (by simpa using ho) hbw)
 ·have hn:news=[]:=List.eq_nil_of_length_eq_zero (by omega)
  subst hn
  exact wpList_append_own _ hgd s x 25 hop base 27 i0 z 3 i0.bytes Try.underlying25 hi0 hz0 hz1 rfl hzs' (by decide) v n xs hs ho ad 0 c [] hx hl (fun j u hj=>by simp at hj) h1 (by unfold maxLen;omega) (by rw [hb16];omega) hbase (fun v' w' h1 h2 _=>h v' w' h1 (gr w' h2))
 ·exact wpList_append_own _ hgd s x 25 hop base 27 i0 z 3 i0.bytes Try.underlying25 hi0 hz0 hz1 rfl hzs' (by decide) v n xs hs ho ⟨b',off',none⟩ m c news hx hl (fun j u hj=>by rw [Addr.add_lit];exact (World.cell?_of_block (hbw.block b' hb')).trans (hc j u hj)) h1 (by unfold maxLen;omega) (by rw [hb16];omega) hbase (fun v' w' h1 h2 _=>h v' w' h1 (gr w' h2))
theorem Src31.len {w:World} {v:Value} {news:List Value} {m:Nat} (h:Src31 w v news m):∃ a c,v = .slice a m c:=by
 rcases h with ⟨rfl,rfl⟩ | ⟨ad,c,rfl,rfl⟩ | ⟨b',off',c,rfl,_⟩
 ·exact ⟨_,_,rfl⟩
 ·exact ⟨_,_,rfl⟩
 ·exact ⟨_,_,rfl⟩
open Go.RowKit in
set_option maxHeartbeats 4000000 in
theorem walk31 (w:World) (b off cap:Nat) (xss:List (List DEc31)) (hb:b<w.heap.size) (hcap:xss.length≤cap) (hcm:cap≤maxLen)
  (hv:∀ k,k<xss.length→∃ v,w.cell? ⟨b,off+k,none⟩=some v∧Src31 w v (fcs TYc31 (xss.getD k [])) (xss.getD k []).length)
  (htot:xss.flatten.length≤1048576) (hn:xss.length≤1000) :
  Calls Try.prog 31 #[.slice (some ⟨b,off,none⟩) xss.length cap] w fun r w'=>∃ v',r = .returned v'∧w'.ownsRow w.heap.size 27 3 v' xss.flatten.length (fcs TYc31 xss.flatten)∧Below w.heap.size w w':=by
 have mixed:=mixed
 have HV:Aside (∀ k,k<xss.length→∃ v,w.cell? ⟨b,off+k,none⟩=some v∧Src31 w v (fcs TYc31 (xss.getD k [])) (xss.getD k []).length):=hv
 clear hv
 go_enter Try.func31,Try.ntmps31
 go_wp2
 go_loopw [11,3] (fun i s wr=>∃ k:Nat,k≤xss.length∧i = .int .i64 k∧s = .int .i64 ((xss.take k).flatten.length:Nat)∧w=wr) (fun i _ _=>xss.length - (intOf i).toNat)
 case atStart=>exact ⟨0,Nat.zero_le _,rfl,rfl,rfl⟩
 case round =>
  obtain ⟨k,hk,rfl,rfl,rfl⟩:=hrel
  by_cases hlt:k<xss.length
  ·obtain ⟨v2,q1,q2⟩:=HV.out k hlt
   obtain ⟨ad,c',rfl⟩:=q2.len
   have hsuc:=sum31 xss k hlt
   have hle:=sumle31 xss (k+1)
   clear q2
   have HS:Aside ((xss.take (k+1)).flatten.length=(xss.take k).flatten.length+(xss.getD k []).length):=hsuc
   have hAB:(((xss.take k).flatten.length:Nat):Int)+(((xss.getD k []).length:Nat):Int)≤1048576:=by omega
   have e2:¬ (((xss.take k).flatten.length:Nat):Int)+(((xss.getD k []).length:Nat):Int)<0:=by omega
   clear hsuc hle
   generalize (xss.take k).flatten.length=A at *
   generalize (xss.getD k []).length=B at *
   go_wp2
   refine ⟨⟨k+1,by omega,by simp,?_,trivial⟩,by simp [intOf];omega⟩
   rw [HS.out]
   simp
  ·have hkn:k=xss.length:=by omega
   subst hkn
   have ht:(xss.take xss.length).flatten.length=xss.flatten.length:=by rw [List.take_length]
   rw [ht]
   obtain ⟨N,hN⟩:∃ N,xss.flatten.length=N:=⟨_,rfl⟩
   rw [hN] at htot ht ⊢
   have HN:Aside (xss.flatten.length=N):=hN
   clear hN ht hlt
   go_wp2_with (go_at_call 60;refine (grow31 _ N htot).mono ?_;rintro e w3 ⟨v3,rfl,o3,b3⟩)
   have HO3:Aside (w3.ownsRow w.heap.size 27 3 v3 (xss.take 0).flatten.length (fcs TYc31 (xss.take 0).flatten)):=o3
   clear o3
   go_loopw [27,6] (fun i v wq=>∃ k:Nat,k≤xss.length∧i = .int .i64 k∧wq.ownsRow w.heap.size 27 3 v (xss.take k).flatten.length (fcs TYc31 (xss.take k).flatten)∧Below w.heap.size w wq) (fun i _ _=>xss.length - (intOf i).toNat)
   case atStart=>exact ⟨0,Nat.zero_le _,rfl,HO3.out,b3⟩
   case round =>
    obtain ⟨k,hk2,rfl,ho,hbw⟩:=hrel
    by_cases hlt:k<xss.length
    ·obtain ⟨v2,q1,q2⟩:=HV.out k hlt
     have hsuc:=sum31 xss k hlt
     have hle:=sumle31 xss (k+1)
     have ecs:=fcsuc31 xss k hlt
     have p1:wr.cell? ⟨b,off+k,none⟩=some v2:=(World.cell?_of_block (hbw.block b hb)).trans q1
     have Q1:Aside (∀ u∈fcs TYc31 (xss.getD k []),u.oneCell'=true):=fun u hu=>by
      obtain ⟨l,hl,hu⟩:=List.mem_flatten.1 hu
      obtain ⟨x,_,rfl⟩:=List.mem_map.1 hl
      exact fcells_one (t:=TYc31) rfl u hu
     have QS:Aside (Src31 w v2 (fcs TYc31 (xss.getD k [])) (xss.getD k []).length):=q2
     have QL:Aside ((fcs TYc31 (xss.getD k [])).length=(xss.getD k []).length*3):=fcslen31 _
     have HS:Aside ((xss.take (k+1)).flatten.length=(xss.take k).flatten.length+(xss.getD k []).length):=hsuc
     have HC:Aside (fcs TYc31 (xss.take (k+1)).flatten=fcs TYc31 (xss.take k).flatten++fcs TYc31 (xss.getD k [])):=ecs
     have hAB:(xss.take k).flatten.length+(xss.getD k []).length≤1048576:=by have:=HN.out;omega
     have HO:Aside (wr.ownsRow w.heap.size 27 3 u6 (xss.take k).flatten.length (fcs TYc31 (xss.take k).flatten)):=ho
     have HI:Aside (TIOk Try.prog 25 (tabGet tab 25)):=tabOk 25
     have HW:Aside (Below w.heap.size w wr):=hbw
     clear hsuc hle ecs q1 ho
     obtain ⟨ad,c',rfl⟩:=q2.len
     clear q2
     generalize xss.getD k []=X at *
     obtain ⟨L,hL⟩:∃ L,X.length=L:=⟨_,rfl⟩
     rw [hL] at p1 hAB
     have QS:Aside (Src31 w (.slice ad L c') (fcs TYc31 X) L):=by rw [← hL];rw [hL];exact hL ▸ QS.out
     have QL:Aside ((fcs TYc31 X).length=L*3):=by rw [← hL];exact QL.out
     have HS:Aside ((xss.take (k+1)).flatten.length=(xss.take k).flatten.length+L):=by rw [← hL];exact HS.out
     clear hL
     go_wp2_with (at_builtin;refine app31 (w:=w) HI.out w.heap.size HO.out _ _ QS.out HW.out QL.out Q1.out hAB hbw.size rfl rfl rfl rfl rfl ?_;intro v' w' hown hgrow)
     go_wp2
     refine ⟨⟨k+1,by omega,by simp,?_,hgrow⟩,by simp [intOf];omega⟩
     rw [HS.out,HC.out]
     exact hown
    ·have hkn:k=xss.length:=by omega
     subst hkn
     rw [List.take_length] at ho
     have HO:Aside (wr.ownsRow w.heap.size 27 3 u6 xss.flatten.length (fcs TYc31 xss.flatten)):=ho
     clear ho
     go_wp2
     go_ret
     exact ⟨_,rfl,HO.out,hbw⟩
def sig31:List AT:=[AT.v (Ty.sl (Ty.sl YA1))]
def g31_0 (x0:List (List TyB0)):List TyB0:=x0.flatten
def P31 (x0:List (List TyB0)):Prop:=x0.flatten.length≤1048576∧1≤x0.length∧x0.length≤1000
def S31:Am.Spec:={ sig:=sig31,pre:=fun ⟨x0,_⟩=>P31 x0,res:=fun ⟨x0,_⟩=>[⟨Ty.sl YA1,g31_0 x0⟩] }
open Go.RowKit in
theorem con31:Contract Try.prog 31 S31:=by
 refine Contract0.up rfl rfl ?_
 rintro w ⟨x0,u⟩ vs bss hgo hp ⟨v,s,b,bs,rfl,rfl,⟨rfl,ho⟩,rfl,rfl⟩ hnd
 obtain ⟨p1,p2,p3⟩:x0.flatten.length≤1048576∧1≤x0.length∧x0.length≤1000:=hp
 have hm:x0.flatten.length≤maxLen:=by unfold maxLen;omega
 have ho:SlAt w (Am.Good w ([[]]:List (List Nat)).flatten) (RepC w (Am.Good w ([[]]:List (List Nat)).flatten) (.sl TYc31)) 1 x0 v:=ho
 rcases ho.2 with ⟨ad,rfl,e⟩ | ⟨b0,off,cap,rfl,h1,h2,hG,hrow⟩
 ·rw [e] at p2;simp at p2
 have inner:∀ k,k<x0.length→(∀ x∈x0.getD k [],Wf TYc31 x)∧∃ v,w.cell? ⟨b0,off+k,none⟩=some v∧Src31 w v (fcs TYc31 (x0.getD k [])) (x0.getD k []).length:=fun k hk=>by
  have hg:x0[k]? = some (x0.getD k []):=by rw [List.getD_eq_getElem?_getD,List.getElem?_eq_getElem hk];rfl
  obtain ⟨cs,c1,c2,v',rfl,hs⟩:=hrow k _ hg
  have c0:=c2 0 v' rfl
  rw [Nat.mul_one,Nat.add_zero] at c0
  obtain ⟨hw,_,hcase⟩:=slAt_flat (t:=TYc31) rfl hs
  refine ⟨hw,v',c0,?_⟩
  rcases hcase with ⟨ad,rfl,e⟩ | ⟨b',off',cap',rfl,i2,i3,iG,ic⟩
  ·rw [e]
   cases ad with
   | none=>exact .inl ⟨rfl,rfl⟩
   | some ad=>exact .inr (.inl ⟨ad,0,rfl,rfl⟩)
  ·exact .inr (.inr ⟨b',off',cap',rfl,iG.1,ic⟩)
 have hw:∀ y∈x0.flatten,Wf TYc31 y:=fun y hy=>by
  obtain ⟨r,hr,hy⟩:=List.mem_flatten.1 hy
  obtain ⟨k,hk,rfl⟩:=List.mem_iff_getElem.1 hr
  refine (inner k hk).1 y ?_
  rw [List.getD_eq_getElem?_getD,List.getElem?_eq_getElem hk]
  exact hy
 refine (walk31 w b0 off cap x0 hG.1 h1 h2 (fun k hk=>(inner k hk).2) p1 p3).mono ?_
 rintro r w' ⟨v',rfl,g1,g2⟩
 obtain ⟨bs,k1,k2,k3⟩:=own_of_row (t:=TYc31) rfl hw hm g1
 refine ⟨[v'],[],[bs],rfl,Kept.of_below g2,⟨_,_,_,_,_,rfl,rfl,k1,rfl,rfl,rfl⟩,⟨rfl,rfl⟩,by simpa using k2,fun b hb hg => ?_⟩
 simp at hb
 have:=k3 b hb
 have:=hg.1
 omega
noncomputable section
def ext63:Ext:=[]
theorem ext63Ok:ExtOk Try.prog ext63:=trivial
noncomputable def b63:Code:=bodyOf Try.f63
theorem hb63:Try.f63.body=some b63:=by kernel_rfl
def sig63:List AT:=[AT.own .str]
def tys63:List Ty:=[.sl .str]
def kds63:List RK:=[]
def oks63:List AT:=owns sig63
def E63_4 (v3:Int) (x0:List ByteArray):Env:=[(0,.a (.osl 0 Option.none)),(3,.a (.val (.int .i64 v3)))]
def L63_4 (v3:Int) (x0:List ByteArray):Heap:=[Option.some (Arr.mk .str x0 false Option.none Option.none)]
def E63_9 (v3:Int) (v5:Int) (h0:List ByteArray) (v3a:Int) (x0:List ByteArray):Env:=[(0,.a (.osl 0 Option.none)),(3,.a (.val (.int .i64 v3))),(4,.a (.osl 0 (Option.some (0+Int.toNat v3a,0+Int.toNat (↑(List.length x0 - 0):Int))))),(5,.a (.val (.int .i64 v5)))]
def L63_9 (v3:Int) (v5:Int) (h0:List ByteArray) (v3a:Int) (x0:List ByteArray):Heap:=[Option.some (Arr.mk .str h0 false Option.none Option.none)]
mutual
def R63:Nat→List ByteArray→List Dyn→List (Option Lst)→Prop
 | 0,_,_,_=>False
 | n+1,x0,ds,us=>(if (decide ((x0.length:Int)<2))=true then (ds=[Dyn.mk (.sl .str) x0]∧us=[Option.none]) else (R63_4 n (1) (x0) ds us))
def R63_4:Nat→Int→List ByteArray→List Dyn→List (Option Lst)→Prop
 | 0,_,_,_,_=>False
 | n+1,v3,x0,ds,us=>(if (decide (v3<(x0.length:Int)))=true then ((0≤v3)∧(v3<(x0.length:Int))∧((InR .i64 (v3 - 1))∧((0≤v3 - 1)∧(v3 - 1<(x0.length:Int))∧(if (ByteArray.toList (List.getD x0 (Int.toNat v3) ByteArray.empty)==ByteArray.toList (List.getD x0 (Int.toNat (v3 - 1)) ByteArray.empty))=true then ((0≤v3)∧(v3≤(↑(List.length x0 - 0):Int))∧(R63_9 n (v3) (1) (x0) (v3) (x0) ds us)) else ((InR .i64 (v3+1))∧(R63_4 n (v3+1) (x0) ds us)))))) else (ds=[Dyn.mk (.sl .str) x0]∧us=[Option.none]))
def R63_9:Nat→Int→Int→List ByteArray→Int→List ByteArray→List Dyn→List (Option Lst)→Prop
 | 0,_,_,_,_,_,_,_=>False
 | n+1,v3,v5,h0,v3a,x0,ds,us=>(if (decide (v5<(↑(0+Int.toNat (↑(List.length x0 - 0):Int) - (0+Int.toNat v3a)):Int)))=true then ((0≤v5)∧(v5<(↑(0+Int.toNat (↑(List.length x0 - 0):Int) - (0+Int.toNat v3a)):Int))∧((InR .i64 (v5 - 1))∧((0≤v5 - 1)∧(v5 - 1<(↑(0+Int.toNat (↑(List.length x0 - 0):Int) - (0+Int.toNat v3a)):Int))∧(if (!ByteArray.toList (List.getD h0 (0+Int.toNat v3a+Int.toNat v5) ByteArray.empty)==ByteArray.toList (List.getD h0 (0+Int.toNat v3a+Int.toNat (v5 - 1)) ByteArray.empty))=true then ((0≤v5)∧(v5<(↑(0+Int.toNat (↑(List.length x0 - 0):Int) - (0+Int.toNat v3a)):Int))∧((0≤v3)∧(v3<(h0.length:Int))∧((InR .i64 (v3+1))∧((InR .i64 (v5+1))∧(R63_9 n (v3+1) (v5+1) (List.set h0 (Int.toNat v3) (List.getD h0 (0+Int.toNat v3a+Int.toNat v5) ByteArray.empty)) (v3a) (x0) ds us))))) else ((InR .i64 (v5+1))∧(R63_9 n (v3) (v5+1) (h0) (v3a) (x0) ds us)))))) else ((0≤v3)∧(v3≤(↑(List.length h0 - 0):Int))∧((0≤v3)∧(v3≤(↑(List.length (List.take (0+Int.toNat v3) h0++List.replicate (0+Int.toNat (↑(List.length h0 - 0):Int) - (0+Int.toNat v3)) ByteArray.empty++List.drop (0+Int.toNat (↑(List.length h0 - 0):Int)) h0) - 0):Int))∧(ds=[Dyn.mk (.sl .str) (List.drop 0 (List.take (0+Int.toNat v3) (List.take (0+Int.toNat v3) h0++List.replicate (0+Int.toNat (↑(List.length h0 - 0):Int) - (0+Int.toNat v3)) ByteArray.empty++List.drop (0+Int.toNat (↑(List.length h0 - 0):Int)) h0)))]∧us=[Option.none]))))
end
theorem snd63:∀ n,(∀ (x0:List ByteArray) ds us,R63 n x0 ds us→∀ K q,AtV Try.prog 63 (PostR kds63 oks63 ds us [0] q K) 61 K q [0] [.code b63] (entE 0 0 sig63 (x0,())) (entL sig63 (x0,())))∧(∀ (v3:Int) (x0:List ByteArray) ds us,R63_4 n v3 x0 ds us→∀ K q,AtV Try.prog 63 (PostR kds63 oks63 ds us [0] q K) 61 K q [0] (cutAt b63 4) (E63_4 v3 x0) (L63_4 v3 x0))∧(∀ (v3:Int) (v5:Int) (h0:List ByteArray) (v3a:Int) (x0:List ByteArray) ds us,R63_9 n v3 v5 h0 v3a x0 ds us→∀ K q,AtV Try.prog 63 (PostR kds63 oks63 ds us [0] q K) 61 K q [0] (cutAt b63 9) (E63_9 v3 v5 h0 v3a x0) (L63_9 v3 v5 h0 v3a x0)):=by
 intro n
 induction n with
 | zero=>exact ⟨fun _ _ _ h=>by simp only [R63] at h,fun _ _ _ _ h=>by simp only [R63_4] at h,fun _ _ _ _ _ _ _ h=>by simp only [R63_9] at h⟩
 | succ n ih =>
 obtain ⟨ih,ih4,ih9⟩:=ih
 refine ⟨?_,?_,?_⟩
 ·intro x0 ds us h K q
  rw [R63] at h
  by_cases b0:(decide ((x0.length:Int)<2))=true
  ·rw [if_pos b0] at h
   obtain ⟨h,h'⟩:=h;subst h;subst h'
   exact AtV.ret Try.func63 tabOk ext63Ok mixed false [] tys63 [true] (a1 b0 trivial) (by kernel_rfl)
  ·rw [if_neg b0] at h
   replace b0:=bf_ b0
   exact AtV.go tabOk ext63Ok mixed false [] [] [0,3] [0] [false] (a1 b0 trivial) (ih4 _ _ _ _ h K q) (by kernel_rfl)
 ·intro v3 x0 ds us h K q
  rw [R63_4] at h
  by_cases b0:(decide (v3<(x0.length:Int)))=true
  ·rw [if_pos b0] at h
   obtain ⟨s0,s1,h⟩:=h
   obtain ⟨s2,h⟩:=h
   obtain ⟨s3,s4,h⟩:=h
   by_cases b1:(ByteArray.toList (List.getD x0 (Int.toNat v3) ByteArray.empty)==ByteArray.toList (List.getD x0 (Int.toNat (v3 - 1)) ByteArray.empty))=true
   ·rw [if_pos b1] at h
    obtain ⟨s5,s6,h⟩:=h
    exact AtV.go tabOk ext63Ok mixed false [] [] [0,3,4,5] [0] [true,true] (a1 b0 (a1 s0 (a1 s1 (a1 s2 (a1 s3 (a1 s4 (a1 b1 (a1 s5 (a1 s6 trivial))))))))) (ih9 _ _ _ _ _ _ _ h K q) (by kernel_rfl)
   ·rw [if_neg b1] at h
    replace b1:=bf_ b1
    obtain ⟨s5,h⟩:=h
    exact AtV.go tabOk ext63Ok mixed false [] [] [0,3] [0] [true,false] (a1 b0 (a1 s0 (a1 s1 (a1 s2 (a1 s3 (a1 s4 (a1 b1 (a1 s5 trivial)))))))) (ih4 _ _ _ _ h K q) (by kernel_rfl)
  ·rw [if_neg b0] at h
   replace b0:=bf_ b0
   obtain ⟨h,h'⟩:=h;subst h;subst h'
   exact AtV.ret Try.func63 tabOk ext63Ok mixed false [] tys63 [false] (a1 b0 trivial) (by kernel_rfl)
 ·intro v3 v5 h0 v3a x0 ds us h K q
  rw [R63_9] at h
  by_cases b0:(decide (v5<(↑(0+Int.toNat (↑(List.length x0 - 0):Int) - (0+Int.toNat v3a)):Int)))=true
  ·rw [if_pos b0] at h
   obtain ⟨s0,s1,h⟩:=h
   obtain ⟨s2,h⟩:=h
   obtain ⟨s3,s4,h⟩:=h
   by_cases b1:(!ByteArray.toList (List.getD h0 (0+Int.toNat v3a+Int.toNat v5) ByteArray.empty)==ByteArray.toList (List.getD h0 (0+Int.toNat v3a+Int.toNat (v5 - 1)) ByteArray.empty))=true
   ·rw [if_pos b1] at h
    obtain ⟨s5,s6,h⟩:=h
    obtain ⟨s7,s8,h⟩:=h
    obtain ⟨s9,h⟩:=h
    obtain ⟨s10,h⟩:=h
    exact AtV.go tabOk ext63Ok mixed false [] [] [0,3,4,5] [0] [true,true] (a1 b0 (a1 s0 (a1 s1 (a1 s2 (a1 s3 (a1 s4 (a1 b1 (a1 s5 (a1 s6 (a1 s7 (a1 s8 (a1 s9 (a1 s10 trivial))))))))))))) (ih9 _ _ _ _ _ _ _ h K q) (by kernel_rfl)
   ·rw [if_neg b1] at h
    replace b1:=bf_ b1
    obtain ⟨s5,h⟩:=h
    exact AtV.go tabOk ext63Ok mixed false [] [] [0,3,4,5] [0] [true,false] (a1 b0 (a1 s0 (a1 s1 (a1 s2 (a1 s3 (a1 s4 (a1 b1 (a1 s5 trivial)))))))) (ih9 _ _ _ _ _ _ _ h K q) (by kernel_rfl)
  ·rw [if_neg b0] at h
   replace b0:=bf_ b0
   obtain ⟨s0,s1,h⟩:=h
   obtain ⟨s2,s3,h⟩:=h
   obtain ⟨h,h'⟩:=h;subst h;subst h'
   exact AtV.ret Try.func63 tabOk ext63Ok mixed false [] tys63 [false] (a1 b0 (a1 s0 (a1 s1 (a1 s2 (a1 s3 trivial))))) (by kernel_rfl)
def cp63:ByteArray→List ByteArray→List ByteArray
 | _,[]=>[]
 | p,y :: r=>if (ByteArray.toList y==ByteArray.toList p)=true then cp63 p r else y :: cp63 y r
def g63_0 (x0:List ByteArray):List ByteArray:=match x0 with
 | []=>[]
 | y :: r=>y :: cp63 y r
def P63 (x0:List ByteArray):Prop:=True
theorem go63 (x0:List ByteArray) (v3a:Nat) (hm:x0.length≤maxLen):∀ (k i j:Nat) (h:List ByteArray),j+k=x0.length→h.length=x0.length→1≤i→i<j→v3a+1≤j →
  (∀ q,j - 1≤q→q<x0.length→h.getD q ByteArray.empty=x0.getD q ByteArray.empty) →
  R63_9 (k+1) (i:Int) ((j:Int) - (v3a:Int)) h (v3a:Int) x0 [⟨.sl .str,h.take i++cp63 (x0.getD (j - 1) ByteArray.empty) (x0.drop j)⟩] [none]:=by
 have hmx:maxLen≤9223372036854775807:=by decide
 have z1:x0.length - 0=x0.length:=Nat.sub_zero _
 intro k
 induction k with
 | zero =>
  intro i j h hj hl hi hij hv hq
  rw [R63_9,if_neg (by simp only [decide_eq_true_eq,Int.toNat_natCast];omega)]
  have ed:x0.drop j=[]:=List.drop_eq_nil_of_le (by omega)
  have e0:h.length - 0=h.length:=Nat.sub_zero _
  rw [ed]
  simp only [Int.toNat_natCast,Nat.zero_add,List.drop_zero,cp63,List.append_nil,and_true]
  refine ⟨by omega,by omega,by omega,?_,?_⟩
  ·simp;omega
  ·rw [List.append_assoc,List.take_append_of_le_length (by simp;omega),List.take_take,Nat.min_self]
 | succ k ih =>
  intro i j h hj hl hi hij hv hq
  have hlt:j<x0.length:=by omega
  have e1:0+((v3a:Int)).toNat+((j:Int) - (v3a:Int)).toNat=j:=by omega
  have e2:0+((v3a:Int)).toNat+((j:Int) - (v3a:Int) - 1).toNat=j - 1:=by omega
  have e3:(j:Int) - (v3a:Int)+1=((j+1:Nat):Int) - (v3a:Int):=by omega
  have e4:(i:Int)+1=((i+1:Nat):Int):=by omega
  have q1:=hq j (by omega) hlt
  have q2:=hq (j - 1) (Nat.le_refl _) (by omega)
  have i1:InR .i64 ((j:Int) - (v3a:Int) - 1):=by rw [i64_iff];omega
  have i2:InR .i64 ((j:Int) - (v3a:Int)+1):=by rw [i64_iff];omega
  have i3:InR .i64 ((i:Int)+1):=by rw [i64_iff];omega
  have b1:(j:Int) - (v3a:Int)<((0+Int.toNat ((x0.length - 0:Nat):Int) - (0+Int.toNat (v3a:Int)):Nat):Int):=by omega
  rw [R63_9,if_pos (decide_eq_true b1)]
  refine ⟨by omega,b1,i1,by omega,by omega,?_⟩
  rw [e1,e2,q1,q2,drop_get x0 j ByteArray.empty hlt,cp63]
  by_cases c:(ByteArray.toList (x0.getD j ByteArray.empty)==ByteArray.toList (x0.getD (j - 1) ByteArray.empty))=true
  ·rw [if_neg (by rw [c];decide),if_pos c]
   have h1:=ih i (j+1) h (by omega) hl hi (by omega) (by omega) (fun q h1 h2=>hq q (by omega) h2)
   rw [show j+1 - 1=j by omega,(bytes_eq _ _).1 c, ← e3] at h1
   exact ⟨i2,h1⟩
  ·rw [if_pos (by rw [bf_ c];rfl),if_neg c]
   have hn:∀ q,j≤q→q<x0.length→(h.set i (x0.getD j ByteArray.empty)).getD q ByteArray.empty=x0.getD q ByteArray.empty:=fun q h1 h2=>by
    rw [List.getD_eq_getElem?_getD,List.getElem?_set_ne (by omega), ← List.getD_eq_getElem?_getD]
    exact hq q (by omega) h2
   have h1:=ih (i+1) (j+1) (h.set i (x0.getD j ByteArray.empty)) (by omega) (by rw [List.length_set];exact hl) (by omega) (by omega) (by omega) (fun q h1 h2=>hn q (by omega) h2)
   rw [show j+1 - 1=j by omega, ← e3, ← e4] at h1
   have et:(h.set i (x0.getD j ByteArray.empty)).take (i+1)=h.take i++[x0.getD j ByteArray.empty]:=by
    rw [List.take_add_one,List.take_set_of_le (Nat.le_refl _),List.getElem?_set_self (by omega)];rfl
   rw [et,List.append_assoc] at h1
   simp only [Int.toNat_natCast]
   exact ⟨by omega,by omega,by omega,by omega,i3,i2,h1⟩
theorem find63 (x0:List ByteArray) (hm:x0.length≤maxLen):∀ (k i:Nat),i+k=x0.length→1≤i→(x0.take i++cp63 (x0.getD (i - 1) ByteArray.empty) (x0.drop i))=g63_0 x0→∃ n,R63_4 n (i:Int) x0 [⟨.sl .str,g63_0 x0⟩] [none]:=by
 have hmx:maxLen≤9223372036854775807:=by decide
 intro k
 induction k with
 | zero =>
  intro i hi h1 hg
  refine ⟨1,?_⟩
  rw [R63_4,if_neg (by simp only [decide_eq_true_eq];omega)]
  rw [List.drop_eq_nil_of_le (by omega),List.take_of_length_le (by omega)] at hg
  simp only [cp63,List.append_nil] at hg
  rw [← hg]
  exact ⟨rfl,rfl⟩
 | succ k ih =>
  intro i hi h1 hg
  have hlt:i<x0.length:=by omega
  have e1:((i:Int) - 1).toNat=i - 1:=by omega
  have e4:(i:Int)+1=((i+1:Nat):Int):=by omega
  have i1:InR .i64 ((i:Int) - 1):=by rw [i64_iff];omega
  by_cases c:(ByteArray.toList (x0.getD i ByteArray.empty)==ByteArray.toList (x0.getD (i - 1) ByteArray.empty))=true
  ·have hr:=go63 x0 i hm k i (i+1) x0 (by omega) rfl h1 (by omega) (Nat.le_refl _) (fun q _ _=>rfl)
   have ee:(((i+1:Nat):Int) - (i:Int))=1:=by omega
   rw [ee,show i+1 - 1=i by omega] at hr
   have eg:x0.take i++cp63 (x0.getD i ByteArray.empty) (x0.drop (i+1))=g63_0 x0:=by
    rw [← hg,drop_get x0 i ByteArray.empty hlt,cp63,if_pos c,(bytes_eq _ _).1 c]
   rw [eg] at hr
   refine ⟨k+1+1,?_⟩
   rw [R63_4,if_pos (by simp only [decide_eq_true_eq];omega)]
   simp only [Int.toNat_natCast,e1]
   rw [if_pos c]
   exact ⟨by omega,by omega,i1,by omega,by omega,by omega,by omega,hr⟩
  ·obtain ⟨n,hn⟩:=ih (i+1) (by omega) (by omega) (by
    rw [← hg,show i+1 - 1=i by omega,drop_get x0 i ByteArray.empty hlt,cp63,if_neg c,List.take_add_one,List.getElem?_eq_getElem hlt,List.append_assoc,getD_lt x0 i _ hlt]
    rfl)
   refine ⟨n+1,?_⟩
   rw [R63_4,if_pos (by simp only [decide_eq_true_eq];omega)]
   simp only [Int.toNat_natCast,e1]
   rw [if_neg c,e4]
   exact ⟨by omega,by omega,i1,by omega,by omega,by rw [i64_iff];omega,hn⟩
theorem top63 (x0:List ByteArray) (hm:x0.length≤maxLen):∃ n,R63 n x0 [⟨.sl .str,g63_0 x0⟩] [none]:=by
 match x0,hm with
 | [],_=>exact ⟨1,by rw [R63,if_pos (by decide)];exact ⟨rfl,rfl⟩⟩
 | y :: r,hm =>
  by_cases c:decide (((y :: r).length:Int)<2)=true
  ·have hr:r=[]:=by
    have:=of_decide_eq_true c
    simp only [List.length_cons] at this
    exact List.eq_nil_of_length_eq_zero (by omega)
   subst hr
   exact ⟨1,by rw [R63,if_pos c];exact ⟨rfl,rfl⟩⟩
  ·obtain ⟨n,hn⟩:=find63 (y :: r) hm r.length 1 (by simp only [List.length_cons];omega) (Nat.le_refl _) (by rfl)
   exact ⟨n+1,by rw [R63,if_neg c];exact hn⟩
def S63:Am.Spec:={ sig:=sig63,pre:=fun ⟨x0,_⟩=>P63 x0,upd:=fun ⟨x0,_⟩=>[none],res:=fun ⟨x0,_⟩=>[⟨.sl .str,g63_0 x0⟩] }
theorem con63:Contract Try.prog 63 S63:=contract_of Try.func63 hb63 (bl_ (by kernel_rfl)) (fun ⟨x0,_⟩ h hwf K q =>
 let ⟨n,hn⟩:=top63 x0 hwf.1.1
 (snd63 n).1 x0 _ _ hn K q)
end
noncomputable section
def ext66:Ext:=[(67,S67)]
theorem ext66Ok:ExtOk Try.prog ext66:=⟨⟨ca67,con67⟩,trivial⟩
noncomputable def b66:Code:=bodyOf Try.f66
theorem hb66:Try.f66.body=some b66:=by kernel_rfl
def sig66:List AT:=[AT.v YA1,AT.p .str,AT.p (.int .i64),AT.p (.sl .str)]
def tys66:List Ty:=[.bool]
def kds66:List RK:=[]
def oks66:List AT:=owns sig66
def P66 (x0:ByteArray×ByteArray×Int×Unit) (x1:ByteArray) (x2:Int) (x3:List ByteArray):Prop:=True
def g66_0 (x0:ByteArray×ByteArray×Int×Unit) (x1:ByteArray) (x2:Int) (x3:List ByteArray):Bool:=(if (ByteArray.toList x0.2.1==ByteArray.toList x1)=true then (if (decide (x0.2.2.1≥x2))=true then g67_0 x3 x0.1 else false) else false)
theorem at66 (x0:ByteArray×ByteArray×Int×Unit) (x1:ByteArray) (x2:Int) (x3:List ByteArray) (h:P66 x0 x1 x2 x3) (K:Ctx) (q:Nat→Value):AtV Try.prog 66 (PostR kds66 oks66 [⟨.bool,g66_0 x0 x1 x2 x3⟩] [] [] q K) 22 K q [] [.code b66] (entE 0 0 sig66 (x0,x1,x2,x3,())) (entL sig66 (x0,x1,x2,x3,())):=by
 unfold P66 at h
 unfold g66_0
 by_cases b0:(ByteArray.toList x0.2.1==ByteArray.toList x1)=true
 ·try simp only [if_pos b0] at h ⊢
  by_cases b1:(decide (x0.2.2.1≥x2))=true
  ·try simp only [if_pos b1] at h ⊢
   exact AtV.ret Try.func66 tabOk ext66Ok mixed false [] tys66 [true,true] (a1 b0 (a1 b1 (a1 trivial trivial))) (by kernel_rfl)
  ·try simp only [if_neg b1] at h ⊢
   replace b1:=bf_ b1
   exact AtV.ret Try.func66 tabOk ext66Ok mixed false [] tys66 [true,false] (a1 b0 (a1 b1 trivial)) (by kernel_rfl)
 ·try simp only [if_neg b0] at h ⊢
  replace b0:=bf_ b0
  exact AtV.ret Try.func66 tabOk ext66Ok mixed false [] tys66 [false,false] (a1 b0 (a1 (rfl:false=false) trivial)) (by kernel_rfl)
def S66:Am.Spec:={ sig:=sig66,pre:=fun ⟨x0,x1,x2,x3,_⟩=>P66 x0 x1 x2 x3,res:=fun ⟨x0,x1,x2,x3,_⟩=>[⟨.bool,g66_0 x0 x1 x2 x3⟩],kds:=kds66 }
theorem con66:Contract Try.prog 66 S66:=contract_of Try.func66 hb66 (bl_ (by kernel_rfl)) (fun ⟨x0,x1,x2,x3,_⟩ h _ K q=>at66 x0 x1 x2 x3 h K q)
end
noncomputable section
def ext81c66:Ext:=[(66,S66)]
theorem ext81c66Ok:ExtOk Try.prog ext81c66:=⟨⟨ca66,con66⟩,trivial⟩
noncomputable def b81c66:Code:=bodyOf Try.f81
theorem hb81c66:Try.f81.body=some b81c66:=by kernel_rfl
def sig81c66:List AT:=[AT.v (.sl YA1),AT.fn 66 [(true,.str),(true,(.int .i64)),(true,(.sl .str))]]
def tys81c66:List Ty:=[.int .i64]
def kds81c66:List RK:=[]
def oks81c66:List AT:=owns sig81c66
def E81c66_2 (v8:Int) (x0:List TyB0) (x1:ByteArray) (x1c:Int) (x1cc:List ByteArray):Env:=[(0,.a (.sl YA1 x0)),(1,PV.fn 66 [Atom.ptr .str x1,Atom.ptr (.int .i64) x1c,Atom.ptr (.sl .str) x1cc]),(7,.a (.val (.int .i64 (x0.length:Int)))),(8,.a (.val (.int .i64 v8)))]
def L81c66_2 (v8:Int) (x0:List TyB0) (x1:ByteArray) (x1c:Int) (x1cc:List ByteArray):Heap:=[]
mutual
def R81c66:Nat→List TyB0→ByteArray→Int→List ByteArray→List Dyn→Prop
 | 0,_,_,_,_,_=>False
 | n+1,x0,x1,x1c,x1cc,ds=>(R81c66_2 n (0) (x0) (x1) (x1c) (x1cc) ds)
def R81c66_2:Nat→Int→List TyB0→ByteArray→Int→List ByteArray→List Dyn→Prop
 | 0,_,_,_,_,_,_=>False
 | n+1,v8,x0,x1,x1c,x1cc,ds=>(if (decide (v8<(x0.length:Int)))=true then ((0≤v8)∧(v8<(x0.length:Int))∧(if (g66_0 (List.getD x0 (Int.toNat v8) (ByteArray.empty,ByteArray.empty,0,())) x1 x1c x1cc)=true then (ds=[Dyn.mk (.int .i64) v8]) else ((InR .i64 (v8+1))∧(R81c66_2 n (v8+1) (x0) (x1) (x1c) (x1cc) ds)))) else (ds=[Dyn.mk (.int .i64) (-1)]))
end
theorem snd81c66:∀ n,(∀ (x0:List TyB0) (x1:ByteArray) (x1c:Int) (x1cc:List ByteArray) ds,R81c66 n x0 x1 x1c x1cc ds→∀ K q,AtV Try.prog 81 (PostR kds81c66 oks81c66 ds [] [] q K) 19 K q [] [.code b81c66] (entE 0 0 sig81c66 (x0,(x1,x1c,x1cc,()),())) (entL sig81c66 (x0,(x1,x1c,x1cc,()),())))∧(∀ (v8:Int) (x0:List TyB0) (x1:ByteArray) (x1c:Int) (x1cc:List ByteArray) ds,R81c66_2 n v8 x0 x1 x1c x1cc ds→∀ K q,AtV Try.prog 81 (PostR kds81c66 oks81c66 ds [] [] q K) 19 K q [] (cutAt b81c66 2) (E81c66_2 v8 x0 x1 x1c x1cc) (L81c66_2 v8 x0 x1 x1c x1cc)):=by
 intro n
 induction n with
 | zero=>exact ⟨fun _ _ _ _ _ h=>by simp only [R81c66] at h,fun _ _ _ _ _ _ h=>by simp only [R81c66_2] at h⟩
 | succ n ih =>
 obtain ⟨ih,ih2⟩:=ih
 refine ⟨?_,?_⟩
 ·intro x0 x1 x1c x1cc ds h K q
  rw [R81c66] at h
  exact AtV.go tabOk ext81c66Ok mixed false [] [] [0,1,7,8] [] [] trivial (ih2 _ _ _ _ _ _ h K q) (by kernel_rfl)
 ·intro v8 x0 x1 x1c x1cc ds h K q
  rw [R81c66_2] at h
  by_cases b0:(decide (v8<(x0.length:Int)))=true
  ·rw [if_pos b0] at h
   obtain ⟨s0,s1,h⟩:=h
   by_cases b1:(g66_0 (List.getD x0 (Int.toNat v8) (ByteArray.empty,ByteArray.empty,0,())) x1 x1c x1cc)=true
   ·rw [if_pos b1] at h
    subst h
    exact AtV.ret Try.func81 tabOk ext81c66Ok mixed false [] tys81c66 [true,true] (a1 b0 (a1 s0 (a1 s1 (a1 trivial (a1 b1 trivial))))) (by kernel_rfl)
   ·rw [if_neg b1] at h
    replace b1:=bf_ b1
    obtain ⟨s2,h⟩:=h
    exact AtV.go tabOk ext81c66Ok mixed false [] [] [0,1,7,8] [] [true,false] (a1 b0 (a1 s0 (a1 s1 (a1 trivial (a1 b1 (a1 s2 trivial)))))) (ih2 _ _ _ _ _ _ h K q) (by kernel_rfl)
  ·rw [if_neg b0] at h
   replace b0:=bf_ b0
   subst h
   exact AtV.ret Try.func81 tabOk ext81c66Ok mixed false [] tys81c66 [false] (a1 b0 trivial) (by kernel_rfl)
def g81c66_0 (x0:List TyB0) (y0:ByteArray) (y1:Int) (y2:List (ByteArray)):Int:=idx (x0.findIdx? (fun x=>g66_0 x y0 y1 y2))
def P81c66 (x0:List TyB0) (y0:ByteArray) (y1:Int) (y2:List (ByteArray)):Prop:=True
theorem top81c66 (x0:List TyB0) (y0:ByteArray) (y1:Int) (y2:List (ByteArray)) (hm:x0.length≤maxLen):R81c66 (x0.length+1+1) x0 y0 y1 y2 [⟨.int .i64,g81c66_0 x0 y0 y1 y2⟩]:=by
 rw [R81c66]
 have key:=loop_find x0 (ByteArray.empty,ByteArray.empty,(0:Int),()) (fun x=>g66_0 x y0 y1 y2) [(⟨.int .i64, -1⟩:Dyn)] (fun k=>[⟨.int .i64,k⟩]) (fun n i ds=>R81c66_2 n i x0 y0 y1 y2 ds) (fun n => ?_) (fun n i hi hok ds hr => ?_) (fun n i hi hok => ?_)
 ·unfold g81c66_0
  cases h:x0.findIdx? (fun x=>g66_0 x y0 y1 y2) <;> rw [h] at key <;> exact key
 ·rw [R81c66_2,if_neg (by simp)]
 ·rw [R81c66_2,if_pos (by simp;omega)]
  simp only [Int.toNat_natCast]
  refine ⟨by omega,by omega,?_⟩
  rw [if_neg (by rw [hok];simp)]
  exact ⟨inR_up hm hi,hr⟩
 ·rw [R81c66_2,if_pos (by simp;omega)]
  simp only [Int.toNat_natCast]
  refine ⟨by omega,by omega,?_⟩
  rw [if_pos hok] <;> trivial
def S81c66:Am.Spec:={ sig:=sig81c66,pre:=fun ⟨x0,⟨y0,y1,y2,_⟩,_⟩=>P81c66 x0 y0 y1 y2,res:=fun ⟨x0,⟨y0,y1,y2,_⟩,_⟩=>[⟨.int .i64,g81c66_0 x0 y0 y1 y2⟩] }
theorem con81c66:Contract Try.prog 81 S81c66:=contract_of Try.func81 hb81c66 (bl_ (by kernel_rfl)) (fun ⟨x0,⟨y0,y1,y2,_⟩,_⟩ h hwf K q =>
 (snd81c66 _).1 x0 y0 y1 y2 _ (top81c66 x0 y0 y1 y2 hwf.1.1) K q)
theorem any81c66 (x0:List TyB0) (y0:ByteArray) (y1:Int) (y2:List (ByteArray)):decide (g81c66_0 x0 y0 y1 y2≥0)=x0.any (fun x=>g66_0 x y0 y1 y2):=by
 have:=findIdx_any (fun x=>g66_0 x y0 y1 y2) x0
 unfold g81c66_0
 cases h:x0.any (fun x=>g66_0 x y0 y1 y2) with
 | true=>rw [h] at this;simpa using this
 | false=>rw [h] at this;simpa using this
end
noncomputable section
def ext65c66:Ext:=[(81,S81c66),(66,S66)]
theorem ext65c66Ok:ExtOk Try.prog ext65c66:=⟨⟨ca81,con81c66⟩,⟨ca66,con66⟩,trivial⟩
noncomputable def b65c66:Code:=bodyOf Try.f65
theorem hb65c66:Try.f65.body=some b65c66:=by kernel_rfl
def sig65c66:List AT:=[AT.v (.sl YA1),AT.fn 66 [(true,.str),(true,(.int .i64)),(true,(.sl .str))]]
def tys65c66:List Ty:=[.bool]
def kds65c66:List RK:=[]
def oks65c66:List AT:=owns sig65c66
def P65c66 (x0:List TyB0) (x1:ByteArray) (x1c:Int) (x1cc:List ByteArray):Prop:=True
def g65c66_0 (x0:List TyB0) (x1:ByteArray) (x1c:Int) (x1cc:List ByteArray):Bool:=decide (g81c66_0 x0 x1 x1c x1cc≥0)
theorem at65c66 (x0:List TyB0) (x1:ByteArray) (x1c:Int) (x1cc:List ByteArray) (h:P65c66 x0 x1 x1c x1cc) (K:Ctx) (q:Nat→Value):AtV Try.prog 65 (PostR kds65c66 oks65c66 [⟨.bool,g65c66_0 x0 x1 x1c x1cc⟩] [] [] q K) 9 K q [] [.code b65c66] (entE 0 0 sig65c66 (x0,(x1,x1c,x1cc,()),())) (entL sig65c66 (x0,(x1,x1c,x1cc,()),())):=by
 unfold P65c66 at h
 unfold g65c66_0
 exact AtV.ret Try.func65 tabOk ext65c66Ok mixed false [] tys65c66 [] (a1 trivial trivial) (by kernel_rfl)
def S65c66:Am.Spec:={ sig:=sig65c66,pre:=fun ⟨x0,⟨x1,x1c,x1cc,_⟩,_⟩=>P65c66 x0 x1 x1c x1cc,res:=fun ⟨x0,⟨x1,x1c,x1cc,_⟩,_⟩=>[⟨.bool,g65c66_0 x0 x1 x1c x1cc⟩],kds:=kds65c66 }
theorem con65c66:Contract Try.prog 65 S65c66:=contract_of Try.func65 hb65c66 (bl_ (by kernel_rfl)) (fun ⟨x0,⟨x1,x1c,x1cc,_⟩,_⟩ h _ K q=>at65c66 x0 x1 x1c x1cc h K q)
end
noncomputable section
def ext39:Ext:=[(64,S64),(52,S52),(65,S65c66)]
theorem ext39Ok:ExtOk Try.prog ext39:=⟨⟨ca64,con64⟩,⟨ca52,con52⟩,⟨ca65,con65c66⟩,trivial⟩
noncomputable def b39:Code:=bodyOf Try.f39
theorem hb39:Try.f39.body=some b39:=by kernel_rfl
def sig39:List AT:=[AT.v (.sl YA3),AT.v (.sl YA1),AT.v (.str),AT.v (.str),AT.v (.int .i64)]
def tys39:List Ty:=[.bool]
def kds39:List RK:=[]
def oks39:List AT:=owns sig39
def P39 (x0:List (ByteArray×List ByteArray×Unit)) (x1:List TyB0) (x2:ByteArray) (x3:ByteArray) (x4:Int):Prop:=((P64 x0 x2)∧(((List.length (g64_0 x0 x2)+1)*16≤140737488355328)∧True))
def g39_0 (x0:List (ByteArray×List ByteArray×Unit)) (x1:List TyB0) (x2:ByteArray) (x3:ByteArray) (x4:Int):Bool:=(if (g52_0 x4)=true then g65c66_0 x1 x3 x4 (g64_0 x0 x2++[x2]) else false)
theorem at39 (x0:List (ByteArray×List ByteArray×Unit)) (x1:List TyB0) (x2:ByteArray) (x3:ByteArray) (x4:Int) (h:P39 x0 x1 x2 x3 x4) (K:Ctx) (q:Nat→Value):AtV Try.prog 39 (PostR kds39 oks39 [⟨.bool,g39_0 x0 x1 x2 x3 x4⟩] [] [] q K) 25 K q [] [.code b39] (entE 0 0 sig39 (x0,x1,x2,x3,x4,())) (entL sig39 (x0,x1,x2,x3,x4,())):=by
 unfold P39 at h
 unfold g39_0
 obtain ⟨s0,h⟩:=h
 obtain ⟨s1,h⟩:=h
 by_cases b0:(g52_0 x4)=true
 ·try simp only [if_pos b0] at h ⊢
  exact AtV.ret Try.func39 tabOk ext39Ok mixed false [] tys39 [true] (a1 s0 (a1 s1 (a1 trivial (a1 b0 (a1 trivial trivial))))) (by kernel_rfl)
 ·try simp only [if_neg b0] at h ⊢
  replace b0:=bf_ b0
  exact AtV.ret Try.func39 tabOk ext39Ok mixed false [] tys39 [false] (a1 s0 (a1 s1 (a1 trivial (a1 b0 trivial)))) (by kernel_rfl)
def S39:Am.Spec:={ sig:=sig39,pre:=fun ⟨x0,x1,x2,x3,x4,_⟩=>P39 x0 x1 x2 x3 x4,res:=fun ⟨x0,x1,x2,x3,x4,_⟩=>[⟨.bool,g39_0 x0 x1 x2 x3 x4⟩],kds:=kds39 }
theorem con39:Contract Try.prog 39 S39:=contract_of Try.func39 hb39 (bl_ (by kernel_rfl)) (fun ⟨x0,x1,x2,x3,x4,_⟩ h _ K q=>at39 x0 x1 x2 x3 x4 h K q)
end
noncomputable section
def ext35:Ext:=[(62,S62),(63,S63),(39,S39)]
theorem ext35Ok:ExtOk Try.prog ext35:=⟨⟨ca62,con62⟩,⟨ca63,con63⟩,⟨ca39,con39⟩,trivial⟩
noncomputable def b35:Code:=bodyOf Try.f35
theorem hb35:Try.f35.body=some b35:=by kernel_rfl
def sig35:List AT:=[AT.v (.sl YA3),AT.v (.sl YA1),AT.v (.str)]
def tys35:List Ty:=[.sl YA1]
def kds35:List RK:=[]
def oks35:List AT:=owns sig35
def E35_3 (v16:Int) (h0:List ByteArray) (x0:List (ByteArray×List ByteArray×Unit)) (x1:List TyB0) (x2:ByteArray):Env:=[(0,.a (.sl YA3 x0)),(1,.a (.sl YA1 x1)),(2,.a (.val (.string x2))),(7,.a (.osl 0 Option.none)),(14,.a (.sl YA1 x1)),(15,.a (.val (.int .i64 (x1.length:Int)))),(16,.a (.val (.int .i64 v16)))]
def L35_3 (v16:Int) (h0:List ByteArray) (x0:List (ByteArray×List ByteArray×Unit)) (x1:List TyB0) (x2:ByteArray):Heap:=[Option.some (Arr.mk .str h0 false Option.none Option.none)]
def E35_10 (v31:Int) (h0:List TyB0) (x0:List (ByteArray×List ByteArray×Unit)) (x1:List TyB0) (x2:ByteArray) (h0a:List ByteArray):Env:=[(0,.a (.sl YA3 x0)),(1,.a (.sl YA1 x1)),(2,.a (.val (.string x2))),(10,.a (.osl 0 Option.none)),(29,.a (.osl 1 Option.none)),(30,.a (.val (.int .i64 (↑(List.length (g63_0 (u62_0 h0a))):Int)))),(31,.a (.val (.int .i64 v31)))]
def L35_10 (v31:Int) (h0:List TyB0) (x0:List (ByteArray×List ByteArray×Unit)) (x1:List TyB0) (x2:ByteArray) (h0a:List ByteArray):Heap:=[Option.some (Arr.mk YA1 h0 false Option.none Option.none),Option.some (Arr.mk .str (g63_0 (u62_0 h0a)) false Option.none Option.none)]
def E35_13 (v13:Int) (h0:List TyB0) (x0:List (ByteArray×List ByteArray×Unit)) (x1:List TyB0) (x2:ByteArray) (h0a:List ByteArray) (v31:Int):Env:=[(0,.a (.sl YA3 x0)),(1,.a (.sl YA1 x1)),(2,.a (.val (.string x2))),(10,.a (.osl 0 Option.none)),(12,.a (.val (.string (List.getD (g63_0 (u62_0 h0a)) (Int.toNat v31) ByteArray.empty)))),(13,.a (.val (.int .i64 v13))),(29,.a (.osl 1 Option.none)),(30,.a (.val (.int .i64 (↑(List.length (g63_0 (u62_0 h0a))):Int)))),(31,.a (.val (.int .i64 v31)))]
def L35_13 (v13:Int) (h0:List TyB0) (x0:List (ByteArray×List ByteArray×Unit)) (x1:List TyB0) (x2:ByteArray) (h0a:List ByteArray) (v31:Int):Heap:=[Option.some (Arr.mk YA1 h0 false Option.none Option.none),Option.some (Arr.mk .str (g63_0 (u62_0 h0a)) false Option.none Option.none)]
mutual
def R35:Nat→List (ByteArray×List ByteArray×Unit)→List TyB0→ByteArray→List Dyn→Prop
 | 0,_,_,_,_=>False
 | n+1,x0,x1,x2,ds=>(R35_3 n (0) ([]) (x0) (x1) (x2) ds)
def R35_3:Nat→Int→List ByteArray→List (ByteArray×List ByteArray×Unit)→List TyB0→ByteArray→List Dyn→Prop
 | 0,_,_,_,_,_,_=>False
 | n+1,v16,h0,x0,x1,x2,ds=>(if (decide (v16<(x1.length:Int)))=true then ((0≤v16)∧(v16<(x1.length:Int))∧(((List.length h0+1)*16≤140737488355328)∧((InR .i64 (v16+1))∧(R35_3 n (v16+1) (h0++[(List.getD x1 (Int.toNat v16) (ByteArray.empty,ByteArray.empty,0,())).2.1]) (x0) (x1) (x2) ds)))) else ((P62 h0)∧(List.length (u62_0 h0)=List.length h0)∧(R35_10 n (0) ([]) (x0) (x1) (x2) (h0) ds)))
def R35_10:Nat→Int→List TyB0→List (ByteArray×List ByteArray×Unit)→List TyB0→ByteArray→List ByteArray→List Dyn→Prop
 | 0,_,_,_,_,_,_,_=>False
 | n+1,v31,h0,x0,x1,x2,h0a,ds=>(if (decide (v31<(↑(List.length (g63_0 (u62_0 h0a))):Int)))=true then ((0≤v31)∧(v31<(↑(List.length (g63_0 (u62_0 h0a))):Int))∧(R35_13 n (1) (h0) (x0) (x1) (x2) (h0a) (v31) ds)) else (ds=[Dyn.mk (.sl YA1) h0]))
def R35_13:Nat→Int→List TyB0→List (ByteArray×List ByteArray×Unit)→List TyB0→ByteArray→List ByteArray→Int→List Dyn→Prop
 | 0,_,_,_,_,_,_,_,_=>False
 | n+1,v13,h0,x0,x1,x2,h0a,v31,ds=>(if (decide (v13≤3))=true then ((P39 x0 x1 x2 (List.getD (g63_0 (u62_0 h0a)) (Int.toNat v31) ByteArray.empty) v13)∧(if (g39_0 x0 x1 x2 (List.getD (g63_0 (u62_0 h0a)) (Int.toNat v31) ByteArray.empty) v13)=true then (((List.length h0+1)*40≤140737488355328)∧((InR .i64 (v13+1))∧(R35_13 n (v13+1) (h0++[(x2,List.getD (g63_0 (u62_0 h0a)) (Int.toNat v31) ByteArray.empty,v13,())]) (x0) (x1) (x2) (h0a) (v31) ds))) else ((InR .i64 (v13+1))∧(R35_13 n (v13+1) (h0) (x0) (x1) (x2) (h0a) (v31) ds)))) else ((InR .i64 (v31+1))∧(R35_10 n (v31+1) (h0) (x0) (x1) (x2) (h0a) ds)))
end
theorem snd35:∀ n,(∀ (x0:List (ByteArray×List ByteArray×Unit)) (x1:List TyB0) (x2:ByteArray) ds,R35 n x0 x1 x2 ds→∀ K q,AtV Try.prog 35 (PostR kds35 oks35 ds [] [] q K) 54 K q [] [.code b35] (entE 0 0 sig35 (x0,x1,x2,())) (entL sig35 (x0,x1,x2,())))∧(∀ (v16:Int) (h0:List ByteArray) (x0:List (ByteArray×List ByteArray×Unit)) (x1:List TyB0) (x2:ByteArray) ds,R35_3 n v16 h0 x0 x1 x2 ds→∀ K q,AtV Try.prog 35 (PostR kds35 oks35 ds [] [] q K) 54 K q [] (cutAt b35 3) (E35_3 v16 h0 x0 x1 x2) (L35_3 v16 h0 x0 x1 x2))∧(∀ (v31:Int) (h0:List TyB0) (x0:List (ByteArray×List ByteArray×Unit)) (x1:List TyB0) (x2:ByteArray) (h0a:List ByteArray) ds,R35_10 n v31 h0 x0 x1 x2 h0a ds→∀ K q,AtV Try.prog 35 (PostR kds35 oks35 ds [] [] q K) 54 K q [] (cutAt b35 10) (E35_10 v31 h0 x0 x1 x2 h0a) (L35_10 v31 h0 x0 x1 x2 h0a))∧(∀ (v13:Int) (h0:List TyB0) (x0:List (ByteArray×List ByteArray×Unit)) (x1:List TyB0) (x2:ByteArray) (h0a:List ByteArray) (v31:Int) ds,R35_13 n v13 h0 x0 x1 x2 h0a v31 ds→∀ K q,AtV Try.prog 35 (PostR kds35 oks35 ds [] [] q K) 54 K q [] (cutAt b35 13) (E35_13 v13 h0 x0 x1 x2 h0a v31) (L35_13 v13 h0 x0 x1 x2 h0a v31)):=by
 intro n
 induction n with
 | zero=>exact ⟨fun _ _ _ _ h=>by simp only [R35] at h,fun _ _ _ _ _ _ h=>by simp only [R35_3] at h,fun _ _ _ _ _ _ _ h=>by simp only [R35_10] at h,fun _ _ _ _ _ _ _ _ h=>by simp only [R35_13] at h⟩
 | succ n ih =>
 obtain ⟨ih,ih3,ih10,ih13⟩:=ih
 refine ⟨?_,?_,?_,?_⟩
 ·intro x0 x1 x2 ds h K q
  rw [R35] at h
  exact AtV.go tabOk ext35Ok mixed false [] [(7,.str)] [0,1,2,7,14,15,16] [0] [] trivial (ih3 _ _ _ _ _ _ h K q) (by kernel_rfl)
 ·intro v16 h0 x0 x1 x2 ds h K q
  rw [R35_3] at h
  by_cases b0:(decide (v16<(x1.length:Int)))=true
  ·rw [if_pos b0] at h
   obtain ⟨s0,s1,h⟩:=h
   obtain ⟨s2,h⟩:=h
   obtain ⟨s3,h⟩:=h
   exact AtV.go tabOk ext35Ok mixed false [] [(7,.str)] [0,1,2,7,14,15,16] [0] [true] (a1 b0 (a1 s0 (a1 s1 (a1 s2 (a1 s3 trivial))))) (ih3 _ _ _ _ _ _ h K q) (by kernel_rfl)
  ·rw [if_neg b0] at h
   replace b0:=bf_ b0
   obtain ⟨s0,s1,h⟩:=h
   exact AtV.go tabOk ext35Ok mixed false [] [(10,.cons .str YA4)] [0,1,2,10,29,30,31] [2,1] [false] (a1 b0 (a1 s0 (a1 s1 (a1 trivial trivial)))) (ih10 _ _ _ _ _ _ _ h K q) (by kernel_rfl)
 ·intro v31 h0 x0 x1 x2 h0a ds h K q
  rw [R35_10] at h
  by_cases b0:(decide (v31<(↑(List.length (g63_0 (u62_0 h0a))):Int)))=true
  ·rw [if_pos b0] at h
   obtain ⟨s0,s1,h⟩:=h
   exact AtV.go tabOk ext35Ok mixed false [] [(10,.cons .str YA4)] [0,1,2,10,12,13,29,30,31] [0,1] [true] (a1 b0 (a1 s0 (a1 s1 trivial))) (ih13 _ _ _ _ _ _ _ _ h K q) (by kernel_rfl)
  ·rw [if_neg b0] at h
   replace b0:=bf_ b0
   subst h
   exact AtV.ret Try.func35 tabOk ext35Ok mixed false [] tys35 [false] (a1 b0 trivial) (by kernel_rfl)
 ·intro v13 h0 x0 x1 x2 h0a v31 ds h K q
  rw [R35_13] at h
  by_cases b0:(decide (v13≤3))=true
  ·rw [if_pos b0] at h
   obtain ⟨s0,h⟩:=h
   by_cases b1:(g39_0 x0 x1 x2 (List.getD (g63_0 (u62_0 h0a)) (Int.toNat v31) ByteArray.empty) v13)=true
   ·rw [if_pos b1] at h
    obtain ⟨s1,h⟩:=h
    obtain ⟨s2,h⟩:=h
    exact AtV.go tabOk ext35Ok mixed false [] [(10,.cons .str YA4)] [0,1,2,10,12,13,29,30,31] [0,1] [true,true] (a1 b0 (a1 s0 (a1 b1 (a1 s1 (a1 s2 trivial))))) (ih13 _ _ _ _ _ _ _ _ h K q) (by kernel_rfl)
   ·rw [if_neg b1] at h
    replace b1:=bf_ b1
    obtain ⟨s1,h⟩:=h
    exact AtV.go tabOk ext35Ok mixed false [] [(10,.cons .str YA4)] [0,1,2,10,12,13,29,30,31] [0,1] [true,false] (a1 b0 (a1 s0 (a1 b1 (a1 s1 trivial)))) (ih13 _ _ _ _ _ _ _ _ h K q) (by kernel_rfl)
  ·rw [if_neg b0] at h
   replace b0:=bf_ b0
   obtain ⟨s0,h⟩:=h
   exact AtV.go tabOk ext35Ok mixed false [] [(10,.cons .str YA4)] [0,1,2,10,29,30,31] [0,1] [false] (a1 b0 (a1 s0 trivial)) (ih10 _ _ _ _ _ _ _ h K q) (by kernel_rfl)
abbrev RL35:=ByteArray×List ByteArray×Unit
abbrev GR35:=ByteArray×ByteArray×Int×Unit
abbrev GY35:Ty := .cons .str (.cons .str (.cons (.int .i64) .unit))
def ob35 (x1:List GR35):List ByteArray:=g63_0 (u62_0 (x1.map fun x=>x.2.1))
def one35 (x0:List RL35) (x1:List GR35) (x2 o:ByteArray) (a:Int):List GR35:=if g39_0 x0 x1 x2 o a=true then [(x2,o,a,())] else []
def of35 (x0:List RL35) (x1:List GR35) (x2:ByteArray) (o:ByteArray):List GR35:=one35 x0 x1 x2 o 1++one35 x0 x1 x2 o 2++one35 x0 x1 x2 o 3
def g35_0 (x0:List RL35) (x1:List GR35) (x2:ByteArray):List GR35:=(ob35 x1).flatMap (of35 x0 x1 x2)
def P35 (x0:List RL35) (x1:List GR35) (x2:ByteArray):Prop:=x1.length≤1000∧∀ o a,P39 x0 x1 x2 o a
theorem cpl35:∀ (l:List ByteArray) (p:ByteArray),(cp63 p l).length≤l.length
 | [],_=>Nat.le_refl _
 | y :: r,p=>by
  simp only [cp63]
  split
  ·have:=cpl35 r p
   simp only [List.length_cons]
   omega
  ·have:=cpl35 r y
   simp only [List.length_cons]
   omega
theorem obl35 (x1:List GR35):(ob35 x1).length≤x1.length:=by
 unfold ob35
 have hp:=(u62_perm (x1.map fun x=>x.2.1)).length_eq
 rw [List.length_map] at hp
 rw [← hp]
 cases u62_0 (x1.map fun x=>x.2.1) with
 | nil=>exact Nat.le_refl _
 | cons y r =>
  have:=cpl35 r y
  show (y :: cp63 y r).length≤_
  simp only [List.length_cons]
  omega
theorem oneL35 (x0:List RL35) (x1:List GR35) (x2 o:ByteArray) (a:Int):(one35 x0 x1 x2 o a).length≤1:=by
 unfold one35
 split <;> simp
theorem step35 (x0:List RL35) (x1:List GR35) (x2:ByteArray) (h:P35 x0 x1 x2) (h0a:List ByteArray) (v31:Int) (ds:List Dyn) (n:Nat) (h0:List GR35) (hl:h0.length≤100000) (a:Int) (h1:1≤a) (h3:a≤3)
  (hr:R35_13 n (a+1) (h0++one35 x0 x1 x2 ((g63_0 (u62_0 h0a)).getD v31.toNat ByteArray.empty) a) x0 x1 x2 h0a v31 ds):R35_13 (n+1) a h0 x0 x1 x2 h0a v31 ds:=by
 rw [R35_13,if_pos (by simp only [decide_eq_true_eq];omega)]
 refine ⟨h.2 _ _,?_⟩
 unfold one35 at hr
 by_cases c:g39_0 x0 x1 x2 ((g63_0 (u62_0 h0a)).getD v31.toNat ByteArray.empty) a=true
 ·rw [if_pos c] at hr ⊢
  exact ⟨by omega,by rw [i64_iff];omega,hr⟩
 ·rw [if_neg c,List.append_nil] at hr
  rw [if_neg c]
  exact ⟨by rw [i64_iff];omega,hr⟩
theorem objs35 (x0:List RL35) (x1:List GR35) (x2:ByteArray) (h:P35 x0 x1 x2):∀ (k i:Nat) (h0:List GR35),i+k=(ob35 x1).length→h0.length≤3*i→∃ n,R35_10 n (i:Int) h0 x0 x1 x2 (x1.map fun x=>x.2.1) [⟨.sl GY35,h0++((ob35 x1).drop i).flatMap (of35 x0 x1 x2)⟩]:=by
 have hob:=obl35 x1
 have hx:=h.1
 intro k
 induction k with
 | zero =>
  intro i h0 hi hl
  refine ⟨1,?_⟩
  rw [R35_10,List.drop_eq_nil_of_le (by omega)]
  exact (if_neg (show ¬ decide ((i:Int)<((ob35 x1).length:Int))=true by simp only [decide_eq_true_eq];omega)).mpr (by simp)
 | succ k ih =>
  intro i h0 hi hl
  have hlt:i<(ob35 x1).length:=by omega
  have e3:((i+1:Nat):Int)=(i:Int)+1:=by omega
  have l1:=oneL35 x0 x1 x2 ((ob35 x1).getD i ByteArray.empty) 1
  have l2:=oneL35 x0 x1 x2 ((ob35 x1).getD i ByteArray.empty) 2
  have l3:=oneL35 x0 x1 x2 ((ob35 x1).getD i ByteArray.empty) 3
  obtain ⟨n,hn⟩:=ih (i+1) (h0++of35 x0 x1 x2 ((ob35 x1).getD i ByteArray.empty)) (by omega) (by unfold of35;simp only [List.length_append];omega)
  rw [e3] at hn
  have e4:h0++((ob35 x1).drop i).flatMap (of35 x0 x1 x2)=h0++of35 x0 x1 x2 ((ob35 x1).getD i ByteArray.empty)++((ob35 x1).drop (i+1)).flatMap (of35 x0 x1 x2):=by
   rw [drop_get _ i ByteArray.empty hlt,List.flatMap_cons,List.append_assoc]
  rw [e4]
  have r4:R35_13 (n+1) 4 (h0++of35 x0 x1 x2 ((ob35 x1).getD i ByteArray.empty)) x0 x1 x2 (x1.map fun x=>x.2.1) (i:Int) [⟨.sl GY35,h0++of35 x0 x1 x2 ((ob35 x1).getD i ByteArray.empty)++((ob35 x1).drop (i+1)).flatMap (of35 x0 x1 x2)⟩]:=by
   rw [R35_13,if_neg (by decide)]
   exact ⟨by rw [i64_iff];omega,hn⟩
  refine ⟨n+1+1+1+1+1,?_⟩
  rw [R35_10]
  refine (if_pos (show decide ((i:Int)<((ob35 x1).length:Int))=true by simp only [decide_eq_true_eq];omega)).mpr ?_
  refine ⟨by omega,show (i:Int)<((ob35 x1).length:Int) by omega,?_⟩
  refine step35 x0 x1 x2 h _ _ _ _ h0 (by omega) 1 (by decide) (by decide) (step35 x0 x1 x2 h _ _ _ _ _ ?_ 2 (by decide) (by decide) (step35 x0 x1 x2 h _ _ _ _ _ ?_ 3 (by decide) (by decide) ?_))
  ·have:=oneL35 x0 x1 x2 ((g63_0 (u62_0 (x1.map fun x=>x.2.1))).getD ((i:Int)).toNat ByteArray.empty) 1
   simp only [List.length_append]
   omega
  ·have:=oneL35 x0 x1 x2 ((g63_0 (u62_0 (x1.map fun x=>x.2.1))).getD ((i:Int)).toNat ByteArray.empty) 1
   have:=oneL35 x0 x1 x2 ((g63_0 (u62_0 (x1.map fun x=>x.2.1))).getD ((i:Int)).toNat ByteArray.empty) 2
   simp only [List.length_append]
   omega
  ·unfold of35 at r4
   simp only [Int.toNat_natCast]
   rw [List.append_assoc,List.append_assoc, ← List.append_assoc (one35 _ _ _ _ 1)]
   exact r4
theorem coll35 (x0:List RL35) (x1:List GR35) (x2:ByteArray) (h:P35 x0 x1 x2):∀ (k i:Nat),i+k=x1.length→∃ n,R35_3 n (i:Int) ((x1.map fun x=>x.2.1).take i) x0 x1 x2 [⟨.sl GY35,g35_0 x0 x1 x2⟩]:=by
 have hx:=h.1
 intro k
 induction k with
 | zero =>
  intro i hi
  have hm:(x1.map fun x=>x.2.1).take i=x1.map fun x=>x.2.1:=List.take_of_length_le (by rw [List.length_map];omega)
  obtain ⟨n,hn⟩:=objs35 x0 x1 x2 h (ob35 x1).length 0 [] (by omega) (Nat.zero_le _)
  rw [List.drop_zero,List.nil_append] at hn
  refine ⟨n+1,?_⟩
  rw [R35_3,if_neg (by simp only [decide_eq_true_eq];omega),hm]
  refine ⟨by show _≤1048576;rw [List.length_map];omega,(u62_perm _).length_eq,hn⟩
 | succ k ih =>
  intro i hi
  have hlt:i<x1.length:=by omega
  have e3:(i:Int)+1=((i+1:Nat):Int):=by omega
  obtain ⟨n,hn⟩:=ih (i+1) (by omega)
  have ht:(x1.map fun x=>x.2.1).take (i+1)=(x1.map fun x=>x.2.1).take i++[(x1.getD i (ByteArray.empty,ByteArray.empty,0,())).2.1]:=by
   rw [List.take_add_one,List.getElem?_map,List.getElem?_eq_getElem hlt,getD_lt x1 i _ hlt]
   rfl
  rw [ht] at hn
  refine ⟨n+1,?_⟩
  rw [R35_3,if_pos (by simp only [decide_eq_true_eq];omega)]
  simp only [Int.toNat_natCast]
  rw [e3]
  exact ⟨by omega,by omega,by rw [List.length_take];omega,by rw [i64_iff];omega,hn⟩
theorem top35 (x0:List RL35) (x1:List GR35) (x2:ByteArray) (h:P35 x0 x1 x2):∃ n,R35 n x0 x1 x2 [⟨.sl GY35,g35_0 x0 x1 x2⟩]:=by
 obtain ⟨n,hn⟩:=coll35 x0 x1 x2 h x1.length 0 (by omega)
 exact ⟨n+1,by rw [R35];exact hn⟩
def S35:Am.Spec:={ sig:=sig35,pre:=fun ⟨x0,x1,x2,_⟩=>P35 x0 x1 x2,res:=fun ⟨x0,x1,x2,_⟩=>[⟨.sl GY35,g35_0 x0 x1 x2⟩] }
theorem con35:Contract Try.prog 35 S35:=contract_of Try.func35 hb35 (bl_ (by kernel_rfl)) (fun ⟨x0,x1,x2,_⟩ h hwf K q =>
 let ⟨_,hn⟩:=top35 x0 x1 x2 h
 (snd35 _).1 x0 x1 x2 _ hn K q)
end
noncomputable section
def ext34:Ext:=[]
theorem ext34Ok:ExtOk Try.prog ext34:=trivial
noncomputable def b34:Code:=bodyOf Try.f34
theorem hb34:Try.f34.body=some b34:=by kernel_rfl
def sig34:List AT:=[AT.v (.sl YA1),AT.v (.sl YA1)]
def tys34:List Ty:=[.bool]
def kds34:List RK:=[]
def oks34:List AT:=owns sig34
def E34_4 (v13:Int) (x0:List TyB0) (x1:List TyB0):Env:=[(0,.a (.sl YA1 x0)),(1,.a (.sl YA1 x1)),(12,.a (.val (.int .i64 (x0.length:Int)))),(13,.a (.val (.int .i64 v13)))]
def L34_4 (v13:Int) (x0:List TyB0) (x1:List TyB0):Heap:=[]
mutual
def R34:Nat→List TyB0→List TyB0→List Dyn→Prop
 | 0,_,_,_=>False
 | n+1,x0,x1,ds=>(if ((x0.length:Int) != (x1.length:Int))=true then (ds=[Dyn.mk .bool false]) else (R34_4 n (0) (x0) (x1) ds))
def R34_4:Nat→Int→List TyB0→List TyB0→List Dyn→Prop
 | 0,_,_,_,_=>False
 | n+1,v13,x0,x1,ds=>(if (decide (v13<(x0.length:Int)))=true then ((0≤v13)∧(v13<(x0.length:Int))∧((0≤v13)∧(v13<(x1.length:Int))∧(if (!eqD YA1 (List.getD x0 (Int.toNat v13) (ByteArray.empty,ByteArray.empty,0,())) (List.getD x1 (Int.toNat v13) (ByteArray.empty,ByteArray.empty,0,())))=true then (ds=[Dyn.mk .bool false]) else ((InR .i64 (v13+1))∧(R34_4 n (v13+1) (x0) (x1) ds))))) else (ds=[Dyn.mk .bool true]))
end
theorem snd34:∀ n,(∀ (x0:List TyB0) (x1:List TyB0) ds,R34 n x0 x1 ds→∀ K q,AtV Try.prog 34 (PostR kds34 oks34 ds [] [] q K) 26 K q [] [.code b34] (entE 0 0 sig34 (x0,x1,())) (entL sig34 (x0,x1,())))∧(∀ (v13:Int) (x0:List TyB0) (x1:List TyB0) ds,R34_4 n v13 x0 x1 ds→∀ K q,AtV Try.prog 34 (PostR kds34 oks34 ds [] [] q K) 26 K q [] (cutAt b34 4) (E34_4 v13 x0 x1) (L34_4 v13 x0 x1)):=by
 intro n
 induction n with
 | zero=>exact ⟨fun _ _ _ h=>by simp only [R34] at h,fun _ _ _ _ h=>by simp only [R34_4] at h⟩
 | succ n ih =>
 obtain ⟨ih,ih4⟩:=ih
 refine ⟨?_,?_⟩
 ·intro x0 x1 ds h K q
  rw [R34] at h
  by_cases b0:((x0.length:Int) != (x1.length:Int))=true
  ·rw [if_pos b0] at h
   subst h
   exact AtV.ret Try.func34 tabOk ext34Ok mixed false [] tys34 [true] (a1 b0 trivial) (by kernel_rfl)
  ·rw [if_neg b0] at h
   replace b0:=bf_ b0
   exact AtV.go tabOk ext34Ok mixed false [] [] [0,1,12,13] [] [false] (a1 b0 trivial) (ih4 _ _ _ _ h K q) (by kernel_rfl)
 ·intro v13 x0 x1 ds h K q
  rw [R34_4] at h
  by_cases b0:(decide (v13<(x0.length:Int)))=true
  ·rw [if_pos b0] at h
   obtain ⟨s0,s1,h⟩:=h
   obtain ⟨s2,s3,h⟩:=h
   by_cases b1:(!eqD YA1 (List.getD x0 (Int.toNat v13) (ByteArray.empty,ByteArray.empty,0,())) (List.getD x1 (Int.toNat v13) (ByteArray.empty,ByteArray.empty,0,())))=true
   ·rw [if_pos b1] at h
    subst h
    exact AtV.ret Try.func34 tabOk ext34Ok mixed false [] tys34 [true,true] (a1 b0 (a1 s0 (a1 s1 (a1 s2 (a1 s3 (a1 b1 trivial)))))) (by kernel_rfl)
   ·rw [if_neg b1] at h
    replace b1:=bf_ b1
    obtain ⟨s4,h⟩:=h
    exact AtV.go tabOk ext34Ok mixed false [] [] [0,1,12,13] [] [true,false] (a1 b0 (a1 s0 (a1 s1 (a1 s2 (a1 s3 (a1 b1 (a1 s4 trivial))))))) (ih4 _ _ _ _ h K q) (by kernel_rfl)
  ·rw [if_neg b0] at h
   replace b0:=bf_ b0
   subst h
   exact AtV.ret Try.func34 tabOk ext34Ok mixed false [] tys34 [false] (a1 b0 trivial) (by kernel_rfl)
theorem eq34 (x0 x1:List TyB0) (hl:x0.length=x1.length) (hm:x0.length≤maxLen):∀ k i:Nat,i+k=x0.length→R34_4 (k+1) (i:Int) x0 x1 [⟨.bool,decide (x0.drop i=x1.drop i)⟩]:=by
 intro k
 induction k with
 | zero =>
  intro i hi
  have h1:¬ (i:Int)<(x0.length:Int):=by omega
  rw [R34_4,if_neg (by simpa using h1),drop_end x0 i (by omega),drop_end x1 i (by omega)]
  simp
 | succ k ih =>
  intro i hi
  have h1:(i:Int)<(x0.length:Int):=by omega
  rw [R34_4,if_pos (by simpa using h1)]
  refine ⟨by omega,h1,by omega,by omega,?_⟩
  simp only [Int.toNat_natCast]
  rw [drop_get x0 i (ByteArray.empty,ByteArray.empty,(0:Int),()) (by omega),drop_get x1 i (ByteArray.empty,ByteArray.empty,(0:Int),()) (by omega)]
  by_cases he:x0.getD i (ByteArray.empty,ByteArray.empty,(0:Int),())=x1.getD i (ByteArray.empty,ByteArray.empty,(0:Int),())
  ·have hd:=(eqD_eq (t:=YA1) rfl).2 he
   rw [if_neg (by rw [hd];simp)]
   refine ⟨inR_up hm (by omega),?_⟩
   have:=ih (i+1) (by omega)
   simp only [he,List.cons.injEq,true_and]
   exact this
  ·have hd:eqD YA1 (x0.getD i (ByteArray.empty,ByteArray.empty,(0:Int),())) (x1.getD i (ByteArray.empty,ByteArray.empty,(0:Int),()))=false :=
    bf_ fun h=>he ((eqD_eq rfl).1 h)
   rw [if_pos (by rw [hd];rfl)]
   simp only [he,List.cons.injEq,false_and,decide_false]
def g34_0 (x0 x1:List TyB0):Bool:=decide (x0=x1)
def P34 (x0 x1:List TyB0):Prop:=True
def S34:Am.Spec:={ sig:=sig34,pre:=fun ⟨x0,x1,_⟩=>P34 x0 x1,res:=fun ⟨x0,x1,_⟩=>[⟨.bool,g34_0 x0 x1⟩] }
theorem con34:Contract Try.prog 34 S34:=contract_of Try.func34 hb34 (bl_ (by kernel_rfl)) (fun ⟨x0,x1,_⟩ h hwf K q=>by
 refine (snd34 (x0.length+2)).1 x0 x1 _ ?_ K q
 show R34 (x0.length+1+1) x0 x1 [⟨.bool,decide (x0=x1)⟩]
 rw [R34]
 by_cases hl:x0.length=x1.length
 ·rw [if_neg (by simp [hl])]
  have:=eq34 x0 x1 hl hwf.1.1 x0.length 0 (by omega)
  simpa using this
 ·rw [if_pos (by simp;omega)]
  have:x0≠x1:=fun h=>hl (by rw [h])
  simp [this])
end
noncomputable section
def ext33:Ext:=[(35,S35),(34,S34)]
theorem ext33Ok:ExtOk Try.prog ext33:=⟨⟨ca35,con35⟩,⟨ca34,con34⟩,trivial⟩
noncomputable def b33:Code:=bodyOf Try.f33
theorem hb33:Try.f33.body=some b33:=by kernel_rfl
def sig33:List AT:=[AT.v YA3,AT.p (.sl (.cons .str (.cons (.sl .str) .unit))),AT.p (.sl (.cons .str (.cons .str (.cons (.int .i64) .unit)))),AT.p (.sl (.cons .str (.cons .str (.cons (.int .i64) .unit))))]
def tys33:List Ty:=[.bool]
def kds33:List RK:=[]
def oks33:List AT:=owns sig33
def P33 (x0:ByteArray×List ByteArray×Unit) (x1:List (ByteArray×List ByteArray×Unit)) (x2:List TyB0) (x3:List TyB0):Prop:=((P35 x1 x2 x0.1)∧((P35 x1 x3 x0.1)∧True))
def g33_0 (x0:ByteArray×List ByteArray×Unit) (x1:List (ByteArray×List ByteArray×Unit)) (x2:List TyB0) (x3:List TyB0):Bool := !g34_0 (g35_0 x1 x2 x0.1) (g35_0 x1 x3 x0.1)
theorem at33 (x0:ByteArray×List ByteArray×Unit) (x1:List (ByteArray×List ByteArray×Unit)) (x2:List TyB0) (x3:List TyB0) (h:P33 x0 x1 x2 x3) (K:Ctx) (q:Nat→Value):AtV Try.prog 33 (PostR kds33 oks33 [⟨.bool,g33_0 x0 x1 x2 x3⟩] [] [] q K) 18 K q [] [.code b33] (entE 0 0 sig33 (x0,x1,x2,x3,())) (entL sig33 (x0,x1,x2,x3,())):=by
 unfold P33 at h
 unfold g33_0
 obtain ⟨s0,h⟩:=h
 obtain ⟨s1,h⟩:=h
 exact AtV.ret Try.func33 tabOk ext33Ok mixed false [] tys33 [] (a1 s0 (a1 s1 (a1 trivial trivial))) (by kernel_rfl)
def S33:Am.Spec:={ sig:=sig33,pre:=fun ⟨x0,x1,x2,x3,_⟩=>P33 x0 x1 x2 x3,res:=fun ⟨x0,x1,x2,x3,_⟩=>[⟨.bool,g33_0 x0 x1 x2 x3⟩],kds:=kds33 }
theorem con33:Contract Try.prog 33 S33:=contract_of Try.func33 hb33 (bl_ (by kernel_rfl)) (fun ⟨x0,x1,x2,x3,_⟩ h _ K q=>at33 x0 x1 x2 x3 h K q)
end
noncomputable section
def ext61c33:Ext:=[(33,S33)]
theorem ext61c33Ok:ExtOk Try.prog ext61c33:=⟨⟨ca33,con33⟩,trivial⟩
noncomputable def b61c33:Code:=bodyOf Try.f61
theorem hb61c33:Try.f61.body=some b61c33:=by kernel_rfl
def sig61c33:List AT:=[AT.v (.sl YA3),AT.fn 33 [(true,(.sl (.cons .str (.cons (.sl .str) .unit)))),(true,(.sl (.cons .str (.cons .str (.cons (.int .i64) .unit))))),(true,(.sl (.cons .str (.cons .str (.cons (.int .i64) .unit)))))]]
def tys61c33:List Ty:=[.int .i64]
def kds61c33:List RK:=[]
def oks61c33:List AT:=owns sig61c33
def E61c33_2 (v8:Int) (x0:List (ByteArray×List ByteArray×Unit)) (x1:List (ByteArray×List ByteArray×Unit)) (x1c:List TyB0) (x1cc:List TyB0):Env:=[(0,.a (.sl YA3 x0)),(1,PV.fn 33 [Atom.ptr (.sl YA3) x1,Atom.ptr (.sl YA1) x1c,Atom.ptr (.sl YA1) x1cc]),(7,.a (.val (.int .i64 (x0.length:Int)))),(8,.a (.val (.int .i64 v8)))]
def L61c33_2 (v8:Int) (x0:List (ByteArray×List ByteArray×Unit)) (x1:List (ByteArray×List ByteArray×Unit)) (x1c:List TyB0) (x1cc:List TyB0):Heap:=[]
mutual
def R61c33:Nat→List (ByteArray×List ByteArray×Unit)→List (ByteArray×List ByteArray×Unit)→List TyB0→List TyB0→List Dyn→Prop
 | 0,_,_,_,_,_=>False
 | n+1,x0,x1,x1c,x1cc,ds=>(R61c33_2 n (0) (x0) (x1) (x1c) (x1cc) ds)
def R61c33_2:Nat→Int→List (ByteArray×List ByteArray×Unit)→List (ByteArray×List ByteArray×Unit)→List TyB0→List TyB0→List Dyn→Prop
 | 0,_,_,_,_,_,_=>False
 | n+1,v8,x0,x1,x1c,x1cc,ds=>(if (decide (v8<(x0.length:Int)))=true then ((0≤v8)∧(v8<(x0.length:Int))∧((P33 (List.getD x0 (Int.toNat v8) (ByteArray.empty,[],())) x1 x1c x1cc)∧(if (g33_0 (List.getD x0 (Int.toNat v8) (ByteArray.empty,[],())) x1 x1c x1cc)=true then (ds=[Dyn.mk (.int .i64) v8]) else ((InR .i64 (v8+1))∧(R61c33_2 n (v8+1) (x0) (x1) (x1c) (x1cc) ds))))) else (ds=[Dyn.mk (.int .i64) (-1)]))
end
theorem snd61c33:∀ n,(∀ (x0:List (ByteArray×List ByteArray×Unit)) (x1:List (ByteArray×List ByteArray×Unit)) (x1c:List TyB0) (x1cc:List TyB0) ds,R61c33 n x0 x1 x1c x1cc ds→∀ K q,AtV Try.prog 61 (PostR kds61c33 oks61c33 ds [] [] q K) 19 K q [] [.code b61c33] (entE 0 0 sig61c33 (x0,(x1,x1c,x1cc,()),())) (entL sig61c33 (x0,(x1,x1c,x1cc,()),())))∧(∀ (v8:Int) (x0:List (ByteArray×List ByteArray×Unit)) (x1:List (ByteArray×List ByteArray×Unit)) (x1c:List TyB0) (x1cc:List TyB0) ds,R61c33_2 n v8 x0 x1 x1c x1cc ds→∀ K q,AtV Try.prog 61 (PostR kds61c33 oks61c33 ds [] [] q K) 19 K q [] (cutAt b61c33 2) (E61c33_2 v8 x0 x1 x1c x1cc) (L61c33_2 v8 x0 x1 x1c x1cc)):=by
 intro n
 induction n with
 | zero=>exact ⟨fun _ _ _ _ _ h=>by simp only [R61c33] at h,fun _ _ _ _ _ _ h=>by simp only [R61c33_2] at h⟩
 | succ n ih =>
 obtain ⟨ih,ih2⟩:=ih
 refine ⟨?_,?_⟩
 ·intro x0 x1 x1c x1cc ds h K q
  rw [R61c33] at h
  exact AtV.go tabOk ext61c33Ok mixed false [] [] [0,1,7,8] [] [] trivial (ih2 _ _ _ _ _ _ h K q) (by kernel_rfl)
 ·intro v8 x0 x1 x1c x1cc ds h K q
  rw [R61c33_2] at h
  by_cases b0:(decide (v8<(x0.length:Int)))=true
  ·rw [if_pos b0] at h
   obtain ⟨s0,s1,h⟩:=h
   obtain ⟨s2,h⟩:=h
   by_cases b1:(g33_0 (List.getD x0 (Int.toNat v8) (ByteArray.empty,[],())) x1 x1c x1cc)=true
   ·rw [if_pos b1] at h
    subst h
    exact AtV.ret Try.func61 tabOk ext61c33Ok mixed false [] tys61c33 [true,true] (a1 b0 (a1 s0 (a1 s1 (a1 s2 (a1 b1 trivial))))) (by kernel_rfl)
   ·rw [if_neg b1] at h
    replace b1:=bf_ b1
    obtain ⟨s3,h⟩:=h
    exact AtV.go tabOk ext61c33Ok mixed false [] [] [0,1,7,8] [] [true,false] (a1 b0 (a1 s0 (a1 s1 (a1 s2 (a1 b1 (a1 s3 trivial)))))) (ih2 _ _ _ _ _ _ h K q) (by kernel_rfl)
  ·rw [if_neg b0] at h
   replace b0:=bf_ b0
   subst h
   exact AtV.ret Try.func61 tabOk ext61c33Ok mixed false [] tys61c33 [false] (a1 b0 trivial) (by kernel_rfl)
def g61c33_0 (x0:List (ByteArray×List (ByteArray)×Unit)) (y0:List (ByteArray×List (ByteArray)×Unit)) (y1:List TyB0) (y2:List TyB0):Int:=idx (x0.findIdx? (fun x=>g33_0 x y0 y1 y2))
def P61c33 (x0:List (ByteArray×List (ByteArray)×Unit)) (y0:List (ByteArray×List (ByteArray)×Unit)) (y1:List TyB0) (y2:List TyB0):Prop:=∀ x∈x0,P33 x y0 y1 y2
theorem top61c33 (x0:List (ByteArray×List (ByteArray)×Unit)) (y0:List (ByteArray×List (ByteArray)×Unit)) (y1:List TyB0) (y2:List TyB0) (hm:x0.length≤maxLen) (hp:P61c33 x0 y0 y1 y2):R61c33 (x0.length+1+1) x0 y0 y1 y2 [⟨.int .i64,g61c33_0 x0 y0 y1 y2⟩]:=by
 rw [R61c33]
 have key:=loop_find x0 (ByteArray.empty,[],()) (fun x=>g33_0 x y0 y1 y2) [(⟨.int .i64, -1⟩:Dyn)] (fun k=>[⟨.int .i64,k⟩]) (fun n i ds=>R61c33_2 n i x0 y0 y1 y2 ds) (fun n => ?_) (fun n i hi hok ds hr => ?_) (fun n i hi hok => ?_)
 ·unfold g61c33_0
  cases h:x0.findIdx? (fun x=>g33_0 x y0 y1 y2) <;> rw [h] at key <;> exact key
 ·rw [R61c33_2,if_neg (by simp)]
 ·rw [R61c33_2,if_pos (by simp;omega)]
  simp only [Int.toNat_natCast]
  refine ⟨by omega,by omega,hp _ (mem_getD _ i _ hi),?_⟩
  rw [if_neg (by rw [hok];simp)]
  exact ⟨inR_up hm hi,hr⟩
 ·rw [R61c33_2,if_pos (by simp;omega)]
  simp only [Int.toNat_natCast]
  refine ⟨by omega,by omega,hp _ (mem_getD _ i _ hi),?_⟩
  rw [if_pos hok] <;> trivial
def S61c33:Am.Spec:={ sig:=sig61c33,pre:=fun ⟨x0,⟨y0,y1,y2,_⟩,_⟩=>P61c33 x0 y0 y1 y2,res:=fun ⟨x0,⟨y0,y1,y2,_⟩,_⟩=>[⟨.int .i64,g61c33_0 x0 y0 y1 y2⟩] }
theorem con61c33:Contract Try.prog 61 S61c33:=contract_of Try.func61 hb61c33 (bl_ (by kernel_rfl)) (fun ⟨x0,⟨y0,y1,y2,_⟩,_⟩ h hwf K q =>
 (snd61c33 _).1 x0 y0 y1 y2 _ (top61c33 x0 y0 y1 y2 hwf.1.1 h) K q)
theorem any61c33 (x0:List (ByteArray×List (ByteArray)×Unit)) (y0:List (ByteArray×List (ByteArray)×Unit)) (y1:List TyB0) (y2:List TyB0):decide (g61c33_0 x0 y0 y1 y2≥0)=x0.any (fun x=>g33_0 x y0 y1 y2):=by
 have:=findIdx_any (fun x=>g33_0 x y0 y1 y2) x0
 unfold g61c33_0
 cases h:x0.any (fun x=>g33_0 x y0 y1 y2) with
 | true=>rw [h] at this;simpa using this
 | false=>rw [h] at this;simpa using this
end
noncomputable section
def ext32c33:Ext:=[(61,S61c33),(33,S33)]
theorem ext32c33Ok:ExtOk Try.prog ext32c33:=⟨⟨ca61,con61c33⟩,⟨ca33,con33⟩,trivial⟩
noncomputable def b32c33:Code:=bodyOf Try.f32
theorem hb32c33:Try.f32.body=some b32c33:=by kernel_rfl
def sig32c33:List AT:=[AT.v (.sl YA3),AT.fn 33 [(true,(.sl (.cons .str (.cons (.sl .str) .unit)))),(true,(.sl (.cons .str (.cons .str (.cons (.int .i64) .unit))))),(true,(.sl (.cons .str (.cons .str (.cons (.int .i64) .unit)))))]]
def tys32c33:List Ty:=[.bool]
def kds32c33:List RK:=[]
def oks32c33:List AT:=owns sig32c33
def P32c33 (x0:List (ByteArray×List ByteArray×Unit)) (x1:List (ByteArray×List ByteArray×Unit)) (x1c:List TyB0) (x1cc:List TyB0):Prop:=((P61c33 x0 x1 x1c x1cc)∧True)
def g32c33_0 (x0:List (ByteArray×List ByteArray×Unit)) (x1:List (ByteArray×List ByteArray×Unit)) (x1c:List TyB0) (x1cc:List TyB0):Bool:=decide (g61c33_0 x0 x1 x1c x1cc≥0)
theorem at32c33 (x0:List (ByteArray×List ByteArray×Unit)) (x1:List (ByteArray×List ByteArray×Unit)) (x1c:List TyB0) (x1cc:List TyB0) (h:P32c33 x0 x1 x1c x1cc) (K:Ctx) (q:Nat→Value):AtV Try.prog 32 (PostR kds32c33 oks32c33 [⟨.bool,g32c33_0 x0 x1 x1c x1cc⟩] [] [] q K) 9 K q [] [.code b32c33] (entE 0 0 sig32c33 (x0,(x1,x1c,x1cc,()),())) (entL sig32c33 (x0,(x1,x1c,x1cc,()),())):=by
 unfold P32c33 at h
 unfold g32c33_0
 obtain ⟨s0,h⟩:=h
 exact AtV.ret Try.func32 tabOk ext32c33Ok mixed false [] tys32c33 [] (a1 s0 trivial) (by kernel_rfl)
def S32c33:Am.Spec:={ sig:=sig32c33,pre:=fun ⟨x0,⟨x1,x1c,x1cc,_⟩,_⟩=>P32c33 x0 x1 x1c x1cc,res:=fun ⟨x0,⟨x1,x1c,x1cc,_⟩,_⟩=>[⟨.bool,g32c33_0 x0 x1 x1c x1cc⟩],kds:=kds32c33 }
theorem con32c33:Contract Try.prog 32 S32c33:=contract_of Try.func32 hb32c33 (bl_ (by kernel_rfl)) (fun ⟨x0,⟨x1,x1c,x1cc,_⟩,_⟩ h _ K q=>at32c33 x0 x1 x1c x1cc h K q)
end
noncomputable section
def ext10:Ext:=[(22,S22),(31,S31),(32,S32c33)]
theorem ext10Ok:ExtOk Try.prog ext10:=⟨⟨ca22,con22⟩,⟨ca31,con31⟩,⟨ca32,con32c33⟩,trivial⟩
noncomputable def b10:Code:=bodyOf Try.f10
theorem hb10:Try.f10.body=some b10:=by kernel_rfl
def sig10:List AT:=[AT.v (.sl YA3),AT.v (.sl YA1)]
def tys10:List Ty:=[.sl (.int .i64),.int .i64]
def kds10:List RK:=[]
def oks10:List AT:=owns sig10
def E10_5 (v16:Int) (h2:List Int) (x1:List TyB0) (x0:List (ByteArray×List ByteArray×Unit)):Env:=[(2,.a (.optr 0 0 [])),(3,.a (.optr 1 0 [])),(6,.a (.osl 2 Option.none)),(15,.a (.val (.int .i64 (x1.length:Int)))),(16,.a (.val (.int .i64 v16)))]
def L10_5 (v16:Int) (h2:List Int) (x1:List TyB0) (x0:List (ByteArray×List ByteArray×Unit)):Heap:=[Option.some (Arr.mk (.sl YA3) [x0] true Option.none (Option.some false)),Option.some (Arr.mk (.sl YA1) [x1] true Option.none (Option.some false)),Option.some (Arr.mk (.int .i64) h2 false Option.none Option.none)]
mutual
def R10:Nat→List (ByteArray×List ByteArray×Unit)→List TyB0→List Dyn→Prop
 | 0,_,_,_=>False
 | n+1,x0,x1,ds=>((P22 x0 x1)∧(if (!g22_0 x0 x1)=true then (ds=[Dyn.mk (.sl (.int .i64)) [],Dyn.mk (.int .i64) 1]) else (R10_5 n (0) ([]) (x1) (x0) ds)))
def R10_5:Nat→Int→List Int→List TyB0→List (ByteArray×List ByteArray×Unit)→List Dyn→Prop
 | 0,_,_,_,_,_=>False
 | n+1,v16,h2,x1,x0,ds=>(if (decide (v16<(x1.length:Int)))=true then ((0≤v16)∧(v16≤(x1.length:Int))∧((InR .i64 (v16+1))∧((0≤v16+1)∧(v16+1≤(x1.length:Int))∧((P31 [List.take (Int.toNat v16) x1,List.drop (Int.toNat (v16+1)) x1])∧((P32c33 x0 x0 x1 (g31_0 [List.take (Int.toNat v16) x1,List.drop (Int.toNat (v16+1)) x1]))∧(if (!g32c33_0 x0 x0 x1 (g31_0 [List.take (Int.toNat v16) x1,List.drop (Int.toNat (v16+1)) x1]))=true then (((List.length h2+1)*8≤140737488355328)∧((InR .i64 (v16+1))∧(R10_5 n (v16+1) (h2++[v16]) (x1) (x0) ds))) else ((InR .i64 (v16+1))∧(R10_5 n (v16+1) (h2) (x1) (x0) ds)))))))) else (ds=[Dyn.mk (.sl (.int .i64)) h2,Dyn.mk (.int .i64) 0]))
end
theorem snd10:∀ n,(∀ (x0:List (ByteArray×List ByteArray×Unit)) (x1:List TyB0) ds,R10 n x0 x1 ds→∀ K q,AtV Try.prog 10 (PostR kds10 oks10 ds [] [] q K) 39 K q [] [.code b10] (entE 0 0 sig10 (x0,x1,())) (entL sig10 (x0,x1,())))∧(∀ (v16:Int) (h2:List Int) (x1:List TyB0) (x0:List (ByteArray×List ByteArray×Unit)) ds,R10_5 n v16 h2 x1 x0 ds→∀ K q,AtV Try.prog 10 (PostR kds10 oks10 ds [] [] q K) 39 K q [] (cutAt b10 5) (E10_5 v16 h2 x1 x0) (L10_5 v16 h2 x1 x0)):=by
 intro n
 induction n with
 | zero=>exact ⟨fun _ _ _ h=>by simp only [R10] at h,fun _ _ _ _ _ h=>by simp only [R10_5] at h⟩
 | succ n ih =>
 obtain ⟨ih,ih5⟩:=ih
 refine ⟨?_,?_⟩
 ·intro x0 x1 ds h K q
  rw [R10] at h
  obtain ⟨s0,h⟩:=h
  by_cases b0:(!g22_0 x0 x1)=true
  ·rw [if_pos b0] at h
   subst h
   exact AtV.ret Try.func10 tabOk ext10Ok mixed false [] tys10 [true] (a1 s0 (a1 b0 trivial)) (by kernel_rfl)
  ·rw [if_neg b0] at h
   replace b0:=bf_ b0
   exact AtV.go tabOk ext10Ok mixed false [] [(6,.int .i64)] [2,3,6,15,16] [0,1,2] [false] (a1 s0 (a1 b0 trivial)) (ih5 _ _ _ _ _ h K q) (by kernel_rfl)
 ·intro v16 h2 x1 x0 ds h K q
  rw [R10_5] at h
  by_cases b0:(decide (v16<(x1.length:Int)))=true
  ·rw [if_pos b0] at h
   obtain ⟨s0,s1,h⟩:=h
   obtain ⟨s2,h⟩:=h
   obtain ⟨s3,s4,h⟩:=h
   obtain ⟨s5,h⟩:=h
   obtain ⟨s8,h⟩:=h
   by_cases b1:(!g32c33_0 x0 x0 x1 (g31_0 [List.take (Int.toNat v16) x1,List.drop (Int.toNat (v16+1)) x1]))=true
   ·rw [if_pos b1] at h
    obtain ⟨s9,h⟩:=h
    obtain ⟨s10,h⟩:=h
    exact AtV.go tabOk ext10Ok mixed false [] [(6,.int .i64)] [2,3,6,15,16] [0,1,2] [true,true] (a1 b0 (a1 s0 (a1 s1 (a1 s2 (a1 s3 (a1 s4 (a1 s5 (a1 s5 (a1 (rfl:SameS [(2,.a (.optr 0 0 [])),(3,.a (.optr 1 0 [])),(6,.a (.osl 2 Option.none)),(7,.a (.val (.int .i64 v16))),(8,.a (.bptr 5 0 (.sl YA1))),(15,.a (.val (.int .i64 (x1.length:Int)))),(16,.a (.val (.int .i64 v16))),(17,.a (.val (.bool (decide (v16<(x1.length:Int)))))),(18,.a (.val (.int .i64 v16))),(19,.a (.sl YA1 x1)),(20,.a (.val (.int .i64 v16))),(21,.a (.sl YA1 (List.take (Int.toNat v16) x1))),(22,.a (.sl YA1 x1)),(23,.a (.val (.int .i64 v16))),(24,.a (.val (.int .i64 (v16+1)))),(25,.a (.sl YA1 (List.drop (Int.toNat (v16+1)) x1))),(26,.a (.osl 3 Option.none)),(27,.a (.osl 4 Option.none))] [Option.some (Arr.mk (.sl YA3) [x0] true Option.none (Option.some false)),Option.some (Arr.mk (.sl YA1) [x1] true Option.none (Option.some false)),Option.some (Arr.mk (.int .i64) h2 false Option.none Option.none),Option.some (Arr.mk (.sl YA1) (List.set (List.set [[],[]] 0 (List.take (Int.toNat v16) x1)) 1 (List.drop (Int.toNat (v16+1)) x1)) true Option.none Option.none),Option.some (Arr.mk YA1 (g31_0 [List.take (Int.toNat v16) x1,List.drop (Int.toNat (v16+1)) x1]) false Option.none Option.none),Option.some (Arr.mk (.sl YA1) [] false (Option.some [Leaf.osl 4 Option.none]) Option.none)] [(2,.a (.optr 0 0 [])),(3,.a (.optr 1 0 [])),(6,.a (.osl 2 Option.none)),(7,.a (.val (.int .i64 v16))),(8,.a (.bptr 5 0 (.sl YA1))),(15,.a (.val (.int .i64 (x1.length:Int)))),(16,.a (.val (.int .i64 v16))),(17,.a (.val (.bool (decide (v16<(x1.length:Int)))))),(18,.a (.val (.int .i64 v16))),(19,.a (.sl YA1 x1)),(20,.a (.val (.int .i64 v16))),(21,.a (.sl YA1 (List.take (Int.toNat v16) x1))),(22,.a (.sl YA1 x1)),(23,.a (.val (.int .i64 v16))),(24,.a (.val (.int .i64 (v16+1)))),(25,.a (.sl YA1 (List.drop (Int.toNat (v16+1)) x1))),(26,.a (.osl 3 Option.none)),(27,.a (.osl 4 Option.none))] [Option.some (Arr.mk (.sl YA3) [x0] true Option.none (Option.some false)),Option.some (Arr.mk (.sl YA1) [x1] true Option.none (Option.some false)),Option.some (Arr.mk (.int .i64) h2 false Option.none Option.none),Option.some (Arr.mk (.sl YA1) [List.take (Int.toNat v16) x1,List.drop (Int.toNat (v16+1)) x1] true Option.none Option.none),Option.some (Arr.mk YA1 (g31_0 [List.take (Int.toNat v16) x1,List.drop (Int.toNat (v16+1)) x1]) false Option.none Option.none),Option.some (Arr.mk (.sl YA1) [] false (Option.some [Leaf.osl 4 Option.none]) Option.none)]) (a1 s5 (a1 (rfl:SameS [(2,.a (.optr 0 0 [])),(3,.a (.optr 1 0 [])),(6,.a (.osl 2 Option.none)),(7,.a (.val (.int .i64 v16))),(8,.a (.bptr 5 0 (.sl YA1))),(15,.a (.val (.int .i64 (x1.length:Int)))),(16,.a (.val (.int .i64 v16))),(17,.a (.val (.bool (decide (v16<(x1.length:Int)))))),(18,.a (.val (.int .i64 v16))),(19,.a (.sl YA1 x1)),(20,.a (.val (.int .i64 v16))),(21,.a (.sl YA1 (List.take (Int.toNat v16) x1))),(22,.a (.sl YA1 x1)),(23,.a (.val (.int .i64 v16))),(24,.a (.val (.int .i64 (v16+1)))),(25,.a (.sl YA1 (List.drop (Int.toNat (v16+1)) x1))),(26,.a (.osl 3 Option.none)),(27,.a (.osl 4 Option.none))] [Option.some (Arr.mk (.sl YA3) [x0] true Option.none (Option.some false)),Option.some (Arr.mk (.sl YA1) [x1] true Option.none (Option.some false)),Option.some (Arr.mk (.int .i64) h2 false Option.none Option.none),Option.some (Arr.mk (.sl YA1) (List.set (List.set [[],[]] 0 (List.take (Int.toNat v16) x1)) 1 (List.drop (Int.toNat (v16+1)) x1)) true Option.none Option.none),Option.some (Arr.mk YA1 (g31_0 [List.take (Int.toNat v16) x1,List.drop (Int.toNat (v16+1)) x1]) false Option.none Option.none),Option.some (Arr.mk (.sl YA1) [] false (Option.some [Leaf.osl 4 Option.none]) Option.none)] [(2,.a (.optr 0 0 [])),(3,.a (.optr 1 0 [])),(6,.a (.osl 2 Option.none)),(7,.a (.val (.int .i64 v16))),(8,.a (.bptr 5 0 (.sl YA1))),(15,.a (.val (.int .i64 (x1.length:Int)))),(16,.a (.val (.int .i64 v16))),(17,.a (.val (.bool (decide (v16<(x1.length:Int)))))),(18,.a (.val (.int .i64 v16))),(19,.a (.sl YA1 x1)),(20,.a (.val (.int .i64 v16))),(21,.a (.sl YA1 (List.take (Int.toNat v16) x1))),(22,.a (.sl YA1 x1)),(23,.a (.val (.int .i64 v16))),(24,.a (.val (.int .i64 (v16+1)))),(25,.a (.sl YA1 (List.drop (Int.toNat (v16+1)) x1))),(26,.a (.osl 3 Option.none)),(27,.a (.osl 4 Option.none))] [Option.some (Arr.mk (.sl YA3) [x0] true Option.none (Option.some false)),Option.some (Arr.mk (.sl YA1) [x1] true Option.none (Option.some false)),Option.some (Arr.mk (.int .i64) h2 false Option.none Option.none),Option.some (Arr.mk (.sl YA1) [List.take (Int.toNat v16) x1,List.drop (Int.toNat (v16+1)) x1] true Option.none Option.none),Option.some (Arr.mk YA1 (g31_0 [List.take (Int.toNat v16) x1,List.drop (Int.toNat (v16+1)) x1]) false Option.none Option.none),Option.some (Arr.mk (.sl YA1) [] false (Option.some [Leaf.osl 4 Option.none]) Option.none)]) (a1 s8 (a1 b1 (a1 s9 (a1 s10 trivial))))))))))))))) (ih5 _ _ _ _ _ h K q) (by kernel_rfl)
   ·rw [if_neg b1] at h
    replace b1:=bf_ b1
    obtain ⟨s9,h⟩:=h
    exact AtV.go tabOk ext10Ok mixed false [] [(6,.int .i64)] [2,3,6,15,16] [0,1,2] [true,false] (a1 b0 (a1 s0 (a1 s1 (a1 s2 (a1 s3 (a1 s4 (a1 s5 (a1 s5 (a1 (rfl:SameS [(2,.a (.optr 0 0 [])),(3,.a (.optr 1 0 [])),(6,.a (.osl 2 Option.none)),(7,.a (.val (.int .i64 v16))),(8,.a (.bptr 5 0 (.sl YA1))),(15,.a (.val (.int .i64 (x1.length:Int)))),(16,.a (.val (.int .i64 v16))),(17,.a (.val (.bool (decide (v16<(x1.length:Int)))))),(18,.a (.val (.int .i64 v16))),(19,.a (.sl YA1 x1)),(20,.a (.val (.int .i64 v16))),(21,.a (.sl YA1 (List.take (Int.toNat v16) x1))),(22,.a (.sl YA1 x1)),(23,.a (.val (.int .i64 v16))),(24,.a (.val (.int .i64 (v16+1)))),(25,.a (.sl YA1 (List.drop (Int.toNat (v16+1)) x1))),(26,.a (.osl 3 Option.none)),(27,.a (.osl 4 Option.none))] [Option.some (Arr.mk (.sl YA3) [x0] true Option.none (Option.some false)),Option.some (Arr.mk (.sl YA1) [x1] true Option.none (Option.some false)),Option.some (Arr.mk (.int .i64) h2 false Option.none Option.none),Option.some (Arr.mk (.sl YA1) (List.set (List.set [[],[]] 0 (List.take (Int.toNat v16) x1)) 1 (List.drop (Int.toNat (v16+1)) x1)) true Option.none Option.none),Option.some (Arr.mk YA1 (g31_0 [List.take (Int.toNat v16) x1,List.drop (Int.toNat (v16+1)) x1]) false Option.none Option.none),Option.some (Arr.mk (.sl YA1) [] false (Option.some [Leaf.osl 4 Option.none]) Option.none)] [(2,.a (.optr 0 0 [])),(3,.a (.optr 1 0 [])),(6,.a (.osl 2 Option.none)),(7,.a (.val (.int .i64 v16))),(8,.a (.bptr 5 0 (.sl YA1))),(15,.a (.val (.int .i64 (x1.length:Int)))),(16,.a (.val (.int .i64 v16))),(17,.a (.val (.bool (decide (v16<(x1.length:Int)))))),(18,.a (.val (.int .i64 v16))),(19,.a (.sl YA1 x1)),(20,.a (.val (.int .i64 v16))),(21,.a (.sl YA1 (List.take (Int.toNat v16) x1))),(22,.a (.sl YA1 x1)),(23,.a (.val (.int .i64 v16))),(24,.a (.val (.int .i64 (v16+1)))),(25,.a (.sl YA1 (List.drop (Int.toNat (v16+1)) x1))),(26,.a (.osl 3 Option.none)),(27,.a (.osl 4 Option.none))] [Option.some (Arr.mk (.sl YA3) [x0] true Option.none (Option.some false)),Option.some (Arr.mk (.sl YA1) [x1] true Option.none (Option.some false)),Option.some (Arr.mk (.int .i64) h2 false Option.none Option.none),Option.some (Arr.mk (.sl YA1) [List.take (Int.toNat v16) x1,List.drop (Int.toNat (v16+1)) x1] true Option.none Option.none),Option.some (Arr.mk YA1 (g31_0 [List.take (Int.toNat v16) x1,List.drop (Int.toNat (v16+1)) x1]) false Option.none Option.none),Option.some (Arr.mk (.sl YA1) [] false (Option.some [Leaf.osl 4 Option.none]) Option.none)]) (a1 s5 (a1 (rfl:SameS [(2,.a (.optr 0 0 [])),(3,.a (.optr 1 0 [])),(6,.a (.osl 2 Option.none)),(7,.a (.val (.int .i64 v16))),(8,.a (.bptr 5 0 (.sl YA1))),(15,.a (.val (.int .i64 (x1.length:Int)))),(16,.a (.val (.int .i64 v16))),(17,.a (.val (.bool (decide (v16<(x1.length:Int)))))),(18,.a (.val (.int .i64 v16))),(19,.a (.sl YA1 x1)),(20,.a (.val (.int .i64 v16))),(21,.a (.sl YA1 (List.take (Int.toNat v16) x1))),(22,.a (.sl YA1 x1)),(23,.a (.val (.int .i64 v16))),(24,.a (.val (.int .i64 (v16+1)))),(25,.a (.sl YA1 (List.drop (Int.toNat (v16+1)) x1))),(26,.a (.osl 3 Option.none)),(27,.a (.osl 4 Option.none))] [Option.some (Arr.mk (.sl YA3) [x0] true Option.none (Option.some false)),Option.some (Arr.mk (.sl YA1) [x1] true Option.none (Option.some false)),Option.some (Arr.mk (.int .i64) h2 false Option.none Option.none),Option.some (Arr.mk (.sl YA1) (List.set (List.set [[],[]] 0 (List.take (Int.toNat v16) x1)) 1 (List.drop (Int.toNat (v16+1)) x1)) true Option.none Option.none),Option.some (Arr.mk YA1 (g31_0 [List.take (Int.toNat v16) x1,List.drop (Int.toNat (v16+1)) x1]) false Option.none Option.none),Option.some (Arr.mk (.sl YA1) [] false (Option.some [Leaf.osl 4 Option.none]) Option.none)] [(2,.a (.optr 0 0 [])),(3,.a (.optr 1 0 [])),(6,.a (.osl 2 Option.none)),(7,.a (.val (.int .i64 v16))),(8,.a (.bptr 5 0 (.sl YA1))),(15,.a (.val (.int .i64 (x1.length:Int)))),(16,.a (.val (.int .i64 v16))),(17,.a (.val (.bool (decide (v16<(x1.length:Int)))))),(18,.a (.val (.int .i64 v16))),(19,.a (.sl YA1 x1)),(20,.a (.val (.int .i64 v16))),(21,.a (.sl YA1 (List.take (Int.toNat v16) x1))),(22,.a (.sl YA1 x1)),(23,.a (.val (.int .i64 v16))),(24,.a (.val (.int .i64 (v16+1)))),(25,.a (.sl YA1 (List.drop (Int.toNat (v16+1)) x1))),(26,.a (.osl 3 Option.none)),(27,.a (.osl 4 Option.none))] [Option.some (Arr.mk (.sl YA3) [x0] true Option.none (Option.some false)),Option.some (Arr.mk (.sl YA1) [x1] true Option.none (Option.some false)),Option.some (Arr.mk (.int .i64) h2 false Option.none Option.none),Option.some (Arr.mk (.sl YA1) [List.take (Int.toNat v16) x1,List.drop (Int.toNat (v16+1)) x1] true Option.none Option.none),Option.some (Arr.mk YA1 (g31_0 [List.take (Int.toNat v16) x1,List.drop (Int.toNat (v16+1)) x1]) false Option.none Option.none),Option.some (Arr.mk (.sl YA1) [] false (Option.some [Leaf.osl 4 Option.none]) Option.none)]) (a1 s8 (a1 b1 (a1 s9 trivial)))))))))))))) (ih5 _ _ _ _ _ h K q) (by kernel_rfl)
  ·rw [if_neg b0] at h
   replace b0:=bf_ b0
   subst h
   exact AtV.ret Try.func10 tabOk ext10Ok mixed false [] tys10 [false] (a1 b0 trivial) (by kernel_rfl)
abbrev RL10:=ByteArray×List ByteArray×Unit
abbrev GR10:=ByteArray×ByteArray×Int×Unit
def less10 (x1:List GR10) (i:Nat):List GR10:=x1.take i++x1.drop (i+1)
def no10 (x0:List RL10) (x1:List GR10) (i:Nat):Bool := !g32c33_0 x0 x0 x1 (less10 x1 i)
def pick10 (x0:List RL10) (x1:List GR10):Nat→Nat→List Int
 | 0,_=>[]
 | k+1,i=>if no10 x0 x1 i=true then (i:Int) :: pick10 x0 x1 k (i+1) else pick10 x0 x1 k (i+1)
def g10_0 (x0:List RL10) (x1:List GR10):List Int:=if (!g22_0 x0 x1)=true then [] else pick10 x0 x1 x1.length 0
def g10_1 (x0:List RL10) (x1:List GR10):Int:=if (!g22_0 x0 x1)=true then 1 else 0
def P10 (x0:List RL10) (x1:List GR10):Prop:=P22 x0 x1∧(g22_0 x0 x1=true→x1.length≤48∧∀ i,i<x1.length→P32c33 x0 x0 x1 (less10 x1 i))
theorem run10 (x0:List RL10) (x1:List GR10) (hl:x1.length≤48) (hp:∀ i,i<x1.length→P32c33 x0 x0 x1 (less10 x1 i)):∀ (k i:Nat) (h0:List Int),i+k=x1.length→h0.length≤i→R10_5 (k+1) (i:Int) h0 x1 x0 [⟨.sl (.int .i64),h0++pick10 x0 x1 k i⟩,⟨.int .i64,0⟩]:=by
 intro k
 induction k with
 | zero =>
  intro i h0 hi hh
  rw [R10_5,if_neg (by simp only [decide_eq_true_eq];omega),pick10,List.append_nil]
 | succ k ih =>
  intro i h0 hi hh
  have hlt:i<x1.length:=by omega
  have e3:(i:Int)+1=((i+1:Nat):Int):=by omega
  have e4:Int.toNat ((i:Int)+1)=i+1:=by omega
  have hg:g31_0 [List.take (Int.toNat (i:Int)) x1,List.drop (Int.toNat ((i:Int)+1)) x1]=less10 x1 i:=by
   show [_,_].flatten=_
   rw [Int.toNat_natCast,e4]
   simp [less10]
  have hpc:P31 [List.take (Int.toNat (i:Int)) x1,List.drop (Int.toNat ((i:Int)+1)) x1]:=by
   refine ⟨?_,by simp,by simp⟩
   simp only [List.flatten_cons,List.flatten_nil,List.append_nil,List.length_append,List.length_take,List.length_drop]
   omega
  have hq:=hp i hlt
  rw [R10_5,if_pos (by simp only [decide_eq_true_eq];omega)]
  refine ⟨by omega,by omega,by rw [i64_iff];omega,by omega,by omega,hpc,by rw [hg];exact hq,?_⟩
  rw [hg,pick10]
  by_cases c:no10 x0 x1 i=true
  ·have c':(!g32c33_0 x0 x0 x1 (less10 x1 i))=true:=c
   have:=ih (i+1) (h0++[(i:Int)]) (by omega) (by rw [List.length_append,List.length_singleton];omega)
   refine (if_pos c').mpr ⟨by omega,by rw [i64_iff];omega,?_⟩
   rw [if_pos c,e3]
   rw [List.append_assoc] at this
   exact this
  ·have c':¬ (!g32c33_0 x0 x0 x1 (less10 x1 i))=true:=c
   refine (if_neg c').mpr ⟨by rw [i64_iff];omega,?_⟩
   rw [if_neg c,e3]
   exact ih (i+1) h0 (by omega) (by omega)
theorem top10 (x0:List RL10) (x1:List GR10) (h:P10 x0 x1):∃ n,R10 n x0 x1 [⟨.sl (.int .i64),g10_0 x0 x1⟩,⟨.int .i64,g10_1 x0 x1⟩]:=by
 unfold g10_0 g10_1
 by_cases c:(!g22_0 x0 x1)=true
 ·exact ⟨1,by rw [R10,if_pos c,if_pos c,if_pos c];exact ⟨h.1,rfl⟩⟩
 ·obtain ⟨h1,h2⟩:=h.2 (by simpa using c)
  refine ⟨x1.length+1+1,?_⟩
  rw [R10,if_neg c,if_neg c,if_neg c]
  exact ⟨h.1,run10 x0 x1 h1 h2 x1.length 0 [] (by omega) (Nat.zero_le _)⟩
def S10:Am.Spec:={ sig:=sig10,pre:=fun ⟨x0,x1,_⟩=>P10 x0 x1,res:=fun ⟨x0,x1,_⟩=>[⟨.sl (.int .i64),g10_0 x0 x1⟩,⟨.int .i64,g10_1 x0 x1⟩] }
theorem con10:Contract Try.prog 10 S10:=contract_of Try.func10 hb10 (bl_ (by kernel_rfl)) (fun ⟨x0,x1,_⟩ h hwf K q =>
 let ⟨_,hn⟩:=top10 x0 x1 h
 (snd10 _).1 x0 x1 _ hn K q)
end
noncomputable section
def ext11:Ext:=[]
theorem ext11Ok:ExtOk Try.prog ext11:=trivial
noncomputable def b11:Code:=bodyOf Try.f11
theorem hb11:Try.f11.body=some b11:=by kernel_rfl
def sig11:List AT:=[AT.v (.sl (.int .i64)),AT.v (.int .i64)]
def tys11:List Ty:=[.bool]
def kds11:List RK:=[]
def oks11:List AT:=owns sig11
def E11_2 (v5:Int) (x0:List Int) (x1:Int):Env:=[(0,.a (.sl (.int .i64) x0)),(1,.a (.val (.int .i64 x1))),(5,.a (.val (.int .i64 v5)))]
def L11_2 (v5:Int) (x0:List Int) (x1:Int):Heap:=[]
mutual
def R11:Nat→List Int→Int→List Dyn→Prop
 | 0,_,_,_=>False
 | n+1,x0,x1,ds=>(R11_2 n (0) (x0) (x1) ds)
def R11_2:Nat→Int→List Int→Int→List Dyn→Prop
 | 0,_,_,_,_=>False
 | n+1,v5,x0,x1,ds=>(if (decide (v5<(x0.length:Int)))=true then ((0≤v5)∧(v5<(x0.length:Int))∧(if (decide (List.getD x0 (Int.toNat v5) 0<0))=true then (ds=[Dyn.mk .bool false]) else ((0≤v5)∧(v5<(x0.length:Int))∧(if (decide (List.getD x0 (Int.toNat v5) 0≥x1))=true then (ds=[Dyn.mk .bool false]) else (if (decide (v5>0))=true then ((InR .i64 (v5 - 1))∧((0≤v5 - 1)∧(v5 - 1<(x0.length:Int))∧((0≤v5)∧(v5<(x0.length:Int))∧(if (decide (List.getD x0 (Int.toNat (v5 - 1)) 0≥List.getD x0 (Int.toNat v5) 0))=true then (ds=[Dyn.mk .bool false]) else ((InR .i64 (v5+1))∧(R11_2 n (v5+1) (x0) (x1) ds)))))) else ((InR .i64 (v5+1))∧(R11_2 n (v5+1) (x0) (x1) ds))))))) else (ds=[Dyn.mk .bool true]))
end
theorem snd11:∀ n,(∀ (x0:List Int) (x1:Int) ds,R11 n x0 x1 ds→∀ K q,AtV Try.prog 11 (PostR kds11 oks11 ds [] [] q K) 41 K q [] [.code b11] (entE 0 0 sig11 (x0,x1,())) (entL sig11 (x0,x1,())))∧(∀ (v5:Int) (x0:List Int) (x1:Int) ds,R11_2 n v5 x0 x1 ds→∀ K q,AtV Try.prog 11 (PostR kds11 oks11 ds [] [] q K) 41 K q [] (cutAt b11 2) (E11_2 v5 x0 x1) (L11_2 v5 x0 x1)):=by
 intro n
 induction n with
 | zero=>exact ⟨fun _ _ _ h=>by simp only [R11] at h,fun _ _ _ _ h=>by simp only [R11_2] at h⟩
 | succ n ih =>
 obtain ⟨ih,ih2⟩:=ih
 refine ⟨?_,?_⟩
 ·intro x0 x1 ds h K q
  rw [R11] at h
  exact AtV.go tabOk ext11Ok mixed false [] [] [0,1,5] [] [] trivial (ih2 _ _ _ _ h K q) (by kernel_rfl)
 ·intro v5 x0 x1 ds h K q
  rw [R11_2] at h
  by_cases b0:(decide (v5<(x0.length:Int)))=true
  ·rw [if_pos b0] at h
   obtain ⟨s0,s1,h⟩:=h
   by_cases b1:(decide (List.getD x0 (Int.toNat v5) 0<0))=true
   ·rw [if_pos b1] at h
    subst h
    exact AtV.ret Try.func11 tabOk ext11Ok mixed false [] tys11 [true,true,true,true] (a1 b0 (a1 s0 (a1 s1 (a1 b1 (a1 (rfl:true=true) (a1 (rfl:true=true) trivial)))))) (by kernel_rfl)
   ·rw [if_neg b1] at h
    replace b1:=bf_ b1
    obtain ⟨s2,s3,h⟩:=h
    by_cases b2:(decide (List.getD x0 (Int.toNat v5) 0≥x1))=true
    ·rw [if_pos b2] at h
     subst h
     exact AtV.ret Try.func11 tabOk ext11Ok mixed false [] tys11 [true,false,true,true] (a1 b0 (a1 s0 (a1 s1 (a1 b1 (a1 s2 (a1 s3 (a1 b2 (a1 (rfl:true=true) trivial)))))))) (by kernel_rfl)
    ·rw [if_neg b2] at h
     replace b2:=bf_ b2
     by_cases b3:(decide (v5>0))=true
     ·rw [if_pos b3] at h
      obtain ⟨s4,h⟩:=h
      obtain ⟨s5,s6,h⟩:=h
      obtain ⟨s7,s8,h⟩:=h
      by_cases b4:(decide (List.getD x0 (Int.toNat (v5 - 1)) 0≥List.getD x0 (Int.toNat v5) 0))=true
      ·rw [if_pos b4] at h
       subst h
       exact AtV.ret Try.func11 tabOk ext11Ok mixed false [] tys11 [true,false,false,true,true] (a1 b0 (a1 s0 (a1 s1 (a1 b1 (a1 s2 (a1 s3 (a1 b2 (a1 b3 (a1 s4 (a1 s5 (a1 s6 (a1 s7 (a1 s8 (a1 b4 trivial)))))))))))))) (by kernel_rfl)
      ·rw [if_neg b4] at h
       replace b4:=bf_ b4
       obtain ⟨s9,h⟩:=h
       exact AtV.go tabOk ext11Ok mixed false [] [] [0,1,5] [] [true,false,false,true,false] (a1 b0 (a1 s0 (a1 s1 (a1 b1 (a1 s2 (a1 s3 (a1 b2 (a1 b3 (a1 s4 (a1 s5 (a1 s6 (a1 s7 (a1 s8 (a1 b4 (a1 s9 trivial))))))))))))))) (ih2 _ _ _ _ h K q) (by kernel_rfl)
     ·rw [if_neg b3] at h
      replace b3:=bf_ b3
      obtain ⟨s4,h⟩:=h
      exact AtV.go tabOk ext11Ok mixed false [] [] [0,1,5] [] [true,false,false,false,false] (a1 b0 (a1 s0 (a1 s1 (a1 b1 (a1 s2 (a1 s3 (a1 b2 (a1 b3 (a1 (rfl:false=false) (a1 s4 trivial)))))))))) (ih2 _ _ _ _ h K q) (by kernel_rfl)
  ·rw [if_neg b0] at h
   replace b0:=bf_ b0
   subst h
   exact AtV.ret Try.func11 tabOk ext11Ok mixed false [] tys11 [false] (a1 b0 trivial) (by kernel_rfl)
def ok11 (x0:List Int) (n:Int) (i:Nat) (x:Int):Bool := !decide (x<0)&&(!decide (x≥n)&&(i==0 || !decide (x0.getD (i - 1) 0≥x)))
def g11_0 (x0:List Int) (x1:Int):Bool:=allI (ok11 x0 x1) 0 x0
def P11 (x0:List Int) (x1:Int):Prop:=True
theorem step11 (n i:Nat) (x0:List Int) (x1:Int) (hm:x0.length≤maxLen) (hi:i<x0.length) (ds:List Dyn)
  (h:if ok11 x0 x1 i (x0.getD i 0)=true then R11_2 n ((i:Int)+1) x0 x1 ds else ds=[⟨.bool,false⟩]):R11_2 (n+1) (i:Int) x0 x1 ds:=by
 have hu:=inR_up hm hi
 have hmx:maxLen≤9223372036854775807:=by decide
 rw [R11_2,if_pos (by simp only [decide_eq_true_eq];omega)]
 simp only [Int.toNat_natCast]
 refine ⟨by omega,by omega,?_⟩
 unfold ok11 at h
 by_cases h1:x0.getD i 0<0
 ·rw [if_pos (decide_eq_true h1)]
  rw [decide_eq_true h1] at h
  simpa using h
 rw [if_neg (by simpa using h1)]
 rw [decide_eq_false h1] at h
 refine ⟨by omega,by omega,?_⟩
 by_cases h2:x0.getD i 0≥x1
 ·rw [if_pos (decide_eq_true h2)]
  rw [decide_eq_true h2] at h
  simpa using h
 rw [if_neg (by simpa using h2)]
 rw [decide_eq_false h2] at h
 by_cases h0:(i:Int)>0
 case neg =>
  rw [if_neg (by simpa using h0)]
  have hi0:(i==0)=true:=by simp;omega
  rw [hi0] at h
  exact ⟨hu,by simpa using h⟩
 rw [if_pos (by simpa using h0)]
 have hi0:(i==0)=false:=by simp;omega
 have e:((i:Int) - 1).toNat=i - 1:=by omega
 have hd:InR .i64 ((i:Int) - 1):=by rw [i64_iff];omega
 rw [hi0] at h
 simp only [e]
 refine ⟨hd,by omega,by omega,by omega,by omega,?_⟩
 by_cases h3:x0.getD (i - 1) 0≥x0.getD i 0
 ·rw [if_pos (decide_eq_true h3)]
  rw [decide_eq_true h3] at h
  simpa using h
 ·rw [if_neg (by simpa using h3)]
  rw [decide_eq_false h3] at h
  exact ⟨hu,by simpa using h⟩
theorem top11 (x0:List Int) (x1:Int) (hw:x0.length≤maxLen):R11 (x0.length+1+1) x0 x1 [⟨.bool,g11_0 x0 x1⟩]:=by
 rw [R11]
 have key:=loop_testI x0 0 (ok11 x0 x1) [(⟨.bool,false⟩:Dyn)] [⟨.bool,true⟩] (fun n i ds=>R11_2 n i x0 x1 ds) (fun n => ?_) (fun n i hi hok ds hr => ?_) (fun n i hi hok => ?_)
 ·unfold g11_0
  cases h:allI (ok11 x0 x1) 0 x0 with
  | true=>rw [if_pos h] at key;simpa using key
  | false=>rw [if_neg (by rw [h];simp)] at key;simpa using key
 ·rw [R11_2,if_neg (by simp)]
 ·exact step11 n i x0 x1 hw hi ds (by rw [if_pos hok];exact hr)
 ·exact step11 n i x0 x1 hw hi _ (by rw [if_neg (by rw [hok];simp)])
def S11:Am.Spec:={ sig:=sig11,pre:=fun ⟨x0,x1,_⟩=>P11 x0 x1,res:=fun ⟨x0,x1,_⟩=>[⟨.bool,g11_0 x0 x1⟩] }
theorem con11:Contract Try.prog 11 S11:=contract_of Try.func11 hb11 (bl_ (by kernel_rfl)) (fun ⟨x0,x1,_⟩ h hwf K q =>
 (snd11 _).1 x0 x1 _ (top11 x0 x1 hwf.1.1) K q)
end
noncomputable section
def ext36:Ext:=[]
theorem ext36Ok:ExtOk Try.prog ext36:=trivial
noncomputable def b36:Code:=bodyOf Try.f36
theorem hb36:Try.f36.body=some b36:=by kernel_rfl
def sig36:List AT:=[AT.v (.sl YA1),AT.v (.int .i64)]
def tys36:List Ty:=[.sl YA1]
def kds36:List RK:=[]
def oks36:List AT:=owns sig36
def P36 (x0:List TyB0) (x1:Int):Prop:=((0≤x1)∧(x1≤(x0.length:Int))∧(((0+List.length (List.take (Int.toNat x1) x0))*40≤140737488355328)∧((InR .i64 (x1+1))∧((0≤x1+1)∧(x1+1≤(x0.length:Int))∧(((List.length ([]++List.take (Int.toNat x1) x0)+List.length (List.drop (Int.toNat (x1+1)) x0))*40≤140737488355328)∧True)))))
def g36_0 (x0:List TyB0) (x1:Int):List TyB0:=[]++List.take (Int.toNat x1) x0++List.drop (Int.toNat (x1+1)) x0
theorem at36 (x0:List TyB0) (x1:Int) (h:P36 x0 x1) (K:Ctx) (q:Nat→Value):AtV Try.prog 36 (PostR kds36 oks36 [⟨.sl YA1,g36_0 x0 x1⟩] [] [] q K) 17 K q [] [.code b36] (entE 0 0 sig36 (x0,x1,())) (entL sig36 (x0,x1,())):=by
 unfold P36 at h
 unfold g36_0
 obtain ⟨s0,s1,h⟩:=h
 obtain ⟨s2,h⟩:=h
 obtain ⟨s3,h⟩:=h
 obtain ⟨s4,s5,h⟩:=h
 obtain ⟨s6,h⟩:=h
 exact AtV.ret Try.func36 tabOk ext36Ok mixed false [] tys36 [] (a1 s0 (a1 s1 (a1 s2 (a1 s3 (a1 s4 (a1 s5 (a1 s6 trivial))))))) (by kernel_rfl)
def S36:Am.Spec:={ sig:=sig36,pre:=fun ⟨x0,x1,_⟩=>P36 x0 x1,res:=fun ⟨x0,x1,_⟩=>[⟨.sl YA1,g36_0 x0 x1⟩],kds:=kds36 }
theorem con36:Contract Try.prog 36 S36:=contract_of Try.func36 hb36 (bl_ (by kernel_rfl)) (fun ⟨x0,x1,_⟩ h _ K q=>at36 x0 x1 h K q)
end
noncomputable section
def ext12:Ext:=[(27,S27),(36,S36)]
theorem ext12Ok:ExtOk Try.prog ext12:=⟨⟨ca27,con27⟩,⟨ca36,con36⟩,trivial⟩
noncomputable def b12:Code:=bodyOf Try.f12
theorem hb12:Try.f12.body=some b12:=by kernel_rfl
def sig12:List AT:=[AT.v (.sl YA3),AT.v (.sl YA1),AT.v YA1]
def tys12:List Ty:=[.sl YA1,.int .i64]
def kds12:List RK:=[]
def oks12:List AT:=owns sig12
def E12_4 (v8:Int) (x1:List TyB0) (x2:ByteArray×ByteArray×Int×Unit):Env:=[(1,.a (.sl YA1 x1)),(5,.a (.optr 0 0 [])),(8,.a (.val (.int .i64 v8)))]
def L12_4 (v8:Int) (x1:List TyB0) (x2:ByteArray×ByteArray×Int×Unit):Heap:=[Option.some (Arr.mk YA1 [x2] true Option.none (Option.some false))]
mutual
def R12:Nat→List (ByteArray×List ByteArray×Unit)→List TyB0→ByteArray×ByteArray×Int×Unit→List Dyn→Prop
 | 0,_,_,_,_=>False
 | n+1,x0,x1,x2,ds=>(if (!g27_0 x0 x1)=true then (ds=[Dyn.mk (.sl YA1) [],Dyn.mk (.int .i64) 1]) else (R12_4 n (0) (x1) (x2) ds))
def R12_4:Nat→Int→List TyB0→ByteArray×ByteArray×Int×Unit→List Dyn→Prop
 | 0,_,_,_,_=>False
 | n+1,v8,x1,x2,ds=>(if (decide (v8<(x1.length:Int)))=true then ((0≤v8)∧(v8<(x1.length:Int))∧(if (eqD YA1 (List.getD x1 (Int.toNat v8) (ByteArray.empty,ByteArray.empty,0,())) x2)=true then ((P36 x1 v8)∧(ds=[Dyn.mk (.sl YA1) (g36_0 x1 v8),Dyn.mk (.int .i64) 0])) else ((InR .i64 (v8+1))∧(R12_4 n (v8+1) (x1) (x2) ds)))) else (ds=[Dyn.mk (.sl YA1) [],Dyn.mk (.int .i64) 3]))
end
theorem snd12:∀ n,(∀ (x0:List (ByteArray×List ByteArray×Unit)) (x1:List TyB0) (x2:ByteArray×ByteArray×Int×Unit) ds,R12 n x0 x1 x2 ds→∀ K q,AtV Try.prog 12 (PostR kds12 oks12 ds [] [] q K) 28 K q [] [.code b12] (entE 0 0 sig12 (x0,x1,x2,())) (entL sig12 (x0,x1,x2,())))∧(∀ (v8:Int) (x1:List TyB0) (x2:ByteArray×ByteArray×Int×Unit) ds,R12_4 n v8 x1 x2 ds→∀ K q,AtV Try.prog 12 (PostR kds12 oks12 ds [] [] q K) 28 K q [] (cutAt b12 4) (E12_4 v8 x1 x2) (L12_4 v8 x1 x2)):=by
 intro n
 induction n with
 | zero=>exact ⟨fun _ _ _ _ h=>by simp only [R12] at h,fun _ _ _ _ h=>by simp only [R12_4] at h⟩
 | succ n ih =>
 obtain ⟨ih,ih4⟩:=ih
 refine ⟨?_,?_⟩
 ·intro x0 x1 x2 ds h K q
  rw [R12] at h
  by_cases b0:(!g27_0 x0 x1)=true
  ·rw [if_pos b0] at h
   subst h
   exact AtV.ret Try.func12 tabOk ext12Ok mixed false [] tys12 [true] (a1 trivial (a1 b0 trivial)) (by kernel_rfl)
  ·rw [if_neg b0] at h
   replace b0:=bf_ b0
   exact AtV.go tabOk ext12Ok mixed false [] [] [1,5,8] [0] [false] (a1 trivial (a1 b0 trivial)) (ih4 _ _ _ _ h K q) (by kernel_rfl)
 ·intro v8 x1 x2 ds h K q
  rw [R12_4] at h
  by_cases b0:(decide (v8<(x1.length:Int)))=true
  ·rw [if_pos b0] at h
   obtain ⟨s0,s1,h⟩:=h
   by_cases b1:(eqD YA1 (List.getD x1 (Int.toNat v8) (ByteArray.empty,ByteArray.empty,0,())) x2)=true
   ·rw [if_pos b1] at h
    obtain ⟨s2,h⟩:=h
    subst h
    exact AtV.ret Try.func12 tabOk ext12Ok mixed false [] tys12 [true,true] (a1 b0 (a1 s0 (a1 s1 (a1 b1 (a1 s2 trivial))))) (by kernel_rfl)
   ·rw [if_neg b1] at h
    replace b1:=bf_ b1
    obtain ⟨s2,h⟩:=h
    exact AtV.go tabOk ext12Ok mixed false [] [] [1,5,8] [0] [true,false] (a1 b0 (a1 s0 (a1 s1 (a1 b1 (a1 s2 trivial))))) (ih4 _ _ _ _ h K q) (by kernel_rfl)
  ·rw [if_neg b0] at h
   replace b0:=bf_ b0
   subst h
   exact AtV.ret Try.func12 tabOk ext12Ok mixed false [] tys12 [false] (a1 b0 trivial) (by kernel_rfl)
abbrev RL12:=ByteArray×List ByteArray×Unit
abbrev GR12:=ByteArray×ByteArray×Int×Unit
abbrev GY12:Ty := .cons .str (.cons .str (.cons (.int .i64) .unit))
def is12 (x2 x:GR12):Bool:=eqD GY12 x x2
def g12_0 (x0:List RL12) (x1:List GR12) (x2:GR12):List GR12:=if (!g27_0 x0 x1)=true then [] else match x1.findIdx? (is12 x2) with | some k=>g36_0 x1 (k:Nat) | none=>[]
def g12_1 (x0:List RL12) (x1:List GR12) (x2:GR12):Int:=if (!g27_0 x0 x1)=true then 1 else match x1.findIdx? (is12 x2) with | some k=>0 | none=>3
def P12 (x0:List RL12) (x1:List GR12) (x2:GR12):Prop:=True
theorem top12 (x0:List RL12) (x1:List GR12) (x2:GR12):R12 (x1.length+1+1) x0 x1 x2 [⟨.sl GY12,g12_0 x0 x1 x2⟩,⟨.int .i64,g12_1 x0 x1 x2⟩]:=by
 rw [R12]
 unfold g12_0 g12_1
 by_cases c:(!g27_0 x0 x1)=true
 ·rw [if_pos c,if_pos c,if_pos c]
 rw [if_neg c,if_neg c,if_neg c]
 have hl:x1.length≤48:=by
  have c:g27_0 x0 x1=true:=by simpa using c
  unfold g27_0 at c
  split at c
  ·split at c
   ·rename_i h
    have:=of_decide_eq_true h
    omega
   ·cases c
  ·cases c
 have key:=loop_find x1 (ByteArray.empty,ByteArray.empty,0,()) (is12 x2) [(⟨.sl GY12,([]:List GR12)⟩:Dyn),⟨.int .i64,(3:Int)⟩] (fun k=>[⟨.sl GY12,g36_0 x1 k⟩,⟨.int .i64,(0:Int)⟩]) (fun n i ds=>R12_4 n i x1 x2 ds) (fun n => ?_) (fun n i hi hok ds hr => ?_) (fun n i hi hok => ?_)
 ·cases h:x1.findIdx? (is12 x2) <;> rw [h] at key <;> exact key
 ·rw [R12_4,if_neg (by simp)]
 ·rw [R12_4,if_pos (by simp only [decide_eq_true_eq];omega)]
  simp only [Int.toNat_natCast]
  refine ⟨by omega,by omega,?_⟩
  unfold is12 at hok
  exact (if_neg (by rw [hok];decide)).mpr ⟨by rw [i64_iff];omega,hr⟩
 ·rw [R12_4,if_pos (by simp only [decide_eq_true_eq];omega)]
  simp only [Int.toNat_natCast]
  refine ⟨by omega,by omega,?_⟩
  unfold is12 at hok
  refine (if_pos hok).mpr ⟨?_,by first | rfl | trivial⟩
  unfold P36
  simp only [List.length_append,List.length_take,List.length_drop,List.length_nil]
  exact ⟨by omega,by omega,by omega,by rw [i64_iff];omega,by omega,by omega,by omega,trivial⟩
def S12:Am.Spec:={ sig:=sig12,pre:=fun ⟨x0,x1,x2,_⟩=>P12 x0 x1 x2,res:=fun ⟨x0,x1,x2,_⟩=>[⟨.sl GY12,g12_0 x0 x1 x2⟩,⟨.int .i64,g12_1 x0 x1 x2⟩] }
theorem con12:Contract Try.prog 12 S12:=contract_of Try.func12 hb12 (bl_ (by kernel_rfl)) (fun ⟨x0,x1,x2,_⟩ h hwf K q =>
 (snd12 _).1 x0 x1 x2 _ (top12 x0 x1 x2) K q)
end
noncomputable section
def ext13:Ext:=[(16,S16),(17,S17),(19,S19)]
theorem ext13Ok:ExtOk Try.prog ext13:=⟨⟨ca16,con16⟩,⟨ca17,con17⟩,⟨ca19,con19⟩,trivial⟩
noncomputable def b13:Code:=bodyOf Try.f13
theorem hb13:Try.f13.body=some b13:=by kernel_rfl
def sig13:List AT:=[AT.v (.sl (.int .u8))]
def tys13:List Ty:=[.sl YA3,.sl YA1,.cons .str YA4,.cons .str YA4]
def kds13:List RK:=[.frz,.own,.own,.own]
def oks13:List AT:=owns sig13
def P13 (x0:List Int):Prop:=((P17 (g16_0 x0))∧((P19 (u17_0 (g16_0 x0)) (g17_0 (g16_0 x0)))∧((P19 (u19_0 (u17_0 (g16_0 x0)) (g17_0 (g16_0 x0))) (g17_0 (g16_0 x0)))∧True)))
def g13_0 (x0:List Int):List (ByteArray×List ByteArray×Unit):=g17_0 (g16_0 x0)
def g13_1 (x0:List Int):List TyB0:=g17_1 (g16_0 x0)
def g13_2 (x0:List Int):ByteArray×ByteArray×Int×Unit:=g19_0 (u17_0 (g16_0 x0)) (g17_0 (g16_0 x0))
def g13_3 (x0:List Int):ByteArray×ByteArray×Int×Unit:=g19_0 (u19_0 (u17_0 (g16_0 x0)) (g17_0 (g16_0 x0))) (g17_0 (g16_0 x0))
theorem at13 (x0:List Int) (h:P13 x0) (K:Ctx) (q:Nat→Value):AtV Try.prog 13 (PostR kds13 oks13 [⟨.sl YA3,g13_0 x0⟩,⟨.sl YA1,g13_1 x0⟩,⟨.cons .str YA4,g13_2 x0⟩,⟨.cons .str YA4,g13_3 x0⟩] [] [] q K) 26 K q [] [.code b13] (entE 0 0 sig13 (x0,())) (entL sig13 (x0,())):=by
 unfold P13 at h
 unfold g13_0 g13_1 g13_2 g13_3
 obtain ⟨s0,h⟩:=h
 obtain ⟨s1,h⟩:=h
 obtain ⟨s2,h⟩:=h
 exact AtV.ret Try.func13 tabOk ext13Ok mixed false [] tys13 [] (a1 trivial (a1 s0 (a1 s1 (a1 s2 (a1 s2 (a1 (rfl:SameS [(0,.a (.sl (.int .u8) x0)),(2,.a (.sl YA3 (g17_0 (g16_0 x0)))),(3,.a (.osl 3 Option.none)),(4,.a (.optr 0 0 [])),(5,.a (.optr 1 0 [])),(6,.a (.optr 2 0 [])),(7,.a (.sl YA3 (g17_0 (g16_0 x0)))),(8,.a (.osl 3 Option.none)),(9,.a (.optr 4 0 [])),(10,.a (.sl (.int .u8) x0)),(11,.a (.optr 2 0 [])),(12,PV.tup [Atom.sl YA3 (g17_0 (g16_0 x0)),Atom.osl 3 Option.none]),(13,.a (.optr 2 0 [])),(14,PV.tup [Atom.sl YA3 (g17_0 (g16_0 x0)),Atom.osl 3 Option.none]),(15,.a (.sl YA3 (g17_0 (g16_0 x0)))),(16,.a (.osl 3 Option.none)),(17,.a (.optr 2 0 [])),(18,.a (.sl YA3 (g17_0 (g16_0 x0)))),(19,.a (.st YA1 (g19_0 (u17_0 (g16_0 x0)) (g17_0 (g16_0 x0))))),(20,.a (.sl YA3 (g17_0 (g16_0 x0)))),(21,.a (.osl 3 Option.none)),(22,.a (.st YA1 (g19_0 (u17_0 (g16_0 x0)) (g17_0 (g16_0 x0))))),(23,.a (.optr 2 0 [])),(24,.a (.sl YA3 (g17_0 (g16_0 x0)))),(25,.a (.st YA1 (g19_0 (u19_0 (u17_0 (g16_0 x0)) (g17_0 (g16_0 x0))) (g17_0 (g16_0 x0)))))] [Option.some (Arr.mk YA1 [g19_0 (u17_0 (g16_0 x0)) (g17_0 (g16_0 x0))] true Option.none (Option.some false)),Option.some (Arr.mk YA1 [g19_0 (u19_0 (u17_0 (g16_0 x0)) (g17_0 (g16_0 x0))) (g17_0 (g16_0 x0))] true Option.none (Option.some false)),Option.some (Arr.mk YA0 [u19_0 (u19_0 (u17_0 (g16_0 x0)) (g17_0 (g16_0 x0))) (g17_0 (g16_0 x0))] true Option.none (Option.some false)),Option.some (Arr.mk YA1 (g17_1 (g16_0 x0)) false Option.none Option.none),Option.some (Arr.mk YA1 [g19_0 (u17_0 (g16_0 x0)) (g17_0 (g16_0 x0))] true Option.none (Option.some false))] [(0,.a (.sl (.int .u8) x0)),(2,.a (.sl YA3 (g17_0 (g16_0 x0)))),(3,.a (.osl 3 Option.none)),(4,.a (.optr 0 0 [])),(5,.a (.optr 1 0 [])),(6,.a (.optr 2 0 [])),(7,.a (.sl YA3 (g17_0 (g16_0 x0)))),(8,.a (.osl 3 Option.none)),(9,.a (.optr 4 0 [])),(10,.a (.sl (.int .u8) x0)),(11,.a (.optr 2 0 [])),(12,PV.tup [Atom.sl YA3 (g17_0 (g16_0 x0)),Atom.osl 3 Option.none]),(13,.a (.optr 2 0 [])),(14,PV.tup [Atom.sl YA3 (g17_0 (g16_0 x0)),Atom.osl 3 Option.none]),(15,.a (.sl YA3 (g17_0 (g16_0 x0)))),(16,.a (.osl 3 Option.none)),(17,.a (.optr 2 0 [])),(18,.a (.sl YA3 (g17_0 (g16_0 x0)))),(19,.a (.st YA1 (g19_0 (u17_0 (g16_0 x0)) (g17_0 (g16_0 x0))))),(20,.a (.sl YA3 (g17_0 (g16_0 x0)))),(21,.a (.osl 3 Option.none)),(22,.a (.st YA1 (g19_0 (u17_0 (g16_0 x0)) (g17_0 (g16_0 x0))))),(23,.a (.optr 2 0 [])),(24,.a (.sl YA3 (g17_0 (g16_0 x0)))),(25,.a (.st YA1 (g19_0 (u19_0 (u17_0 (g16_0 x0)) (g17_0 (g16_0 x0))) (g17_0 (g16_0 x0)))))] [Option.some (Arr.mk YA1 [g19_0 (u17_0 (g16_0 x0)) (g17_0 (g16_0 x0))] true Option.none (Option.some false)),Option.some (Arr.mk YA1 [g19_0 (u19_0 (u17_0 (g16_0 x0)) (g17_0 (g16_0 x0))) (g17_0 (g16_0 x0))] true Option.none (Option.some false)),Option.some (Arr.mk YA0 [u19_0 (u19_0 (u17_0 (g16_0 x0)) (g17_0 (g16_0 x0))) (g17_0 (g16_0 x0))] true Option.none (Option.some false)),Option.some (Arr.mk YA1 (g17_1 (g16_0 x0)) false Option.none Option.none),Option.some (Arr.mk YA1 [g19_0 (u17_0 (g16_0 x0)) (g17_0 (g16_0 x0))] true Option.none (Option.some false))]) trivial)))))) (by kernel_rfl)
def S13:Am.Spec:={ sig:=sig13,pre:=fun ⟨x0,_⟩=>P13 x0,res:=fun ⟨x0,_⟩=>[⟨.sl YA3,g13_0 x0⟩,⟨.sl YA1,g13_1 x0⟩,⟨.cons .str YA4,g13_2 x0⟩,⟨.cons .str YA4,g13_3 x0⟩],kds:=kds13 }
theorem con13:Contract Try.prog 13 S13:=contract_of Try.func13 hb13 (bl_ (by kernel_rfl)) (fun ⟨x0,_⟩ h _ K q=>at13 x0 h K q)
end
noncomputable section
def ext38:Ext:=[(39,S39)]
theorem ext38Ok:ExtOk Try.prog ext38:=⟨⟨ca39,con39⟩,trivial⟩
noncomputable def b38:Code:=bodyOf Try.f38
theorem hb38:Try.f38.body=some b38:=by kernel_rfl
def sig38:List AT:=[AT.v (.str),AT.p (.sl (.cons .str (.cons (.sl .str) .unit))),AT.p (.sl (.cons .str (.cons .str (.cons (.int .i64) .unit)))),AT.p (.cons .str (.cons .str (.cons (.int .i64) .unit))),AT.p (.cons .str (.cons .str (.cons (.int .i64) .unit)))]
def tys38:List Ty:=[.bool]
def kds38:List RK:=[]
def oks38:List AT:=owns sig38
def P38 (x0:ByteArray) (x1:List (ByteArray×List ByteArray×Unit)) (x2:List TyB0) (x3:ByteArray×ByteArray×Int×Unit) (x4:ByteArray×ByteArray×Int×Unit):Prop:=((P39 x1 x2 x0 x3.2.1 x3.2.2.1)∧(if (g39_0 x1 x2 x0 x3.2.1 x3.2.2.1)=true then ((P39 x1 x2 x0 x4.2.1 x4.2.2.1)∧True) else True))
def g38_0 (x0:ByteArray) (x1:List (ByteArray×List ByteArray×Unit)) (x2:List TyB0) (x3:ByteArray×ByteArray×Int×Unit) (x4:ByteArray×ByteArray×Int×Unit):Bool:=(if (g39_0 x1 x2 x0 x3.2.1 x3.2.2.1)=true then g39_0 x1 x2 x0 x4.2.1 x4.2.2.1 else false)
theorem at38 (x0:ByteArray) (x1:List (ByteArray×List ByteArray×Unit)) (x2:List TyB0) (x3:ByteArray×ByteArray×Int×Unit) (x4:ByteArray×ByteArray×Int×Unit) (h:P38 x0 x1 x2 x3 x4) (K:Ctx) (q:Nat→Value):AtV Try.prog 38 (PostR kds38 oks38 [⟨.bool,g38_0 x0 x1 x2 x3 x4⟩] [] [] q K) 25 K q [] [.code b38] (entE 0 0 sig38 (x0,x1,x2,x3,x4,())) (entL sig38 (x0,x1,x2,x3,x4,())):=by
 unfold P38 at h
 unfold g38_0
 obtain ⟨s0,h⟩:=h
 by_cases b0:(g39_0 x1 x2 x0 x3.2.1 x3.2.2.1)=true
 ·try simp only [if_pos b0] at h ⊢
  obtain ⟨s1,h⟩:=h
  exact AtV.ret Try.func38 tabOk ext38Ok mixed false [] tys38 [true] (a1 s0 (a1 b0 (a1 s1 trivial))) (by kernel_rfl)
 ·try simp only [if_neg b0] at h ⊢
  replace b0:=bf_ b0
  exact AtV.ret Try.func38 tabOk ext38Ok mixed false [] tys38 [false] (a1 s0 (a1 b0 trivial)) (by kernel_rfl)
def S38:Am.Spec:={ sig:=sig38,pre:=fun ⟨x0,x1,x2,x3,x4,_⟩=>P38 x0 x1 x2 x3 x4,res:=fun ⟨x0,x1,x2,x3,x4,_⟩=>[⟨.bool,g38_0 x0 x1 x2 x3 x4⟩],kds:=kds38 }
theorem con38:Contract Try.prog 38 S38:=contract_of Try.func38 hb38 (bl_ (by kernel_rfl)) (fun ⟨x0,x1,x2,x3,x4,_⟩ h _ K q=>at38 x0 x1 x2 x3 x4 h K q)
end
noncomputable section
def ext37c38:Ext:=[(38,S38)]
theorem ext37c38Ok:ExtOk Try.prog ext37c38:=⟨⟨ca38,con38⟩,trivial⟩
noncomputable def b37c38:Code:=bodyOf Try.f37
theorem hb37c38:Try.f37.body=some b37c38:=by kernel_rfl
def sig37c38:List AT:=[AT.v (.sl YA3),AT.fn 38 [(true,(.sl (.cons .str (.cons (.sl .str) .unit)))),(true,(.sl (.cons .str (.cons .str (.cons (.int .i64) .unit))))),(true,(.cons .str (.cons .str (.cons (.int .i64) .unit)))),(true,(.cons .str (.cons .str (.cons (.int .i64) .unit))))]]
def tys37c38:List Ty:=[.sl .str]
def kds37c38:List RK:=[]
def oks37c38:List AT:=owns sig37c38
def E37c38_3 (v10:Int) (h0:List ByteArray) (x1:List (ByteArray×List ByteArray×Unit)) (x1c:List TyB0) (x1cc:ByteArray×ByteArray×Int×Unit) (x1ccc:ByteArray×ByteArray×Int×Unit) (x0:List (ByteArray×List ByteArray×Unit)):Env:=[(1,PV.fn 38 [Atom.ptr (.sl YA3) x1,Atom.ptr (.sl YA1) x1c,Atom.ptr YA1 x1cc,Atom.ptr YA1 x1ccc]),(5,.a (.osl 0 Option.none)),(8,.a (.sl YA3 x0)),(9,.a (.val (.int .i64 (x0.length:Int)))),(10,.a (.val (.int .i64 v10)))]
def L37c38_3 (v10:Int) (h0:List ByteArray) (x1:List (ByteArray×List ByteArray×Unit)) (x1c:List TyB0) (x1cc:ByteArray×ByteArray×Int×Unit) (x1ccc:ByteArray×ByteArray×Int×Unit) (x0:List (ByteArray×List ByteArray×Unit)):Heap:=[Option.some (Arr.mk .str h0 false Option.none Option.none)]
mutual
def R37c38:Nat→List (ByteArray×List ByteArray×Unit)→List (ByteArray×List ByteArray×Unit)→List TyB0→ByteArray×ByteArray×Int×Unit→ByteArray×ByteArray×Int×Unit→List Dyn→Prop
 | 0,_,_,_,_,_,_=>False
 | n+1,x0,x1,x1c,x1cc,x1ccc,ds=>(R37c38_3 n (0) ([]) (x1) (x1c) (x1cc) (x1ccc) (x0) ds)
def R37c38_3:Nat→Int→List ByteArray→List (ByteArray×List ByteArray×Unit)→List TyB0→ByteArray×ByteArray×Int×Unit→ByteArray×ByteArray×Int×Unit→List (ByteArray×List ByteArray×Unit)→List Dyn→Prop
 | 0,_,_,_,_,_,_,_,_=>False
 | n+1,v10,h0,x1,x1c,x1cc,x1ccc,x0,ds=>(if (decide (v10<(x0.length:Int)))=true then ((0≤v10)∧(v10<(x0.length:Int))∧((P38 (List.getD x0 (Int.toNat v10) (ByteArray.empty,[],())).1 x1 x1c x1cc x1ccc)∧(if (g38_0 (List.getD x0 (Int.toNat v10) (ByteArray.empty,[],())).1 x1 x1c x1cc x1ccc)=true then (((List.length h0+1)*16≤140737488355328)∧((InR .i64 (v10+1))∧(R37c38_3 n (v10+1) (h0++[(List.getD x0 (Int.toNat v10) (ByteArray.empty,[],())).1]) (x1) (x1c) (x1cc) (x1ccc) (x0) ds))) else ((InR .i64 (v10+1))∧(R37c38_3 n (v10+1) (h0) (x1) (x1c) (x1cc) (x1ccc) (x0) ds))))) else (ds=[Dyn.mk (.sl .str) h0]))
end
theorem snd37c38:∀ n,(∀ (x0:List (ByteArray×List ByteArray×Unit)) (x1:List (ByteArray×List ByteArray×Unit)) (x1c:List TyB0) (x1cc:ByteArray×ByteArray×Int×Unit) (x1ccc:ByteArray×ByteArray×Int×Unit) ds,R37c38 n x0 x1 x1c x1cc x1ccc ds→∀ K q,AtV Try.prog 37 (PostR kds37c38 oks37c38 ds [] [] q K) 25 K q [] [.code b37c38] (entE 0 0 sig37c38 (x0,(x1,x1c,x1cc,x1ccc,()),())) (entL sig37c38 (x0,(x1,x1c,x1cc,x1ccc,()),())))∧(∀ (v10:Int) (h0:List ByteArray) (x1:List (ByteArray×List ByteArray×Unit)) (x1c:List TyB0) (x1cc:ByteArray×ByteArray×Int×Unit) (x1ccc:ByteArray×ByteArray×Int×Unit) (x0:List (ByteArray×List ByteArray×Unit)) ds,R37c38_3 n v10 h0 x1 x1c x1cc x1ccc x0 ds→∀ K q,AtV Try.prog 37 (PostR kds37c38 oks37c38 ds [] [] q K) 25 K q [] (cutAt b37c38 3) (E37c38_3 v10 h0 x1 x1c x1cc x1ccc x0) (L37c38_3 v10 h0 x1 x1c x1cc x1ccc x0)):=by
 intro n
 induction n with
 | zero=>exact ⟨fun _ _ _ _ _ _ h=>by simp only [R37c38] at h,fun _ _ _ _ _ _ _ _ h=>by simp only [R37c38_3] at h⟩
 | succ n ih =>
 obtain ⟨ih,ih3⟩:=ih
 refine ⟨?_,?_⟩
 ·intro x0 x1 x1c x1cc x1ccc ds h K q
  rw [R37c38] at h
  exact AtV.go tabOk ext37c38Ok mixed false [] [(5,.str)] [1,5,8,9,10] [0] [] trivial (ih3 _ _ _ _ _ _ _ _ h K q) (by kernel_rfl)
 ·intro v10 h0 x1 x1c x1cc x1ccc x0 ds h K q
  rw [R37c38_3] at h
  by_cases b0:(decide (v10<(x0.length:Int)))=true
  ·rw [if_pos b0] at h
   obtain ⟨s0,s1,h⟩:=h
   obtain ⟨s2,h⟩:=h
   by_cases b1:(g38_0 (List.getD x0 (Int.toNat v10) (ByteArray.empty,[],())).1 x1 x1c x1cc x1ccc)=true
   ·rw [if_pos b1] at h
    obtain ⟨s3,h⟩:=h
    obtain ⟨s4,h⟩:=h
    exact AtV.go tabOk ext37c38Ok mixed false [] [(5,.str)] [1,5,8,9,10] [0] [true,true] (a1 b0 (a1 s0 (a1 s1 (a1 s2 (a1 b1 (a1 s3 (a1 s4 trivial))))))) (ih3 _ _ _ _ _ _ _ _ h K q) (by kernel_rfl)
   ·rw [if_neg b1] at h
    replace b1:=bf_ b1
    obtain ⟨s3,h⟩:=h
    exact AtV.go tabOk ext37c38Ok mixed false [] [(5,.str)] [1,5,8,9,10] [0] [true,false] (a1 b0 (a1 s0 (a1 s1 (a1 s2 (a1 b1 (a1 s3 trivial)))))) (ih3 _ _ _ _ _ _ _ _ h K q) (by kernel_rfl)
  ·rw [if_neg b0] at h
   replace b0:=bf_ b0
   subst h
   exact AtV.ret Try.func37 tabOk ext37c38Ok mixed false [] tys37c38 [false] (a1 b0 trivial) (by kernel_rfl)
abbrev RL37c38:=ByteArray×List ByteArray×Unit
def g37c38_0 (x0:List RL37c38) (y0:List (ByteArray×List (ByteArray)×Unit)) (y1:List TyB0) (y2:ByteArray×ByteArray×Int×Unit) (y3:ByteArray×ByteArray×Int×Unit):List ByteArray:=(x0.filter fun r=>g38_0 r.1 y0 y1 y2 y3).map fun r=>r.1
def P37c38 (x0:List RL37c38) (y0:List (ByteArray×List (ByteArray)×Unit)) (y1:List TyB0) (y2:ByteArray×ByteArray×Int×Unit) (y3:ByteArray×ByteArray×Int×Unit):Prop:=x0.length≤1048576∧∀ r∈x0,P38 r.1 y0 y1 y2 y3
theorem run37c38 (x0:List RL37c38) (y0:List (ByteArray×List (ByteArray)×Unit)) (y1:List TyB0) (y2:ByteArray×ByteArray×Int×Unit) (y3:ByteArray×ByteArray×Int×Unit) (h:P37c38 x0 y0 y1 y2 y3):∀ (k i:Nat) (h0:List ByteArray),i+k=x0.length→h0.length≤i→R37c38_3 (k+1) (i:Int) h0 y0 y1 y2 y3 x0 [⟨.sl .str,h0++((x0.drop i).filter fun r=>g38_0 r.1 y0 y1 y2 y3).map fun r=>r.1⟩]:=by
 obtain ⟨h1,h2⟩:=h
 intro k
 induction k with
 | zero =>
  intro i h0 hi hl
  rw [R37c38_3,if_neg (by simp only [decide_eq_true_eq];omega),List.drop_eq_nil_of_le (by omega)]
  simp
 | succ k ih =>
  intro i h0 hi hl
  have hlt:i<x0.length:=by omega
  have e3:(i:Int)+1=((i+1:Nat):Int):=by omega
  rw [R37c38_3,if_pos (by simp only [decide_eq_true_eq];omega),drop_get x0 i (ByteArray.empty,[],()) hlt,List.filter_cons]
  simp only [Int.toNat_natCast]
  refine ⟨by omega,by omega,h2 _ (mem_getD x0 i _ hlt),?_⟩
  by_cases c:g38_0 (x0.getD i (ByteArray.empty,[],())).1 y0 y1 y2 y3=true
  ·have:=ih (i+1) (h0++[(x0.getD i (ByteArray.empty,[],())).1]) (by omega) (by rw [List.length_append,List.length_singleton];omega)
   refine (if_pos c).mpr ?_
   rw [if_pos c,e3]
   refine ⟨by omega,by rw [i64_iff];omega,?_⟩
   rw [List.append_assoc] at this
   exact this
  ·have:=ih (i+1) h0 (by omega) (by omega)
   refine (if_neg c).mpr ?_
   rw [if_neg c,e3]
   exact ⟨by rw [i64_iff];omega,this⟩
theorem top37c38 (x0:List RL37c38) (y0:List (ByteArray×List (ByteArray)×Unit)) (y1:List TyB0) (y2:ByteArray×ByteArray×Int×Unit) (y3:ByteArray×ByteArray×Int×Unit) (h:P37c38 x0 y0 y1 y2 y3):R37c38 (x0.length+1+1) x0 y0 y1 y2 y3 [⟨.sl .str,g37c38_0 x0 y0 y1 y2 y3⟩]:=by
 rw [R37c38]
 exact run37c38 x0 y0 y1 y2 y3 h x0.length 0 [] (by omega) (Nat.le_refl _)
def S37c38:Am.Spec:={ sig:=sig37c38,pre:=fun ⟨x0,⟨y0,y1,y2,y3,_⟩,_⟩=>P37c38 x0 y0 y1 y2 y3,res:=fun ⟨x0,⟨y0,y1,y2,y3,_⟩,_⟩=>[⟨.sl .str,g37c38_0 x0 y0 y1 y2 y3⟩] }
theorem con37c38:Contract Try.prog 37 S37c38:=contract_of Try.func37 hb37c38 (bl_ (by kernel_rfl)) (fun ⟨x0,⟨y0,y1,y2,y3,_⟩,_⟩ h hwf K q =>
 (snd37c38 _).1 x0 y0 y1 y2 y3 _ (top37c38 x0 y0 y1 y2 y3 h) K q)
end
noncomputable section
def ext14:Ext:=[(22,S22),(37,S37c38)]
theorem ext14Ok:ExtOk Try.prog ext14:=⟨⟨ca22,con22⟩,⟨ca37,con37c38⟩,trivial⟩
noncomputable def b14:Code:=bodyOf Try.f14
theorem hb14:Try.f14.body=some b14:=by kernel_rfl
def sig14:List AT:=[AT.v (.sl YA3),AT.v (.sl YA1),AT.v YA1,AT.v YA1]
def tys14:List Ty:=[.sl .str,.int .i64]
def kds14:List RK:=[]
def oks14:List AT:=owns sig14
def P14 (x0:List (ByteArray×List ByteArray×Unit)) (x1:List TyB0) (x2:ByteArray×ByteArray×Int×Unit) (x3:ByteArray×ByteArray×Int×Unit):Prop:=((P22 x0 x1)∧(if (!g22_0 x0 x1)=true then True else ((P37c38 x0 x0 x1 x2 x3)∧True)))
def g14_0 (x0:List (ByteArray×List ByteArray×Unit)) (x1:List TyB0) (x2:ByteArray×ByteArray×Int×Unit) (x3:ByteArray×ByteArray×Int×Unit):List ByteArray:=(if (!g22_0 x0 x1)=true then [] else g37c38_0 x0 x0 x1 x2 x3)
def g14_1 (x0:List (ByteArray×List ByteArray×Unit)) (x1:List TyB0) (x2:ByteArray×ByteArray×Int×Unit) (x3:ByteArray×ByteArray×Int×Unit):Int:=(if (!g22_0 x0 x1)=true then 1 else 0)
theorem at14 (x0:List (ByteArray×List ByteArray×Unit)) (x1:List TyB0) (x2:ByteArray×ByteArray×Int×Unit) (x3:ByteArray×ByteArray×Int×Unit) (h:P14 x0 x1 x2 x3) (K:Ctx) (q:Nat→Value):AtV Try.prog 14 (PostR kds14 oks14 [⟨.sl .str,g14_0 x0 x1 x2 x3⟩,⟨.int .i64,g14_1 x0 x1 x2 x3⟩] [] [] q K) 17 K q [] [.code b14] (entE 0 0 sig14 (x0,x1,x2,x3,())) (entL sig14 (x0,x1,x2,x3,())):=by
 unfold P14 at h
 unfold g14_0 g14_1
 obtain ⟨s0,h⟩:=h
 by_cases b0:(!g22_0 x0 x1)=true
 ·try simp only [if_pos b0] at h ⊢
  exact AtV.ret Try.func14 tabOk ext14Ok mixed false [] tys14 [true] (a1 s0 (a1 b0 trivial)) (by kernel_rfl)
 ·try simp only [if_neg b0] at h ⊢
  replace b0:=bf_ b0
  obtain ⟨s1,h⟩:=h
  exact AtV.ret Try.func14 tabOk ext14Ok mixed false [] tys14 [false] (a1 s0 (a1 b0 (a1 s1 trivial))) (by kernel_rfl)
def S14:Am.Spec:={ sig:=sig14,pre:=fun ⟨x0,x1,x2,x3,_⟩=>P14 x0 x1 x2 x3,res:=fun ⟨x0,x1,x2,x3,_⟩=>[⟨.sl .str,g14_0 x0 x1 x2 x3⟩,⟨.int .i64,g14_1 x0 x1 x2 x3⟩],kds:=kds14 }
theorem con14:Contract Try.prog 14 S14:=contract_of Try.func14 hb14 (bl_ (by kernel_rfl)) (fun ⟨x0,x1,x2,x3,_⟩ h _ K q=>at14 x0 x1 x2 x3 h K q)
end
noncomputable section
def ext15:Ext:=[]
theorem ext15Ok:ExtOk Try.prog ext15:=trivial
noncomputable def b15:Code:=bodyOf Try.f15
theorem hb15:Try.f15.body=some b15:=by kernel_rfl
def sig15:List AT:=[AT.v (.sl .str),AT.v (.str)]
def tys15:List Ty:=[.bool]
def kds15:List RK:=[]
def oks15:List AT:=owns sig15
def E15_2 (v5:Int) (x0:List ByteArray) (x1:ByteArray):Env:=[(0,.a (.sl .str x0)),(1,.a (.val (.string x1))),(5,.a (.val (.int .i64 v5)))]
def L15_2 (v5:Int) (x0:List ByteArray) (x1:ByteArray):Heap:=[]
mutual
def R15:Nat→List ByteArray→ByteArray→List Dyn→Prop
 | 0,_,_,_=>False
 | n+1,x0,x1,ds=>(R15_2 n (0) (x0) (x1) ds)
def R15_2:Nat→Int→List ByteArray→ByteArray→List Dyn→Prop
 | 0,_,_,_,_=>False
 | n+1,v5,x0,x1,ds=>(if (decide (v5<(x0.length:Int)))=true then ((0≤v5)∧(v5<(x0.length:Int))∧(if (ByteArray.toList (List.getD x0 (Int.toNat v5) ByteArray.empty)==ByteArray.toList x1)=true then (ds=[Dyn.mk .bool true]) else ((InR .i64 (v5+1))∧(R15_2 n (v5+1) (x0) (x1) ds)))) else (ds=[Dyn.mk .bool false]))
end
theorem snd15:∀ n,(∀ (x0:List ByteArray) (x1:ByteArray) ds,R15 n x0 x1 ds→∀ K q,AtV Try.prog 15 (PostR kds15 oks15 ds [] [] q K) 18 K q [] [.code b15] (entE 0 0 sig15 (x0,x1,())) (entL sig15 (x0,x1,())))∧(∀ (v5:Int) (x0:List ByteArray) (x1:ByteArray) ds,R15_2 n v5 x0 x1 ds→∀ K q,AtV Try.prog 15 (PostR kds15 oks15 ds [] [] q K) 18 K q [] (cutAt b15 2) (E15_2 v5 x0 x1) (L15_2 v5 x0 x1)):=by
 intro n
 induction n with
 | zero=>exact ⟨fun _ _ _ h=>by simp only [R15] at h,fun _ _ _ _ h=>by simp only [R15_2] at h⟩
 | succ n ih =>
 obtain ⟨ih,ih2⟩:=ih
 refine ⟨?_,?_⟩
 ·intro x0 x1 ds h K q
  rw [R15] at h
  exact AtV.go tabOk ext15Ok mixed false [] [] [0,1,5] [] [] trivial (ih2 _ _ _ _ h K q) (by kernel_rfl)
 ·intro v5 x0 x1 ds h K q
  rw [R15_2] at h
  by_cases b0:(decide (v5<(x0.length:Int)))=true
  ·rw [if_pos b0] at h
   obtain ⟨s0,s1,h⟩:=h
   by_cases b1:(ByteArray.toList (List.getD x0 (Int.toNat v5) ByteArray.empty)==ByteArray.toList x1)=true
   ·rw [if_pos b1] at h
    subst h
    exact AtV.ret Try.func15 tabOk ext15Ok mixed false [] tys15 [true,true] (a1 b0 (a1 s0 (a1 s1 (a1 b1 trivial)))) (by kernel_rfl)
   ·rw [if_neg b1] at h
    replace b1:=bf_ b1
    obtain ⟨s2,h⟩:=h
    exact AtV.go tabOk ext15Ok mixed false [] [] [0,1,5] [] [true,false] (a1 b0 (a1 s0 (a1 s1 (a1 b1 (a1 s2 trivial))))) (ih2 _ _ _ _ h K q) (by kernel_rfl)
  ·rw [if_neg b0] at h
   replace b0:=bf_ b0
   subst h
   exact AtV.ret Try.func15 tabOk ext15Ok mixed false [] tys15 [false] (a1 b0 trivial) (by kernel_rfl)
def is15 (x1:ByteArray) (y:ByteArray):Bool:=ByteArray.toList y==ByteArray.toList x1
def g15_0 (x0:List ByteArray) (x1:ByteArray):Bool:=x0.any (is15 x1)
def P15 (x0:List ByteArray) (x1:ByteArray):Prop:=True
theorem top15 (x0:List ByteArray) (x1:ByteArray) (hm:x0.length≤maxLen):R15 (x0.length+1+1) x0 x1 [⟨.bool,g15_0 x0 x1⟩]:=by
 rw [R15]
 have key:=loop_find x0 ByteArray.empty (is15 x1) [(⟨.bool,false⟩:Dyn)] (fun k=>[⟨.bool,true⟩]) (fun n i ds=>R15_2 n i x0 x1 ds) (fun n => ?_) (fun n i hi hok ds hr => ?_) (fun n i hi hok => ?_)
 ·have e:=findIdx_any (is15 x1) x0
  unfold g15_0
  cases h:x0.findIdx? (is15 x1) with
  | none =>
   rw [h] at key e
   have e:x0.any (is15 x1)=false:=bf_ fun hh=>absurd (e.2 hh) (by decide)
   rw [e];exact key
  | some k =>
   rw [h] at key e
   have e:x0.any (is15 x1)=true:=e.1 (show (0:Int)≤(k:Int) by omega)
   rw [e];exact key
 ·rw [R15_2,if_neg (by simp)]
 ·rw [R15_2,if_pos (by simp;omega)]
  simp only [Int.toNat_natCast]
  refine ⟨by omega,by omega,?_⟩
  unfold is15 at hok
  rw [if_neg (by rw [hok];simp)]
  exact ⟨inR_up hm hi,hr⟩
 ·rw [R15_2,if_pos (by simp;omega)]
  simp only [Int.toNat_natCast]
  refine ⟨by omega,by omega,?_⟩
  unfold is15 at hok
  rw [if_pos hok] <;> trivial
def S15:Am.Spec:={ sig:=sig15,pre:=fun ⟨x0,x1,_⟩=>P15 x0 x1,res:=fun ⟨x0,x1,_⟩=>[⟨.bool,g15_0 x0 x1⟩] }
theorem con15:Contract Try.prog 15 S15:=contract_of Try.func15 hb15 (bl_ (by kernel_rfl)) (fun ⟨x0,x1,_⟩ h hwf K q =>
 (snd15 _).1 x0 x1 _ (top15 x0 x1 hwf.1.1) K q)
end
theorem bl_asym {x y:List UInt8} (h:Op.bytesLess x y=true):Op.bytesLess y x=false:=by
 cases h2:Op.bytesLess y x with
 | false=>rfl
 | true =>
  have:=bl_trans x y x h h2
  rw [bl_irrefl] at this
  cases this
theorem le_not (a b:ByteArray):(!(Op.bytesLess (ByteArray.toList a) (ByteArray.toList b)||ByteArray.toList a==ByteArray.toList b))=Op.bytesLess (ByteArray.toList b) (ByteArray.toList a):=by
 generalize ByteArray.toList a=x
 generalize ByteArray.toList b=y
 cases h1:Op.bytesLess x y with
 | true=>rw [bl_asym h1];rfl
 | false =>
  cases h2:(x==y) with
  | true =>
   have:x=y:=by simpa using h2
   subst this
   rw [bl_irrefl];rfl
  | false =>
   cases h3:Op.bytesLess y x with
   | true=>rfl
   | false =>
    have:=bl_tri x y h1 h3
    subst this
    simp at h2
theorem allI_mem {α:Type} {p:Nat→α→Bool}:∀ (l:List α) (i:Nat),allI p i l=true→∀ x∈l,∃ j,p j x=true
 | [],_,_,x,hx=>by cases hx
 | y :: r,i,h,x,hx=>by
  simp only [allI,Bool.and_eq_true] at h
  rcases List.mem_cons.1 hx with rfl | hx
  ·exact ⟨i,h.1⟩
  ·exact allI_mem r (i+1) h.2 x hx
def Rch (x0:List (ByteArray×List ByteArray×Unit)):Nat→ByteArray→ByteArray→Prop
 | 0,_,_=>False
 | f+1,a,n=>n∈und64 x0 a∨∃ b,b∈und64 x0 a∧Rch x0 f b n
def Reach (x0:List (ByteArray×List ByteArray×Unit)) (a n:ByteArray):Prop:=∃ f,Rch x0 f a n
theorem Reach.one {x0:List (ByteArray×List ByteArray×Unit)} {a n:ByteArray} (h:n∈und64 x0 a):Reach x0 a n:=⟨1,.inl h⟩
theorem rch_trans {x0:List (ByteArray×List ByteArray×Unit)}:∀ (f:Nat) (a b n:ByteArray),Rch x0 f a b→Reach x0 b n→Reach x0 a n
 | 0,_,_,_,h,_=>h.elim
 | f+1,a,b,n,h,⟨g,hg⟩=>by
  rcases h with h | ⟨c,hc,h⟩
  ·exact ⟨g+1,.inr ⟨b,h,hg⟩⟩
  ·obtain ⟨g',hg'⟩:=rch_trans f c b n h ⟨g,hg⟩
   exact ⟨g'+1,.inr ⟨c,hc,hg'⟩⟩
theorem Reach.trans {x0:List (ByteArray×List ByteArray×Unit)} {a b n:ByteArray} (h:Reach x0 a b) (k:Reach x0 b n):Reach x0 a n:=by
 obtain ⟨f,hf⟩:=h
 exact rch_trans f a b n hf k
theorem add_mem (all:List ByteArray) (m n:ByteArray):n∈add64 all m↔n∈all∨n=m:=by
 unfold add64
 by_cases c:g67_0 all m=true
 ·rw [if_neg (by rw [c];decide)]
  have:=(has64 all m).1 c
  constructor
  ·exact .inl
  ·rintro (h | rfl)
   ·exact h
   ·exact this
 ·rw [if_pos (by rw [Bool.eq_false_iff.2 c];rfl)]
  simp
theorem adds_mem (l:List ByteArray):∀ (all:List ByteArray) (n:ByteArray),n∈l.foldl add64 all↔n∈all∨n∈l:=by
 induction l with
 | nil=>intro all n;simp
 | cons a l ih =>
  intro all n
  rw [List.foldl_cons,ih,add_mem,List.mem_cons]
  constructor
  ·rintro ((h | h) | h)
   ·exact .inl h
   ·exact .inr (.inl h)
   ·exact .inr (.inr h)
  ·rintro (h | h | h)
   ·exact .inl (.inl h)
   ·exact .inl (.inr h)
   ·exact .inr h
theorem add_pre (all:List ByteArray) (m:ByteArray):∃ r,add64 all m=all++r:=by
 unfold add64
 split
 ·exact ⟨_,rfl⟩
 ·exact ⟨[],(List.append_nil _).symm⟩
theorem adds_pre (l:List ByteArray):∀ (all:List ByteArray),∃ r,l.foldl add64 all=all++r:=by
 induction l with
 | nil=>intro all;exact ⟨[],(List.append_nil _).symm⟩
 | cons a l ih =>
  intro all
  obtain ⟨r,hr⟩:=add_pre all a
  obtain ⟨r',hr'⟩:=ih (add64 all a)
  exact ⟨r++r',by rw [List.foldl_cons,hr',hr,List.append_assoc]⟩
theorem bfs_law {x0:List (ByteArray×List ByteArray×Unit)} (hp:∀ r∈x0,∀ n∈r.2.1,In64 x0 n) {x1:ByteArray} (hx:In64 x0 x1):∀ (f k:Nat) (all:List ByteArray),f+k=x0.length+2→k≤all.length+1→Ok64 x0 all→(∀ n∈all,Reach x0 x1 n) →
  (∀ i,i<k→∀ n∈und64 x0 ((x1 :: all).getD i ByteArray.empty),n∈all)→(∀ n∈bfs64 x0 x1 f k all,Reach x0 x1 n)∧∀ a∈x1 :: bfs64 x0 x1 f k all,∀ n∈und64 x0 a,n∈bfs64 x0 x1 f k all
 | 0,k,all,hf,hk,ho,_,_=>by have:=ho.le;omega
 | f+1,k,all,hf,hk,ho,hr,hd=>by
  unfold bfs64
  by_cases c:k<all.length+1
  ·rw [if_pos c]
   have hm:(x1 :: all).getD k ByteArray.empty∈x1 :: all:=mem_getD (x1 :: all) k _ (by simpa using c)
   have hin:In64 x0 ((x1 :: all).getD k ByteArray.empty):=by
    rcases List.mem_cons.1 hm with h | h
    ·rw [h];exact hx
    ·exact ho.2 _ h
   obtain ⟨r,hpre⟩:=adds_pre (und64 x0 ((x1 :: all).getD k ByteArray.empty)) all
   have hv:vis64 x0 all ((x1 :: all).getD k ByteArray.empty)=all++r:=hpre
   have hvm:∀ n,n∈vis64 x0 all ((x1 :: all).getD k ByteArray.empty)↔n∈all∨n∈und64 x0 ((x1 :: all).getD k ByteArray.empty):=fun n=>adds_mem _ all n
   have hok:Ok64 x0 (vis64 x0 all ((x1 :: all).getD k ByteArray.empty)):=ho.fold _ (unds64 hp hin)
   have hget:∀ i,i<all.length+1→(x1 :: vis64 x0 all ((x1 :: all).getD k ByteArray.empty)).getD i ByteArray.empty=(x1 :: all).getD i ByteArray.empty:=fun i hi=>by
    rw [hv,List.getD_eq_getElem?_getD,List.getD_eq_getElem?_getD, ← List.cons_append,List.getElem?_append_left (by simpa using hi)]
   refine bfs_law hp hx f (k+1) _ (by omega) ?_ hok (fun n hn => ?_) (fun i hi n hn => ?_)
   ·rw [hv,List.length_append];omega
   ·rcases (hvm n).1 hn with h | h
    ·exact hr n h
    ·rcases List.mem_cons.1 hm with he | he
     ·rw [he] at h;exact Reach.one h
     ·exact (hr _ he).trans (Reach.one h)
   ·rw [hget i (by omega)] at hn
    rw [hvm]
    by_cases he:i=k
    ·subst he;exact .inr hn
    ·exact .inl (hd i (by omega) n hn)
  ·rw [if_neg c]
   refine ⟨hr,fun a ha n hn => ?_⟩
   obtain ⟨i,hi⟩:=List.getElem?_of_mem ha
   have hil:=(List.getElem?_eq_some_iff.1 hi).1
   have hil:i<all.length+1:=by simpa using hil
   refine hd i (by omega) n ?_
   rw [List.getD_eq_getElem?_getD,hi]
   exact hn
theorem reach_in {x0:List (ByteArray×List ByteArray×Unit)} {S:List ByteArray} (hc:∀ a∈S,∀ n∈und64 x0 a,n∈S):∀ (f:Nat) (a n:ByteArray),(∀ m∈und64 x0 a,m∈S)→Rch x0 f a n→n∈S
 | 0,_,_,_,h=>h.elim
 | f+1,a,n,ha,h=>by
  rcases h with h | ⟨b,hb,h⟩
  ·exact ha n h
  ·exact reach_in hc f b n (hc b (ha b hb)) h
theorem under_mem {x0:List (ByteArray×List ByteArray×Unit)} {x1:ByteArray} (h:P64 x0 x1) (n:ByteArray):n∈g64_0 x0 x1↔Reach x0 x1 n:=by
 obtain ⟨h1,h2⟩:=bfs_law h.2.1 h.2.2 (x0.length+2) 0 [] (by omega) (by omega) ⟨List.nodup_nil,fun n hn=>by cases hn⟩ (fun n hn=>by cases hn) (fun i hi=>absurd hi (Nat.not_lt_zero i))
 unfold g64_0
 rw [(sortB_perm _).mem_iff]
 constructor
 ·exact h1 n
 ·rintro ⟨f,hf⟩
  exact reach_in (fun a ha=>h2 a (List.mem_cons_of_mem _ ha)) f x1 n (h2 x1 (List.mem_cons_self ..)) hf
theorem roles_law {x0:List (ByteArray×List ByteArray×Unit)} (h:g49_0 x0=true):x0.length≤12∧(∀ r∈x0,P64 x0 r.1)∧(∀ n,In64 x0 n→P64 x0 n)∧∀ r∈x0,r.1 ∉ g64_0 x0 r.1:=by
 unfold g49_0 at h
 by_cases c1:decide (x0.length≤12)=true
 ·rw [if_pos c1] at h
  by_cases c2:g71_0 (nm49 x0)=true
  ·rw [if_pos c2] at h
   by_cases c3:x0.all (ok49 x0)=true
   ·rw [if_pos c3] at h
    have hl:x0.length≤12:=of_decide_eq_true c1
    refine ⟨hl,fun r hr=>pre49 hl c3 hr,fun n hn=>⟨by omega,closed49 c3,hn⟩,fun r hr hm => ?_⟩
    have h2:g72c74_0 (nm49 x0) x0=false:=by simpa using h
    unfold g72c74_0 at h2
    rw [any83c74] at h2
    have:(nm49 x0).any (fun n=>g74_0 n x0)=true:=List.any_eq_true.2 ⟨r.1,List.mem_map.2 ⟨r,hr,rfl⟩,(has64 _ _).2 hm⟩
    rw [h2] at this
    cases this
   ·rw [if_neg c3] at h;cases h
  ·rw [if_neg c2] at h;cases h
 ·rw [if_neg c1] at h;cases h
theorem grants_law {x0:List (ByteArray×List ByteArray×Unit)} {x1:List TyB0} (h:g22_0 x0 x1=true):g49_0 x0=true∧x1.length≤48∧∀ x∈x1,g23_0 x0 x=true:=by
 unfold g22_0 at h
 by_cases c:g49_0 x0=true
 ·rw [if_pos c,Bool.and_eq_true] at h
  have hl:=of_decide_eq_true h.2
  refine ⟨c,by omega,fun x hx => ?_⟩
  obtain ⟨j,this⟩:=allI_mem _ _ h.1 x hx
  unfold ok22 at this
  rw [Bool.and_eq_true] at this
  exact this.1
 ·rw [if_neg c] at h;cases h
theorem has_law (x0:List (ByteArray×List ByteArray×Unit)) (x1:List TyB0) (n o:ByteArray) (a:Int):g39_0 x0 x1 n o a=true↔(1≤a∧a≤3)∧∃ x∈x1,x.2.1=o∧a≤x.2.2.1∧(x.1∈g64_0 x0 n∨x.1=n):=by
 have ha:g52_0 a=true↔1≤a∧a≤3:=by
  unfold g52_0 g76_0
  by_cases c:decide (a≥1)=true
  ·rw [if_pos c]
   have:=of_decide_eq_true c
   simp only [decide_eq_true_eq]
   omega
  ·rw [if_neg c]
   have:¬ a≥1:=fun h=>c (decide_eq_true h)
   constructor
   ·intro h;cases h
   ·intro h;omega
 unfold g39_0
 by_cases c:g52_0 a=true
 ·rw [if_pos c]
  unfold g65c66_0
  rw [any81c66,List.any_eq_true]
  constructor
  ·rintro ⟨x,hx,h⟩
   refine ⟨ha.1 c,x,hx,?_⟩
   unfold g66_0 at h
   by_cases c1:(ByteArray.toList x.2.1==ByteArray.toList o)=true
   ·rw [if_pos c1] at h
    by_cases c2:decide (x.2.2.1≥a)=true
    ·rw [if_pos c2] at h
     have hm:=(has64 _ _).1 h
     refine ⟨(bytes_eq _ _).1 c1,of_decide_eq_true c2,?_⟩
     simpa using hm
    ·rw [if_neg c2] at h;cases h
   ·rw [if_neg c1] at h;cases h
  ·rintro ⟨_,x,hx,h1,h2,h3⟩
   refine ⟨x,hx,?_⟩
   unfold g66_0
   rw [if_pos ((bytes_eq _ _).2 h1),if_pos (decide_eq_true h2)]
   exact (has64 _ _).2 (by simpa using h3)
 ·rw [if_neg c]
  constructor
  ·intro h;cases h
  ·intro h;exact absurd (ha.2 h.1) c
theorem inside_mem (l:List ByteArray) (n:ByteArray):g15_0 l n=true↔n∈l:=by
 unfold g15_0 is15
 rw [List.any_eq_true]
 constructor
 ·rintro ⟨y,hy,h⟩
  rw [← (bytes_eq _ _).1 h]
  exact hy
 ·exact fun h=>⟨n,h,(bytes_eq _ _).2 rfl⟩
theorem name_eq (s:ByteArray):g51_0 s=g78_0 s:=by
 have hs:∀ c,g85_0 c=(decide (97≤c)&&decide (c≤122)):=fun c=>by
  unfold g85_0
  by_cases h1:(97:Int)≤c <;> simp [h1]
 have hd:∀ c,g86_0 c=(decide (48≤c)&&decide (c≤57)):=fun c=>by
  unfold g86_0
  by_cases h1:(48:Int)≤c <;> simp [h1]
 unfold g51_0 g78_0
 have hl:=bytesOf_length s
 by_cases h1:1≤s.size
 ·cases hb:bytesOf s with
  | nil=>rw [hb] at hl;simp at hl;omega
  | cons c r =>
   have hr:allI ok51 1 r=r.all fun b=>g85_0 b||g86_0 b:=by
    rw [← allI_plain (fun b=>g85_0 b||g86_0 b) r 1]
    refine allI_congr r 1 fun j x hj => ?_
    have:(j==0)=false:=by simp;omega
    simp only [ok51,this,hs,hd,Bool.not_false,Bool.true_and]
   have h0:ok51 0 c=g85_0 c:=by simp [ok51,hs]
   simp only [allI,hr,h0,List.all_cons,List.getD_cons_zero]
   cases g85_0 c <;> simp
 ·simp [h1]
theorem g_nanS (s:ByteArray):g69_0 s=false:=by simp [g69_0]
theorem g_nanI (n:Int):g70_0 n=false:=by simp [g70_0]
theorem g_cmpS (a b:ByteArray):(g47_0 a b<0↔sless a b=true)∧(g47_0 a b=0↔a=b):=by
 unfold g47_0
 rw [g_nanS,g_nanS,if_neg (by decide),if_neg (by decide)]
 by_cases c:Op.bytesLess (ByteArray.toList a) (ByteArray.toList b)=true
 ·rw [if_pos c]
  refine ⟨⟨fun _=>c,fun _=>by decide⟩,⟨fun h=>absurd h (by decide),fun h => ?_⟩⟩
  rw [h,bl_irrefl] at c
  cases c
 ·rw [if_neg c,le_not]
  by_cases d:Op.bytesLess (ByteArray.toList b) (ByteArray.toList a)=true
  ·rw [if_pos d]
   refine ⟨⟨fun h=>absurd h (by decide),fun h=>absurd h c⟩,⟨fun h=>absurd h (by decide),fun h => ?_⟩⟩
   rw [h,bl_irrefl] at d
   cases d
  ·rw [if_neg d]
   exact ⟨⟨fun h=>absurd h (by decide),fun h=>absurd h c⟩,⟨fun _=>sless_tri (Bool.eq_false_iff.2 c) (Bool.eq_false_iff.2 d),fun _=>rfl⟩⟩
theorem g_cmpI (a b:Int):(g48_0 a b<0↔a<b)∧(g48_0 a b=0↔a=b):=by
 unfold g48_0
 rw [g_nanI,g_nanI,if_neg (by decide),if_neg (by decide)]
 by_cases c:a<b
 ·rw [if_pos (decide_eq_true c)]
  exact ⟨⟨fun _=>c,fun _=>by decide⟩,⟨fun h=>absurd h (by decide),fun h=>by omega⟩⟩
 ·rw [if_neg (by simpa using c)]
  by_cases d:a>b
  ·rw [if_pos (decide_eq_true d)]
   exact ⟨⟨fun h=>absurd h (by decide),fun h=>absurd h c⟩,⟨fun h=>absurd h (by decide),fun h=>by omega⟩⟩
  ·rw [if_neg (by simpa using d)]
   exact ⟨⟨fun h=>absurd h (by decide),fun h=>absurd h c⟩,⟨fun _=>by omega,fun _=>rfl⟩⟩
theorem g_or (x y z:Int):(g46_0 [x,y,z]<0↔x<0∨x=0∧(y<0∨y=0∧z<0))∧(g46_0 [x,y,z]=0↔x=0∧y=0∧z=0):=by
 simp only [g46_0,bne_iff_ne,ne_eq]
 by_cases h1:x=0
 ·rw [if_neg (by simpa using h1)]
  by_cases h2:y=0
  ·rw [if_neg (by simpa using h2)]
   by_cases h3:z=0
   ·rw [if_neg (by simpa using h3)];omega
   ·rw [if_pos h3];omega
  ·rw [if_pos h2];omega
 ·rw [if_pos h1];omega
def Bf (a b:TyB0):Prop:=sless a.1 b.1=true∨a.1=b.1∧(sless a.2.1 b.2.1=true∨a.2.1=b.2.1∧a.2.2.1<b.2.2.1)
theorem g_eq (a b:TyB0):(a.1=b.1∧a.2.1=b.2.1∧a.2.2.1=b.2.2.1)↔a=b:=by
 obtain ⟨a1,a2,a3,u⟩:=a
 obtain ⟨b1,b2,b3,v⟩:=b
 constructor
 ·rintro ⟨rfl,rfl,rfl⟩;rfl
 ·intro h
  simp only [Prod.mk.injEq] at h
  exact ⟨h.1,h.2.1,h.2.2.1⟩
theorem g_cmp (a b:TyB0):(g21_0 a b<0↔Bf a b)∧(g21_0 a b=0↔a=b):=by
 unfold g21_0 Bf
 obtain ⟨h1,h2⟩:=g_or (g47_0 a.1 b.1) (g47_0 a.2.1 b.2.1) (g48_0 a.2.2.1 b.2.2.1)
 obtain ⟨k1,k2⟩:=g_cmpS a.1 b.1
 obtain ⟨k3,k4⟩:=g_cmpS a.2.1 b.2.1
 obtain ⟨k5,k6⟩:=g_cmpI a.2.2.1 b.2.2.1
 rw [k1,k2,k3,k4,k5] at h1
 rw [k2,k4,k6,g_eq] at h2
 exact ⟨h1,h2⟩
theorem g_before (a b:TyB0):g57_0 a b=true↔Bf a b:=by
 unfold g57_0 Bf
 by_cases c:(ByteArray.toList a.1==ByteArray.toList b.1)=true
 ·have e:=(bytes_eq _ _).1 c
  have c':(!ByteArray.toList a.1==ByteArray.toList b.1)=false:=by rw [c];rfl
  have e':(!ByteArray.toList (Prod.fst a)==ByteArray.toList (Prod.fst b))=false:=c'
  rw [if_neg (by rw [e'];decide)]
  by_cases d:(ByteArray.toList a.2.1==ByteArray.toList b.2.1)=true
  ·have f:=(bytes_eq _ _).1 d
   rw [if_neg (by rw [d];decide),e,f,sless_irrefl,sless_irrefl]
   simp
  ·rw [if_pos (by rw [Bool.eq_false_iff.2 d];decide),e,sless_irrefl]
   have f:¬ a.2.1=b.2.1:=fun h=>d ((bytes_eq _ _).2 h)
   simp [f,sless]
 ·rw [if_pos (by rw [Bool.eq_false_iff.2 c];decide)]
  have e:¬ a.1=b.1:=fun h=>c ((bytes_eq _ _).2 h)
  simp [e,sless]
theorem Bf.trans {a b c:TyB0} (h:Bf a b) (k:Bf b c):Bf a c:=by
 rcases h with h | ⟨e,h⟩
 ·rcases k with k | ⟨f,k⟩
  ·exact .inl (sless_trans h k)
  ·exact .inl (f ▸ h)
 ·rcases k with k | ⟨f,k⟩
  ·exact .inl (by rw [e];exact k)
  ·refine .inr ⟨e.trans f,?_⟩
   rcases h with h | ⟨e2,h⟩
   ·rcases k with k | ⟨f2,k⟩
    ·exact .inl (sless_trans h k)
    ·exact .inl (f2 ▸ h)
   ·rcases k with k | ⟨f2,k⟩
    ·exact .inl (by rw [e2];exact k)
    ·exact .inr ⟨e2.trans f2,by omega⟩
theorem Bf.irrefl (a:TyB0):¬ Bf a a:=by
 rintro (h | ⟨_,h | ⟨_,h⟩⟩)
 ·rw [sless_irrefl] at h;cases h
 ·rw [sless_irrefl] at h;cases h
 ·omega
theorem Bf.tri {a b:TyB0} (h:¬ Bf a b) (k:¬ a=b):Bf b a:=by
 unfold Bf at h ⊢
 rw [← g_eq] at k
 cases h1:sless b.1 a.1 with
 | true=>exact .inl rfl
 | false =>
  have e:b.1=a.1:=sless_tri h1 (Bool.eq_false_iff.2 fun hh=>h (.inl hh))
  refine .inr ⟨e,?_⟩
  cases h2:sless b.2.1 a.2.1 with
  | true=>exact .inl rfl
  | false =>
   have f:b.2.1=a.2.1:=sless_tri h2 (Bool.eq_false_iff.2 fun hh=>h (.inr ⟨e.symm,.inl hh⟩))
   refine .inr ⟨f,?_⟩
   have:¬ a.2.2.1<b.2.2.1:=fun hh=>h (.inr ⟨e.symm,.inr ⟨f.symm,hh⟩⟩)
   have:¬ a.2.2.1=b.2.2.1:=fun hh=>k ⟨e.symm,f.symm,hh⟩
   omega
theorem allI_iff {α:Type} {q:Nat→α→Bool}:∀ {l:List α} {i:Nat},allI q i l=true↔∀ (j:Nat) (h:j<l.length),q (i+j) l[j]=true
 | [],i=>⟨fun _ j h=>absurd h (Nat.not_lt_zero j),fun _=>rfl⟩
 | x :: r,i=>by
  simp only [allI,Bool.and_eq_true,allI_iff (l:=r)]
  constructor
  ·rintro ⟨h1,h2⟩ j hj
   cases j with
   | zero=>exact h1
   | succ j =>
    have:=h2 j (by simpa using hj)
    rw [show i+(j+1)=i+1+j from by omega]
    exact this
  ·intro h
   refine ⟨h 0 (by simp),fun j hj => ?_⟩
   have:=h (j+1) (by simpa using hj)
   rw [show i+(j+1)=i+1+j from by omega] at this
   exact this
theorem allI_rise {α:Type} (q:α→Bool) (r:α→α→Prop) (rb:α→α→Bool) (d:α) (hr:∀ a b,rb a b=true↔r a b) (tr:∀ a b c,r a b→r b c→r a c) (l:List α):allI (fun i x=>q x&&(i==0||rb (l.getD (i - 1) d) x)) 0 l=true↔(∀ x∈l,q x=true)∧l.Pairwise r:=by
 rw [allI_iff,List.pairwise_iff_getElem]
 simp only [Nat.zero_add,Bool.and_eq_true,Bool.or_eq_true,hr,beq_iff_eq]
 constructor
 ·intro h
  refine ⟨fun x hx => ?_,?_⟩
  ·obtain ⟨j,hj,rfl⟩:=List.mem_iff_getElem.1 hx
   exact (h j hj).1
  ·have step:∀ j (hj:j+1<l.length),r l[j] l[j+1]:=fun j hj=>by
    have:=(h (j+1) hj).2.resolve_left (by omega)
    rw [Nat.add_sub_cancel,getD_lt l j d (by omega)] at this
    exact this
   intro i j hi hj hij
   induction j with
   | zero=>omega
   | succ j ih =>
    rcases Nat.lt_or_ge i j with hlt | hge
    ·exact tr _ _ _ (ih (by omega) hlt) (step j hj)
    ·obtain rfl:i=j:=by omega
     exact step i hj
 ·rintro ⟨h1,h2⟩ j hj
  refine ⟨h1 _ (List.getElem_mem hj),?_⟩
  rcases Nat.eq_zero_or_pos j with h | h
  ·exact .inl h
  ·refine .inr ?_
   rw [getD_lt l (j - 1) d (by omega)]
   exact h2 (j - 1) j (by omega) hj (by omega)
theorem implGrants (x0:List (ByteArray×List ByteArray×Unit)) (x1:List TyB0):g22_0 x0 x1=true↔g49_0 x0=true∧x1.length≤48∧(∀ x∈x1,g23_0 x0 x=true)∧x1.Pairwise Bf:=by
 unfold g22_0
 have key:=allI_rise (g23_0 x0) Bf (fun a b => !decide (g21_0 a b≥0)) (ByteArray.empty,ByteArray.empty,0,()) (fun a b=>by
  rw [← (g_cmp a b).1,Bool.not_eq_true',decide_eq_false_iff_not]
  omega) (fun _ _ _=>Bf.trans) x1
 by_cases c:g49_0 x0=true
 ·rw [if_pos c,Bool.and_eq_true,decide_eq_true_eq]
  constructor
  ·rintro ⟨h1,h2⟩
   obtain ⟨k1,k2⟩:=key.1 h1
   exact ⟨c,by omega,k1,k2⟩
  ·rintro ⟨_,h2,k1,k2⟩
   exact ⟨key.2 ⟨k1,k2⟩,by omega⟩
 ·rw [if_neg c]
  exact ⟨fun h=>(by cases h),fun h=>absurd h.1 c⟩
theorem specGrants (x0:List (ByteArray×List ByteArray×Unit)) (x1:List TyB0):g27_0 x0 x1=true↔g55_0 x0=true∧x1.length≤48∧(∀ x∈x1,g56_0 x0 x=true)∧x1.Pairwise Bf:=by
 unfold g27_0
 have key:=allI_rise (g56_0 x0) Bf (g57_0) (ByteArray.empty,ByteArray.empty,0,()) g_before (fun _ _ _=>Bf.trans) x1
 by_cases c:g55_0 x0=true
 ·rw [if_pos c]
  by_cases d:(x1.length:Int)≤48
  ·rw [if_pos (decide_eq_true d)]
   constructor
   ·intro h1
    obtain ⟨k1,k2⟩:=key.1 h1
    exact ⟨c,by omega,k1,k2⟩
   ·rintro ⟨_,h2,k1,k2⟩
    exact key.2 ⟨k1,k2⟩
  ·rw [if_neg (by simpa using d)]
   exact ⟨fun h=>(by cases h),fun h=>(by omega)⟩
 ·rw [if_neg c]
  exact ⟨fun h=>(by cases h),fun h=>absurd h.1 c⟩
theorem find_eq (x0:List (ByteArray×List ByteArray×Unit)) (n:ByteArray):g28_0 x0 n=g50_0 x0 n:=rfl
theorem at_name {x0:List (ByteArray×List ByteArray×Unit)} {n:ByteArray} (h:In64 x0 n):(x0.getD (g28_0 x0 n).toNat (ByteArray.empty,[],())).1=n:=by
 have h0:=h.1
 rw [← find_eq] at h0
 unfold g28_0 at h0 ⊢
 cases hf:x0.findIdx? (is28 n) with
 | none=>rw [hf] at h0;exact absurd h0 (by decide)
 | some k =>
  obtain ⟨hk,hr,_⟩:=List.findIdx?_eq_some_iff_getElem.1 hf
  have e:(idx (some k)).toNat=k:=rfl
  rw [e,getD_lt x0 k _ hk]
  exact (bytes_eq _ _).1 hr
theorem find_inj {x0:List (ByteArray×List ByteArray×Unit)} {n m:ByteArray} (hn:In64 x0 n) (hm:In64 x0 m) (h:g28_0 x0 n=g28_0 x0 m):n=m:=by
 rw [← at_name hn, ← at_name hm,h]
theorem in_nat {x0:List (ByteArray×List ByteArray×Unit)} {n:ByteArray} (h:In64 x0 n):(g28_0 x0 n).toNat<x0.length∧((g28_0 x0 n).toNat:Int)=g28_0 x0 n:=by
 have h1:=h.1
 have h2:=h.2
 rw [← find_eq] at h1 h2
 omega
section
variable {x0:List (ByteArray×List ByteArray×Unit)}
theorem mark_get (h:List Bool) (n:ByteArray) (j:Nat):(mark59 x0 h n).getD j false=true↔h.getD j false=true∨(j=(g28_0 x0 n).toNat∧j<h.length):=by
 unfold mark59
 generalize (g28_0 x0 n).toNat=i
 simp only [List.getD_eq_getElem?_getD,List.getElem?_set]
 by_cases c:i=j
 ·subst c
  rw [if_pos rfl]
  by_cases d:i<h.length
  ·simp [d]
  ·simp [d]
 ·rw [if_neg c]
  constructor
  ·exact .inl
  ·rintro (k | k)
   ·exact k
   ·exact absurd k.1.symm c
theorem marks_get:∀ (l:List ByteArray) (h:List Bool) (j:Nat),(l.foldl (mark59 x0) h).getD j false=true↔h.getD j false=true∨∃ n∈l,j=(g28_0 x0 n).toNat∧j<h.length
 | [],h,j=>by simp
 | a :: l,h,j=>by
  rw [List.foldl_cons,marks_get l,mark_get,mark_len59]
  constructor
  ·rintro ((k | k) | ⟨n,hn,k⟩)
   ·exact .inl k
   ·exact .inr ⟨a,List.mem_cons_self .., k⟩
   ·exact .inr ⟨n,List.mem_cons_of_mem _ hn,k⟩
  ·rintro (k | ⟨n,hn,k⟩)
   ·exact .inl (.inl k)
   ·rcases List.mem_cons.1 hn with rfl | hn
    ·exact .inl (.inr k)
    ·exact .inr ⟨n,hn,k⟩
def Le1 (h k:List Bool):Prop:=∀ j,h.getD j false=true→k.getD j false=true
theorem role_get (x1:Int) (h:List Bool) (i j:Nat):(role59 x0 x1 h i).getD j false=true↔h.getD j false=true∨(((i:Int)=x1∨h.getD i false=true)∧∃ n∈und59 x0 i,j=(g28_0 x0 n).toNat∧j<h.length):=by
 unfold role59
 split
 ·rename_i c
  rw [marks_get]
  constructor
  ·rintro (k | k)
   ·exact .inl k
   ·exact .inr ⟨c,k⟩
  ·rintro (k | k)
   ·exact .inl k
   ·exact .inr k.2
 ·rename_i c
  constructor
  ·exact .inl
  ·rintro (k | k)
   ·exact k
   ·exact absurd k.1 c
theorem role_le (x1:Int) (h:List Bool) (i:Nat):Le1 h (role59 x0 x1 h i):=fun j hj=>(role_get x1 h i j).2 (.inl hj)
theorem turn_le (x1:Int):∀ (k i:Nat) (h:List Bool),Le1 h (turn59 x0 x1 k i h)
 | 0,_,_=>fun _ hj=>hj
 | k+1,i,h=>fun j hj=>turn_le x1 k (i+1) _ j (role_le x1 h i j hj)
def Shut (x0:List (ByteArray×List ByteArray×Unit)) (x1:Int) (h:List Bool):Prop:=∀ i:Nat,((i:Int)=x1∨h.getD i false=true)→∀ n∈und59 x0 i,h.getD (g28_0 x0 n).toNat false=true
theorem und_out {i:Nat} {n:ByteArray} (h:n∈und59 x0 i):i<x0.length:=by
 rcases Nat.lt_or_ge i x0.length with c | c
 ·exact c
 ·unfold und59 at h
  rw [List.getD_eq_getElem?_getD,List.getElem?_eq_none c] at h
  cases h
theorem shut_of (hp:∀ r∈x0,∀ n∈r.2.1,In64 x0 n) (x1:Int) (h:List Bool) (hl:h.length=x0.length):∀ (k i:Nat) (h':List Bool),h'.length=x0.length→Le1 h h'→turn59 x0 x1 k i h'=h→∀ j,i≤j→j<i+k→((j:Int)=x1∨h.getD j false=true)→∀ n∈und59 x0 j,h.getD (g28_0 x0 n).toNat false=true
 | 0,i,h',_,_,_,j,h1,h2,_,_,_=>absurd h2 (by omega)
 | k+1,i,h',hl',hle,ht,j,h1,h2,hc,n,hn=>by
  have ht:turn59 x0 x1 k (i+1) (role59 x0 x1 h' i)=h:=ht
  rcases Nat.lt_or_ge i j with c | c
  ·exact shut_of hp x1 h hl k (i+1) _ (by rw [role_len59];exact hl') (fun q hq=>role_le x1 h' i q (hle q hq)) ht j c (by omega) hc n hn
  ·obtain rfl:j=i:=by omega
   have hin:=hp _ (mem_getD x0 j (ByteArray.empty,[],()) (und_out hn)) n hn
   have:=turn_le (x0:=x0) x1 k (j+1) (role59 x0 x1 h' j) _ ((role_get x1 h' j _).2 (.inr ⟨hc.imp id (hle j),n,hn,rfl,by rw [hl'];exact (in_nat hin).1⟩))
   rw [ht] at this
   exact this
def cnt (h:List Bool):Nat:=h.countP id
theorem cnt_lt:∀ (h k:List Bool),h.length=k.length→Le1 h k→h≠k→cnt h<cnt k
 | [],[],_,_,hne=>absurd rfl hne
 | [],b :: k,hl,_,_=>by simp at hl
 | a :: h,[],hl,_,_=>by simp at hl
 | a :: h,b :: k,hl,hle,hne=>by
  have hl':h.length=k.length:=by simpa using hl
  have hle':Le1 h k:=fun j hj=>by
   have:=hle (j+1) (by simpa using hj)
   simpa using this
  have h0:a=true→b=true:=fun ha=>by
   have:=hle 0 (by simpa using ha)
   simpa using this
  have le:cnt h≤cnt k:=by
   by_cases c:h=k
   ·rw [c];exact Nat.le_refl _
   ·exact Nat.le_of_lt (cnt_lt h k hl' hle' c)
  unfold cnt at *
  rw [List.countP_cons,List.countP_cons]
  cases a with
  | true =>
   rw [h0 rfl]
   have:=cnt_lt h k hl' hle' (fun e=>hne (by rw [e,h0 rfl]))
   unfold cnt at this
   omega
  | false =>
   cases b with
   | true=>simp;omega
   | false =>
    have:=cnt_lt h k hl' hle' (fun e=>hne (by rw [e]))
    unfold cnt at this
    omega
theorem turns_fix (x1:Int) {h:List Bool} (e:turn59 x0 x1 x0.length 0 h=h):∀ k,turns59 x0 x1 k h=h
 | 0=>rfl
 | k+1=>by rw [turns59,e,turns_fix x1 e k]
theorem turns_shut (hp:∀ r∈x0,∀ n∈r.2.1,In64 x0 n) (x1:Int):∀ (k:Nat) (h:List Bool),h.length=x0.length→Shut x0 x1 (turns59 x0 x1 k h)∨cnt h+k≤cnt (turns59 x0 x1 k h)
 | 0,h,_ => .inr (Nat.le_refl _)
 | k+1,h,hl=>by
  by_cases e:turn59 x0 x1 x0.length 0 h=h
  ·rw [turns_fix x1 e]
   exact .inl fun i hi n hn=>shut_of hp x1 h hl x0.length 0 h hl (fun _ hj=>hj) e i (Nat.zero_le _) (by rw [Nat.zero_add];exact und_out hn) hi n hn
  ·have hlt:=cnt_lt h _ (by rw [turn_len59]) (turn_le x1 x0.length 0 h) (Ne.symm e)
   rw [turns59]
   rcases turns_shut hp x1 k (turn59 x0 x1 x0.length 0 h) (by rw [turn_len59];exact hl) with h1 | h1
   ·exact .inl h1
   ·exact .inr (by omega)
theorem cnt_le (h:List Bool):cnt h≤h.length:=List.countP_le_length
theorem cnt_all {h:List Bool} (e:h.length≤cnt h) {j:Nat} (hj:j<h.length):h.getD j false=true:=by
 have:=List.countP_eq_length.1 (Nat.le_antisymm (cnt_le h) e) _ (List.getElem_mem hj)
 rw [getD_lt h j _ hj]
 exact this
theorem under_shut (hp:∀ r∈x0,∀ n∈r.2.1,In64 x0 n) (x1:Int):Shut x0 x1 (g59_0 x0 x1):=by
 rcases turns_shut hp x1 x0.length (List.replicate x0.length false) (List.length_replicate ..) with h | h
 ·exact h
 ·intro i _ n hn
  have hin:=hp _ (mem_getD x0 i (ByteArray.empty,[],()) (und_out hn)) n hn
  have hl:=len59 x0 x1
  refine cnt_all ?_ (by rw [hl];exact (in_nat hin).1)
  unfold g59_0 at hl ⊢
  omega
def Sound (x0:List (ByteArray×List ByteArray×Unit)) (a:ByteArray) (h:List Bool):Prop:=∀ j,h.getD j false=true→∃ n,Reach x0 a n∧In64 x0 n∧(g28_0 x0 n).toNat=j
theorem role_sound (hp:∀ r∈x0,∀ n∈r.2.1,In64 x0 n) {a:ByteArray} (ha:In64 x0 a) {h:List Bool} (hs:Sound x0 a h) (i:Nat):Sound x0 a (role59 x0 (g28_0 x0 a) h i):=fun j hj=>by
 rcases (role_get _ h i j).1 hj with k | ⟨c,n,hn,e,_⟩
 ·exact hs j k
 ·have hin:=hp _ (mem_getD x0 i (ByteArray.empty,[],()) (und_out hn)) n hn
  refine ⟨n,?_,hin,e.symm⟩
  rcases c with c | c
  ·have e:i=(g28_0 x0 a).toNat:=by have:=(in_nat ha).2;omega
   rw [e] at hn
   exact Reach.one hn
  ·obtain ⟨m,h1,h2,h3⟩:=hs i c
   rw [← h3] at hn
   exact h1.trans (Reach.one hn)
theorem turn_sound (hp:∀ r∈x0,∀ n∈r.2.1,In64 x0 n) {a:ByteArray} (ha:In64 x0 a):∀ (k i:Nat) {h:List Bool},Sound x0 a h→Sound x0 a (turn59 x0 (g28_0 x0 a) k i h)
 | 0,_,_,hs=>hs
 | k+1,i,_,hs=>turn_sound hp ha k (i+1) (role_sound hp ha hs i)
theorem turns_sound (hp:∀ r∈x0,∀ n∈r.2.1,In64 x0 n) {a:ByteArray} (ha:In64 x0 a):∀ (k:Nat) {h:List Bool},Sound x0 a h→Sound x0 a (turns59 x0 (g28_0 x0 a) k h)
 | 0,_,hs=>hs
 | k+1,_,hs=>turns_sound hp ha k (turn_sound hp ha _ 0 hs)
theorem shut_reach {a:ByteArray} {h:List Bool} (hp:∀ r∈x0,∀ n∈r.2.1,In64 x0 n) (hs:Shut x0 (g28_0 x0 a) h):∀ (f:Nat) (c n:ByteArray),In64 x0 c→(c=a∨h.getD (g28_0 x0 c).toNat false=true)→Rch x0 f c n→h.getD (g28_0 x0 n).toNat false=true
 | 0,_,_,_,_,hr=>hr.elim
 | f+1,c,n,hc,hca,hr=>by
  have hd:=hs (g28_0 x0 c).toNat (hca.imp (fun e=>by rw [← e];exact (in_nat hc).2) id)
  rcases hr with hr | ⟨b,hb,hr⟩
  ·exact hd n hr
  ·exact shut_reach hp hs f b n (hp _ (mem_getD x0 _ _ (in_nat hc).1) b hb) (.inr (hd b hb)) hr
theorem marked_iff (hp:∀ r∈x0,∀ n∈r.2.1,In64 x0 n) {a m:ByteArray} (ha:In64 x0 a) (hm:In64 x0 m):(g59_0 x0 (g28_0 x0 a)).getD (g28_0 x0 m).toNat false=true↔Reach x0 a m:=by
 constructor
 ·intro h
  obtain ⟨n,h1,h2,h3⟩:=turns_sound hp ha x0.length (h:=List.replicate x0.length false) (fun j hj=>by
   rw [List.getD_eq_getElem?_getD,List.getElem?_replicate] at hj
   split at hj <;> cases hj) _ h
  have:n=m:=find_inj h2 hm (by have:=(in_nat h2).2;have:=(in_nat hm).2;omega)
  rw [← this]
  exact h1
 ·rintro ⟨f,hf⟩
  exact shut_reach hp (under_shut hp _) f a m ha (.inl rfl) hf
end
theorem implNames (l:List ByteArray):g71_0 l=true↔(∀ x∈l,g51_0 x=true)∧l.Pairwise fun a b=>sless a b=true:=by
 refine allI_rise g51_0 (fun a b=>sless a b=true) (fun a b => !le71 b a) ByteArray.empty (fun a b => ?_) (fun _ _ _=>sless_trans) l
 unfold le71
 rw [le_not]
 rfl
theorem roles_same {x0:List (ByteArray×List ByteArray×Unit)} (h:g49_0 x0=true):g55_0 x0=true:=by
 obtain ⟨hl,r2,r3,r4⟩:=roles_law h
 have hp:=fun (r:ByteArray×List ByteArray×Unit) (hr:r∈x0)=>(r2 r hr).2.1
 unfold g49_0 at h
 rw [if_pos (decide_eq_true hl)] at h
 by_cases c2:g71_0 (nm49 x0)=true
 case neg=>rw [if_neg c2] at h;cases h
 rw [if_pos c2] at h
 by_cases c3:x0.all (ok49 x0)=true
 case neg=>rw [if_neg c3] at h;cases h
 obtain ⟨n1,n2⟩:=(implNames _).1 c2
 have n2:x0.Pairwise fun a b=>sless a.1 b.1=true:=List.pairwise_map.1 n2
 have un:∀ r∈x0,allI (un55 x0 r.2.1) 0 r.2.1=true:=fun r hr=>by
  have h1:=List.all_eq_true.1 c3 r hr
  unfold ok49 at h1
  rw [Bool.and_eq_true] at h1
  obtain ⟨k1,k2⟩:=(implNames _).1 h1.1
  refine (allI_rise (fun n => !decide (g28_0 x0 n<0)) (fun a b=>sless a b=true) (fun a b=>lt55 a b) ByteArray.empty (fun a b=>Iff.rfl) (fun _ _ _=>sless_trans) r.2.1).2 ⟨fun n hn => ?_,k2⟩
  have:=(hp r hr r hr n hn).1
  rw [← find_eq] at this
  simp only [Bool.not_eq_true',decide_eq_false_iff_not]
  omega
 unfold g55_0
 rw [if_pos (decide_eq_true hl),if_pos]
 ·rw [allI_iff]
  intro j hj
  unfold free55
  rw [Nat.zero_add,Bool.not_eq_true']
  refine Bool.eq_false_iff.2 fun hm => ?_
  have hmem:=List.getElem_mem hj
  have hin:In64 x0 x0[j].1:=self49 hmem
  obtain ⟨i1,i2⟩:=in_nat hin
  have hnm:=at_name hin
  have e:(g28_0 x0 x0[j].1).toNat=j:=by
   rw [getD_lt x0 _ _ i1] at hnm
   rw [List.pairwise_iff_getElem] at n2
   rcases Nat.lt_trichotomy (g28_0 x0 x0[j].1).toNat j with c | c | c
   ·have:=n2 _ _ i1 hj c
    rw [hnm,sless_irrefl] at this;cases this
   ·exact c
   ·have:=n2 _ _ hj i1 c
    rw [hnm,sless_irrefl] at this;cases this
  have e2:(j:Int)=g28_0 x0 x0[j].1:=by omega
  have hm2:(g59_0 x0 (g28_0 x0 x0[j].1)).getD (g28_0 x0 x0[j].1).toNat false=true:=by rw [e, ← e2];exact hm
  exact r4 _ hmem ((under_mem (r2 _ hmem) _).2 ((marked_iff (r2 _ hmem).2.1 hin hin).1 hm2))
 ·have:=(allI_rise (fun (r:ByteArray×List ByteArray×Unit)=>g78_0 r.1&&allI (un55 x0 r.2.1) 0 r.2.1) (fun a b=>sless a.1 b.1=true) (fun a b=>lt55 a.1 b.1) (ByteArray.empty,[],()) (fun a b=>Iff.rfl) (fun _ _ _=>sless_trans) x0).2 ⟨fun r hr=>by
   rw [Bool.and_eq_true, ← name_eq]
   exact ⟨n1 r.1 (List.mem_map.2 ⟨r,hr,rfl⟩),un r hr⟩,n2⟩
  rw [← this]
  refine allI_congr x0 0 fun j r _ => ?_
  unfold role55
  rw [Bool.and_assoc]
  congr 1
  exact Bool.and_comm _ _
theorem one_same (x0:List (ByteArray×List ByteArray×Unit)) (x:ByteArray×ByteArray×Int×Unit):g56_0 x0 x=g23_0 x0 x:=by
 unfold g56_0 g23_0
 rw [← name_eq]
 rfl
theorem grants_same {x0:List (ByteArray×List ByteArray×Unit)} {x1:List TyB0} (h:g22_0 x0 x1=true):g27_0 x0 x1=true:=by
 obtain ⟨h1,h2,h3,h4⟩:=(implGrants x0 x1).1 h
 exact (specGrants x0 x1).2 ⟨roles_same h1,h2,fun x hx=>by rw [one_same];exact h3 x hx,h4⟩
theorem may_same {x0:List (ByteArray×List ByteArray×Unit)} {x1:List TyB0} (h:g22_0 x0 x1=true) {n:ByteArray} (hn:In64 x0 n) (o:ByteArray) (a:Int):P9 x0 x1 n o a∧g9_0 x0 x1 n o a=g39_0 x0 x1 n o a:=by
 obtain ⟨h1,h2,h3,h4⟩:=(implGrants x0 x1).1 h
 obtain ⟨hl,r2,r3,r4⟩:=roles_law h1
 have pn:=r3 n hn
 have gin:∀ x∈x1,In64 x0 x.1:=fun x hx=>by
  have:=h3 x hx
  unfold g23_0 at this
  split at this
  ·rename_i c
   refine in49 (of_decide_eq_true c) ?_
   have:=hn.1
   have:=hn.2
   omega
  ·cases this
 have hm:g30_0 x0 x1 (g28_0 x0 n) o a=true↔∃ x∈x1,x.2.1=o∧a≤x.2.2.1∧(x.1∈g64_0 x0 n∨x.1=n):=by
  unfold g30_0
  rw [List.any_eq_true]
  have one:∀ x∈x1,hit30 x0 (g28_0 x0 n) o a x=true↔x.2.1=o∧a≤x.2.2.1∧(x.1∈g64_0 x0 n∨x.1=n):=fun x hx=>by
   unfold hit30
   rw [Bool.and_eq_true,Bool.or_eq_true,Bool.and_eq_true,bytes_eq,decide_eq_true_eq,marked_iff pn.2.1 hn (gin x hx),under_mem pn,beq_iff_eq]
   constructor
   ·rintro ⟨k1 | k1,k2,k3⟩
    ·exact ⟨k2,k3,.inr (find_inj (gin x hx) hn k1)⟩
    ·exact ⟨k2,k3,.inl k1⟩
   ·rintro ⟨k2,k3,k1 | k1⟩
    ·exact ⟨.inr k1,k2,k3⟩
    ·exact ⟨.inl (by rw [k1]),k2,k3⟩
  constructor
  ·rintro ⟨x,hx,k⟩
   exact ⟨x,hx,(one x hx).1 k⟩
  ·rintro ⟨x,hx,k⟩
   exact ⟨x,hx,(one x hx).2 k⟩
 have hf:¬ decide (g28_0 x0 n<0)=true:=by
  have:=hn.1
  rw [← find_eq] at this
  simp only [decide_eq_true_eq]
  omega
 have hok:=grants_same h
 have pm:P30 x0 x1 (g28_0 x0 n) o a:=⟨⟨by omega,pn.2.1⟩,fun x hx=>gin x hx⟩
 have ha:g29_0 a=true↔1≤a∧a≤3:=by
  unfold g29_0 g58_0
  by_cases c:decide (a≥1)=true
  ·rw [if_pos c]
   have:=of_decide_eq_true c
   simp only [decide_eq_true_eq]
   omega
  ·rw [if_neg c]
   have:¬ a≥1:=fun h=>c (decide_eq_true h)
   constructor
   ·intro h;cases h
   ·intro h;omega
 have n1:¬ (!g27_0 x0 x1)=true:=by rw [hok];decide
 refine ⟨(if_neg n1).mpr ((if_neg hf).mpr ?_),?_⟩
 ·by_cases c:(!g29_0 a)=true
  ·exact (if_pos c).mpr trivial
  ·exact (if_neg c).mpr ⟨pm,trivial⟩
 ·unfold g9_0
  rw [if_neg n1,if_neg hf]
  have hh:=has_law x0 x1 n o a
  by_cases c:g29_0 a=true
  ·rw [if_neg (by rw [c];decide)]
   cases e:g39_0 x0 x1 n o a with
   | true=>exact hm.2 (hh.1 e).2
   | false =>
    refine Bool.eq_false_iff.2 fun h2 => ?_
    rw [hh.2 ⟨ha.1 c,hm.1 h2⟩] at e
    cases e
  ·rw [if_pos (by rw [Bool.eq_false_iff.2 c];rfl)]
   cases e:g39_0 x0 x1 n o a with
   | true=>exact absurd (ha.2 (hh.1 e).1) c
   | false=>rfl
theorem cp_law:∀ (l:List ByteArray) (p:ByteArray),(p :: l).Pairwise sle→(p :: cp63 p l).Pairwise (fun a b=>sless a b=true)∧∀ n,n∈p :: cp63 p l↔n∈p :: l
 | [],p,_=>by
  unfold cp63
  exact ⟨List.pairwise_singleton _ _,fun n=>Iff.rfl⟩
 | y :: r,p,h=>by
  obtain ⟨h1,h2⟩:=List.pairwise_cons.1 h
  unfold cp63
  by_cases c:(ByteArray.toList y==ByteArray.toList p)=true
  ·rw [if_pos c]
   have e:=(bytes_eq _ _).1 c
   subst e
   obtain ⟨k1,k2⟩:=cp_law r y h2
   refine ⟨k1,fun n => ?_⟩
   rw [k2 n]
   simp
  ·rw [if_neg c]
   obtain ⟨k1,k2⟩:=cp_law r y h2
   have hpy:sless p y=true:=by
    cases hs:sless p y with
    | true=>rfl
    | false=>exact absurd ((bytes_eq _ _).2 (sless_tri (h1 y (List.mem_cons_self ..)) hs)) c
   refine ⟨List.pairwise_cons.2 ⟨fun z hz => ?_,k1⟩,fun n => ?_⟩
   ·rcases List.mem_cons.1 hz with rfl | hz
    ·exact hpy
    ·exact sless_trans hpy ((List.pairwise_cons.1 k1).1 z hz)
   ·rw [List.mem_cons,k2 n]
    exact List.mem_cons.symm
theorem ob_law (x1:List TyB0):(ob35 x1).Pairwise (fun a b=>sless a b=true)∧∀ n,n∈ob35 x1↔∃ x∈x1,x.2.1=n:=by
 have hm:∀ n,n∈sortB (x1.map fun x=>x.2.1)↔∃ x∈x1,x.2.1=n:=fun n=>by
  rw [(sortB_perm _).mem_iff,List.mem_map]
 have hs:=sortB_sorted (x1.map fun x=>x.2.1)
 have e:ob35 x1=g63_0 (sortB (x1.map fun x=>x.2.1)):=rfl
 rw [e]
 generalize sortB (x1.map fun x=>x.2.1)=l at *
 cases l with
 | nil=>exact ⟨List.Pairwise.nil,hm⟩
 | cons y r =>
  obtain ⟨k1,k2⟩:=cp_law r y hs
  exact ⟨k1,fun n=>(k2 n).trans (hm n)⟩
theorem of_mem (x0:List (ByteArray×List ByteArray×Unit)) (x1:List TyB0) (n o:ByteArray) (x:ByteArray×ByteArray×Int×Unit):x∈of35 x0 x1 n o↔x.1=n∧x.2.1=o∧g39_0 x0 x1 n o x.2.2.1=true:=by
 have one:∀ a,x∈one35 x0 x1 n o a↔x=(n,o,a,())∧g39_0 x0 x1 n o a=true:=fun a=>by
  unfold one35
  split
  ·rename_i h
   simp [h]
  ·rename_i h
   constructor
   ·intro hh;cases hh
   ·intro hh;exact absurd hh.2 h
 unfold of35
 rw [List.mem_append,List.mem_append,one,one,one]
 obtain ⟨p,q,a,u⟩:=x
 constructor
 ·rintro ((⟨e,h⟩ | ⟨e,h⟩) | ⟨e,h⟩) <;> (simp only [Prod.mk.injEq,and_true] at e;obtain ⟨rfl,rfl,rfl⟩:=e;exact ⟨rfl,rfl,h⟩)
 ·rintro ⟨h1,h2,h3⟩
  have h1:p=n:=h1
  have h2:q=o:=h2
  have h3:g39_0 x0 x1 n o a=true:=h3
  subst h1 h2
  obtain ⟨ha,_⟩:=(has_law x0 x1 p q a).1 h3
  have:a=1∨a=2∨a=3:=by omega
  rcases this with rfl | rfl | rfl
  ·exact .inl (.inl ⟨rfl,h3⟩)
  ·exact .inl (.inr ⟨rfl,h3⟩)
  ·exact .inr ⟨rfl,h3⟩
theorem rights_mem (x0:List (ByteArray×List ByteArray×Unit)) (x1:List TyB0) (n:ByteArray) (x:ByteArray×ByteArray×Int×Unit):x∈g35_0 x0 x1 n↔x.1=n∧(∃ y∈x1,y.2.1=x.2.1)∧g39_0 x0 x1 n x.2.1 x.2.2.1=true:=by
 unfold g35_0
 rw [List.mem_flatMap]
 constructor
 ·rintro ⟨o,ho,h⟩
  obtain ⟨h1,h2,h3⟩:=(of_mem x0 x1 n o x).1 h
  subst h2
  exact ⟨h1,((ob_law x1).2 _).1 ho,h3⟩
 ·rintro ⟨h1,h2,h3⟩
  exact ⟨x.2.1,((ob_law x1).2 _).2 h2,(of_mem x0 x1 n x.2.1 x).2 ⟨h1,rfl,h3⟩⟩
theorem bfs_ok {x0:List (ByteArray×List ByteArray×Unit)} (hp:∀ r∈x0,∀ n∈r.2.1,In64 x0 n) {x1:ByteArray} (hx:In64 x0 x1):∀ (f k:Nat) (all:List ByteArray),Ok64 x0 all→Ok64 x0 (bfs64 x0 x1 f k all)
 | 0,_,_,h=>h
 | f+1,k,all,h=>by
  unfold bfs64
  split
  ·rename_i c
   have hm:(x1 :: all).getD k ByteArray.empty∈x1 :: all:=mem_getD (x1 :: all) k _ (by simpa using c)
   have hin:In64 x0 ((x1 :: all).getD k ByteArray.empty):=by
    rcases List.mem_cons.1 hm with he | he
    ·rw [he];exact hx
    ·exact h.2 _ he
   exact bfs_ok hp hx f (k+1) _ (h.fold _ (unds64 hp hin))
  ·exact h
theorem under_le {x0:List (ByteArray×List ByteArray×Unit)} {x1:ByteArray} (h:P64 x0 x1):(g64_0 x0 x1).length≤x0.length∧∀ n∈g64_0 x0 x1,In64 x0 n:=by
 have ho:=bfs_ok h.2.1 h.2.2 (x0.length+2) 0 [] ⟨List.nodup_nil,fun n hn=>by cases hn⟩
 unfold g64_0
 refine ⟨?_,fun n hn => ?_⟩
 ·rw [(sortB_perm _).length_eq]
  exact ho.le
 ·exact ho.2 n ((sortB_perm _).mem_iff.1 hn)
theorem has_pre {x0:List (ByteArray×List ByteArray×Unit)} (h:g49_0 x0=true) {n:ByteArray} (hn:In64 x0 n) (x1:List TyB0) (o:ByteArray) (a:Int):P39 x0 x1 n o a:=by
 obtain ⟨h1,h2,h3,h4⟩:=roles_law h
 have hp:=h3 n hn
 have:=(under_le hp).1
 exact ⟨hp,by omega,trivial⟩
theorem rights_pre {x0:List (ByteArray×List ByteArray×Unit)} {x1:List TyB0} (hv:g22_0 x0 x1=true) {n:ByteArray} (hn:In64 x0 n):P35 x0 x1 n:=by
 obtain ⟨h1,h2,_⟩:=grants_law hv
 exact ⟨by omega,fun o a=>has_pre h1 hn x1 o a⟩
theorem grant_is {x0:List (ByteArray×List ByteArray×Unit)} {x:ByteArray×ByteArray×Int×Unit} (h:g23_0 x0 x=true):g51_0 x.2.1=true∧1≤x.2.2.1∧x.2.2.1≤3:=by
 unfold g23_0 at h
 split at h
 ·split at h
  ·rename_i h2
   refine ⟨h2,?_⟩
   unfold g52_0 g76_0 at h
   split at h
   ·rename_i h3
    have:=of_decide_eq_true h3
    have:=of_decide_eq_true h
    omega
   ·cases h
  ·cases h
 ·cases h
theorem bs_at (p:Nat→Bool) (k N:Nat) (hk:∀ i,i<N→p i=decide (i<k)):∀ (m i j:Nat),j - i<m→i≤k→k≤j→j≤N→bsearch p m i j=k
 | 0,i,j,h,_,_,_=>by omega
 | m+1,i,j,h,h1,h2,h3=>by
  simp only [bsearch]
  split
  ·rw [hk _ (by omega)]
   split
   ·rename_i h4
    simp only [decide_eq_true_eq] at h4
    exact bs_at p k N hk m _ _ (by omega) (by omega) h2 h3
   ·rename_i h4
    simp only [decide_eq_true_eq] at h4
    exact bs_at p k N hk m _ _ (by omega) h1 (by omega) (by omega)
  ·omega
theorem cut_grants (x:TyB0):∀ (l:List TyB0),l.Pairwise Bf→∃ A B,l=A++B∧(∀ y∈A,Bf y x)∧∀ y∈B,¬ Bf y x
 | [],_=>⟨[],[],rfl,fun _ h=>(by cases h),fun _ h=>(by cases h)⟩
 | y :: r,h=>by
  obtain ⟨h1,h2⟩:=List.pairwise_cons.1 h
  by_cases c:Bf y x
  ·obtain ⟨A,B,e,k1,k2⟩:=cut_grants x r h2
   refine ⟨y :: A,B,by rw [e];rfl,fun z hz => ?_,k2⟩
   rcases List.mem_cons.1 hz with rfl | hz
   ·exact c
   ·exact k1 z hz
  ·refine ⟨[],y :: r,rfl,fun _ h=>(by cases h),fun z hz hb => ?_⟩
   rcases List.mem_cons.1 hz with rfl | hz
   ·exact c hb
   ·exact c ((h1 z hz).trans hb)
theorem bs_place {A B:List TyB0} {x:TyB0} (h1:∀ y∈A,Bf y x) (h2:∀ y∈B,¬ Bf y x):k20c21 (A++B) x=A.length:=by
 refine bs_at _ A.length (A++B).length (fun i hi => ?_) _ _ _ (by omega) (Nat.zero_le _) (by rw [List.length_append];omega) (Nat.le_refl _)
 show decide (g21_0 ((A++B).getD i (ByteArray.empty,ByteArray.empty,0,())) x<0)=_
 rw [getD_lt _ i _ hi]
 rcases Nat.lt_or_ge i A.length with c | c
 ·rw [decide_eq_true c,decide_eq_true_eq,(g_cmp _ _).1,List.getElem_append_left c]
  exact h1 _ (List.getElem_mem c)
 ·rw [decide_eq_false (p:=i<A.length) (by omega),decide_eq_false_iff_not,(g_cmp _ _).1,List.getElem_append_right c]
  exact h2 _ (List.getElem_mem _)
theorem bs_found {A B:List TyB0} {x:TyB0} (h1:∀ y∈A,Bf y x) (h2:∀ y∈B,¬ Bf y x):g20c21_1 (A++B) x=true↔B.head? = some x:=by
 unfold g20c21_1 f20c21
 rw [bs_place h1 h2]
 cases B with
 | nil=>simp
 | cons b r =>
  rw [if_pos (by simp),getD_lt _ _ _ (by simp),List.getElem_append_right (Nat.le_refl _),beq_iff_eq,(g_cmp _ _).2]
  simp
theorem srt_put {A B:List TyB0} {x:TyB0} (h:(A++B).Pairwise Bf) (h1:∀ y∈A,Bf y x) (h2:∀ y∈B,Bf x y):(A++x :: B).Pairwise Bf:=by
 rw [List.pairwise_append] at h ⊢
 refine ⟨h.1,List.pairwise_cons.2 ⟨h2,h.2.1⟩,fun a ha b hb => ?_⟩
 rcases List.mem_cons.1 hb with rfl | hb
 ·exact h1 a ha
 ·exact h.2.2 a ha b hb
theorem bs_le (p:Nat→Bool):∀ (m i j:Nat),i≤j→∀ N,j≤N→bsearch p m i j≤N
 | 0,i,j,h,N,hn=>Nat.le_trans h hn
 | m+1,i,j,h,N,hn=>by
  simp only [bsearch]
  split
  ·split
   ·exact bs_le p m _ _ (by omega) N hn
   ·exact bs_le p m _ _ (by omega) N (by omega)
  ·omega
theorem add_law {x0:List (ByteArray×List ByteArray×Unit)} {x1:List TyB0} {x:TyB0} (h:(g6_1 x0 x1 x==0)=true) :
  ∃ A B,x1=A++B∧g6_0 x0 x1 x=A++x :: B∧(∀ y∈A,Bf y x)∧(∀ y∈B,Bf x y)∧g22_0 x0 x1=true∧g22_0 x0 (A++x :: B)=true:=by
 unfold g6_1 at h
 unfold g6_0
 by_cases c1:(!g22_0 x0 x1)=true
 ·rw [if_pos c1] at h;exact absurd h (by decide)
 rw [if_neg c1] at h ⊢
 by_cases c2:(!g23_0 x0 x)=true
 ·rw [if_pos c2] at h;exact absurd h (by decide)
 rw [if_neg c2] at h ⊢
 by_cases c3:g20c21_1 x1 x=true
 ·rw [if_pos c3] at h;exact absurd h (by decide)
 rw [if_neg c3] at h ⊢
 by_cases c4:decide ((↑(List.length x1):Int)≥48)=true
 ·rw [if_pos c4] at h;exact absurd h (by decide)
 rw [if_neg c4]
 have hv:g22_0 x0 x1=true:=by simpa using c1
 have hg:g23_0 x0 x=true:=by simpa using c2
 obtain ⟨v1,v2,v3,v4⟩:=(implGrants x0 x1).1 hv
 obtain ⟨A,B,e,k1,k2⟩:=cut_grants x x1 v4
 subst e
 have k3:∀ y∈B,Bf x y:=by
  have c3:¬ B.head? = some x:=fun hh=>c3 ((bs_found k1 k2).2 hh)
  cases B with
  | nil=>intro y hy;cases hy
  | cons b r =>
   have hb:Bf x b:=(Bf.tri (k2 b (List.mem_cons_self ..)) (fun e=>c3 (by rw [e];rfl)))
   intro y hy
   rcases List.mem_cons.1 hy with rfl | hy
   ·exact hb
   ·exact hb.trans ((List.pairwise_cons.1 (List.pairwise_append.1 v4).2.1).1 y hy)
 refine ⟨A,B,rfl,?_,k1,k3,hv,(implGrants x0 _).2 ⟨v1,?_,fun y hy => ?_,srt_put v4 k1 k3⟩⟩
 ·show (A++B).take (g20c21_0 (A++B) x).toNat++([x]++(A++B).drop (g20c21_0 (A++B) x).toNat)=_
  have e:(g20c21_0 (A++B) x).toNat=A.length:=by
   unfold g20c21_0
   rw [bs_place k1 k2,Int.toNat_natCast]
  rw [e,List.take_left,List.drop_left]
  rfl
 ·have c4:=of_decide_eq_false (Bool.eq_false_iff.2 c4)
  simp only [List.length_append,List.length_cons] at c4 ⊢
  omega
 ·rcases List.mem_append.1 hy with hy | hy
  ·exact v3 y (List.mem_append_left _ hy)
  ·rcases List.mem_cons.1 hy with rfl | hy
   ·exact hg
   ·exact v3 y (List.mem_append_right _ hy)
theorem addg_pre {x0:List (ByteArray×List ByteArray×Unit)} (hl:x0.length≤1048576) {x1:List TyB0} (h1:x1.length≤1048576) (x:TyB0):P6 x0 x1 x:=by
 refine ⟨by show x1.length≤_;omega,hl,?_⟩
 split
 ·trivial
 ·split
  ·trivial
  ·split
   ·trivial
   ·split
    ·trivial
    ·rename_i c
     have c:=of_decide_eq_false (Bool.eq_false_iff.2 c)
     have hk:k20c21 x1 x≤x1.length:=bs_le _ _ _ _ (Nat.zero_le _) _ (Nat.le_refl _)
     refine ⟨by show x1.length≤_;omega,⟨?_,?_,rfl,by show x1.length≤_;omega⟩,trivial⟩
     ·show (0:Int)≤((k20c21 x1 x:Nat):Int)
      omega
     ·show ((k20c21 x1 x:Nat):Int)≤(x1.length:Int)
      omega
theorem back_law {x0:List (ByteArray×List ByteArray×Unit)} {A B:List TyB0} {x:TyB0} (hv:g22_0 x0 (A++x :: B)=true) :
  P7 x0 (A++x :: B) x∧g7_0 x0 (A++x :: B) x=A++B∧g7_1 x0 (A++x :: B) x=0:=by
 obtain ⟨v1,v2,v3,v4⟩:=(implGrants x0 _).1 hv
 have v5:=List.pairwise_append.1 v4
 have k1:∀ y∈A,Bf y x:=fun y hy=>v5.2.2 y hy x (List.mem_cons_self ..)
 have k2:∀ y∈x :: B,¬ Bf y x:=fun y hy hb=>by
  rcases List.mem_cons.1 hy with rfl | hy
  ·exact Bf.irrefl _ hb
  ·exact Bf.irrefl _ (((List.pairwise_cons.1 v5.2.1).1 y hy).trans hb)
 have e:=bs_place k1 k2
 have hf:=(bs_found k1 k2).2 rfl
 have hl:=(roles_law v1).1
 have n1:¬ (!g22_0 x0 (A++x :: B))=true:=by rw [hv];decide
 have n2:¬ (!g20c21_1 (A++x :: B) x)=true:=by rw [hf];decide
 have e0:g20c21_0 (A++x :: B) x=(A.length:Int):=by
  unfold g20c21_0
  rw [e]
 have hlen:(A++x :: B).length=A.length+B.length+1:=by simp only [List.length_append,List.length_cons];omega
 refine ⟨⟨by show x0.length≤_;omega,(if_neg n1).mpr ⟨by show (A++x :: B).length≤_;omega,(if_neg n2).mpr ⟨by show (A++x :: B).length≤_;omega,?_,⟨?_,?_,?_⟩,trivial⟩⟩⟩,?_,?_⟩
 ·rw [e0,i64_iff];omega
 ·rw [e0];omega
 ·rw [e0];omega
 ·rw [e0];show (A.length:Int)+1≤((A++x :: B).length:Int);rw [hlen];omega
 ·unfold g7_0
  rw [if_neg n1,if_neg n2,e0]
  show (A++x :: B).take (A.length:Int).toNat++(A++x :: B).drop ((A.length:Int)+1).toNat=_
  rw [show ((A.length:Int)+1).toNat=A.length+1 by omega,Int.toNat_natCast,List.take_left, ← List.drop_drop,List.drop_left]
  rfl
 ·unfold g7_1
  rw [if_neg n1,if_neg n2]
theorem less_erase (x1:List TyB0) (i:Nat):less10 x1 i=x1.eraseIdx i:=(List.eraseIdx_eq_take_drop_succ x1 i).symm
theorem less_valid {x0:List (ByteArray×List ByteArray×Unit)} {x1:List TyB0} (hv:g22_0 x0 x1=true) (i:Nat):g22_0 x0 (less10 x1 i)=true:=by
 obtain ⟨v1,v2,v3,v4⟩:=(implGrants x0 x1).1 hv
 rw [less_erase]
 have hs:=List.eraseIdx_sublist x1 i
 exact (implGrants x0 _).2 ⟨v1,Nat.le_trans hs.length_le v2,fun x hx=>v3 x (hs.subset hx),v4.sublist hs⟩
theorem needless_pre {x0:List (ByteArray×List ByteArray×Unit)} (hl:x0.length≤1048576) (x1:List TyB0):P10 x0 x1 :=
 ⟨hl,fun hv=>⟨((implGrants x0 x1).1 hv).2.1,fun i _=>⟨fun r hr=>⟨rights_pre hv (self49 hr),rights_pre (less_valid hv i) (self49 hr),trivial⟩,trivial⟩⟩⟩
section
variable {x0:List (ByteArray×List ByteArray×Unit)} {x1:List TyB0}
theorem pick_mem:∀ (k i:Nat),∀ v∈pick10 x0 x1 k i,∃ j:Nat,v=(j:Int)∧i≤j∧j<i+k∧no10 x0 x1 j=true
 | 0,i,v,hv=>by cases hv
 | k+1,i,v,hv=>by
  unfold pick10 at hv
  have rest:v∈pick10 x0 x1 k (i+1)→∃ j:Nat,v=(j:Int)∧i≤j∧j<i+(k+1)∧no10 x0 x1 j=true:=fun h=>by
   obtain ⟨j,h1,h2,h3,h4⟩:=pick_mem k (i+1) v h
   exact ⟨j,h1,by omega,by omega,h4⟩
  split at hv
  ·rename_i c
   rcases List.mem_cons.1 hv with rfl | hv
   ·exact ⟨i,rfl,Nat.le_refl _,by omega,c⟩
   ·exact rest hv
  ·exact rest hv
theorem pick_rises:∀ (k i:Nat),(pick10 x0 x1 k i).Pairwise fun a b=>a<b
 | 0,i=>List.Pairwise.nil
 | k+1,i=>by
  unfold pick10
  split
  ·refine List.pairwise_cons.2 ⟨fun v hv => ?_,pick_rises k (i+1)⟩
   obtain ⟨j,h1,h2,_⟩:=pick_mem k (i+1) v hv
   omega
  ·exact pick_rises k (i+1)
theorem pick_b10:g11_0 (pick10 x0 x1 x1.length 0) (x1.length:Int)=true:=by
 have:=(allI_rise (fun x:Int => !decide (x<0) && !decide (x≥(x1.length:Int))) (fun a b:Int=>a<b) (fun a b => !decide (a≥b)) 0 (fun a b=>by
  simp only [Bool.not_eq_true',decide_eq_false_iff_not];omega) (fun a b c h k=>by omega) (pick10 x0 x1 x1.length 0)).2 ⟨fun v hv=>by
   obtain ⟨j,h1,h2,h3,_⟩:=pick_mem _ _ v hv
   simp only [Bool.and_eq_true,Bool.not_eq_true',decide_eq_false_iff_not]
   omega,pick_rises _ _⟩
 rw [← this]
 refine allI_congr _ 0 fun j x _ => ?_
 unfold ok11
 rw [Bool.and_assoc]
theorem no_law {i:Nat} (h:no10 x0 x1 i=true) {r:ByteArray×List ByteArray×Unit} (hr:r∈x0):g35_0 x0 x1 r.1=g35_0 x0 (less10 x1 i) r.1:=by
 unfold no10 g32c33_0 at h
 rw [any61c33,Bool.not_eq_true',List.any_eq_false] at h
 have:=h r hr
 unfold g33_0 g34_0 at this
 simpa using this
theorem no_has {i:Nat} (hi:i<x1.length) (h:no10 x0 x1 i=true) {r:ByteArray×List ByteArray×Unit} (hr:r∈x0) (k:g39_0 x0 x1 r.1 x1[i].2.1 x1[i].2.2.1=true):g39_0 x0 (less10 x1 i) r.1 x1[i].2.1 x1[i].2.2.1=true:=by
 have hm:=(rights_mem x0 x1 r.1 (r.1,x1[i].2.1,x1[i].2.2.1,())).2 ⟨rfl,⟨_,List.getElem_mem hi,rfl⟩,k⟩
 rw [no_law h hr] at hm
 exact ((rights_mem x0 _ r.1 _).1 hm).2.2
theorem eq_grant (a b:ByteArray×ByteArray×Int×Unit):eqD (.cons .str (.cons .str (.cons (.int .i64) .unit))) a b=true↔a=b:=by
 obtain ⟨a1,a2,a3,u⟩:=a
 obtain ⟨b1,b2,b3,v⟩:=b
 show ((ByteArray.toList a1==ByteArray.toList b1)&&((ByteArray.toList a2==ByteArray.toList b2)&&((a3==b3)&&true)))=true↔_
 rw [Bool.and_eq_true,Bool.and_eq_true,Bool.and_true,bytes_eq,bytes_eq,beq_iff_eq]
 constructor
 ·rintro ⟨rfl,rfl,rfl⟩;rfl
 ·intro h
  simp only [Prod.mk.injEq,and_true] at h
  exact h
theorem revoke_law (hv:g22_0 x0 x1=true) {i:Nat} (hi:i<x1.length):g12_1 x0 x1 x1[i]=0∧g12_0 x0 x1 x1[i]=less10 x1 i:=by
 obtain ⟨v1,v2,v3,v4⟩:=(implGrants x0 x1).1 hv
 have hf:x1.findIdx? (is12 x1[i])=some i:=by
  refine List.findIdx?_eq_some_iff_getElem.2 ⟨hi,(eq_grant _ _).2 rfl,fun j hj hh => ?_⟩
  have:=List.pairwise_iff_getElem.1 v4 j i (by omega) hi hj
  rw [(eq_grant _ _).1 hh] at this
  exact Bf.irrefl _ this
 have n1:¬ (!g27_0 x0 x1)=true:=by rw [grants_same hv];decide
 unfold g12_1 g12_0
 rw [if_neg n1,if_neg n1,hf]
 refine ⟨rfl,?_⟩
 show []++List.take (Int.toNat (i:Int)) x1++List.drop (Int.toNat ((i:Int)+1)) x1=_
 rw [List.nil_append,Int.toNat_natCast,show Int.toNat ((i:Int)+1)=i+1 by omega]
 rfl
end
theorem mixed_law {x0:List (ByteArray×List ByteArray×Unit)} {x1:List TyB0} {a b:ByteArray×ByteArray×Int×Unit} (hl:x0.length≤1048576):P14 x0 x1 a b∧((g14_1 x0 x1 a b != 0)=true→g14_0 x0 x1 a b=[]) ∧
  (¬ (g14_1 x0 x1 a b != 0)=true→g22_0 x0 x1=true∧∀ n,g15_0 (g14_0 x0 x1 a b) n=true↔(∃ r∈x0,r.1=n)∧g39_0 x0 x1 n a.2.1 a.2.2.1=true∧g39_0 x0 x1 n b.2.1 b.2.2.1=true):=by
 by_cases c:(!g22_0 x0 x1)=true
 ·refine ⟨⟨hl,(if_pos c).mpr trivial⟩,fun _ => ?_,fun h=>absurd ?_ h⟩
  ·unfold g14_0
   rw [if_pos c]
  ·unfold g14_1
   rw [if_pos c]
   decide
 ·have hv:g22_0 x0 x1=true:=by simpa using c
  have v1:=((implGrants x0 x1).1 hv).1
  refine ⟨⟨hl,(if_neg c).mpr ⟨⟨hl,fun r hr => ?_⟩,trivial⟩⟩,fun h=>absurd h ?_,fun _=>⟨hv,fun n => ?_⟩⟩
  ·have hin:In64 x0 r.1:=self49 hr
   refine ⟨has_pre v1 hin x1 _ _,?_⟩
   split
   ·exact ⟨has_pre v1 hin x1 _ _,trivial⟩
   ·trivial
  ·unfold g14_1
   rw [if_neg c]
   decide
  ·rw [inside_mem]
   unfold g14_0
   rw [if_neg c]
   unfold g37c38_0
   rw [List.mem_map]
   have both:∀ m,g38_0 m x0 x1 a b=true↔g39_0 x0 x1 m a.2.1 a.2.2.1=true∧g39_0 x0 x1 m b.2.1 b.2.2.1=true:=fun m=>by
    unfold g38_0
    by_cases d:g39_0 x0 x1 m a.2.1 a.2.2.1=true
    ·rw [if_pos d];exact ⟨fun h=>⟨d,h⟩,fun h=>h.2⟩
    ·rw [if_neg d];exact ⟨fun h=>(by cases h),fun h=>absurd h.1 d⟩
   constructor
   ·rintro ⟨r,hr,rfl⟩
    obtain ⟨h1,h2⟩:=List.mem_filter.1 hr
    exact ⟨⟨r,h1,rfl⟩,(both _).1 h2⟩
   ·rintro ⟨⟨r,hr,rfl⟩,h2⟩
    exact ⟨r,List.mem_filter.2 ⟨hr,(both _).2 h2⟩,rfl⟩
noncomputable section
def ext3:Ext:=[(4,S4),(5,S5),(6,S6),(7,S7),(8,S8),(9,S9),(10,S10),(11,S11),(12,S12),(13,S13),(14,S14),(15,S15)]
theorem ext3Ok:ExtOk Try.prog ext3:=⟨⟨ca4,con4⟩,⟨ca5,con5⟩,⟨ca6,con6⟩,⟨ca7,con7⟩,⟨ca8,con8⟩,⟨ca9,con9⟩,⟨ca10,con10⟩,⟨ca11,con11⟩,⟨ca12,con12⟩,⟨ca13,con13⟩,⟨ca14,con14⟩,⟨ca15,con15⟩,trivial⟩
noncomputable def b3:Code:=bodyOf Try.f3
theorem hb3:Try.f3.body=some b3:=by kernel_rfl
def sig3:List AT:=[AT.v (.sl (.int .u8)),AT.v (.sl (.int .u8))]
def tys3:List Ty:=[.bool]
def kds3:List RK:=[]
def oks3:List AT:=owns sig3
def E3_3 (x0:List Int) (x1:List Int):Env:=[(0,.a (.sl (.int .u8) x0)),(1,.a (.sl (.int .u8) x1))]
def L3_3 (x0:List Int) (x1:List Int):Heap:=[]
def E3_9 (x1:List Int) (x0:List Int):Env:=[(1,.a (.sl (.int .u8) x1)),(5,.a (.sl YA3 (g5_0 x0))),(6,.a (.osl 0 Option.none)),(8,.a (.osl 1 Option.none)),(10,.a (.osl 2 Option.none))]
def L3_9 (x1:List Int) (x0:List Int):Heap:=[Option.some (Arr.mk YA1 (g5_1 x0) false Option.none Option.none),Option.some (Arr.mk YA1 (g6_0 (g5_0 x0) (g5_1 x0) (g5_2 x0)) false Option.none Option.none),Option.some (Arr.mk YA1 (g7_0 (g5_0 x0) (g6_0 (g5_0 x0) (g5_1 x0) (g5_2 x0)) (g5_2 x0)) false Option.none Option.none)]
def E3_28 (x1:List Int):Env:=[(1,.a (.sl (.int .u8) x1))]
def L3_28 (x1:List Int):Heap:=[]
def E3_10 (v12:Int) (x1:List Int) (x0:List Int):Env:=[(1,.a (.sl (.int .u8) x1)),(5,.a (.sl YA3 (g5_0 x0))),(6,.a (.osl 0 Option.none)),(8,.a (.osl 1 Option.none)),(10,.a (.osl 2 Option.none)),(12,.a (.val (.int .i64 v12)))]
def L3_10 (v12:Int) (x1:List Int) (x0:List Int):Heap:=[Option.some (Arr.mk YA1 (g5_1 x0) false Option.none Option.none),Option.some (Arr.mk YA1 (g6_0 (g5_0 x0) (g5_1 x0) (g5_2 x0)) false Option.none Option.none),Option.some (Arr.mk YA1 (g7_0 (g5_0 x0) (g6_0 (g5_0 x0) (g5_1 x0) (g5_2 x0)) (g5_2 x0)) false Option.none Option.none)]
def E3_32 (x1:List Int):Env:=[(19,.a (.sl YA3 (g13_0 x1))),(20,.a (.osl 0 Option.none)),(21,.a (.optr 1 0 [])),(22,.a (.optr 2 0 [])),(23,.a (.osl 3 Option.none))]
def L3_32 (x1:List Int):Heap:=[Option.some (Arr.mk YA1 (g13_1 x1) false Option.none Option.none),Option.some (Arr.mk YA1 [g13_2 x1] true Option.none (Option.some false)),Option.some (Arr.mk YA1 [g13_3 x1] true Option.none (Option.some false)),Option.some (Arr.mk .str (g14_0 (g13_0 x1) (g13_1 x1) (g13_2 x1) (g13_3 x1)) false Option.none Option.none)]
def E3_12 (x1:List Int) (x0:List Int) (v12:Int):Env:=[(1,.a (.sl (.int .u8) x1)),(5,.a (.sl YA3 (g5_0 x0))),(6,.a (.osl 0 Option.none)),(8,.a (.osl 1 Option.none)),(10,.a (.osl 2 Option.none)),(12,.a (.val (.int .i64 v12)))]
def L3_12 (x1:List Int) (x0:List Int) (v12:Int):Heap:=[Option.some (Arr.mk YA1 (g5_1 x0) false Option.none Option.none),Option.some (Arr.mk YA1 (g6_0 (g5_0 x0) (g5_1 x0) (g5_2 x0)) false Option.none Option.none),Option.some (Arr.mk YA1 (g7_0 (g5_0 x0) (g6_0 (g5_0 x0) (g5_1 x0) (g5_2 x0)) (g5_2 x0)) false Option.none Option.none)]
def E3_17 (x1:List Int) (x0:List Int):Env:=[(1,.a (.sl (.int .u8) x1)),(5,.a (.sl YA3 (g5_0 x0))),(8,.a (.osl 0 Option.none)),(13,.a (.osl 1 Option.none))]
def L3_17 (x1:List Int) (x0:List Int):Heap:=[Option.some (Arr.mk YA1 (g6_0 (g5_0 x0) (g5_1 x0) (g5_2 x0)) false Option.none Option.none),Option.some (Arr.mk (.int .i64) (g10_0 (g5_0 x0) (g6_0 (g5_0 x0) (g5_1 x0) (g5_2 x0))) false Option.none Option.none)]
def E3_33 (v25:Int) (x1:List Int):Env:=[(19,.a (.sl YA3 (g13_0 x1))),(20,.a (.osl 0 Option.none)),(21,.a (.optr 1 0 [])),(22,.a (.optr 2 0 [])),(23,.a (.osl 3 Option.none)),(25,.a (.val (.int .i64 v25)))]
def L3_33 (v25:Int) (x1:List Int):Heap:=[Option.some (Arr.mk YA1 (g13_1 x1) false Option.none Option.none),Option.some (Arr.mk YA1 [g13_2 x1] true Option.none (Option.some false)),Option.some (Arr.mk YA1 [g13_3 x1] true Option.none (Option.some false)),Option.some (Arr.mk .str (g14_0 (g13_0 x1) (g13_1 x1) (g13_2 x1) (g13_3 x1)) false Option.none Option.none)]
def E3_11 (x1:List Int) (x0:List Int) (v12:Int):Env:=[(1,.a (.sl (.int .u8) x1)),(5,.a (.sl YA3 (g5_0 x0))),(6,.a (.osl 0 Option.none)),(8,.a (.osl 1 Option.none)),(10,.a (.osl 2 Option.none)),(12,.a (.val (.int .i64 v12)))]
def L3_11 (x1:List Int) (x0:List Int) (v12:Int):Heap:=[Option.some (Arr.mk YA1 (g5_1 x0) false Option.none Option.none),Option.some (Arr.mk YA1 (g6_0 (g5_0 x0) (g5_1 x0) (g5_2 x0)) false Option.none Option.none),Option.some (Arr.mk YA1 (g7_0 (g5_0 x0) (g6_0 (g5_0 x0) (g5_1 x0) (g5_2 x0)) (g5_2 x0)) false Option.none Option.none)]
def E3_18 (v15:Int) (x1:List Int) (x0:List Int):Env:=[(1,.a (.sl (.int .u8) x1)),(5,.a (.sl YA3 (g5_0 x0))),(8,.a (.osl 0 Option.none)),(13,.a (.osl 1 Option.none)),(15,.a (.val (.int .i64 v15)))]
def L3_18 (v15:Int) (x1:List Int) (x0:List Int):Heap:=[Option.some (Arr.mk YA1 (g6_0 (g5_0 x0) (g5_1 x0) (g5_2 x0)) false Option.none Option.none),Option.some (Arr.mk (.int .i64) (g10_0 (g5_0 x0) (g6_0 (g5_0 x0) (g5_1 x0) (g5_2 x0))) false Option.none Option.none)]
def E3_35 (x1:List Int) (v25:Int):Env:=[(19,.a (.sl YA3 (g13_0 x1))),(20,.a (.osl 0 Option.none)),(21,.a (.optr 1 0 [])),(22,.a (.optr 2 0 [])),(23,.a (.osl 3 Option.none)),(25,.a (.val (.int .i64 v25)))]
def L3_35 (x1:List Int) (v25:Int):Heap:=[Option.some (Arr.mk YA1 (g13_1 x1) false Option.none Option.none),Option.some (Arr.mk YA1 [g13_2 x1] true Option.none (Option.some false)),Option.some (Arr.mk YA1 [g13_3 x1] true Option.none (Option.some false)),Option.some (Arr.mk .str (g14_0 (g13_0 x1) (g13_1 x1) (g13_2 x1) (g13_3 x1)) false Option.none Option.none)]
def E3_20 (x1:List Int) (x0:List Int) (v15:Int):Env:=[(1,.a (.sl (.int .u8) x1)),(5,.a (.sl YA3 (g5_0 x0))),(8,.a (.osl 0 Option.none)),(13,.a (.osl 1 Option.none)),(15,.a (.val (.int .i64 v15)))]
def L3_20 (x1:List Int) (x0:List Int) (v15:Int):Heap:=[Option.some (Arr.mk YA1 (g6_0 (g5_0 x0) (g5_1 x0) (g5_2 x0)) false Option.none Option.none),Option.some (Arr.mk (.int .i64) (g10_0 (g5_0 x0) (g6_0 (g5_0 x0) (g5_1 x0) (g5_2 x0))) false Option.none Option.none)]
def E3_34 (x1:List Int) (v25:Int):Env:=[(19,.a (.sl YA3 (g13_0 x1))),(20,.a (.osl 0 Option.none)),(21,.a (.optr 1 0 [])),(22,.a (.optr 2 0 [])),(23,.a (.osl 3 Option.none)),(25,.a (.val (.int .i64 v25)))]
def L3_34 (x1:List Int) (v25:Int):Heap:=[Option.some (Arr.mk YA1 (g13_1 x1) false Option.none Option.none),Option.some (Arr.mk YA1 [g13_2 x1] true Option.none (Option.some false)),Option.some (Arr.mk YA1 [g13_3 x1] true Option.none (Option.some false)),Option.some (Arr.mk .str (g14_0 (g13_0 x1) (g13_1 x1) (g13_2 x1) (g13_3 x1)) false Option.none Option.none)]
def E3_23 (x1:List Int) (x0:List Int) (v15:Int):Env:=[(1,.a (.sl (.int .u8) x1)),(5,.a (.sl YA3 (g5_0 x0))),(8,.a (.osl 0 Option.none)),(13,.a (.osl 1 Option.none)),(15,.a (.val (.int .i64 v15))),(16,.a (.osl 2 Option.none))]
def L3_23 (x1:List Int) (x0:List Int) (v15:Int):Heap:=[Option.some (Arr.mk YA1 (g6_0 (g5_0 x0) (g5_1 x0) (g5_2 x0)) false Option.none Option.none),Option.some (Arr.mk (.int .i64) (g10_0 (g5_0 x0) (g6_0 (g5_0 x0) (g5_1 x0) (g5_2 x0))) false Option.none Option.none),Option.some (Arr.mk YA1 (g12_0 (g5_0 x0) (g6_0 (g5_0 x0) (g5_1 x0) (g5_2 x0)) (List.getD (g6_0 (g5_0 x0) (g5_1 x0) (g5_2 x0)) (Int.toNat (List.getD (g10_0 (g5_0 x0) (g6_0 (g5_0 x0) (g5_1 x0) (g5_2 x0))) (Int.toNat v15) 0)) (ByteArray.empty,ByteArray.empty,0,()))) false Option.none Option.none)]
def E3_24 (v18:Int) (x1:List Int) (x0:List Int) (v15:Int):Env:=[(1,.a (.sl (.int .u8) x1)),(5,.a (.sl YA3 (g5_0 x0))),(8,.a (.osl 0 Option.none)),(13,.a (.osl 1 Option.none)),(15,.a (.val (.int .i64 v15))),(16,.a (.osl 2 Option.none)),(18,.a (.val (.int .i64 v18)))]
def L3_24 (v18:Int) (x1:List Int) (x0:List Int) (v15:Int):Heap:=[Option.some (Arr.mk YA1 (g6_0 (g5_0 x0) (g5_1 x0) (g5_2 x0)) false Option.none Option.none),Option.some (Arr.mk (.int .i64) (g10_0 (g5_0 x0) (g6_0 (g5_0 x0) (g5_1 x0) (g5_2 x0))) false Option.none Option.none),Option.some (Arr.mk YA1 (g12_0 (g5_0 x0) (g6_0 (g5_0 x0) (g5_1 x0) (g5_2 x0)) (List.getD (g6_0 (g5_0 x0) (g5_1 x0) (g5_2 x0)) (Int.toNat (List.getD (g10_0 (g5_0 x0) (g6_0 (g5_0 x0) (g5_1 x0) (g5_2 x0))) (Int.toNat v15) 0)) (ByteArray.empty,ByteArray.empty,0,()))) false Option.none Option.none)]
def E3_26 (x1:List Int) (x0:List Int) (v15:Int) (v18:Int):Env:=[(1,.a (.sl (.int .u8) x1)),(5,.a (.sl YA3 (g5_0 x0))),(8,.a (.osl 0 Option.none)),(13,.a (.osl 1 Option.none)),(15,.a (.val (.int .i64 v15))),(16,.a (.osl 2 Option.none)),(18,.a (.val (.int .i64 v18)))]
def L3_26 (x1:List Int) (x0:List Int) (v15:Int) (v18:Int):Heap:=[Option.some (Arr.mk YA1 (g6_0 (g5_0 x0) (g5_1 x0) (g5_2 x0)) false Option.none Option.none),Option.some (Arr.mk (.int .i64) (g10_0 (g5_0 x0) (g6_0 (g5_0 x0) (g5_1 x0) (g5_2 x0))) false Option.none Option.none),Option.some (Arr.mk YA1 (g12_0 (g5_0 x0) (g6_0 (g5_0 x0) (g5_1 x0) (g5_2 x0)) (List.getD (g6_0 (g5_0 x0) (g5_1 x0) (g5_2 x0)) (Int.toNat (List.getD (g10_0 (g5_0 x0) (g6_0 (g5_0 x0) (g5_1 x0) (g5_2 x0))) (Int.toNat v15) 0)) (ByteArray.empty,ByteArray.empty,0,()))) false Option.none Option.none)]
def E3_19 (x1:List Int) (x0:List Int) (v15:Int):Env:=[(1,.a (.sl (.int .u8) x1)),(5,.a (.sl YA3 (g5_0 x0))),(8,.a (.osl 0 Option.none)),(13,.a (.osl 1 Option.none)),(15,.a (.val (.int .i64 v15)))]
def L3_19 (x1:List Int) (x0:List Int) (v15:Int):Heap:=[Option.some (Arr.mk YA1 (g6_0 (g5_0 x0) (g5_1 x0) (g5_2 x0)) false Option.none Option.none),Option.some (Arr.mk (.int .i64) (g10_0 (g5_0 x0) (g6_0 (g5_0 x0) (g5_1 x0) (g5_2 x0))) false Option.none Option.none)]
def E3_25 (x1:List Int) (x0:List Int) (v15:Int) (v18:Int):Env:=[(1,.a (.sl (.int .u8) x1)),(5,.a (.sl YA3 (g5_0 x0))),(8,.a (.osl 0 Option.none)),(13,.a (.osl 1 Option.none)),(15,.a (.val (.int .i64 v15))),(16,.a (.osl 2 Option.none)),(18,.a (.val (.int .i64 v18)))]
def L3_25 (x1:List Int) (x0:List Int) (v15:Int) (v18:Int):Heap:=[Option.some (Arr.mk YA1 (g6_0 (g5_0 x0) (g5_1 x0) (g5_2 x0)) false Option.none Option.none),Option.some (Arr.mk (.int .i64) (g10_0 (g5_0 x0) (g6_0 (g5_0 x0) (g5_1 x0) (g5_2 x0))) false Option.none Option.none),Option.some (Arr.mk YA1 (g12_0 (g5_0 x0) (g6_0 (g5_0 x0) (g5_1 x0) (g5_2 x0)) (List.getD (g6_0 (g5_0 x0) (g5_1 x0) (g5_2 x0)) (Int.toNat (List.getD (g10_0 (g5_0 x0) (g6_0 (g5_0 x0) (g5_1 x0) (g5_2 x0))) (Int.toNat v15) 0)) (ByteArray.empty,ByteArray.empty,0,()))) false Option.none Option.none)]
mutual
def R3:Nat→List Int→List Int→List Dyn→Prop
 | 0,_,_,_=>False
 | n+1,x0,x1,ds=>(if (g4_0 x0)=true then (ds=[Dyn.mk .bool true]) else (if (g4_0 x1)=true then (ds=[Dyn.mk .bool true]) else (R3_3 n (x0) (x1) ds)))
def R3_3:Nat→List Int→List Int→List Dyn→Prop
 | 0,_,_,_=>False
 | n+1,x0,x1,ds=>((P5 x0)∧((P6 (g5_0 x0) (g5_1 x0) (g5_2 x0))∧(if (g6_1 (g5_0 x0) (g5_1 x0) (g5_2 x0)==0)=true then ((P7 (g5_0 x0) (g6_0 (g5_0 x0) (g5_1 x0) (g5_2 x0)) (g5_2 x0))∧(if (!g8_0 (g5_0 x0) (g6_0 (g5_0 x0) (g5_1 x0) (g5_2 x0)))=true then (ds=[Dyn.mk .bool false]) else ((InR .i64 ((↑(List.length (g5_1 x0)):Int)+1))∧(if ((↑(List.length (g6_0 (g5_0 x0) (g5_1 x0) (g5_2 x0))):Int) != (↑(List.length (g5_1 x0)):Int)+1)=true then (ds=[Dyn.mk .bool false]) else ((P9 (g5_0 x0) (g6_0 (g5_0 x0) (g5_1 x0) (g5_2 x0)) (g5_2 x0).1 (g5_2 x0).2.1 (g5_2 x0).2.2.1)∧(if (!g9_0 (g5_0 x0) (g6_0 (g5_0 x0) (g5_1 x0) (g5_2 x0)) (g5_2 x0).1 (g5_2 x0).2.1 (g5_2 x0).2.2.1)=true then (ds=[Dyn.mk .bool false]) else (if (g7_1 (g5_0 x0) (g6_0 (g5_0 x0) (g5_1 x0) (g5_2 x0)) (g5_2 x0) != 0)=true then (ds=[Dyn.mk .bool false]) else (if ((↑(List.length (g7_0 (g5_0 x0) (g6_0 (g5_0 x0) (g5_1 x0) (g5_2 x0)) (g5_2 x0))):Int) != (↑(List.length (g5_1 x0)):Int))=true then (ds=[Dyn.mk .bool false]) else (R3_9 n (x1) (x0) ds))))))))) else (R3_28 n (x1) ds))))
def R3_9:Nat→List Int→List Int→List Dyn→Prop
 | 0,_,_,_=>False
 | n+1,x1,x0,ds=>(R3_10 n (0) (x1) (x0) ds)
def R3_28:Nat→List Int→List Dyn→Prop
 | 0,_,_=>False
 | n+1,x1,ds=>((P13 x1)∧((P14 (g13_0 x1) (g13_1 x1) (g13_2 x1) (g13_3 x1))∧(if (g14_1 (g13_0 x1) (g13_1 x1) (g13_2 x1) (g13_3 x1) != 0)=true then (ds=[Dyn.mk .bool ((↑(List.length (g14_0 (g13_0 x1) (g13_1 x1) (g13_2 x1) (g13_3 x1))):Int)==0)]) else (R3_32 n (x1) ds))))
def R3_10:Nat→Int→List Int→List Int→List Dyn→Prop
 | 0,_,_,_,_=>False
 | n+1,v12,x1,x0,ds=>(if (decide (v12<(↑(List.length (g7_0 (g5_0 x0) (g6_0 (g5_0 x0) (g5_1 x0) (g5_2 x0)) (g5_2 x0))):Int)))=true then (R3_12 n (x1) (x0) (v12) ds) else ((P10 (g5_0 x0) (g6_0 (g5_0 x0) (g5_1 x0) (g5_2 x0)))∧(if (g10_1 (g5_0 x0) (g6_0 (g5_0 x0) (g5_1 x0) (g5_2 x0)) != 0)=true then (ds=[Dyn.mk .bool false]) else (if (!g11_0 (g10_0 (g5_0 x0) (g6_0 (g5_0 x0) (g5_1 x0) (g5_2 x0))) (↑(List.length (g6_0 (g5_0 x0) (g5_1 x0) (g5_2 x0))):Int))=true then (ds=[Dyn.mk .bool false]) else (R3_17 n (x1) (x0) ds)))))
def R3_32:Nat→List Int→List Dyn→Prop
 | 0,_,_=>False
 | n+1,x1,ds=>(R3_33 n (0) (x1) ds)
def R3_12:Nat→List Int→List Int→Int→List Dyn→Prop
 | 0,_,_,_,_=>False
 | n+1,x1,x0,v12,ds=>((0≤v12)∧(v12<(↑(List.length (g7_0 (g5_0 x0) (g6_0 (g5_0 x0) (g5_1 x0) (g5_2 x0)) (g5_2 x0))):Int))∧((0≤v12)∧(v12<(↑(List.length (g5_1 x0)):Int))∧(if (!eqD YA1 (List.getD (g7_0 (g5_0 x0) (g6_0 (g5_0 x0) (g5_1 x0) (g5_2 x0)) (g5_2 x0)) (Int.toNat v12) (ByteArray.empty,ByteArray.empty,0,())) (List.getD (g5_1 x0) (Int.toNat v12) (ByteArray.empty,ByteArray.empty,0,())))=true then (ds=[Dyn.mk .bool false]) else (R3_11 n (x1) (x0) (v12) ds))))
def R3_17:Nat→List Int→List Int→List Dyn→Prop
 | 0,_,_,_=>False
 | n+1,x1,x0,ds=>(R3_18 n (0) (x1) (x0) ds)
def R3_33:Nat→Int→List Int→List Dyn→Prop
 | 0,_,_,_=>False
 | n+1,v25,x1,ds=>(if (decide (v25<(↑(List.length (g13_0 x1)):Int)))=true then (R3_35 n (x1) (v25) ds) else (ds=[Dyn.mk .bool true]))
def R3_11:Nat→List Int→List Int→Int→List Dyn→Prop
 | 0,_,_,_,_=>False
 | n+1,x1,x0,v12,ds=>((InR .i64 (v12+1))∧(R3_10 n (v12+1) (x1) (x0) ds))
def R3_18:Nat→Int→List Int→List Int→List Dyn→Prop
 | 0,_,_,_,_=>False
 | n+1,v15,x1,x0,ds=>(if (decide (v15<(↑(List.length (g10_0 (g5_0 x0) (g6_0 (g5_0 x0) (g5_1 x0) (g5_2 x0)))):Int)))=true then (R3_20 n (x1) (x0) (v15) ds) else (R3_28 n (x1) ds))
def R3_35:Nat→List Int→Int→List Dyn→Prop
 | 0,_,_,_=>False
 | n+1,x1,v25,ds=>((0≤v25)∧(v25<(↑(List.length (g13_0 x1)):Int))∧((P9 (g13_0 x1) (g13_1 x1) (List.getD (g13_0 x1) (Int.toNat v25) (ByteArray.empty,[],())).1 (g13_2 x1).2.1 (g13_2 x1).2.2.1)∧(if (g9_0 (g13_0 x1) (g13_1 x1) (List.getD (g13_0 x1) (Int.toNat v25) (ByteArray.empty,[],())).1 (g13_2 x1).2.1 (g13_2 x1).2.2.1)=true then ((0≤v25)∧(v25<(↑(List.length (g13_0 x1)):Int))∧((P9 (g13_0 x1) (g13_1 x1) (List.getD (g13_0 x1) (Int.toNat v25) (ByteArray.empty,[],())).1 (g13_3 x1).2.1 (g13_3 x1).2.2.1)∧((0≤v25)∧(v25<(↑(List.length (g13_0 x1)):Int))∧(if (!g9_0 (g13_0 x1) (g13_1 x1) (List.getD (g13_0 x1) (Int.toNat v25) (ByteArray.empty,[],())).1 (g13_3 x1).2.1 (g13_3 x1).2.2.1==g15_0 (g14_0 (g13_0 x1) (g13_1 x1) (g13_2 x1) (g13_3 x1)) (List.getD (g13_0 x1) (Int.toNat v25) (ByteArray.empty,[],())).1)=true then (ds=[Dyn.mk .bool false]) else (R3_34 n (x1) (v25) ds))))) else ((0≤v25)∧(v25<(↑(List.length (g13_0 x1)):Int))∧(if (!false==g15_0 (g14_0 (g13_0 x1) (g13_1 x1) (g13_2 x1) (g13_3 x1)) (List.getD (g13_0 x1) (Int.toNat v25) (ByteArray.empty,[],())).1)=true then (ds=[Dyn.mk .bool false]) else (R3_34 n (x1) (v25) ds))))))
def R3_20:Nat→List Int→List Int→Int→List Dyn→Prop
 | 0,_,_,_,_=>False
 | n+1,x1,x0,v15,ds=>((0≤v15)∧(v15<(↑(List.length (g10_0 (g5_0 x0) (g6_0 (g5_0 x0) (g5_1 x0) (g5_2 x0)))):Int))∧((0≤List.getD (g10_0 (g5_0 x0) (g6_0 (g5_0 x0) (g5_1 x0) (g5_2 x0))) (Int.toNat v15) 0)∧(List.getD (g10_0 (g5_0 x0) (g6_0 (g5_0 x0) (g5_1 x0) (g5_2 x0))) (Int.toNat v15) 0<(↑(List.length (g6_0 (g5_0 x0) (g5_1 x0) (g5_2 x0))):Int))∧(if (g12_1 (g5_0 x0) (g6_0 (g5_0 x0) (g5_1 x0) (g5_2 x0)) (List.getD (g6_0 (g5_0 x0) (g5_1 x0) (g5_2 x0)) (Int.toNat (List.getD (g10_0 (g5_0 x0) (g6_0 (g5_0 x0) (g5_1 x0) (g5_2 x0))) (Int.toNat v15) 0)) (ByteArray.empty,ByteArray.empty,0,())) != 0)=true then (ds=[Dyn.mk .bool false]) else (R3_23 n (x1) (x0) (v15) ds))))
def R3_34:Nat→List Int→Int→List Dyn→Prop
 | 0,_,_,_=>False
 | n+1,x1,v25,ds=>((InR .i64 (v25+1))∧(R3_33 n (v25+1) (x1) ds))
def R3_23:Nat→List Int→List Int→Int→List Dyn→Prop
 | 0,_,_,_,_=>False
 | n+1,x1,x0,v15,ds=>(R3_24 n (0) (x1) (x0) (v15) ds)
def R3_24:Nat→Int→List Int→List Int→Int→List Dyn→Prop
 | 0,_,_,_,_,_=>False
 | n+1,v18,x1,x0,v15,ds=>(if (decide (v18<(↑(List.length (g5_0 x0)):Int)))=true then (R3_26 n (x1) (x0) (v15) (v18) ds) else (R3_19 n (x1) (x0) (v15) ds))
def R3_26:Nat→List Int→List Int→Int→Int→List Dyn→Prop
 | 0,_,_,_,_,_=>False
 | n+1,x1,x0,v15,v18,ds=>((0≤v18)∧(v18<(↑(List.length (g5_0 x0)):Int))∧((0≤v15)∧(v15<(↑(List.length (g10_0 (g5_0 x0) (g6_0 (g5_0 x0) (g5_1 x0) (g5_2 x0)))):Int))∧((0≤List.getD (g10_0 (g5_0 x0) (g6_0 (g5_0 x0) (g5_1 x0) (g5_2 x0))) (Int.toNat v15) 0)∧(List.getD (g10_0 (g5_0 x0) (g6_0 (g5_0 x0) (g5_1 x0) (g5_2 x0))) (Int.toNat v15) 0<(↑(List.length (g6_0 (g5_0 x0) (g5_1 x0) (g5_2 x0))):Int))∧((0≤v15)∧(v15<(↑(List.length (g10_0 (g5_0 x0) (g6_0 (g5_0 x0) (g5_1 x0) (g5_2 x0)))):Int))∧((0≤List.getD (g10_0 (g5_0 x0) (g6_0 (g5_0 x0) (g5_1 x0) (g5_2 x0))) (Int.toNat v15) 0)∧(List.getD (g10_0 (g5_0 x0) (g6_0 (g5_0 x0) (g5_1 x0) (g5_2 x0))) (Int.toNat v15) 0<(↑(List.length (g6_0 (g5_0 x0) (g5_1 x0) (g5_2 x0))):Int))∧((P9 (g5_0 x0) (g12_0 (g5_0 x0) (g6_0 (g5_0 x0) (g5_1 x0) (g5_2 x0)) (List.getD (g6_0 (g5_0 x0) (g5_1 x0) (g5_2 x0)) (Int.toNat (List.getD (g10_0 (g5_0 x0) (g6_0 (g5_0 x0) (g5_1 x0) (g5_2 x0))) (Int.toNat v15) 0)) (ByteArray.empty,ByteArray.empty,0,()))) (List.getD (g5_0 x0) (Int.toNat v18) (ByteArray.empty,[],())).1 (List.getD (g6_0 (g5_0 x0) (g5_1 x0) (g5_2 x0)) (Int.toNat (List.getD (g10_0 (g5_0 x0) (g6_0 (g5_0 x0) (g5_1 x0) (g5_2 x0))) (Int.toNat v15) 0)) (ByteArray.empty,ByteArray.empty,0,())).2.1 (List.getD (g6_0 (g5_0 x0) (g5_1 x0) (g5_2 x0)) (Int.toNat (List.getD (g10_0 (g5_0 x0) (g6_0 (g5_0 x0) (g5_1 x0) (g5_2 x0))) (Int.toNat v15) 0)) (ByteArray.empty,ByteArray.empty,0,())).2.2.1)∧(if (!g9_0 (g5_0 x0) (g12_0 (g5_0 x0) (g6_0 (g5_0 x0) (g5_1 x0) (g5_2 x0)) (List.getD (g6_0 (g5_0 x0) (g5_1 x0) (g5_2 x0)) (Int.toNat (List.getD (g10_0 (g5_0 x0) (g6_0 (g5_0 x0) (g5_1 x0) (g5_2 x0))) (Int.toNat v15) 0)) (ByteArray.empty,ByteArray.empty,0,()))) (List.getD (g5_0 x0) (Int.toNat v18) (ByteArray.empty,[],())).1 (List.getD (g6_0 (g5_0 x0) (g5_1 x0) (g5_2 x0)) (Int.toNat (List.getD (g10_0 (g5_0 x0) (g6_0 (g5_0 x0) (g5_1 x0) (g5_2 x0))) (Int.toNat v15) 0)) (ByteArray.empty,ByteArray.empty,0,())).2.1 (List.getD (g6_0 (g5_0 x0) (g5_1 x0) (g5_2 x0)) (Int.toNat (List.getD (g10_0 (g5_0 x0) (g6_0 (g5_0 x0) (g5_1 x0) (g5_2 x0))) (Int.toNat v15) 0)) (ByteArray.empty,ByteArray.empty,0,())).2.2.1)=true then ((0≤v18)∧(v18<(↑(List.length (g5_0 x0)):Int))∧((0≤v15)∧(v15<(↑(List.length (g10_0 (g5_0 x0) (g6_0 (g5_0 x0) (g5_1 x0) (g5_2 x0)))):Int))∧((0≤List.getD (g10_0 (g5_0 x0) (g6_0 (g5_0 x0) (g5_1 x0) (g5_2 x0))) (Int.toNat v15) 0)∧(List.getD (g10_0 (g5_0 x0) (g6_0 (g5_0 x0) (g5_1 x0) (g5_2 x0))) (Int.toNat v15) 0<(↑(List.length (g6_0 (g5_0 x0) (g5_1 x0) (g5_2 x0))):Int))∧((0≤v15)∧(v15<(↑(List.length (g10_0 (g5_0 x0) (g6_0 (g5_0 x0) (g5_1 x0) (g5_2 x0)))):Int))∧((0≤List.getD (g10_0 (g5_0 x0) (g6_0 (g5_0 x0) (g5_1 x0) (g5_2 x0))) (Int.toNat v15) 0)∧(List.getD (g10_0 (g5_0 x0) (g6_0 (g5_0 x0) (g5_1 x0) (g5_2 x0))) (Int.toNat v15) 0<(↑(List.length (g6_0 (g5_0 x0) (g5_1 x0) (g5_2 x0))):Int))∧((P9 (g5_0 x0) (g6_0 (g5_0 x0) (g5_1 x0) (g5_2 x0)) (List.getD (g5_0 x0) (Int.toNat v18) (ByteArray.empty,[],())).1 (List.getD (g6_0 (g5_0 x0) (g5_1 x0) (g5_2 x0)) (Int.toNat (List.getD (g10_0 (g5_0 x0) (g6_0 (g5_0 x0) (g5_1 x0) (g5_2 x0))) (Int.toNat v15) 0)) (ByteArray.empty,ByteArray.empty,0,())).2.1 (List.getD (g6_0 (g5_0 x0) (g5_1 x0) (g5_2 x0)) (Int.toNat (List.getD (g10_0 (g5_0 x0) (g6_0 (g5_0 x0) (g5_1 x0) (g5_2 x0))) (Int.toNat v15) 0)) (ByteArray.empty,ByteArray.empty,0,())).2.2.1)∧(if (g9_0 (g5_0 x0) (g6_0 (g5_0 x0) (g5_1 x0) (g5_2 x0)) (List.getD (g5_0 x0) (Int.toNat v18) (ByteArray.empty,[],())).1 (List.getD (g6_0 (g5_0 x0) (g5_1 x0) (g5_2 x0)) (Int.toNat (List.getD (g10_0 (g5_0 x0) (g6_0 (g5_0 x0) (g5_1 x0) (g5_2 x0))) (Int.toNat v15) 0)) (ByteArray.empty,ByteArray.empty,0,())).2.1 (List.getD (g6_0 (g5_0 x0) (g5_1 x0) (g5_2 x0)) (Int.toNat (List.getD (g10_0 (g5_0 x0) (g6_0 (g5_0 x0) (g5_1 x0) (g5_2 x0))) (Int.toNat v15) 0)) (ByteArray.empty,ByteArray.empty,0,())).2.2.1)=true then (ds=[Dyn.mk .bool false]) else (R3_25 n (x1) (x0) (v15) (v18) ds)))))))) else (R3_25 n (x1) (x0) (v15) (v18) ds))))))))
def R3_19:Nat→List Int→List Int→Int→List Dyn→Prop
 | 0,_,_,_,_=>False
 | n+1,x1,x0,v15,ds=>((InR .i64 (v15+1))∧(R3_18 n (v15+1) (x1) (x0) ds))
def R3_25:Nat→List Int→List Int→Int→Int→List Dyn→Prop
 | 0,_,_,_,_,_=>False
 | n+1,x1,x0,v15,v18,ds=>((InR .i64 (v18+1))∧(R3_24 n (v18+1) (x1) (x0) (v15) ds))
end
theorem snd3:∀ n,(∀ (x0:List Int) (x1:List Int) ds,R3 n x0 x1 ds→∀ K q,AtV Try.prog 3 (PostR kds3 oks3 ds [] [] q K) 259 K q [] [.code b3] (entE 0 0 sig3 (x0,x1,())) (entL sig3 (x0,x1,())))∧(∀ (x0:List Int) (x1:List Int) ds,R3_3 n x0 x1 ds→∀ K q,AtV Try.prog 3 (PostR kds3 oks3 ds [] [] q K) 259 K q [] (cutAt b3 3) (E3_3 x0 x1) (L3_3 x0 x1))∧(∀ (x1:List Int) (x0:List Int) ds,R3_9 n x1 x0 ds→∀ K q,AtV Try.prog 3 (PostR kds3 oks3 ds [] [] q K) 259 K q [] (cutAt b3 9) (E3_9 x1 x0) (L3_9 x1 x0))∧(∀ (x1:List Int) ds,R3_28 n x1 ds→∀ K q,AtV Try.prog 3 (PostR kds3 oks3 ds [] [] q K) 259 K q [] (cutAt b3 28) (E3_28 x1) (L3_28 x1))∧(∀ (v12:Int) (x1:List Int) (x0:List Int) ds,R3_10 n v12 x1 x0 ds→∀ K q,AtV Try.prog 3 (PostR kds3 oks3 ds [] [] q K) 259 K q [] (cutAt b3 10) (E3_10 v12 x1 x0) (L3_10 v12 x1 x0))∧(∀ (x1:List Int) ds,R3_32 n x1 ds→∀ K q,AtV Try.prog 3 (PostR kds3 oks3 ds [] [] q K) 259 K q [] (cutAt b3 32) (E3_32 x1) (L3_32 x1))∧(∀ (x1:List Int) (x0:List Int) (v12:Int) ds,R3_12 n x1 x0 v12 ds→∀ K q,AtV Try.prog 3 (PostR kds3 oks3 ds [] [] q K) 259 K q [] (cutAt b3 12) (E3_12 x1 x0 v12) (L3_12 x1 x0 v12))∧(∀ (x1:List Int) (x0:List Int) ds,R3_17 n x1 x0 ds→∀ K q,AtV Try.prog 3 (PostR kds3 oks3 ds [] [] q K) 259 K q [] (cutAt b3 17) (E3_17 x1 x0) (L3_17 x1 x0))∧(∀ (v25:Int) (x1:List Int) ds,R3_33 n v25 x1 ds→∀ K q,AtV Try.prog 3 (PostR kds3 oks3 ds [] [] q K) 259 K q [] (cutAt b3 33) (E3_33 v25 x1) (L3_33 v25 x1))∧(∀ (x1:List Int) (x0:List Int) (v12:Int) ds,R3_11 n x1 x0 v12 ds→∀ K q,AtV Try.prog 3 (PostR kds3 oks3 ds [] [] q K) 259 K q [] (cutAt b3 11) (E3_11 x1 x0 v12) (L3_11 x1 x0 v12))∧(∀ (v15:Int) (x1:List Int) (x0:List Int) ds,R3_18 n v15 x1 x0 ds→∀ K q,AtV Try.prog 3 (PostR kds3 oks3 ds [] [] q K) 259 K q [] (cutAt b3 18) (E3_18 v15 x1 x0) (L3_18 v15 x1 x0))∧(∀ (x1:List Int) (v25:Int) ds,R3_35 n x1 v25 ds→∀ K q,AtV Try.prog 3 (PostR kds3 oks3 ds [] [] q K) 259 K q [] (cutAt b3 35) (E3_35 x1 v25) (L3_35 x1 v25))∧(∀ (x1:List Int) (x0:List Int) (v15:Int) ds,R3_20 n x1 x0 v15 ds→∀ K q,AtV Try.prog 3 (PostR kds3 oks3 ds [] [] q K) 259 K q [] (cutAt b3 20) (E3_20 x1 x0 v15) (L3_20 x1 x0 v15))∧(∀ (x1:List Int) (v25:Int) ds,R3_34 n x1 v25 ds→∀ K q,AtV Try.prog 3 (PostR kds3 oks3 ds [] [] q K) 259 K q [] (cutAt b3 34) (E3_34 x1 v25) (L3_34 x1 v25))∧(∀ (x1:List Int) (x0:List Int) (v15:Int) ds,R3_23 n x1 x0 v15 ds→∀ K q,AtV Try.prog 3 (PostR kds3 oks3 ds [] [] q K) 259 K q [] (cutAt b3 23) (E3_23 x1 x0 v15) (L3_23 x1 x0 v15))∧(∀ (v18:Int) (x1:List Int) (x0:List Int) (v15:Int) ds,R3_24 n v18 x1 x0 v15 ds→∀ K q,AtV Try.prog 3 (PostR kds3 oks3 ds [] [] q K) 259 K q [] (cutAt b3 24) (E3_24 v18 x1 x0 v15) (L3_24 v18 x1 x0 v15))∧(∀ (x1:List Int) (x0:List Int) (v15:Int) (v18:Int) ds,R3_26 n x1 x0 v15 v18 ds→∀ K q,AtV Try.prog 3 (PostR kds3 oks3 ds [] [] q K) 259 K q [] (cutAt b3 26) (E3_26 x1 x0 v15 v18) (L3_26 x1 x0 v15 v18))∧(∀ (x1:List Int) (x0:List Int) (v15:Int) ds,R3_19 n x1 x0 v15 ds→∀ K q,AtV Try.prog 3 (PostR kds3 oks3 ds [] [] q K) 259 K q [] (cutAt b3 19) (E3_19 x1 x0 v15) (L3_19 x1 x0 v15))∧(∀ (x1:List Int) (x0:List Int) (v15:Int) (v18:Int) ds,R3_25 n x1 x0 v15 v18 ds→∀ K q,AtV Try.prog 3 (PostR kds3 oks3 ds [] [] q K) 259 K q [] (cutAt b3 25) (E3_25 x1 x0 v15 v18) (L3_25 x1 x0 v15 v18)):=by
 intro n
 induction n with
 | zero=>exact ⟨fun _ _ _ h=>by simp only [R3] at h,fun _ _ _ h=>by simp only [R3_3] at h,fun _ _ _ h=>by simp only [R3_9] at h,fun _ _ h=>by simp only [R3_28] at h,fun _ _ _ _ h=>by simp only [R3_10] at h,fun _ _ h=>by simp only [R3_32] at h,fun _ _ _ _ h=>by simp only [R3_12] at h,fun _ _ _ h=>by simp only [R3_17] at h,fun _ _ _ h=>by simp only [R3_33] at h,fun _ _ _ _ h=>by simp only [R3_11] at h,fun _ _ _ _ h=>by simp only [R3_18] at h,fun _ _ _ h=>by simp only [R3_35] at h,fun _ _ _ _ h=>by simp only [R3_20] at h,fun _ _ _ h=>by simp only [R3_34] at h,fun _ _ _ _ h=>by simp only [R3_23] at h,fun _ _ _ _ _ h=>by simp only [R3_24] at h,fun _ _ _ _ _ h=>by simp only [R3_26] at h,fun _ _ _ _ h=>by simp only [R3_19] at h,fun _ _ _ _ _ h=>by simp only [R3_25] at h⟩
 | succ n ih =>
 obtain ⟨ih,ih3,ih9,ih28,ih10,ih32,ih12,ih17,ih33,ih11,ih18,ih35,ih20,ih34,ih23,ih24,ih26,ih19,ih25⟩:=ih
 refine ⟨?_,?_,?_,?_,?_,?_,?_,?_,?_,?_,?_,?_,?_,?_,?_,?_,?_,?_,?_⟩
 ·intro x0 x1 ds h K q
  rw [R3] at h
  by_cases b0:(g4_0 x0)=true
  ·rw [if_pos b0] at h
   subst h
   exact AtV.ret Try.func3 tabOk ext3Ok mixed false [3,28,9,12,11,17,20,19,23,26,25,32,35,34] tys3 [true,true] (a1 trivial (a1 b0 (a1 (rfl:true=true) trivial))) (by kernel_rfl)
  ·rw [if_neg b0] at h
   replace b0:=bf_ b0
   by_cases b1:(g4_0 x1)=true
   ·rw [if_pos b1] at h
    subst h
    exact AtV.ret Try.func3 tabOk ext3Ok mixed false [3,28,9,12,11,17,20,19,23,26,25,32,35,34] tys3 [false,true] (a1 trivial (a1 b0 (a1 trivial (a1 b1 trivial)))) (by kernel_rfl)
   ·rw [if_neg b1] at h
    replace b1:=bf_ b1
    exact AtV.go tabOk ext3Ok mixed false [3,28,9,12,11,17,20,19,23,26,25,32,35,34] [] [0,1] [] [false,false] (a1 trivial (a1 b0 (a1 trivial (a1 b1 trivial)))) (ih3 _ _ _ h K q) (by kernel_rfl)
 ·intro x0 x1 ds h K q
  rw [R3_3] at h
  obtain ⟨s0,h⟩:=h
  obtain ⟨s1,h⟩:=h
  by_cases b0:(g6_1 (g5_0 x0) (g5_1 x0) (g5_2 x0)==0)=true
  ·rw [if_pos b0] at h
   obtain ⟨s2,h⟩:=h
   by_cases b1:(!g8_0 (g5_0 x0) (g6_0 (g5_0 x0) (g5_1 x0) (g5_2 x0)))=true
   ·rw [if_pos b1] at h
    subst h
    exact AtV.ret Try.func3 tabOk ext3Ok mixed false [3,28,9,12,11,17,20,19,23,26,25,32,35,34] tys3 [true,true,true,true,true,true] (a1 s0 (a1 s1 (a1 b0 (a1 s2 (a1 trivial (a1 b1 (a1 (rfl:true=true) (a1 (rfl:true=true) (a1 (rfl:true=true) (a1 (rfl:true=true) trivial)))))))))) (by kernel_rfl)
   ·rw [if_neg b1] at h
    replace b1:=bf_ b1
    obtain ⟨s3,h⟩:=h
    by_cases b2:((↑(List.length (g6_0 (g5_0 x0) (g5_1 x0) (g5_2 x0))):Int) != (↑(List.length (g5_1 x0)):Int)+1)=true
    ·rw [if_pos b2] at h
     subst h
     exact AtV.ret Try.func3 tabOk ext3Ok mixed false [3,28,9,12,11,17,20,19,23,26,25,32,35,34] tys3 [true,false,true,true,true,true] (a1 s0 (a1 s1 (a1 b0 (a1 s2 (a1 trivial (a1 b1 (a1 s3 (a1 b2 (a1 (rfl:true=true) (a1 (rfl:true=true) (a1 (rfl:true=true) trivial))))))))))) (by kernel_rfl)
    ·rw [if_neg b2] at h
     replace b2:=bf_ b2
     obtain ⟨s4,h⟩:=h
     by_cases b3:(!g9_0 (g5_0 x0) (g6_0 (g5_0 x0) (g5_1 x0) (g5_2 x0)) (g5_2 x0).1 (g5_2 x0).2.1 (g5_2 x0).2.2.1)=true
     ·rw [if_pos b3] at h
      subst h
      exact AtV.ret Try.func3 tabOk ext3Ok mixed false [3,28,9,12,11,17,20,19,23,26,25,32,35,34] tys3 [true,false,false,true,true,true] (a1 s0 (a1 s1 (a1 b0 (a1 s2 (a1 trivial (a1 b1 (a1 s3 (a1 b2 (a1 s4 (a1 b3 (a1 (rfl:true=true) (a1 (rfl:true=true) trivial)))))))))))) (by kernel_rfl)
     ·rw [if_neg b3] at h
      replace b3:=bf_ b3
      by_cases b4:(g7_1 (g5_0 x0) (g6_0 (g5_0 x0) (g5_1 x0) (g5_2 x0)) (g5_2 x0) != 0)=true
      ·rw [if_pos b4] at h
       subst h
       exact AtV.ret Try.func3 tabOk ext3Ok mixed false [3,28,9,12,11,17,20,19,23,26,25,32,35,34] tys3 [true,false,false,false,true,true] (a1 s0 (a1 s1 (a1 b0 (a1 s2 (a1 trivial (a1 b1 (a1 s3 (a1 b2 (a1 s4 (a1 b3 (a1 b4 (a1 (rfl:true=true) trivial)))))))))))) (by kernel_rfl)
      ·rw [if_neg b4] at h
       replace b4:=bf_ b4
       by_cases b5:((↑(List.length (g7_0 (g5_0 x0) (g6_0 (g5_0 x0) (g5_1 x0) (g5_2 x0)) (g5_2 x0))):Int) != (↑(List.length (g5_1 x0)):Int))=true
       ·rw [if_pos b5] at h
        subst h
        exact AtV.ret Try.func3 tabOk ext3Ok mixed false [3,28,9,12,11,17,20,19,23,26,25,32,35,34] tys3 [true,false,false,false,false,true] (a1 s0 (a1 s1 (a1 b0 (a1 s2 (a1 trivial (a1 b1 (a1 s3 (a1 b2 (a1 s4 (a1 b3 (a1 b4 (a1 b5 trivial)))))))))))) (by kernel_rfl)
       ·rw [if_neg b5] at h
        replace b5:=bf_ b5
        exact AtV.go tabOk ext3Ok mixed false [3,28,9,12,11,17,20,19,23,26,25,32,35,34] [] [1,5,6,8,10] [0,2,3] [true,false,false,false,false,false] (a1 s0 (a1 s1 (a1 b0 (a1 s2 (a1 trivial (a1 b1 (a1 s3 (a1 b2 (a1 s4 (a1 b3 (a1 b4 (a1 b5 trivial)))))))))))) (ih9 _ _ _ h K q) (by kernel_rfl)
  ·rw [if_neg b0] at h
   replace b0:=bf_ b0
   exact AtV.go tabOk ext3Ok mixed false [3,28,9,12,11,17,20,19,23,26,25,32,35,34] [] [1] [] [false] (a1 s0 (a1 s1 (a1 b0 trivial))) (ih28 _ _ h K q) (by kernel_rfl)
 ·intro x1 x0 ds h K q
  rw [R3_9] at h
  exact AtV.go tabOk ext3Ok mixed false [3,28,9,12,11,17,20,19,23,26,25,32,35,34] [] [1,5,6,8,10,12] [0,1,2] [] trivial (ih10 _ _ _ _ h K q) (by kernel_rfl)
 ·intro x1 ds h K q
  rw [R3_28] at h
  obtain ⟨s0,h⟩:=h
  obtain ⟨s1,h⟩:=h
  by_cases b0:(g14_1 (g13_0 x1) (g13_1 x1) (g13_2 x1) (g13_3 x1) != 0)=true
  ·rw [if_pos b0] at h
   subst h
   exact AtV.ret Try.func3 tabOk ext3Ok mixed false [3,28,9,12,11,17,20,19,23,26,25,32,35,34] tys3 [true] (a1 s0 (a1 s1 (a1 b0 trivial))) (by kernel_rfl)
  ·rw [if_neg b0] at h
   replace b0:=bf_ b0
   exact AtV.go tabOk ext3Ok mixed false [3,28,9,12,11,17,20,19,23,26,25,32,35,34] [] [19,20,21,22,23] [0,1,2,3] [false] (a1 s0 (a1 s1 (a1 b0 trivial))) (ih32 _ _ h K q) (by kernel_rfl)
 ·intro v12 x1 x0 ds h K q
  rw [R3_10] at h
  by_cases b0:(decide (v12<(↑(List.length (g7_0 (g5_0 x0) (g6_0 (g5_0 x0) (g5_1 x0) (g5_2 x0)) (g5_2 x0))):Int)))=true
  ·rw [if_pos b0] at h
   exact AtV.go tabOk ext3Ok mixed false [3,28,9,12,11,17,20,19,23,26,25,32,35,34] [] [1,5,6,8,10,12] [0,1,2] [true] (a1 b0 trivial) (ih12 _ _ _ _ h K q) (by kernel_rfl)
  ·rw [if_neg b0] at h
   replace b0:=bf_ b0
   obtain ⟨s0,h⟩:=h
   by_cases b1:(g10_1 (g5_0 x0) (g6_0 (g5_0 x0) (g5_1 x0) (g5_2 x0)) != 0)=true
   ·rw [if_pos b1] at h
    subst h
    exact AtV.ret Try.func3 tabOk ext3Ok mixed false [3,28,9,12,11,17,20,19,23,26,25,32,35,34] tys3 [false,true,true] (a1 b0 (a1 s0 (a1 b1 (a1 (rfl:true=true) trivial)))) (by kernel_rfl)
   ·rw [if_neg b1] at h
    replace b1:=bf_ b1
    by_cases b2:(!g11_0 (g10_0 (g5_0 x0) (g6_0 (g5_0 x0) (g5_1 x0) (g5_2 x0))) (↑(List.length (g6_0 (g5_0 x0) (g5_1 x0) (g5_2 x0))):Int))=true
    ·rw [if_pos b2] at h
     subst h
     exact AtV.ret Try.func3 tabOk ext3Ok mixed false [3,28,9,12,11,17,20,19,23,26,25,32,35,34] tys3 [false,false,true] (a1 b0 (a1 s0 (a1 b1 (a1 trivial (a1 b2 trivial))))) (by kernel_rfl)
    ·rw [if_neg b2] at h
     replace b2:=bf_ b2
     exact AtV.go tabOk ext3Ok mixed false [3,28,9,12,11,17,20,19,23,26,25,32,35,34] [] [1,5,8,13] [1,3] [false,false,false] (a1 b0 (a1 s0 (a1 b1 (a1 trivial (a1 b2 trivial))))) (ih17 _ _ _ h K q) (by kernel_rfl)
 ·intro x1 ds h K q
  rw [R3_32] at h
  exact AtV.go tabOk ext3Ok mixed false [3,28,9,12,11,17,20,19,23,26,25,32,35,34] [] [19,20,21,22,23,25] [0,1,2,3] [] trivial (ih33 _ _ _ h K q) (by kernel_rfl)
 ·intro x1 x0 v12 ds h K q
  rw [R3_12] at h
  obtain ⟨s0,s1,h⟩:=h
  obtain ⟨s2,s3,h⟩:=h
  by_cases b0:(!eqD YA1 (List.getD (g7_0 (g5_0 x0) (g6_0 (g5_0 x0) (g5_1 x0) (g5_2 x0)) (g5_2 x0)) (Int.toNat v12) (ByteArray.empty,ByteArray.empty,0,())) (List.getD (g5_1 x0) (Int.toNat v12) (ByteArray.empty,ByteArray.empty,0,())))=true
  ·rw [if_pos b0] at h
   subst h
   exact AtV.ret Try.func3 tabOk ext3Ok mixed false [3,28,9,12,11,17,20,19,23,26,25,32,35,34] tys3 [true] (a1 s0 (a1 s1 (a1 s2 (a1 s3 (a1 b0 trivial))))) (by kernel_rfl)
  ·rw [if_neg b0] at h
   replace b0:=bf_ b0
   exact AtV.go tabOk ext3Ok mixed false [3,28,9,12,11,17,20,19,23,26,25,32,35,34] [] [1,5,6,8,10,12] [0,1,2] [false] (a1 s0 (a1 s1 (a1 s2 (a1 s3 (a1 b0 trivial))))) (ih11 _ _ _ _ h K q) (by kernel_rfl)
 ·intro x1 x0 ds h K q
  rw [R3_17] at h
  exact AtV.go tabOk ext3Ok mixed false [3,28,9,12,11,17,20,19,23,26,25,32,35,34] [] [1,5,8,13,15] [0,1] [] trivial (ih18 _ _ _ _ h K q) (by kernel_rfl)
 ·intro v25 x1 ds h K q
  rw [R3_33] at h
  by_cases b0:(decide (v25<(↑(List.length (g13_0 x1)):Int)))=true
  ·rw [if_pos b0] at h
   exact AtV.go tabOk ext3Ok mixed false [3,28,9,12,11,17,20,19,23,26,25,32,35,34] [] [19,20,21,22,23,25] [0,1,2,3] [true] (a1 b0 trivial) (ih35 _ _ _ h K q) (by kernel_rfl)
  ·rw [if_neg b0] at h
   replace b0:=bf_ b0
   subst h
   exact AtV.ret Try.func3 tabOk ext3Ok mixed false [3,28,9,12,11,17,20,19,23,26,25,32,35,34] tys3 [false] (a1 b0 trivial) (by kernel_rfl)
 ·intro x1 x0 v12 ds h K q
  rw [R3_11] at h
  obtain ⟨s0,h⟩:=h
  exact AtV.go tabOk ext3Ok mixed false [3,28,9,12,11,17,20,19,23,26,25,32,35,34] [] [1,5,6,8,10,12] [0,1,2] [] (a1 s0 trivial) (ih10 _ _ _ _ h K q) (by kernel_rfl)
 ·intro v15 x1 x0 ds h K q
  rw [R3_18] at h
  by_cases b0:(decide (v15<(↑(List.length (g10_0 (g5_0 x0) (g6_0 (g5_0 x0) (g5_1 x0) (g5_2 x0)))):Int)))=true
  ·rw [if_pos b0] at h
   exact AtV.go tabOk ext3Ok mixed false [3,28,9,12,11,17,20,19,23,26,25,32,35,34] [] [1,5,8,13,15] [0,1] [true] (a1 b0 trivial) (ih20 _ _ _ _ h K q) (by kernel_rfl)
  ·rw [if_neg b0] at h
   replace b0:=bf_ b0
   exact AtV.go tabOk ext3Ok mixed false [3,28,9,12,11,17,20,19,23,26,25,32,35,34] [] [1] [] [false] (a1 b0 trivial) (ih28 _ _ h K q) (by kernel_rfl)
 ·intro x1 v25 ds h K q
  rw [R3_35] at h
  obtain ⟨s0,s1,h⟩:=h
  obtain ⟨s2,h⟩:=h
  by_cases b0:(g9_0 (g13_0 x1) (g13_1 x1) (List.getD (g13_0 x1) (Int.toNat v25) (ByteArray.empty,[],())).1 (g13_2 x1).2.1 (g13_2 x1).2.2.1)=true
  ·rw [if_pos b0] at h
   obtain ⟨s3,s4,h⟩:=h
   obtain ⟨s5,h⟩:=h
   obtain ⟨s6,s7,h⟩:=h
   by_cases b1:(!g9_0 (g13_0 x1) (g13_1 x1) (List.getD (g13_0 x1) (Int.toNat v25) (ByteArray.empty,[],())).1 (g13_3 x1).2.1 (g13_3 x1).2.2.1==g15_0 (g14_0 (g13_0 x1) (g13_1 x1) (g13_2 x1) (g13_3 x1)) (List.getD (g13_0 x1) (Int.toNat v25) (ByteArray.empty,[],())).1)=true
   ·rw [if_pos b1] at h
    subst h
    exact AtV.ret Try.func3 tabOk ext3Ok mixed false [3,28,9,12,11,17,20,19,23,26,25,32,35,34] tys3 [true,true] (a1 s0 (a1 s1 (a1 s2 (a1 b0 (a1 s3 (a1 s4 (a1 s5 (a1 s6 (a1 s7 (a1 trivial (a1 b1 trivial))))))))))) (by kernel_rfl)
   ·rw [if_neg b1] at h
    replace b1:=bf_ b1
    exact AtV.go tabOk ext3Ok mixed false [3,28,9,12,11,17,20,19,23,26,25,32,35,34] [] [19,20,21,22,23,25] [0,1,2,3] [true,false] (a1 s0 (a1 s1 (a1 s2 (a1 b0 (a1 s3 (a1 s4 (a1 s5 (a1 s6 (a1 s7 (a1 trivial (a1 b1 trivial))))))))))) (ih34 _ _ _ h K q) (by kernel_rfl)
  ·rw [if_neg b0] at h
   replace b0:=bf_ b0
   obtain ⟨s3,s4,h⟩:=h
   by_cases b1:(!false==g15_0 (g14_0 (g13_0 x1) (g13_1 x1) (g13_2 x1) (g13_3 x1)) (List.getD (g13_0 x1) (Int.toNat v25) (ByteArray.empty,[],())).1)=true
   ·rw [if_pos b1] at h
    subst h
    exact AtV.ret Try.func3 tabOk ext3Ok mixed false [3,28,9,12,11,17,20,19,23,26,25,32,35,34] tys3 [false,true] (a1 s0 (a1 s1 (a1 s2 (a1 b0 (a1 s3 (a1 s4 (a1 trivial (a1 b1 trivial)))))))) (by kernel_rfl)
   ·rw [if_neg b1] at h
    replace b1:=bf_ b1
    exact AtV.go tabOk ext3Ok mixed false [3,28,9,12,11,17,20,19,23,26,25,32,35,34] [] [19,20,21,22,23,25] [0,1,2,3] [false,false] (a1 s0 (a1 s1 (a1 s2 (a1 b0 (a1 s3 (a1 s4 (a1 trivial (a1 b1 trivial)))))))) (ih34 _ _ _ h K q) (by kernel_rfl)
 ·intro x1 x0 v15 ds h K q
  rw [R3_20] at h
  obtain ⟨s0,s1,h⟩:=h
  obtain ⟨s2,s3,h⟩:=h
  by_cases b0:(g12_1 (g5_0 x0) (g6_0 (g5_0 x0) (g5_1 x0) (g5_2 x0)) (List.getD (g6_0 (g5_0 x0) (g5_1 x0) (g5_2 x0)) (Int.toNat (List.getD (g10_0 (g5_0 x0) (g6_0 (g5_0 x0) (g5_1 x0) (g5_2 x0))) (Int.toNat v15) 0)) (ByteArray.empty,ByteArray.empty,0,())) != 0)=true
  ·rw [if_pos b0] at h
   subst h
   exact AtV.ret Try.func3 tabOk ext3Ok mixed false [3,28,9,12,11,17,20,19,23,26,25,32,35,34] tys3 [true] (a1 s0 (a1 s1 (a1 s2 (a1 s3 (a1 trivial (a1 b0 trivial)))))) (by kernel_rfl)
  ·rw [if_neg b0] at h
   replace b0:=bf_ b0
   exact AtV.go tabOk ext3Ok mixed false [3,28,9,12,11,17,20,19,23,26,25,32,35,34] [] [1,5,8,13,15,16] [0,1,2] [false] (a1 s0 (a1 s1 (a1 s2 (a1 s3 (a1 trivial (a1 b0 trivial)))))) (ih23 _ _ _ _ h K q) (by kernel_rfl)
 ·intro x1 v25 ds h K q
  rw [R3_34] at h
  obtain ⟨s0,h⟩:=h
  exact AtV.go tabOk ext3Ok mixed false [3,28,9,12,11,17,20,19,23,26,25,32,35,34] [] [19,20,21,22,23,25] [0,1,2,3] [] (a1 s0 trivial) (ih33 _ _ _ h K q) (by kernel_rfl)
 ·intro x1 x0 v15 ds h K q
  rw [R3_23] at h
  exact AtV.go tabOk ext3Ok mixed false [3,28,9,12,11,17,20,19,23,26,25,32,35,34] [] [1,5,8,13,15,16,18] [0,1,2] [] trivial (ih24 _ _ _ _ _ h K q) (by kernel_rfl)
 ·intro v18 x1 x0 v15 ds h K q
  rw [R3_24] at h
  by_cases b0:(decide (v18<(↑(List.length (g5_0 x0)):Int)))=true
  ·rw [if_pos b0] at h
   exact AtV.go tabOk ext3Ok mixed false [3,28,9,12,11,17,20,19,23,26,25,32,35,34] [] [1,5,8,13,15,16,18] [0,1,2] [true] (a1 b0 trivial) (ih26 _ _ _ _ _ h K q) (by kernel_rfl)
  ·rw [if_neg b0] at h
   replace b0:=bf_ b0
   exact AtV.go tabOk ext3Ok mixed false [3,28,9,12,11,17,20,19,23,26,25,32,35,34] [] [1,5,8,13,15] [0,1] [false] (a1 b0 trivial) (ih19 _ _ _ _ h K q) (by kernel_rfl)
 ·intro x1 x0 v15 v18 ds h K q
  rw [R3_26] at h
  obtain ⟨s0,s1,h⟩:=h
  obtain ⟨s2,s3,h⟩:=h
  obtain ⟨s4,s5,h⟩:=h
  obtain ⟨s6,s7,h⟩:=h
  obtain ⟨s8,s9,h⟩:=h
  obtain ⟨s10,h⟩:=h
  by_cases b0:(!g9_0 (g5_0 x0) (g12_0 (g5_0 x0) (g6_0 (g5_0 x0) (g5_1 x0) (g5_2 x0)) (List.getD (g6_0 (g5_0 x0) (g5_1 x0) (g5_2 x0)) (Int.toNat (List.getD (g10_0 (g5_0 x0) (g6_0 (g5_0 x0) (g5_1 x0) (g5_2 x0))) (Int.toNat v15) 0)) (ByteArray.empty,ByteArray.empty,0,()))) (List.getD (g5_0 x0) (Int.toNat v18) (ByteArray.empty,[],())).1 (List.getD (g6_0 (g5_0 x0) (g5_1 x0) (g5_2 x0)) (Int.toNat (List.getD (g10_0 (g5_0 x0) (g6_0 (g5_0 x0) (g5_1 x0) (g5_2 x0))) (Int.toNat v15) 0)) (ByteArray.empty,ByteArray.empty,0,())).2.1 (List.getD (g6_0 (g5_0 x0) (g5_1 x0) (g5_2 x0)) (Int.toNat (List.getD (g10_0 (g5_0 x0) (g6_0 (g5_0 x0) (g5_1 x0) (g5_2 x0))) (Int.toNat v15) 0)) (ByteArray.empty,ByteArray.empty,0,())).2.2.1)=true
  ·rw [if_pos b0] at h
   obtain ⟨s11,s12,h⟩:=h
   obtain ⟨s13,s14,h⟩:=h
   obtain ⟨s15,s16,h⟩:=h
   obtain ⟨s17,s18,h⟩:=h
   obtain ⟨s19,s20,h⟩:=h
   obtain ⟨s21,h⟩:=h
   by_cases b1:(g9_0 (g5_0 x0) (g6_0 (g5_0 x0) (g5_1 x0) (g5_2 x0)) (List.getD (g5_0 x0) (Int.toNat v18) (ByteArray.empty,[],())).1 (List.getD (g6_0 (g5_0 x0) (g5_1 x0) (g5_2 x0)) (Int.toNat (List.getD (g10_0 (g5_0 x0) (g6_0 (g5_0 x0) (g5_1 x0) (g5_2 x0))) (Int.toNat v15) 0)) (ByteArray.empty,ByteArray.empty,0,())).2.1 (List.getD (g6_0 (g5_0 x0) (g5_1 x0) (g5_2 x0)) (Int.toNat (List.getD (g10_0 (g5_0 x0) (g6_0 (g5_0 x0) (g5_1 x0) (g5_2 x0))) (Int.toNat v15) 0)) (ByteArray.empty,ByteArray.empty,0,())).2.2.1)=true
   ·rw [if_pos b1] at h
    subst h
    exact AtV.ret Try.func3 tabOk ext3Ok mixed false [3,28,9,12,11,17,20,19,23,26,25,32,35,34] tys3 [true,true] (a1 s0 (a1 s1 (a1 s2 (a1 s3 (a1 s4 (a1 s5 (a1 s6 (a1 s7 (a1 s8 (a1 s9 (a1 s10 (a1 b0 (a1 s11 (a1 s12 (a1 s13 (a1 s14 (a1 s15 (a1 s16 (a1 s17 (a1 s18 (a1 s19 (a1 s20 (a1 s21 (a1 b1 trivial)))))))))))))))))))))))) (by kernel_rfl)
   ·rw [if_neg b1] at h
    replace b1:=bf_ b1
    exact AtV.go tabOk ext3Ok mixed false [3,28,9,12,11,17,20,19,23,26,25,32,35,34] [] [1,5,8,13,15,16,18] [0,1,2] [true,false] (a1 s0 (a1 s1 (a1 s2 (a1 s3 (a1 s4 (a1 s5 (a1 s6 (a1 s7 (a1 s8 (a1 s9 (a1 s10 (a1 b0 (a1 s11 (a1 s12 (a1 s13 (a1 s14 (a1 s15 (a1 s16 (a1 s17 (a1 s18 (a1 s19 (a1 s20 (a1 s21 (a1 b1 trivial)))))))))))))))))))))))) (ih25 _ _ _ _ _ h K q) (by kernel_rfl)
  ·rw [if_neg b0] at h
   replace b0:=bf_ b0
   exact AtV.go tabOk ext3Ok mixed false [3,28,9,12,11,17,20,19,23,26,25,32,35,34] [] [1,5,8,13,15,16,18] [0,1,2] [false,false] (a1 s0 (a1 s1 (a1 s2 (a1 s3 (a1 s4 (a1 s5 (a1 s6 (a1 s7 (a1 s8 (a1 s9 (a1 s10 (a1 b0 (a1 (rfl:false=false) trivial))))))))))))) (ih25 _ _ _ _ _ h K q) (by kernel_rfl)
 ·intro x1 x0 v15 ds h K q
  rw [R3_19] at h
  obtain ⟨s0,h⟩:=h
  exact AtV.go tabOk ext3Ok mixed false [3,28,9,12,11,17,20,19,23,26,25,32,35,34] [] [1,5,8,13,15] [0,1] [] (a1 s0 trivial) (ih18 _ _ _ _ h K q) (by kernel_rfl)
 ·intro x1 x0 v15 v18 ds h K q
  rw [R3_25] at h
  obtain ⟨s0,h⟩:=h
  exact AtV.go tabOk ext3Ok mixed false [3,28,9,12,11,17,20,19,23,26,25,32,35,34] [] [1,5,8,13,15,16,18] [0,1,2] [] (a1 s0 trivial) (ih24 _ _ _ _ _ h K q) (by kernel_rfl)
def g3_0 (x0 x1:List Int):Bool:=true
def P3 (x0 x1:List Int):Prop:=True
abbrev T3:List Dyn:=[⟨.bool,true⟩]
theorem draw3 {x:List Int} (hw:Wf (.sl (.int .u8)) x):P17 (g16_0 x)∧SrcOk 2000 (u17_0 (g16_0 x))∧(g17_0 (g16_0 x)).length≤13∧(g17_1 (g16_0 x)).length≤60:=by
 have p:P17 (g16_0 x):=show SrcOk 700000000 (x,0,0,()) from (src_start hw).up (by decide)
 have h2:=q17 _ p
 refine ⟨p,h2.1.up (by show (0:Int)+2000≤2000;decide),?_,h2.2.1⟩
 exact (q40 (g16_0 x) (show SrcOk 800000000 (x,0,0,()) from (src_start hw).up (by decide))).2.1
theorem drawAdd3 {x0:List Int} (hw:Wf (.sl (.int .u8)) x0):P5 x0∧((g5_0 x0)).length≤13∧((g5_1 x0)).length≤60:=by
 obtain ⟨d1,d2,d3,d4⟩:=draw3 hw
 obtain ⟨o1,o2⟩:=one_ok d2 8 (by decide)
 obtain ⟨a1',_⟩:=draw_grant d2 (by decide) (g17_0 (g16_0 x0))
 obtain ⟨b1',_⟩:=draw_grant o2 (by decide) (g17_0 (g16_0 x0))
 refine ⟨⟨d1,?_⟩,?_,?_⟩
 ·split
  ·rename_i c
   refine ⟨o1,?_⟩
   split
   ·exact ⟨of_decide_eq_true c,trivial⟩
   ·exact ⟨b1',trivial⟩
  ·exact ⟨a1',trivial⟩
 ·unfold g5_0
  split
  ·split
   ·exact d3
   ·exact d3
  ·exact d3
 ·unfold g5_1
  split
  ·split
   ·exact d4
   ·exact d4
  ·exact d4
theorem second3 (x1:List Int) (w1:Wf (.sl (.int .u8)) x1):∃ n,R3_28 n x1 T3:=by
 obtain ⟨d1,d2,d3,d4⟩:=draw3 w1
 obtain ⟨p1,s1⟩:=draw_grant d2 (by decide) (g17_0 (g16_0 x1))
 obtain ⟨p2,_⟩:=draw_grant s1 (by decide) (g17_0 (g16_0 x1))
 have p13:P13 x1:=⟨d1,p1,p2,trivial⟩
 have hl:((g13_0 x1)).length≤13:=d3
 obtain ⟨p14,m1,m2⟩:=mixed_law (x0:=(g13_0 x1)) (x1:=(g13_1 x1)) (a:=(g13_2 x1)) (b:=(g13_3 x1)) (by omega)
 by_cases c:(g14_1 (g13_0 x1) (g13_1 x1) (g13_2 x1) (g13_3 x1) != 0)=true
 ·refine ⟨1,?_⟩
  rw [R3_28,if_pos c,m1 c]
  exact ⟨p13,p14,rfl⟩
 obtain ⟨hv,hm⟩:=m2 c
 have all:∀ (k i:Nat),i+k=((g13_0 x1)).length→R3_33 (3*k+1) (i:Int) x1 T3:=by
  intro k
  induction k with
  | zero =>
   intro i hi
   rw [Nat.mul_zero,Nat.zero_add,R3_33,if_neg (by simp only [decide_eq_true_eq];omega)]
  | succ k ih =>
   intro i hi
   have ih:=ih (i+1) (by omega)
   have e3:(i:Int)+1=((i+1:Nat):Int):=by omega
   have hx:=mem_getD ((g13_0 x1)) (Int.toNat (i:Int)) (ByteArray.empty,[],()) (by omega)
   have hin:In64 (g13_0 x1) (List.getD (g13_0 x1) (Int.toNat (i:Int)) (ByteArray.empty,[],())).1:=self49 hx
   obtain ⟨pa,ea⟩:=may_same hv hin ((g13_2 x1)).2.1 ((g13_2 x1)).2.2.1
   obtain ⟨pb,eb⟩:=may_same hv hin ((g13_3 x1)).2.1 ((g13_3 x1)).2.2.1
   have h34:R3_34 (3*k+1+1) x1 (i:Int) T3:=by
    rw [R3_34,e3]
    exact ⟨by rw [i64_iff];omega,ih⟩
   have hmm:=hm (List.getD (g13_0 x1) (Int.toNat (i:Int)) (ByteArray.empty,[],())).1
   rw [show 3*(k+1)+1=3*k+1+1+1+1 by omega,R3_33,if_pos (by simp only [decide_eq_true_eq];omega),R3_35]
   refine ⟨by omega,by omega,pa,?_⟩
   by_cases ca:g9_0 (g13_0 x1) (g13_1 x1) (List.getD (g13_0 x1) (Int.toNat (i:Int)) (ByteArray.empty,[],())).1 ((g13_2 x1)).2.1 ((g13_2 x1)).2.2.1=true
   ·refine (if_pos ca).mpr ⟨by omega,by omega,pb,by omega,by omega,?_⟩
    refine (if_neg ?_).mpr h34
    rw [ea] at ca
    have e:g9_0 (g13_0 x1) (g13_1 x1) (List.getD (g13_0 x1) (Int.toNat (i:Int)) (ByteArray.empty,[],())).1 ((g13_3 x1)).2.1 ((g13_3 x1)).2.2.1=g15_0 (g14_0 (g13_0 x1) (g13_1 x1) (g13_2 x1) (g13_3 x1)) (List.getD (g13_0 x1) (Int.toNat (i:Int)) (ByteArray.empty,[],())).1:=by
     rw [eb]
     cases h:g39_0 (g13_0 x1) (g13_1 x1) (List.getD (g13_0 x1) (Int.toNat (i:Int)) (ByteArray.empty,[],())).1 ((g13_3 x1)).2.1 ((g13_3 x1)).2.2.1 with
     | true=>exact (hmm.2 ⟨⟨_,hx,rfl⟩,ca,h⟩).symm
     | false =>
      refine (bf_ fun h2 => ?_).symm
      rw [(hmm.1 h2).2.2] at h
      cases h
    rw [e]
    simp
   ·refine (if_neg ca).mpr ⟨by omega,by omega,?_⟩
    refine (if_neg ?_).mpr h34
    rw [ea] at ca
    have e:g15_0 (g14_0 (g13_0 x1) (g13_1 x1) (g13_2 x1) (g13_3 x1)) (List.getD (g13_0 x1) (Int.toNat (i:Int)) (ByteArray.empty,[],())).1=false:=bf_ fun h2=>ca (hmm.1 h2).2.1
    rw [e]
    decide
 refine ⟨3*((g13_0 x1)).length+1+1+1,?_⟩
 rw [R3_28,if_neg c,R3_32]
 exact ⟨p13,p14,all _ 0 (by omega)⟩
theorem lss3 (x0 x1:List Int) (hv:g22_0 (g5_0 x0) (g6_0 (g5_0 x0) (g5_1 x0) (g5_2 x0))=true) (i j n:Nat) (hi:i<((g10_0 (g5_0 x0) (g6_0 (g5_0 x0) (g5_1 x0) (g5_2 x0)))).length) (hj:j<((g6_0 (g5_0 x0) (g5_1 x0) (g5_2 x0))).length) (he:((g10_0 (g5_0 x0) (g6_0 (g5_0 x0) (g5_1 x0) (g5_2 x0)))).getD (Int.toNat (i:Int)) 0=(j:Int)) (hn:no10 (g5_0 x0) (g6_0 (g5_0 x0) (g5_1 x0) (g5_2 x0)) j=true) (hl:((g5_0 x0)).length≤13) (h19:R3_19 n x1 x0 (i:Int) T3) :
  ∀ (k q:Nat),q+k=((g5_0 x0)).length→R3_24 (n+3*k+1) (q:Int) x1 x0 (i:Int) T3:=by
 intro k
 induction k with
 | zero =>
  intro q hq
  rw [Nat.mul_zero,Nat.add_zero,R3_24,if_neg (by simp only [decide_eq_true_eq];omega)]
  exact h19
 | succ k ih =>
  intro q hq
  have ih:=ih (q+1) (by omega)
  have e3:(q:Int)+1=((q+1:Nat):Int):=by omega
  have hx:=mem_getD ((g5_0 x0)) (Int.toNat (q:Int)) (ByteArray.empty,[],()) (by omega)
  have hin:In64 (g5_0 x0) (List.getD (g5_0 x0) (Int.toNat (q:Int)) (ByteArray.empty,[],())).1:=self49 hx
  have h25:R3_25 (n+3*k+1+1) x1 x0 (i:Int) (q:Int) T3:=by
   rw [R3_25,e3]
   exact ⟨by rw [i64_iff];omega,ih⟩
  have hG:((g6_0 (g5_0 x0) (g5_1 x0) (g5_2 x0))).getD (Int.toNat (((g10_0 (g5_0 x0) (g6_0 (g5_0 x0) (g5_1 x0) (g5_2 x0)))).getD (Int.toNat (i:Int)) 0)) (ByteArray.empty,ByteArray.empty,0,())=((g6_0 (g5_0 x0) (g5_1 x0) (g5_2 x0)))[j]:=by
   rw [he,Int.toNat_natCast,getD_lt _ _ _ hj]
  obtain ⟨r1,r2⟩:=revoke_law hv hj
  obtain ⟨pa,ea⟩:=may_same (less_valid hv j) hin ((g6_0 (g5_0 x0) (g5_1 x0) (g5_2 x0)))[j].2.1 ((g6_0 (g5_0 x0) (g5_1 x0) (g5_2 x0)))[j].2.2.1
  obtain ⟨pb,eb⟩:=may_same hv hin ((g6_0 (g5_0 x0) (g5_1 x0) (g5_2 x0)))[j].2.1 ((g6_0 (g5_0 x0) (g5_1 x0) (g5_2 x0)))[j].2.2.1
  have key:=no_has hj hn hx
  rw [show n+3*(k+1)+1=n+3*k+1+1+1+1 by omega,R3_24,if_pos (by simp only [decide_eq_true_eq];omega),R3_26]
  rw [hG,he,r2]
  refine ⟨by omega,by omega,by omega,by omega,by omega,by omega,by omega,by omega,by omega,by omega,pa,?_⟩
  by_cases ca:g9_0 (g5_0 x0) (less10 (g6_0 (g5_0 x0) (g5_1 x0) (g5_2 x0)) j) (List.getD (g5_0 x0) (Int.toNat (q:Int)) (ByteArray.empty,[],())).1 ((g6_0 (g5_0 x0) (g5_1 x0) (g5_2 x0)))[j].2.1 ((g6_0 (g5_0 x0) (g5_1 x0) (g5_2 x0)))[j].2.2.1=true
  ·exact (if_neg (show ¬ (!g9_0 (g5_0 x0) (less10 (g6_0 (g5_0 x0) (g5_1 x0) (g5_2 x0)) j) (List.getD (g5_0 x0) (Int.toNat (q:Int)) (ByteArray.empty,[],())).1 ((g6_0 (g5_0 x0) (g5_1 x0) (g5_2 x0)))[j].2.1 ((g6_0 (g5_0 x0) (g5_1 x0) (g5_2 x0)))[j].2.2.1)=true by rw [ca];decide)).mpr h25
  ·refine (if_pos (show (!g9_0 (g5_0 x0) (less10 (g6_0 (g5_0 x0) (g5_1 x0) (g5_2 x0)) j) (List.getD (g5_0 x0) (Int.toNat (q:Int)) (ByteArray.empty,[],())).1 ((g6_0 (g5_0 x0) (g5_1 x0) (g5_2 x0)))[j].2.1 ((g6_0 (g5_0 x0) (g5_1 x0) (g5_2 x0)))[j].2.2.1)=true by rw [bf_ ca];rfl)).mpr ?_
   refine ⟨by omega,by omega,by omega,by omega,by omega,by omega,by omega,by omega,by omega,by omega,pb,?_⟩
   refine (if_neg fun h => ?_).mpr h25
   rw [eb] at h
   rw [ea] at ca
   exact ca (key h)
theorem first3 (x0 x1:List Int) (w0:Wf (.sl (.int .u8)) x0) (m:Nat) (hm:R3_28 m x1 T3):∃ n,R3_3 n x0 x1 T3:=by
 obtain ⟨p5,hl,hl1⟩:=drawAdd3 w0
 have p6:=addg_pre (x0:=(g5_0 x0)) (by omega) (x1:=(g5_1 x0)) (by omega) (g5_2 x0)
 by_cases c:(g6_1 (g5_0 x0) (g5_1 x0) (g5_2 x0)==0)=true
 case neg =>
  refine ⟨m+1,?_⟩
  rw [R3_3]
  exact ⟨p5,p6,(if_neg c).mpr hm⟩
 obtain ⟨A,B,eA,eN,k1,k2,hv0,hv⟩:=add_law c
 obtain ⟨p7,b0,b1⟩:=back_law hv
 rw [← eN] at hv p7 b0 b1
 rw [← eA] at b0
 have hlen:((g6_0 (g5_0 x0) (g5_1 x0) (g5_2 x0))).length=((g5_1 x0)).length+1:=by
  rw [eN,eA]
  simp only [List.length_append,List.length_cons]
  omega
 obtain ⟨v1,v2,v3,v4⟩:=(implGrants (g5_0 x0) (g6_0 (g5_0 x0) (g5_1 x0) (g5_2 x0))).1 hv
 have hxm:(g5_2 x0)∈(g6_0 (g5_0 x0) (g5_1 x0) (g5_2 x0)):=by rw [eN];exact List.mem_append_right _ (List.mem_cons_self ..)
 have hxg:=v3 _ hxm
 have hin:In64 (g5_0 x0) ((g5_2 x0)).1:=by
  unfold g23_0 at hxg
  split at hxg
  ·rename_i cc
   cases hR:(g5_0 x0) with
   | nil =>
    rw [hR] at cc
    exact absurd (of_decide_eq_true cc) (by show ¬ (-1:Int)≥0;decide)
   | cons r l=>rw [hR] at cc;exact in49 (of_decide_eq_true cc) (by simp)
  ·cases hxg
 obtain ⟨pm,em⟩:=may_same hv hin ((g5_2 x0)).2.1 ((g5_2 x0)).2.2.1
 have hhas:g39_0 (g5_0 x0) (g6_0 (g5_0 x0) (g5_1 x0) (g5_2 x0)) ((g5_2 x0)).1 ((g5_2 x0)).2.1 ((g5_2 x0)).2.2.1=true:=(has_law _ _ _ _ _).2 ⟨(grant_is hxg).2,(g5_2 x0),hxm,rfl,Int.le_refl _,.inr rfl⟩
 have p10:=needless_pre (x0:=(g5_0 x0)) (by omega) (g6_0 (g5_0 x0) (g5_1 x0) (g5_2 x0))
 have n1:¬ (!g22_0 (g5_0 x0) (g6_0 (g5_0 x0) (g5_1 x0) (g5_2 x0)))=true:=by rw [hv];decide
 have hnd1:g10_1 (g5_0 x0) (g6_0 (g5_0 x0) (g5_1 x0) (g5_2 x0))=0:=by
  unfold g10_1
  rw [if_neg n1]
 have hnd0:(g10_0 (g5_0 x0) (g6_0 (g5_0 x0) (g5_1 x0) (g5_2 x0)))=pick10 (g5_0 x0) (g6_0 (g5_0 x0) (g5_1 x0) (g5_2 x0)) ((g6_0 (g5_0 x0) (g5_1 x0) (g5_2 x0))).length 0:=by
  unfold g10_0
  rw [if_neg n1]
 have hnd:((g10_0 (g5_0 x0) (g6_0 (g5_0 x0) (g5_1 x0) (g5_2 x0)))).length≤100:=by
  have:∀ k i,(pick10 (g5_0 x0) (g6_0 (g5_0 x0) (g5_1 x0) (g5_2 x0)) k i).length≤k:=fun k=>by
   induction k with
   | zero=>exact fun i=>Nat.le_refl _
   | succ k ih =>
    intro i
    unfold pick10
    have:=ih (i+1)
    split
    ·rw [List.length_cons];omega
    ·omega
  have:=this ((g6_0 (g5_0 x0) (g5_1 x0) (g5_2 x0))).length 0
  rw [hnd0]
  omega
 have loop:∀ (k i:Nat),i+k=((g10_0 (g5_0 x0) (g6_0 (g5_0 x0) (g5_1 x0) (g5_2 x0)))).length→∃ n,R3_18 n (i:Int) x1 x0 T3:=by
  intro k
  induction k with
  | zero =>
   intro i hi
   refine ⟨m+1,?_⟩
   rw [R3_18,if_neg (by simp only [decide_eq_true_eq];omega)]
   exact hm
  | succ k ih =>
   intro i hi
   obtain ⟨n,hn⟩:=ih (i+1) (by omega)
   have e3:(i:Int)+1=((i+1:Nat):Int):=by omega
   have h19:R3_19 (n+1) x1 x0 (i:Int) T3:=by
    rw [R3_19,e3]
    exact ⟨by rw [i64_iff];omega,hn⟩
   have hmem:=mem_getD ((g10_0 (g5_0 x0) (g6_0 (g5_0 x0) (g5_1 x0) (g5_2 x0)))) (Int.toNat (i:Int)) 0 (by omega)
   have hmem2:=hmem
   rw [hnd0] at hmem2
   rw [← hnd0] at hmem2
   obtain ⟨j,j1,_,j3,j4⟩:=pick_mem _ _ _ (show ((g10_0 (g5_0 x0) (g6_0 (g5_0 x0) (g5_1 x0) (g5_2 x0)))).getD (Int.toNat (i:Int)) 0∈pick10 (g5_0 x0) (g6_0 (g5_0 x0) (g5_1 x0) (g5_2 x0)) ((g6_0 (g5_0 x0) (g5_1 x0) (g5_2 x0))).length 0 by rw [← hnd0];exact hmem)
   have hj:j<((g6_0 (g5_0 x0) (g5_1 x0) (g5_2 x0))).length:=by omega
   have h24:=lss3 x0 x1 hv i j (n+1) (by omega) hj j1 j4 hl h19 ((g5_0 x0)).length 0 (by omega)
   obtain ⟨r1,r2⟩:=revoke_law hv hj
   refine ⟨n+1+3*((g5_0 x0)).length+1+1+1+1,?_⟩
   rw [R3_18,if_pos (by simp only [decide_eq_true_eq];omega),R3_20,j1]
   refine ⟨by omega,by omega,by omega,by omega,?_⟩
   refine (if_neg ?_).mpr ?_
   ·rw [Int.toNat_natCast,getD_lt _ _ _ hj,r1]
    decide
   ·rw [R3_23]
    exact h24
 obtain ⟨n,hn⟩:=loop ((g10_0 (g5_0 x0) (g6_0 (g5_0 x0) (g5_1 x0) (g5_2 x0)))).length 0 (by omega)
 have back:∀ (k i:Nat),i+k=((g5_1 x0)).length→R3_10 (n+1+3*k+1) (i:Int) x1 x0 T3:=by
  intro k
  induction k with
  | zero =>
   intro i hi
   rw [Nat.mul_zero,Nat.add_zero,R3_10,if_neg (by simp only [decide_eq_true_eq];rw [b0];omega)]
   refine ⟨p10,(if_neg (show ¬ (g10_1 (g5_0 x0) (g6_0 (g5_0 x0) (g5_1 x0) (g5_2 x0)) != 0)=true by rw [hnd1];decide)).mpr ((if_neg ?_).mpr ?_)⟩
   ·rw [hnd0,pick_b10]
    decide
   ·rw [R3_17]
    exact hn
  | succ k ih =>
   intro i hi
   have ih:=ih (i+1) (by omega)
   have e3:(i:Int)+1=((i+1:Nat):Int):=by omega
   rw [show n+1+3*(k+1)+1=n+1+3*k+1+1+1+1 by omega,R3_10,if_pos (by simp only [decide_eq_true_eq];rw [b0];omega),R3_12,R3_11,e3]
   refine ⟨by omega,by rw [b0];omega,by omega,by omega,(if_neg ?_).mpr ⟨by rw [i64_iff];omega,ih⟩⟩
   rw [b0,(eq_grant _ _).2 rfl]
   decide
 refine ⟨n+1+3*((g5_1 x0)).length+1+1+1,?_⟩
 rw [R3_3]
 refine ⟨p5,p6,(if_pos c).mpr ⟨p7,(if_neg (show ¬ (!g8_0 (g5_0 x0) (g6_0 (g5_0 x0) (g5_1 x0) (g5_2 x0)))=true by rw [show g8_0 (g5_0 x0) (g6_0 (g5_0 x0) (g5_1 x0) (g5_2 x0))=true from grants_same hv];decide)).mpr ⟨by rw [i64_iff];omega,(if_neg ?_).mpr ⟨pm,(if_neg (show ¬ (!g9_0 (g5_0 x0) (g6_0 (g5_0 x0) (g5_1 x0) (g5_2 x0)) ((g5_2 x0)).1 ((g5_2 x0)).2.1 ((g5_2 x0)).2.2.1)=true by rw [em,hhas];decide)).mpr ((if_neg (show ¬ (g7_1 (g5_0 x0) (g6_0 (g5_0 x0) (g5_1 x0) (g5_2 x0)) (g5_2 x0) != 0)=true by rw [b1];decide)).mpr ((if_neg ?_).mpr ?_))⟩⟩⟩⟩
 ·rw [hlen]
  simp
 ·rw [b0]
  simp
 ·rw [R3_9]
  exact back _ 0 (by omega)
theorem top3 (x0 x1:List Int) (w0:Wf (.sl (.int .u8)) x0) (w1:Wf (.sl (.int .u8)) x1):∃ n,R3 n x0 x1 [⟨.bool,g3_0 x0 x1⟩]:=by
 by_cases c0:g4_0 x0=true
 ·exact ⟨1,by rw [R3,if_pos c0];rfl⟩
 ·by_cases c1:g4_0 x1=true
  ·exact ⟨1,by rw [R3,if_neg c0,if_pos c1];rfl⟩
  ·obtain ⟨m,hm⟩:=second3 x1 w1
   obtain ⟨n,hn⟩:=first3 x0 x1 w0 m hm
   exact ⟨n+1,by rw [R3,if_neg c0,if_neg c1];exact hn⟩
def S3:Am.Spec:={ sig:=sig3,pre:=fun ⟨x0,x1,_⟩=>P3 x0 x1,res:=fun ⟨x0,x1,_⟩=>[⟨.bool,g3_0 x0 x1⟩] }
theorem con3:Contract Try.prog 3 S3:=contract_of Try.func3 hb3 (bl_ (by kernel_rfl)) (fun ⟨x0,x1,_⟩ h hwf K q =>
 let ⟨n,hn⟩:=top3 x0 x1 hwf.1 hwf.2.1
 (snd3 n).1 x0 x1 _ hn K q)
end
theorem law3 (x0 x1:List Int) (h0:Wf (.sl (.int .u8)) x0) (h1:Wf (.sl (.int .u8)) x1):P3 x0 x1∧g3_0 x0 x1=true:=⟨trivial,rfl⟩
end Go.Proofs.Ythmimdpgkcadnaa
