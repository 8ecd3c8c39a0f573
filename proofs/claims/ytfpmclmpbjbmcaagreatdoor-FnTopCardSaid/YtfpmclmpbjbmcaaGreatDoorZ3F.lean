/- Several texts in one: the functions that this law reaches, and their laws. -/
import Derived.Test.YtfpmclmpbjbmcaaGreatDoorZ3A
import Derived.Test.YtfpmclmpbjbmcaaGreatDoorZ3B
import Derived.Test.YtfpmclmpbjbmcaaGreatDoorZ3C
import Derived.Test.YtfpmclmpbjbmcaaGreatDoorZ3D
import Derived.Test.YtfpmclmpbjbmcaaGreatDoorZ3E
set_option linter.unusedVariables false
set_option linter.unusedSimpArgs false
set_option maxRecDepth 100000
namespace Go.Proofs.YtfpmclmpbjbmcaaGreatDoor
open Go Go.Am Go.Proofs
noncomputable section
def ext137:Ext:=[(159,S159)]
theorem ext137Ok:ExtOk Tryz.prog ext137:=⟨⟨ca159,con159⟩,trivial⟩
noncomputable def b137:Code:=bodyOf Tryz.f137
theorem hb137:Tryz.f137.body=some b137:=by kernel_rfl
def sig137:List AT:=[AT.p YA11,AT.v (.int .i64),AT.v (.bool)]
def tys137:List Ty:=[.int .i64]
def kds137:List RK:=[]
def oks137:List AT:=owns sig137
def P137 (x0:Int×Int×Unit) (x1:Int) (x2:Bool):Prop:=(if (x2)=true then ((InR .i64 (x1*981))∧((P159 (x1*981) 100)∧((InR .i64 (x0.2.1 - g159_0 (x1*981) 100))∧True))) else ((InR .i64 (x1*981))∧((P159 (x1*981) 100)∧((InR .i64 (x0.2.1+g159_0 (x1*981) 100))∧True))))
def g137_0 (x0:Int×Int×Unit) (x1:Int) (x2:Bool):Int:=(if (x2)=true then x0.2.1 - g159_0 (x1*981) 100 else x0.2.1+g159_0 (x1*981) 100)
theorem at137 (x0:Int×Int×Unit) (x1:Int) (x2:Bool) (h:P137 x0 x1 x2) (K:Ctx) (q:Nat→Value):AtV Tryz.prog 137 (PostR kds137 oks137 [⟨.int .i64,g137_0 x0 x1 x2⟩] [] [] q K) 24 K q [] [.code b137] (entE 0 0 sig137 (x0,x1,x2,())) (entL sig137 (x0,x1,x2,())):=by
 unfold P137 at h
 unfold g137_0
 by_cases b0:(x2)=true
 ·try simp only [if_pos b0] at h ⊢
  obtain ⟨s0,h⟩:=h
  obtain ⟨s1,h⟩:=h
  obtain ⟨s2,h⟩:=h
  exact AtV.ret Tryz.func137 tabOk ext137Ok mixed false [] tys137 [true] (a1 b0 (a1 s0 (a1 s1 (a1 s2 trivial)))) (by kernel_rfl)
 ·try simp only [if_neg b0] at h ⊢
  replace b0:=bf_ b0
  obtain ⟨s0,h⟩:=h
  obtain ⟨s1,h⟩:=h
  obtain ⟨s2,h⟩:=h
  exact AtV.ret Tryz.func137 tabOk ext137Ok mixed false [] tys137 [false] (a1 b0 (a1 s0 (a1 s1 (a1 s2 trivial)))) (by kernel_rfl)
def S137:Am.Spec:={ sig:=sig137,pre:=fun ⟨x0,x1,x2,_⟩=>P137 x0 x1 x2,res:=fun ⟨x0,x1,x2,_⟩=>[⟨.int .i64,g137_0 x0 x1 x2⟩],kds:=kds137 }
theorem con137:Contract Tryz.prog 137 S137:=contract_of Tryz.func137 hb137 (bl_ (by kernel_rfl)) (fun ⟨x0,x1,x2,_⟩ h _ K q=>at137 x0 x1 x2 h K q)
end
noncomputable section
def ext138:Ext:=[]
theorem ext138Ok:ExtOk Tryz.prog ext138:=trivial
noncomputable def b138:Code:=bodyOf Tryz.f138
theorem hb138:Tryz.f138.body=some b138:=by kernel_rfl
def sig138:List AT:=[AT.v (.int .i64),AT.v (.int .i64)]
def tys138:List Ty:=[.int .i64]
def kds138:List RK:=[]
def oks138:List AT:=owns sig138
def P138 (x0:Int) (x1:Int):Prop:=((InR .i64 (x0+x1))∧((InR .i64 (x0+x1 - 1))∧((x1≠0)∧(InR .i64 (Int.tdiv (x0+x1 - 1) x1))∧True)))
def g138_0 (x0:Int) (x1:Int):Int:=Int.tdiv (x0+x1 - 1) x1
theorem at138 (x0:Int) (x1:Int) (h:P138 x0 x1) (K:Ctx) (q:Nat→Value):AtV Tryz.prog 138 (PostR kds138 oks138 [⟨.int .i64,g138_0 x0 x1⟩] [] [] q K) 11 K q [] [.code b138] (entE 0 0 sig138 (x0,x1,())) (entL sig138 (x0,x1,())):=by
 unfold P138 at h
 unfold g138_0
 obtain ⟨s0,h⟩:=h
 obtain ⟨s1,h⟩:=h
 obtain ⟨s2,s3,h⟩:=h
 exact AtV.ret Tryz.func138 tabOk ext138Ok mixed false [] tys138 [] (a1 s0 (a1 s1 (a1 s2 (a1 s3 trivial)))) (by kernel_rfl)
def S138:Am.Spec:={ sig:=sig138,pre:=fun ⟨x0,x1,_⟩=>P138 x0 x1,res:=fun ⟨x0,x1,_⟩=>[⟨.int .i64,g138_0 x0 x1⟩],kds:=kds138 }
theorem con138:Contract Tryz.prog 138 S138:=contract_of Tryz.func138 hb138 (bl_ (by kernel_rfl)) (fun ⟨x0,x1,_⟩ h _ K q=>at138 x0 x1 h K q)
end
noncomputable section
def ext110:Ext:=[(137,S137),(138,S138)]
theorem ext110Ok:ExtOk Tryz.prog ext110:=⟨⟨ca137,con137⟩,⟨ca138,con138⟩,trivial⟩
noncomputable def b110:Code:=bodyOf Tryz.f110
theorem hb110:Tryz.f110.body=some b110:=by kernel_rfl
def sig110:List AT:=[AT.p YA11,AT.v (.int .i64),AT.v (.int .i64),AT.v (.bool)]
def tys110:List Ty:=[.int .i64]
def kds110:List RK:=[]
def oks110:List AT:=owns sig110
def P110 (x0:Int×Int×Unit) (x1:Int) (x2:Int) (x3:Bool):Prop:=((P137 x0 x2 x3)∧(if (decide (g137_0 x0 x2 x3≤0))=true then True else ((InR .i64 (x1*x0.1))∧((P138 (x1*x0.1) 10)∧((InR .i64 (x1*x1))∧((InR .i64 (2*g137_0 x0 x2 x3))∧((P138 (x1*x1) (2*g137_0 x0 x2 x3))∧((InR .i64 (g138_0 (x1*x0.1) 10+g138_0 (x1*x1) (2*g137_0 x0 x2 x3)))∧True))))))))
def g110_0 (x0:Int×Int×Unit) (x1:Int) (x2:Int) (x3:Bool):Int:=(if (decide (g137_0 x0 x2 x3≤0))=true then -1 else g138_0 (x1*x0.1) 10+g138_0 (x1*x1) (2*g137_0 x0 x2 x3))
theorem at110 (x0:Int×Int×Unit) (x1:Int) (x2:Int) (x3:Bool) (h:P110 x0 x1 x2 x3) (K:Ctx) (q:Nat→Value):AtV Tryz.prog 110 (PostR kds110 oks110 [⟨.int .i64,g110_0 x0 x1 x2 x3⟩] [] [] q K) 30 K q [] [.code b110] (entE 0 0 sig110 (x0,x1,x2,x3,())) (entL sig110 (x0,x1,x2,x3,())):=by
 unfold P110 at h
 unfold g110_0
 obtain ⟨s0,h⟩:=h
 by_cases b0:(decide (g137_0 x0 x2 x3≤0))=true
 ·try simp only [if_pos b0] at h ⊢
  exact AtV.ret Tryz.func110 tabOk ext110Ok mixed false [] tys110 [true] (a1 s0 (a1 b0 trivial)) (by kernel_rfl)
 ·try simp only [if_neg b0] at h ⊢
  replace b0:=bf_ b0
  obtain ⟨s1,h⟩:=h
  obtain ⟨s2,h⟩:=h
  obtain ⟨s3,h⟩:=h
  obtain ⟨s4,h⟩:=h
  obtain ⟨s5,h⟩:=h
  obtain ⟨s6,h⟩:=h
  exact AtV.ret Tryz.func110 tabOk ext110Ok mixed false [] tys110 [false] (a1 s0 (a1 b0 (a1 s1 (a1 s2 (a1 s3 (a1 s4 (a1 s5 (a1 s6 trivial)))))))) (by kernel_rfl)
def S110:Am.Spec:={ sig:=sig110,pre:=fun ⟨x0,x1,x2,x3,_⟩=>P110 x0 x1 x2 x3,res:=fun ⟨x0,x1,x2,x3,_⟩=>[⟨.int .i64,g110_0 x0 x1 x2 x3⟩],kds:=kds110 }
theorem con110:Contract Tryz.prog 110 S110:=contract_of Tryz.func110 hb110 (bl_ (by kernel_rfl)) (fun ⟨x0,x1,x2,x3,_⟩ h _ K q=>at110 x0 x1 x2 x3 h K q)
end
noncomputable section
def ext73:Ext:=[(109,S109),(68,S68),(69,S69),(110,S110)]
theorem ext73Ok:ExtOk Tryz.prog ext73:=⟨⟨ca109,con109⟩,⟨ca68,con68⟩,⟨ca69,con69⟩,⟨ca110,con110⟩,trivial⟩
noncomputable def b73:Code:=bodyOf Tryz.f73
theorem hb73:Tryz.f73.body=some b73:=by kernel_rfl
def sig73:List AT:=[AT.p YA2,AT.p YA11,AT.v (.int .i64),AT.v (.int .i64),AT.v (.bool)]
def tys73:List Ty:=[.int .i64]
def kds73:List RK:=[]
def oks73:List AT:=owns sig73
def E73_3 (v11:Int) (v12:Int) (x0:List TyB4×Int×Int×Unit) (x1:Int×Int×Unit) (x3:Int) (x4:Bool):Env:=[(0,.a (.ptr YA2 x0)),(1,.a (.ptr YA11 x1)),(3,.a (.val (.int .i64 x3))),(4,.a (.val (.bool x4))),(11,.a (.val (.int .i64 v11))),(12,.a (.val (.int .i64 v12)))]
def L73_3 (v11:Int) (v12:Int) (x0:List TyB4×Int×Int×Unit) (x1:Int×Int×Unit) (x3:Int) (x4:Bool):Heap:=[]
mutual
def R73:Nat→List TyB4×Int×Int×Unit→Int×Int×Unit→Int→Int→Bool→List Dyn→Prop
 | 0,_,_,_,_,_,_=>False
 | n+1,x0,x1,x2,x3,x4,ds=>((P109 x0 x2)∧(R73_3 n (g109_0 x0 x2) (0) (x0) (x1) (x3) (x4) ds))
def R73_3:Nat→Int→Int→List TyB4×Int×Int×Unit→Int×Int×Unit→Int→Bool→List Dyn→Prop
 | 0,_,_,_,_,_,_,_=>False
 | n+1,v11,v12,x0,x1,x3,x4,ds=>(if (decide (v12<(x0.1.length:Int)))=true then (if (x4)=true then ((0≤v12)∧(v12<(x0.1.length:Int))∧((InR .i64 (v12+1))∧(R73_3 n (g68_0 v11 (List.getD x0.1 (Int.toNat v12) (0,0,())).2.1) (v12+1) (x0) (x1) (x3) (x4) ds))) else ((0≤v12)∧(v12<(x0.1.length:Int))∧((InR .i64 (v12+1))∧(R73_3 n (g69_0 v11 (List.getD x0.1 (Int.toNat v12) (0,0,())).2.1) (v12+1) (x0) (x1) (x3) (x4) ds)))) else ((P110 x1 x3 v11 x4)∧(ds=[Dyn.mk (.int .i64) (g110_0 x1 x3 v11 x4)])))
end
theorem snd73:∀ n,(∀ (x0:List TyB4×Int×Int×Unit) (x1:Int×Int×Unit) (x2:Int) (x3:Int) (x4:Bool) ds,R73 n x0 x1 x2 x3 x4 ds→∀ K q,AtV Tryz.prog 73 (PostR kds73 oks73 ds [] [] q K) 51 K q [] [.code b73] (entE 0 0 sig73 (x0,x1,x2,x3,x4,())) (entL sig73 (x0,x1,x2,x3,x4,())))∧(∀ (v11:Int) (v12:Int) (x0:List TyB4×Int×Int×Unit) (x1:Int×Int×Unit) (x3:Int) (x4:Bool) ds,R73_3 n v11 v12 x0 x1 x3 x4 ds→∀ K q,AtV Tryz.prog 73 (PostR kds73 oks73 ds [] [] q K) 51 K q [] (cutAt b73 3) (E73_3 v11 v12 x0 x1 x3 x4) (L73_3 v11 v12 x0 x1 x3 x4)):=by
 intro n
 induction n with
 | zero=>exact ⟨fun _ _ _ _ _ _ h=>by simp only [R73] at h,fun _ _ _ _ _ _ _ h=>by simp only [R73_3] at h⟩
 | succ n ih =>
 obtain ⟨ih,ih3⟩:=ih
 refine ⟨?_,?_⟩
 ·intro x0 x1 x2 x3 x4 ds h K q
  rw [R73] at h
  obtain ⟨s0,h⟩:=h
  exact AtV.go tabOk ext73Ok mixed false [] [] [0,1,3,4,11,12] [] [] (a1 s0 trivial) (ih3 _ _ _ _ _ _ _ h K q) (by kernel_rfl)
 ·intro v11 v12 x0 x1 x3 x4 ds h K q
  rw [R73_3] at h
  by_cases b0:(decide (v12<(x0.1.length:Int)))=true
  ·rw [if_pos b0] at h
   by_cases b1:(x4)=true
   ·rw [if_pos b1] at h
    obtain ⟨s0,s1,h⟩:=h
    obtain ⟨s2,h⟩:=h
    exact AtV.go tabOk ext73Ok mixed false [] [] [0,1,3,4,11,12] [] [true,true] (a1 b0 (a1 b1 (a1 s0 (a1 s1 (a1 trivial (a1 s2 trivial)))))) (ih3 _ _ _ _ _ _ _ h K q) (by kernel_rfl)
   ·rw [if_neg b1] at h
    replace b1:=bf_ b1
    obtain ⟨s0,s1,h⟩:=h
    obtain ⟨s2,h⟩:=h
    exact AtV.go tabOk ext73Ok mixed false [] [] [0,1,3,4,11,12] [] [true,false] (a1 b0 (a1 b1 (a1 s0 (a1 s1 (a1 trivial (a1 s2 trivial)))))) (ih3 _ _ _ _ _ _ _ h K q) (by kernel_rfl)
  ·rw [if_neg b0] at h
   replace b0:=bf_ b0
   obtain ⟨s0,h⟩:=h
   subst h
   exact AtV.ret Tryz.func73 tabOk ext73Ok mixed false [] tys73 [false] (a1 b0 (a1 s0 trivial)) (by kernel_rfl)
def g73_0 (x0:List TyB4×Int×Int×Unit) (x1:Int×Int×Unit) (x2 x3:Int) (x4:Bool):Int:=g110_0 x1 x3 (worstL x4 (g109_0 x0 x2) x0.1) x4
def P73 (x0:List TyB4×Int×Int×Unit) (x1:Int×Int×Unit) (x2 x3:Int) (x4:Bool):Prop:=x0.1.length≤1000∧P109 x0 x2∧P110 x1 x3 (worstL x4 (g109_0 x0 x2) x0.1) x4
theorem max73 (a b:Int):g68_0 a b=if a<b then b else a:=by
 unfold g68_0
 by_cases h:a>b
 ·rw [if_pos (by simpa using h),if_neg (by omega)]
 ·rw [if_neg (by simpa using h)]
  split <;> omega
theorem min73 (a b:Int):g69_0 a b=if b<a then b else a:=by
 unfold g69_0
 by_cases h:a<b
 ·rw [if_pos (by simpa using h),if_neg (by omega)]
 ·rw [if_neg (by simpa using h)]
  split <;> omega
theorem run73 (x0:List TyB4×Int×Int×Unit) (x1:Int×Int×Unit) (x3:Int) (x4:Bool) (hl:x0.1.length≤1000):∀ (k i:Nat) (g:Int),i+k=x0.1.length→P110 x1 x3 (worstL x4 g (x0.1.drop i)) x4→R73_3 (k+1) g (i:Int) x0 x1 x3 x4 [⟨.int .i64,g110_0 x1 x3 (worstL x4 g (x0.1.drop i)) x4⟩]:=by
 intro k
 induction k with
 | zero =>
  intro i g hi hp
  rw [List.drop_eq_nil_of_le (by omega)] at hp ⊢
  rw [R73_3,if_neg (by simp only [decide_eq_true_eq];omega)]
  exact ⟨hp,rfl⟩
 | succ k ih =>
  intro i g hi hp
  have hlt:i<x0.1.length:=by omega
  have e:(i:Int)+1=((i+1:Nat):Int):=by omega
  rw [List.drop_eq_getElem_cons hlt,worst_cons] at hp ⊢
  rw [R73_3,if_pos (by simp only [decide_eq_true_eq];omega)]
  simp only [Int.toNat_natCast,getD_lt x0.1 i _ hlt,max73,min73]
  have h:=ih (i+1) _ (by omega) hp
  cases x4 with
  | true =>
   simp only [if_true] at h ⊢
   rw [e]
   exact ⟨by omega,by omega,by rw [i64_iff];omega,h⟩
  | false =>
   simp only [Bool.false_eq_true,if_false] at h ⊢
   rw [e]
   exact ⟨by omega,by omega,by rw [i64_iff];omega,h⟩
theorem top73 (x0:List TyB4×Int×Int×Unit) (x1:Int×Int×Unit) (x2 x3:Int) (x4:Bool) (h:P73 x0 x1 x2 x3 x4):R73 (x0.1.length+1+1) x0 x1 x2 x3 x4 [⟨.int .i64,g73_0 x0 x1 x2 x3 x4⟩]:=by
 rw [R73]
 exact ⟨h.2.1,run73 x0 x1 x3 x4 h.1 x0.1.length 0 _ (by omega) h.2.2⟩
def S73:Am.Spec:={ sig:=sig73,pre:=fun ⟨x0,x1,x2,x3,x4,_⟩=>P73 x0 x1 x2 x3 x4,res:=fun ⟨x0,x1,x2,x3,x4,_⟩=>[⟨.int .i64,g73_0 x0 x1 x2 x3 x4⟩] }
theorem con73:Contract Tryz.prog 73 S73:=contract_of Tryz.func73 hb73 (bl_ (by kernel_rfl)) (fun ⟨x0,x1,x2,x3,x4,_⟩ h hwf K q =>
 (snd73 _).1 x0 x1 x2 x3 x4 _ (top73 x0 x1 x2 x3 x4 h) K q)
end
noncomputable section
def ext34:Ext:=[(73,S73),(25,S25)]
theorem ext34Ok:ExtOk Tryz.prog ext34:=⟨⟨ca73,con73⟩,⟨ca25,con25⟩,trivial⟩
noncomputable def b34:Code:=bodyOf Tryz.f34
theorem hb34:Tryz.f34.body=some b34:=by kernel_rfl
def sig34:List AT:=[AT.p YA2,AT.p YA11,AT.v (.int .i64),AT.v (.int .i64),AT.v (.bool)]
def tys34:List Ty:=[.bool]
def kds34:List RK:=[]
def oks34:List AT:=owns sig34
def P34 (x0:List TyB4×Int×Int×Unit) (x1:Int×Int×Unit) (x2:Int) (x3:Int) (x4:Bool):Prop:=((P73 x0 x1 x2 x3 x4)∧((P25 x0)∧((InR .i64 (g25_0 x0 - x2))∧True)))
def g34_0 (x0:List TyB4×Int×Int×Unit) (x1:Int×Int×Unit) (x2:Int) (x3:Int) (x4:Bool):Bool:=(if (x4)=true then (if (decide (g73_0 x0 x1 x2 x3 x4≥0))=true then decide (g73_0 x0 x1 x2 x3 x4≤x2) else false) else (if (decide (g73_0 x0 x1 x2 x3 x4≥0))=true then decide (g73_0 x0 x1 x2 x3 x4≤g25_0 x0 - x2) else false))
theorem at34 (x0:List TyB4×Int×Int×Unit) (x1:Int×Int×Unit) (x2:Int) (x3:Int) (x4:Bool) (h:P34 x0 x1 x2 x3 x4) (K:Ctx) (q:Nat→Value):AtV Tryz.prog 34 (PostR kds34 oks34 [⟨.bool,g34_0 x0 x1 x2 x3 x4⟩] [] [] q K) 32 K q [] [.code b34] (entE 0 0 sig34 (x0,x1,x2,x3,x4,())) (entL sig34 (x0,x1,x2,x3,x4,())):=by
 unfold P34 at h
 unfold g34_0
 obtain ⟨s0,h⟩:=h
 obtain ⟨s1,h⟩:=h
 obtain ⟨s2,h⟩:=h
 by_cases b0:(x4)=true
 ·try simp only [if_pos b0] at h ⊢
  by_cases b1:(decide (g73_0 x0 x1 x2 x3 x4≥0))=true
  ·try simp only [if_pos b1] at h ⊢
   exact AtV.ret Tryz.func34 tabOk ext34Ok mixed false [] tys34 [true,true] (a1 s0 (a1 s1 (a1 s2 (a1 b0 (a1 b1 trivial))))) (by kernel_rfl)
  ·try simp only [if_neg b1] at h ⊢
   replace b1:=bf_ b1
   exact AtV.ret Tryz.func34 tabOk ext34Ok mixed false [] tys34 [true,false] (a1 s0 (a1 s1 (a1 s2 (a1 b0 (a1 b1 trivial))))) (by kernel_rfl)
 ·try simp only [if_neg b0] at h ⊢
  replace b0:=bf_ b0
  by_cases b1:(decide (g73_0 x0 x1 x2 x3 x4≥0))=true
  ·try simp only [if_pos b1] at h ⊢
   exact AtV.ret Tryz.func34 tabOk ext34Ok mixed false [] tys34 [false,true] (a1 s0 (a1 s1 (a1 s2 (a1 b0 (a1 b1 trivial))))) (by kernel_rfl)
  ·try simp only [if_neg b1] at h ⊢
   replace b1:=bf_ b1
   exact AtV.ret Tryz.func34 tabOk ext34Ok mixed false [] tys34 [false,false] (a1 s0 (a1 s1 (a1 s2 (a1 b0 (a1 b1 trivial))))) (by kernel_rfl)
def S34:Am.Spec:={ sig:=sig34,pre:=fun ⟨x0,x1,x2,x3,x4,_⟩=>P34 x0 x1 x2 x3 x4,res:=fun ⟨x0,x1,x2,x3,x4,_⟩=>[⟨.bool,g34_0 x0 x1 x2 x3 x4⟩],kds:=kds34 }
theorem con34:Contract Tryz.prog 34 S34:=contract_of Tryz.func34 hb34 (bl_ (by kernel_rfl)) (fun ⟨x0,x1,x2,x3,x4,_⟩ h _ K q=>at34 x0 x1 x2 x3 x4 h K q)
end
noncomputable section
def ext12:Ext:=[(33,S33),(34,S34)]
theorem ext12Ok:ExtOk Tryz.prog ext12:=⟨⟨ca33,con33⟩,⟨ca34,con34⟩,trivial⟩
noncomputable def b12:Code:=bodyOf Tryz.f12
theorem hb12:Tryz.f12.body=some b12:=by kernel_rfl
def sig12:List AT:=[AT.v YA2,AT.v YA11,AT.v (.int .i64),AT.v (.int .i64),AT.v (.bool)]
def tys12:List Ty:=[.bool]
def kds12:List RK:=[]
def oks12:List AT:=owns sig12
def P12 (x0:List TyB4×Int×Int×Unit) (x1:Int×Int×Unit) (x2:Int) (x3:Int) (x4:Bool):Prop:=((P33 x0 x1 x2 x3)∧(if (g33_0 x0 x1 x2 x3==0)=true then ((P34 x0 x1 x2 x3 x4)∧True) else True))
def g12_0 (x0:List TyB4×Int×Int×Unit) (x1:Int×Int×Unit) (x2:Int) (x3:Int) (x4:Bool):Bool:=(if (g33_0 x0 x1 x2 x3==0)=true then g34_0 x0 x1 x2 x3 x4 else false)
theorem at12 (x0:List TyB4×Int×Int×Unit) (x1:Int×Int×Unit) (x2:Int) (x3:Int) (x4:Bool) (h:P12 x0 x1 x2 x3 x4) (K:Ctx) (q:Nat→Value):AtV Tryz.prog 12 (PostR kds12 oks12 [⟨.bool,g12_0 x0 x1 x2 x3 x4⟩] [] [] q K) 21 K q [] [.code b12] (entE 0 0 sig12 (x0,x1,x2,x3,x4,())) (entL sig12 (x0,x1,x2,x3,x4,())):=by
 unfold P12 at h
 unfold g12_0
 obtain ⟨s0,h⟩:=h
 by_cases b0:(g33_0 x0 x1 x2 x3==0)=true
 ·try simp only [if_pos b0] at h ⊢
  obtain ⟨s1,h⟩:=h
  exact AtV.ret Tryz.func12 tabOk ext12Ok mixed false [] tys12 [true] (a1 s0 (a1 b0 (a1 s1 trivial))) (by kernel_rfl)
 ·try simp only [if_neg b0] at h ⊢
  replace b0:=bf_ b0
  exact AtV.ret Tryz.func12 tabOk ext12Ok mixed false [] tys12 [false] (a1 s0 (a1 b0 trivial)) (by kernel_rfl)
def S12:Am.Spec:={ sig:=sig12,pre:=fun ⟨x0,x1,x2,x3,x4,_⟩=>P12 x0 x1 x2 x3 x4,res:=fun ⟨x0,x1,x2,x3,x4,_⟩=>[⟨.bool,g12_0 x0 x1 x2 x3 x4⟩],kds:=kds12 }
theorem con12:Contract Tryz.prog 12 S12:=contract_of Tryz.func12 hb12 (bl_ (by kernel_rfl)) (fun ⟨x0,x1,x2,x3,x4,_⟩ h _ K q=>at12 x0 x1 x2 x3 x4 h K q)
end
noncomputable section
def ext35:Ext:=[(24,S24),(71,S71)]
theorem ext35Ok:ExtOk Tryz.prog ext35:=⟨⟨ca24,con24⟩,⟨ca71,con71⟩,trivial⟩
noncomputable def b35:Code:=bodyOf Tryz.f35
theorem hb35:Tryz.f35.body=some b35:=by kernel_rfl
def sig35:List AT:=[AT.p YA2,AT.v (.int .i64)]
def tys35:List Ty:=[.int .i64]
def kds35:List RK:=[]
def oks35:List AT:=owns sig35
def P35 (x0:List TyB4×Int×Int×Unit) (x1:Int):Prop:=(if (!g24_0 x0)=true then True else ((P71 x0 x1)∧True))
def g35_0 (x0:List TyB4×Int×Int×Unit) (x1:Int):Int:=(if (!g24_0 x0)=true then 1 else (if (!g71_0 x0 x1)=true then 2 else 0))
theorem at35 (x0:List TyB4×Int×Int×Unit) (x1:Int) (h:P35 x0 x1) (K:Ctx) (q:Nat→Value):AtV Tryz.prog 35 (PostR kds35 oks35 [⟨.int .i64,g35_0 x0 x1⟩] [] [] q K) 12 K q [] [.code b35] (entE 0 0 sig35 (x0,x1,())) (entL sig35 (x0,x1,())):=by
 unfold P35 at h
 unfold g35_0
 by_cases b0:(!g24_0 x0)=true
 ·try simp only [if_pos b0] at h ⊢
  exact AtV.ret Tryz.func35 tabOk ext35Ok mixed false [] tys35 [true] (a1 trivial (a1 b0 trivial)) (by kernel_rfl)
 ·try simp only [if_neg b0] at h ⊢
  replace b0:=bf_ b0
  obtain ⟨s0,h⟩:=h
  by_cases b1:(!g71_0 x0 x1)=true
  ·try simp only [if_pos b1] at h ⊢
   exact AtV.ret Tryz.func35 tabOk ext35Ok mixed false [] tys35 [false,true] (a1 trivial (a1 b0 (a1 s0 (a1 b1 trivial)))) (by kernel_rfl)
  ·try simp only [if_neg b1] at h ⊢
   replace b1:=bf_ b1
   exact AtV.ret Tryz.func35 tabOk ext35Ok mixed false [] tys35 [false,false] (a1 trivial (a1 b0 (a1 s0 (a1 b1 trivial)))) (by kernel_rfl)
def S35:Am.Spec:={ sig:=sig35,pre:=fun ⟨x0,x1,_⟩=>P35 x0 x1,res:=fun ⟨x0,x1,_⟩=>[⟨.int .i64,g35_0 x0 x1⟩],kds:=kds35 }
theorem con35:Contract Tryz.prog 35 S35:=contract_of Tryz.func35 hb35 (bl_ (by kernel_rfl)) (fun ⟨x0,x1,_⟩ h _ K q=>at35 x0 x1 h K q)
end
noncomputable section
def ext36:Ext:=[(25,S25),(68,S68),(69,S69)]
theorem ext36Ok:ExtOk Tryz.prog ext36:=⟨⟨ca25,con25⟩,⟨ca68,con68⟩,⟨ca69,con69⟩,trivial⟩
noncomputable def b36:Code:=bodyOf Tryz.f36
theorem hb36:Tryz.f36.body=some b36:=by kernel_rfl
def sig36:List AT:=[AT.p YA2]
def tys36:List Ty:=[.int .i64,.int .i64]
def kds36:List RK:=[]
def oks36:List AT:=owns sig36
def P36 (x0:List TyB4×Int×Int×Unit):Prop:=((P25 x0)∧((InR .i64 (g25_0 x0 - x0.2.2.1))∧((InR .i64 (g25_0 x0 - x0.2.1))∧True)))
def g36_0 (x0:List TyB4×Int×Int×Unit):Int:=g68_0 x0.2.1 (g25_0 x0 - x0.2.2.1)
def g36_1 (x0:List TyB4×Int×Int×Unit):Int:=g69_0 x0.2.2.1 (g25_0 x0 - x0.2.1)
theorem at36 (x0:List TyB4×Int×Int×Unit) (h:P36 x0) (K:Ctx) (q:Nat→Value):AtV Tryz.prog 36 (PostR kds36 oks36 [⟨.int .i64,g36_0 x0⟩,⟨.int .i64,g36_1 x0⟩] [] [] q K) 29 K q [] [.code b36] (entE 0 0 sig36 (x0,())) (entL sig36 (x0,())):=by
 unfold P36 at h
 unfold g36_0 g36_1
 obtain ⟨s0,h⟩:=h
 obtain ⟨s1,h⟩:=h
 obtain ⟨s2,h⟩:=h
 exact AtV.ret Tryz.func36 tabOk ext36Ok mixed false [] tys36 [] (a1 s0 (a1 s1 (a1 trivial (a1 s2 (a1 trivial trivial))))) (by kernel_rfl)
def S36:Am.Spec:={ sig:=sig36,pre:=fun ⟨x0,_⟩=>P36 x0,res:=fun ⟨x0,_⟩=>[⟨.int .i64,g36_0 x0⟩,⟨.int .i64,g36_1 x0⟩],kds:=kds36 }
theorem con36:Contract Tryz.prog 36 S36:=contract_of Tryz.func36 hb36 (bl_ (by kernel_rfl)) (fun ⟨x0,_⟩ h _ K q=>at36 x0 h K q)
end
noncomputable section
def ext13:Ext:=[(35,S35),(36,S36),(30,S30)]
theorem ext13Ok:ExtOk Tryz.prog ext13:=⟨⟨ca35,con35⟩,⟨ca36,con36⟩,⟨ca30,con30⟩,trivial⟩
noncomputable def b13:Code:=bodyOf Tryz.f13
theorem hb13:Tryz.f13.body=some b13:=by kernel_rfl
def sig13:List AT:=[AT.v YA2,AT.v (.int .i64)]
def tys13:List Ty:=[.bool]
def kds13:List RK:=[]
def oks13:List AT:=owns sig13
def P13 (x0:List TyB4×Int×Int×Unit) (x1:Int):Prop:=((P35 x0 x1)∧(if (g35_0 x0 x1 != 0)=true then True else ((P36 x0)∧True)))
def g13_0 (x0:List TyB4×Int×Int×Unit) (x1:Int):Bool:=(if (g35_0 x0 x1 != 0)=true then false else g30_0 x1 (g36_0 x0) (g36_1 x0))
theorem at13 (x0:List TyB4×Int×Int×Unit) (x1:Int) (h:P13 x0 x1) (K:Ctx) (q:Nat→Value):AtV Tryz.prog 13 (PostR kds13 oks13 [⟨.bool,g13_0 x0 x1⟩] [] [] q K) 18 K q [] [.code b13] (entE 0 0 sig13 (x0,x1,())) (entL sig13 (x0,x1,())):=by
 unfold P13 at h
 unfold g13_0
 obtain ⟨s0,h⟩:=h
 by_cases b0:(g35_0 x0 x1 != 0)=true
 ·try simp only [if_pos b0] at h ⊢
  exact AtV.ret Tryz.func13 tabOk ext13Ok mixed false [] tys13 [true] (a1 s0 (a1 b0 trivial)) (by kernel_rfl)
 ·try simp only [if_neg b0] at h ⊢
  replace b0:=bf_ b0
  obtain ⟨s1,h⟩:=h
  exact AtV.ret Tryz.func13 tabOk ext13Ok mixed false [] tys13 [false] (a1 s0 (a1 b0 (a1 s1 (a1 trivial trivial)))) (by kernel_rfl)
def S13:Am.Spec:={ sig:=sig13,pre:=fun ⟨x0,x1,_⟩=>P13 x0 x1,res:=fun ⟨x0,x1,_⟩=>[⟨.bool,g13_0 x0 x1⟩],kds:=kds13 }
theorem con13:Contract Tryz.prog 13 S13:=contract_of Tryz.func13 hb13 (bl_ (by kernel_rfl)) (fun ⟨x0,x1,_⟩ h _ K q=>at13 x0 x1 h K q)
end
noncomputable section
def ext37:Ext:=[(25,S25),(68,S68)]
theorem ext37Ok:ExtOk Tryz.prog ext37:=⟨⟨ca25,con25⟩,⟨ca68,con68⟩,trivial⟩
noncomputable def b37:Code:=bodyOf Tryz.f37
theorem hb37:Tryz.f37.body=some b37:=by kernel_rfl
def sig37:List AT:=[AT.p YA2,AT.v (.int .i64)]
def tys37:List Ty:=[.int .i64]
def kds37:List RK:=[]
def oks37:List AT:=owns sig37
def P37 (x0:List TyB4×Int×Int×Unit) (x1:Int):Prop:=((P25 x0)∧((InR .i64 (2*x1))∧((InR .i64 (g25_0 x0 - 2*x1))∧((InR .i64 (0 - (g25_0 x0 - 2*x1)))∧True))))
def g37_0 (x0:List TyB4×Int×Int×Unit) (x1:Int):Int:=g68_0 (g25_0 x0 - 2*x1) (0 - (g25_0 x0 - 2*x1))
theorem at37 (x0:List TyB4×Int×Int×Unit) (x1:Int) (h:P37 x0 x1) (K:Ctx) (q:Nat→Value):AtV Tryz.prog 37 (PostR kds37 oks37 [⟨.int .i64,g37_0 x0 x1⟩] [] [] q K) 15 K q [] [.code b37] (entE 0 0 sig37 (x0,x1,())) (entL sig37 (x0,x1,())):=by
 unfold P37 at h
 unfold g37_0
 obtain ⟨s0,h⟩:=h
 obtain ⟨s1,h⟩:=h
 obtain ⟨s2,h⟩:=h
 obtain ⟨s3,h⟩:=h
 exact AtV.ret Tryz.func37 tabOk ext37Ok mixed false [] tys37 [] (a1 s0 (a1 s1 (a1 s2 (a1 s3 (a1 trivial trivial))))) (by kernel_rfl)
def S37:Am.Spec:={ sig:=sig37,pre:=fun ⟨x0,x1,_⟩=>P37 x0 x1,res:=fun ⟨x0,x1,_⟩=>[⟨.int .i64,g37_0 x0 x1⟩],kds:=kds37 }
theorem con37:Contract Tryz.prog 37 S37:=contract_of Tryz.func37 hb37 (bl_ (by kernel_rfl)) (fun ⟨x0,x1,_⟩ h _ K q=>at37 x0 x1 h K q)
end
noncomputable section
def ext14:Ext:=[(35,S35),(37,S37)]
theorem ext14Ok:ExtOk Tryz.prog ext14:=⟨⟨ca35,con35⟩,⟨ca37,con37⟩,trivial⟩
noncomputable def b14:Code:=bodyOf Tryz.f14
theorem hb14:Tryz.f14.body=some b14:=by kernel_rfl
def sig14:List AT:=[AT.v YA2,AT.v (.int .i64)]
def tys14:List Ty:=[.int .i64,.int .i64]
def kds14:List RK:=[]
def oks14:List AT:=owns sig14
def P14 (x0:List TyB4×Int×Int×Unit) (x1:Int):Prop:=((P35 x0 x1)∧(if (g35_0 x0 x1 != 0)=true then True else ((P37 x0 x1)∧True)))
def g14_0 (x0:List TyB4×Int×Int×Unit) (x1:Int):Int:=(if (g35_0 x0 x1 != 0)=true then 0 else g37_0 x0 x1)
def g14_1 (x0:List TyB4×Int×Int×Unit) (x1:Int):Int:=(if (g35_0 x0 x1 != 0)=true then g35_0 x0 x1 else 0)
theorem at14 (x0:List TyB4×Int×Int×Unit) (x1:Int) (h:P14 x0 x1) (K:Ctx) (q:Nat→Value):AtV Tryz.prog 14 (PostR kds14 oks14 [⟨.int .i64,g14_0 x0 x1⟩,⟨.int .i64,g14_1 x0 x1⟩] [] [] q K) 14 K q [] [.code b14] (entE 0 0 sig14 (x0,x1,())) (entL sig14 (x0,x1,())):=by
 unfold P14 at h
 unfold g14_0 g14_1
 obtain ⟨s0,h⟩:=h
 by_cases b0:(g35_0 x0 x1 != 0)=true
 ·try simp only [if_pos b0] at h ⊢
  exact AtV.ret Tryz.func14 tabOk ext14Ok mixed false [] tys14 [true] (a1 s0 (a1 b0 trivial)) (by kernel_rfl)
 ·try simp only [if_neg b0] at h ⊢
  replace b0:=bf_ b0
  obtain ⟨s1,h⟩:=h
  exact AtV.ret Tryz.func14 tabOk ext14Ok mixed false [] tys14 [false] (a1 s0 (a1 b0 (a1 s1 trivial))) (by kernel_rfl)
def S14:Am.Spec:={ sig:=sig14,pre:=fun ⟨x0,x1,_⟩=>P14 x0 x1,res:=fun ⟨x0,x1,_⟩=>[⟨.int .i64,g14_0 x0 x1⟩,⟨.int .i64,g14_1 x0 x1⟩],kds:=kds14 }
theorem con14:Contract Tryz.prog 14 S14:=contract_of Tryz.func14 hb14 (bl_ (by kernel_rfl)) (fun ⟨x0,x1,_⟩ h _ K q=>at14 x0 x1 h K q)
end
noncomputable section
def ext40:Ext:=[(30,S30)]
theorem ext40Ok:ExtOk Tryz.prog ext40:=⟨⟨ca30,con30⟩,trivial⟩
noncomputable def b40:Code:=bodyOf Tryz.f40
theorem hb40:Tryz.f40.body=some b40:=by kernel_rfl
def sig40:List AT:=[AT.v (.sl (.int .i64)),AT.v (.int .i64),AT.v (.int .i64)]
def tys40:List Ty:=[.bool]
def kds40:List RK:=[]
def oks40:List AT:=owns sig40
def E40_2 (v7:Int) (x0:List Int) (x1:Int) (x2:Int):Env:=[(0,.a (.sl (.int .i64) x0)),(1,.a (.val (.int .i64 x1))),(2,.a (.val (.int .i64 x2))),(7,.a (.val (.int .i64 v7)))]
def L40_2 (v7:Int) (x0:List Int) (x1:Int) (x2:Int):Heap:=[]
mutual
def R40:Nat→List Int→Int→Int→List Dyn→Prop
 | 0,_,_,_,_=>False
 | n+1,x0,x1,x2,ds=>(R40_2 n (0) (x0) (x1) (x2) ds)
def R40_2:Nat→Int→List Int→Int→Int→List Dyn→Prop
 | 0,_,_,_,_,_=>False
 | n+1,v7,x0,x1,x2,ds=>(if (decide (v7<(x0.length:Int)))=true then ((0≤v7)∧(v7<(x0.length:Int))∧(if (!g30_0 (List.getD x0 (Int.toNat v7) 0) x1 x2)=true then (ds=[Dyn.mk .bool false]) else (if (decide (v7>0))=true then ((InR .i64 (v7 - 1))∧((0≤v7 - 1)∧(v7 - 1<(x0.length:Int))∧((0≤v7)∧(v7<(x0.length:Int))∧(if (decide (List.getD x0 (Int.toNat (v7 - 1)) 0≥List.getD x0 (Int.toNat v7) 0))=true then (ds=[Dyn.mk .bool false]) else ((InR .i64 (v7+1))∧(R40_2 n (v7+1) (x0) (x1) (x2) ds)))))) else ((InR .i64 (v7+1))∧(R40_2 n (v7+1) (x0) (x1) (x2) ds))))) else (ds=[Dyn.mk .bool true]))
end
theorem snd40:∀ n,(∀ (x0:List Int) (x1:Int) (x2:Int) ds,R40 n x0 x1 x2 ds→∀ K q,AtV Tryz.prog 40 (PostR kds40 oks40 ds [] [] q K) 38 K q [] [.code b40] (entE 0 0 sig40 (x0,x1,x2,())) (entL sig40 (x0,x1,x2,())))∧(∀ (v7:Int) (x0:List Int) (x1:Int) (x2:Int) ds,R40_2 n v7 x0 x1 x2 ds→∀ K q,AtV Tryz.prog 40 (PostR kds40 oks40 ds [] [] q K) 38 K q [] (cutAt b40 2) (E40_2 v7 x0 x1 x2) (L40_2 v7 x0 x1 x2)):=by
 intro n
 induction n with
 | zero=>exact ⟨fun _ _ _ _ h=>by simp only [R40] at h,fun _ _ _ _ _ h=>by simp only [R40_2] at h⟩
 | succ n ih =>
 obtain ⟨ih,ih2⟩:=ih
 refine ⟨?_,?_⟩
 ·intro x0 x1 x2 ds h K q
  rw [R40] at h
  exact AtV.go tabOk ext40Ok mixed false [] [] [0,1,2,7] [] [] trivial (ih2 _ _ _ _ _ h K q) (by kernel_rfl)
 ·intro v7 x0 x1 x2 ds h K q
  rw [R40_2] at h
  by_cases b0:(decide (v7<(x0.length:Int)))=true
  ·rw [if_pos b0] at h
   obtain ⟨s0,s1,h⟩:=h
   by_cases b1:(!g30_0 (List.getD x0 (Int.toNat v7) 0) x1 x2)=true
   ·rw [if_pos b1] at h
    subst h
    exact AtV.ret Tryz.func40 tabOk ext40Ok mixed false [] tys40 [true,true,true] (a1 b0 (a1 s0 (a1 s1 (a1 trivial (a1 b1 (a1 (rfl:true=true) trivial)))))) (by kernel_rfl)
   ·rw [if_neg b1] at h
    replace b1:=bf_ b1
    by_cases b2:(decide (v7>0))=true
    ·rw [if_pos b2] at h
     obtain ⟨s2,h⟩:=h
     obtain ⟨s3,s4,h⟩:=h
     obtain ⟨s5,s6,h⟩:=h
     by_cases b3:(decide (List.getD x0 (Int.toNat (v7 - 1)) 0≥List.getD x0 (Int.toNat v7) 0))=true
     ·rw [if_pos b3] at h
      subst h
      exact AtV.ret Tryz.func40 tabOk ext40Ok mixed false [] tys40 [true,false,true,true] (a1 b0 (a1 s0 (a1 s1 (a1 trivial (a1 b1 (a1 b2 (a1 s2 (a1 s3 (a1 s4 (a1 s5 (a1 s6 (a1 b3 trivial)))))))))))) (by kernel_rfl)
     ·rw [if_neg b3] at h
      replace b3:=bf_ b3
      obtain ⟨s7,h⟩:=h
      exact AtV.go tabOk ext40Ok mixed false [] [] [0,1,2,7] [] [true,false,true,false] (a1 b0 (a1 s0 (a1 s1 (a1 trivial (a1 b1 (a1 b2 (a1 s2 (a1 s3 (a1 s4 (a1 s5 (a1 s6 (a1 b3 (a1 s7 trivial))))))))))))) (ih2 _ _ _ _ _ h K q) (by kernel_rfl)
    ·rw [if_neg b2] at h
     replace b2:=bf_ b2
     obtain ⟨s2,h⟩:=h
     exact AtV.go tabOk ext40Ok mixed false [] [] [0,1,2,7] [] [true,false,false,false] (a1 b0 (a1 s0 (a1 s1 (a1 trivial (a1 b1 (a1 b2 (a1 (rfl:false=false) (a1 s2 trivial)))))))) (ih2 _ _ _ _ _ h K q) (by kernel_rfl)
  ·rw [if_neg b0] at h
   replace b0:=bf_ b0
   subst h
   exact AtV.ret Tryz.func40 tabOk ext40Ok mixed false [] tys40 [false] (a1 b0 trivial) (by kernel_rfl)
def ok40 (x0:List Int) (a b:Int) (i:Nat) (x:Int):Bool:=g30_0 x a b&&(i==0 || !decide (x0.getD (i - 1) 0≥x))
def g40_0 (x0:List Int) (x1 x2:Int):Bool:=allI (ok40 x0 x1 x2) 0 x0
def P40 (x0:List Int) (x1 x2:Int):Prop:=True
theorem step40 (n i:Nat) (x0:List Int) (x1 x2:Int) (hm:x0.length≤maxLen) (hi:i<x0.length) (ds:List Dyn)
  (h:if ok40 x0 x1 x2 i (x0.getD i 0)=true then R40_2 n ((i:Int)+1) x0 x1 x2 ds else ds=[⟨.bool,false⟩]):R40_2 (n+1) (i:Int) x0 x1 x2 ds:=by
 have hu:=inR_up hm hi
 have hmx:maxLen≤9223372036854775807:=by decide
 rw [R40_2,if_pos (by simp only [decide_eq_true_eq];omega)]
 simp only [Int.toNat_natCast]
 refine ⟨by omega,by omega,?_⟩
 unfold ok40 at h
 by_cases h1:g30_0 (x0.getD i 0) x1 x2=true
 case neg =>
  have h1:=bf_ h1
  rw [if_pos (by rw [h1];rfl)]
  rw [h1] at h
  simpa using h
 rw [if_neg (by rw [h1];decide)]
 rw [h1] at h
 by_cases h0:(i:Int)>0
 case neg =>
  rw [if_neg (by simpa using h0)]
  have hi0:(i==0)=true:=by simp;omega
  rw [hi0] at h
  exact ⟨hu,by simpa using h⟩
 rw [if_pos (by simpa using h0)]
 have hi0:(i==0)=false:=by simp;omega
 have e:((i:Int) - 1).toNat=i - 1:=by omega
 have hd:InR .i64 ((i:Int) - 1):=by rw [i64_iff];omega
 rw [hi0] at h
 simp only [e]
 refine ⟨hd,by omega,by omega,by omega,by omega,?_⟩
 by_cases h3:x0.getD (i - 1) 0≥x0.getD i 0
 ·rw [if_pos (decide_eq_true h3)]
  rw [decide_eq_true h3] at h
  simpa using h
 ·rw [if_neg (by simpa using h3)]
  rw [decide_eq_false h3] at h
  exact ⟨hu,by simpa using h⟩
theorem top40 (x0:List Int) (x1 x2:Int) (hw:x0.length≤maxLen):R40 (x0.length+1+1) x0 x1 x2 [⟨.bool,g40_0 x0 x1 x2⟩]:=by
 rw [R40]
 have key:=loop_testI x0 0 (ok40 x0 x1 x2) [(⟨.bool,false⟩:Dyn)] [⟨.bool,true⟩] (fun n i ds=>R40_2 n i x0 x1 x2 ds) (fun n => ?_) (fun n i hi hok ds hr => ?_) (fun n i hi hok => ?_)
 ·unfold g40_0
  cases h:allI (ok40 x0 x1 x2) 0 x0 with
  | true=>rw [if_pos h] at key;simpa using key
  | false=>rw [if_neg (by rw [h];simp)] at key;simpa using key
 ·rw [R40_2,if_neg (by simp)]
 ·exact step40 n i x0 x1 x2 hw hi ds (by rw [if_pos hok];exact hr)
 ·exact step40 n i x0 x1 x2 hw hi _ (by rw [if_neg (by rw [hok];simp)])
def S40:Am.Spec:={ sig:=sig40,pre:=fun ⟨x0,x1,x2,_⟩=>P40 x0 x1 x2,res:=fun ⟨x0,x1,x2,_⟩=>[⟨.bool,g40_0 x0 x1 x2⟩] }
theorem con40:Contract Tryz.prog 40 S40:=contract_of Tryz.func40 hb40 (bl_ (by kernel_rfl)) (fun ⟨x0,x1,x2,_⟩ h hwf K q =>
 (snd40 _).1 x0 x1 x2 _ (top40 x0 x1 x2 hwf.1.1) K q)
end
noncomputable section
def ext75:Ext:=[]
theorem ext75Ok:ExtOk Tryz.prog ext75:=trivial
noncomputable def b75:Code:=bodyOf Tryz.f75
theorem hb75:Tryz.f75.body=some b75:=by kernel_rfl
def sig75:List AT:=[AT.p YA5]
def tys75:List Ty:=[.int .i64]
def kds75:List RK:=[]
def oks75:List AT:=owns sig75
def P75 (x0:ByteArray×Int×Int×Int×Unit):Prop:=((InR .i64 (x0.2.1*75))∧((InR .i64 (x0.2.2.1*15))∧((InR .i64 (x0.2.1*75+x0.2.2.1*15))∧((InR .i64 (x0.2.1*75+x0.2.2.1*15+x0.2.2.2.1))∧True))))
def g75_0 (x0:ByteArray×Int×Int×Int×Unit):Int:=x0.2.1*75+x0.2.2.1*15+x0.2.2.2.1
theorem at75 (x0:ByteArray×Int×Int×Int×Unit) (h:P75 x0) (K:Ctx) (q:Nat→Value):AtV Tryz.prog 75 (PostR kds75 oks75 [⟨.int .i64,g75_0 x0⟩] [] [] q K) 19 K q [] [.code b75] (entE 0 0 sig75 (x0,())) (entL sig75 (x0,())):=by
 unfold P75 at h
 unfold g75_0
 obtain ⟨s0,h⟩:=h
 obtain ⟨s1,h⟩:=h
 obtain ⟨s2,h⟩:=h
 obtain ⟨s3,h⟩:=h
 exact AtV.ret Tryz.func75 tabOk ext75Ok mixed false [] tys75 [] (a1 s0 (a1 s1 (a1 s2 (a1 s3 trivial)))) (by kernel_rfl)
def S75:Am.Spec:={ sig:=sig75,pre:=fun ⟨x0,_⟩=>P75 x0,res:=fun ⟨x0,_⟩=>[⟨.int .i64,g75_0 x0⟩],kds:=kds75 }
theorem con75:Contract Tryz.prog 75 S75:=contract_of Tryz.func75 hb75 (bl_ (by kernel_rfl)) (fun ⟨x0,_⟩ h _ K q=>at75 x0 h K q)
end
noncomputable section
def ext41:Ext:=[(75,S75)]
theorem ext41Ok:ExtOk Tryz.prog ext41:=⟨⟨ca75,con75⟩,trivial⟩
noncomputable def b41:Code:=bodyOf Tryz.f41
theorem hb41:Tryz.f41.body=some b41:=by kernel_rfl
def sig41:List AT:=[AT.v (.sl YA5),AT.v (.sl (.int .i64)),AT.p YA8]
def tys41:List Ty:=[.bool]
def kds41:List RK:=[]
def oks41:List AT:=owns sig41
def E41_5 (v7:Int) (v8:Int) (v9:Int) (v10:Int) (x0:List TyB1) (x1:List Int) (x2:Int×Int×Int×Unit):Env:=[(0,.a (.sl YA5 x0)),(1,.a (.sl (.int .i64) x1)),(2,.a (.ptr YA8 x2)),(7,.a (.val (.int .i64 v7))),(8,.a (.val (.int .i64 v8))),(9,.a (.val (.int .i64 v9))),(10,.a (.val (.int .i64 v10)))]
def L41_5 (v7:Int) (v8:Int) (v9:Int) (v10:Int) (x0:List TyB1) (x1:List Int) (x2:Int×Int×Int×Unit):Heap:=[]
mutual
def R41:Nat→List TyB1→List Int→Int×Int×Int×Unit→List Dyn→Prop
 | 0,_,_,_,_=>False
 | n+1,x0,x1,x2,ds=>(R41_5 n (0) (0) (0) (0) (x0) (x1) (x2) ds)
def R41_5:Nat→Int→Int→Int→Int→List TyB1→List Int→Int×Int×Int×Unit→List Dyn→Prop
 | 0,_,_,_,_,_,_,_,_=>False
 | n+1,v7,v8,v9,v10,x0,x1,x2,ds=>(if (decide (v10<(x1.length:Int)))=true then ((0≤v10)∧(v10<(x1.length:Int))∧((0≤List.getD x1 (Int.toNat v10) 0)∧(List.getD x1 (Int.toNat v10) 0<(x0.length:Int))∧((InR .i64 (v7+(List.getD x0 (Int.toNat (List.getD x1 (Int.toNat v10) 0)) (ByteArray.empty,0,0,0,())).2.1))∧((InR .i64 (v8+(List.getD x0 (Int.toNat (List.getD x1 (Int.toNat v10) 0)) (ByteArray.empty,0,0,0,())).2.2.1))∧((P75 (List.getD x0 (Int.toNat (List.getD x1 (Int.toNat v10) 0)) (ByteArray.empty,0,0,0,())))∧((InR .i64 (v9+g75_0 (List.getD x0 (Int.toNat (List.getD x1 (Int.toNat v10) 0)) (ByteArray.empty,0,0,0,()))))∧((InR .i64 (v10+1))∧(R41_5 n (v7+(List.getD x0 (Int.toNat (List.getD x1 (Int.toNat v10) 0)) (ByteArray.empty,0,0,0,())).2.1) (v8+(List.getD x0 (Int.toNat (List.getD x1 (Int.toNat v10) 0)) (ByteArray.empty,0,0,0,())).2.2.1) (v9+g75_0 (List.getD x0 (Int.toNat (List.getD x1 (Int.toNat v10) 0)) (ByteArray.empty,0,0,0,()))) (v10+1) (x0) (x1) (x2) ds)))))))) else (if (decide (v7≤x2.1))=true then (if (decide (v8≤x2.2.1))=true then (ds=[Dyn.mk .bool (decide (v9≤x2.2.2.1))]) else (ds=[Dyn.mk .bool false])) else (ds=[Dyn.mk .bool false])))
end
theorem snd41:∀ n,(∀ (x0:List TyB1) (x1:List Int) (x2:Int×Int×Int×Unit) ds,R41 n x0 x1 x2 ds→∀ K q,AtV Tryz.prog 41 (PostR kds41 oks41 ds [] [] q K) 58 K q [] [.code b41] (entE 0 0 sig41 (x0,x1,x2,())) (entL sig41 (x0,x1,x2,())))∧(∀ (v7:Int) (v8:Int) (v9:Int) (v10:Int) (x0:List TyB1) (x1:List Int) (x2:Int×Int×Int×Unit) ds,R41_5 n v7 v8 v9 v10 x0 x1 x2 ds→∀ K q,AtV Tryz.prog 41 (PostR kds41 oks41 ds [] [] q K) 58 K q [] (cutAt b41 5) (E41_5 v7 v8 v9 v10 x0 x1 x2) (L41_5 v7 v8 v9 v10 x0 x1 x2)):=by
 intro n
 induction n with
 | zero=>exact ⟨fun _ _ _ _ h=>by simp only [R41] at h,fun _ _ _ _ _ _ _ _ h=>by simp only [R41_5] at h⟩
 | succ n ih =>
 obtain ⟨ih,ih5⟩:=ih
 refine ⟨?_,?_⟩
 ·intro x0 x1 x2 ds h K q
  rw [R41] at h
  exact AtV.go tabOk ext41Ok mixed false [] [] [0,1,2,7,8,9,10] [] [] trivial (ih5 _ _ _ _ _ _ _ _ h K q) (by kernel_rfl)
 ·intro v7 v8 v9 v10 x0 x1 x2 ds h K q
  rw [R41_5] at h
  by_cases b0:(decide (v10<(x1.length:Int)))=true
  ·rw [if_pos b0] at h
   obtain ⟨s0,s1,h⟩:=h
   obtain ⟨s2,s3,h⟩:=h
   obtain ⟨s4,h⟩:=h
   obtain ⟨s5,h⟩:=h
   obtain ⟨s6,h⟩:=h
   obtain ⟨s7,h⟩:=h
   obtain ⟨s8,h⟩:=h
   exact AtV.go tabOk ext41Ok mixed false [] [] [0,1,2,7,8,9,10] [] [true] (a1 b0 (a1 s0 (a1 s1 (a1 s2 (a1 s3 (a1 s4 (a1 s5 (a1 s6 (a1 s7 (a1 s8 trivial)))))))))) (ih5 _ _ _ _ _ _ _ _ h K q) (by kernel_rfl)
  ·rw [if_neg b0] at h
   replace b0:=bf_ b0
   by_cases b1:(decide (v7≤x2.1))=true
   ·rw [if_pos b1] at h
    by_cases b2:(decide (v8≤x2.2.1))=true
    ·rw [if_pos b2] at h
     subst h
     exact AtV.ret Tryz.func41 tabOk ext41Ok mixed false [] tys41 [false,true,true] (a1 b0 (a1 b1 (a1 b2 trivial))) (by kernel_rfl)
    ·rw [if_neg b2] at h
     replace b2:=bf_ b2
     subst h
     exact AtV.ret Tryz.func41 tabOk ext41Ok mixed false [] tys41 [false,true,false] (a1 b0 (a1 b1 (a1 b2 trivial))) (by kernel_rfl)
   ·rw [if_neg b1] at h
    replace b1:=bf_ b1
    subst h
    exact AtV.ret Tryz.func41 tabOk ext41Ok mixed false [] tys41 [false,false,false] (a1 b0 (a1 b1 (a1 (rfl:false=false) trivial))) (by kernel_rfl)
def fit41 (x:ByteArray×Int×Int×Int×Unit) (x2:Int×Int×Int×Unit):Bool:=if decide (x.2.1≤x2.1)=true then (if decide (x.2.2.1≤x2.2.1)=true then decide (g75_0 x≤x2.2.2.1) else false) else false
def g41_0 (x0:List TyB1) (x1:List Int) (x2:Int×Int×Int×Unit):Bool:=match x1 with
 | [j]=>fit41 (x0.getD j.toNat (ByteArray.empty,(0:Int),(0:Int),(0:Int),())) x2
 | _=>false
def P41 (x0:List TyB1) (x1:List Int) (x2:Int×Int×Int×Unit):Prop:=∃ j,x1=[j]∧0≤j∧j<x0.length∧P75 (x0.getD j.toNat (ByteArray.empty,(0:Int),(0:Int),(0:Int),()))∧InR .i64 (g75_0 (x0.getD j.toNat (ByteArray.empty,(0:Int),(0:Int),(0:Int),()))) ∧
 InR .i64 (x0.getD j.toNat (ByteArray.empty,(0:Int),(0:Int),(0:Int),())).2.1∧InR .i64 (x0.getD j.toNat (ByteArray.empty,(0:Int),(0:Int),(0:Int),())).2.2.1
theorem top41 (x0:List TyB1) (x1:List Int) (x2:Int×Int×Int×Unit) (h:P41 x0 x1 x2):R41 3 x0 x1 x2 [⟨.bool,g41_0 x0 x1 x2⟩]:=by
 obtain ⟨j,rfl,h1,h2,h3,h4,h5,h6⟩:=h
 have e0:List.getD [j] (Int.toNat 0) 0=j:=rfl
 have e1:((([j]:List Int).length:Nat):Int)=1:=rfl
 rw [R41,R41_5]
 simp only [e0,e1]
 rw [if_pos (show decide ((0:Int)<1)=true by decide)]
 refine ⟨by decide,(show (0:Int)<1 by decide),h1,h2,by rw [Int.zero_add];exact h5,by rw [Int.zero_add];exact h6,h3,by rw [Int.zero_add];exact h4,by decide,?_⟩
 rw [R41_5]
 simp only [e1]
 rw [if_neg (show ¬ decide ((0:Int)+1<1)=true by decide)]
 simp only [Int.zero_add,g41_0,fit41]
 by_cases c1:(x0.getD j.toNat (ByteArray.empty,(0:Int),(0:Int),(0:Int),())).2.1≤x2.1
 ·rw [if_pos (decide_eq_true c1),if_pos (decide_eq_true c1)]
  by_cases c2:(x0.getD j.toNat (ByteArray.empty,(0:Int),(0:Int),(0:Int),())).2.2.1≤x2.2.1
  ·rw [if_pos (decide_eq_true c2),if_pos (decide_eq_true c2)]
  ·rw [if_neg (by simpa using c2),if_neg (by simpa using c2)]
 ·rw [if_neg (by simpa using c1),if_neg (by simpa using c1)]
def S41:Am.Spec:={ sig:=sig41,pre:=fun ⟨x0,x1,x2,_⟩=>P41 x0 x1 x2,res:=fun ⟨x0,x1,x2,_⟩=>[⟨.bool,g41_0 x0 x1 x2⟩] }
theorem con41:Contract Tryz.prog 41 S41:=contract_of Tryz.func41 hb41 (bl_ (by kernel_rfl)) (fun ⟨x0,x1,x2,_⟩ h hwf K q =>
 (snd41 _).1 x0 x1 x2 _ (top41 x0 x1 x2 h) K q)
end
noncomputable section
def ext15:Ext:=[(38,S38),(39,S39),(40,S40),(41,S41)]
theorem ext15Ok:ExtOk Tryz.prog ext15:=⟨⟨ca38,con38⟩,⟨ca39,con39⟩,⟨ca40,con40⟩,⟨ca41,con41⟩,trivial⟩
noncomputable def b15:Code:=bodyOf Tryz.f15
theorem hb15:Tryz.f15.body=some b15:=by kernel_rfl
def sig15:List AT:=[AT.v (.sl YA5),AT.v (.sl (.int .i64)),AT.v YA8]
def tys15:List Ty:=[.bool]
def kds15:List RK:=[]
def oks15:List AT:=owns sig15
def P15 (x0:List TyB1) (x1:List Int) (x2:Int×Int×Int×Unit):Prop:=(if (g38_0 x0)=true then (if (g39_0 x2)=true then ((InR .i64 ((x0.length:Int) - 1))∧(if (g40_0 x1 0 ((x0.length:Int) - 1))=true then ((P41 x0 x1 x2)∧True) else True)) else True) else True)
def g15_0 (x0:List TyB1) (x1:List Int) (x2:Int×Int×Int×Unit):Bool:=(if (g38_0 x0)=true then (if (g39_0 x2)=true then (if (g40_0 x1 0 ((x0.length:Int) - 1))=true then g41_0 x0 x1 x2 else false) else false) else false)
theorem at15 (x0:List TyB1) (x1:List Int) (x2:Int×Int×Int×Unit) (h:P15 x0 x1 x2) (K:Ctx) (q:Nat→Value):AtV Tryz.prog 15 (PostR kds15 oks15 [⟨.bool,g15_0 x0 x1 x2⟩] [] [] q K) 24 K q [] [.code b15] (entE 0 0 sig15 (x0,x1,x2,())) (entL sig15 (x0,x1,x2,())):=by
 unfold P15 at h
 unfold g15_0
 by_cases b0:(g38_0 x0)=true
 ·try simp only [if_pos b0] at h ⊢
  by_cases b1:(g39_0 x2)=true
  ·try simp only [if_pos b1] at h ⊢
   obtain ⟨s0,h⟩:=h
   by_cases b2:(g40_0 x1 0 ((x0.length:Int) - 1))=true
   ·try simp only [if_pos b2] at h ⊢
    obtain ⟨s1,h⟩:=h
    exact AtV.ret Tryz.func15 tabOk ext15Ok mixed false [] tys15 [true,true,true] (a1 trivial (a1 b0 (a1 trivial (a1 b1 (a1 s0 (a1 trivial (a1 b2 (a1 s1 trivial)))))))) (by kernel_rfl)
   ·try simp only [if_neg b2] at h ⊢
    replace b2:=bf_ b2
    exact AtV.ret Tryz.func15 tabOk ext15Ok mixed false [] tys15 [true,true,false] (a1 trivial (a1 b0 (a1 trivial (a1 b1 (a1 s0 (a1 trivial (a1 b2 trivial))))))) (by kernel_rfl)
  ·try simp only [if_neg b1] at h ⊢
   replace b1:=bf_ b1
   exact AtV.ret Tryz.func15 tabOk ext15Ok mixed false [] tys15 [true,false,false] (a1 trivial (a1 b0 (a1 trivial (a1 b1 (a1 (rfl:false=false) trivial))))) (by kernel_rfl)
 ·try simp only [if_neg b0] at h ⊢
  replace b0:=bf_ b0
  exact AtV.ret Tryz.func15 tabOk ext15Ok mixed false [] tys15 [false,false,false] (a1 trivial (a1 b0 (a1 (rfl:false=false) (a1 (rfl:false=false) trivial)))) (by kernel_rfl)
def S15:Am.Spec:={ sig:=sig15,pre:=fun ⟨x0,x1,x2,_⟩=>P15 x0 x1 x2,res:=fun ⟨x0,x1,x2,_⟩=>[⟨.bool,g15_0 x0 x1 x2⟩],kds:=kds15 }
theorem con15:Contract Tryz.prog 15 S15:=contract_of Tryz.func15 hb15 (bl_ (by kernel_rfl)) (fun ⟨x0,x1,x2,_⟩ h _ K q=>at15 x0 x1 x2 h K q)
end
noncomputable section
def ext16:Ext:=[(42,S42)]
theorem ext16Ok:ExtOk Tryz.prog ext16:=⟨⟨ca42,con42⟩,trivial⟩
noncomputable def b16:Code:=bodyOf Tryz.f16
theorem hb16:Tryz.f16.body=some b16:=by kernel_rfl
def sig16:List AT:=[AT.v (.sl YA11),AT.v (.int .i64)]
def tys16:List Ty:=[.sl (.int .i64),.int .i64]
def kds16:List RK:=[]
def oks16:List AT:=owns sig16
def E16_6 (v8:Int) (h0:List Int) (x0:List TyB4) (x1:Int):Env:=[(0,.a (.sl YA11 x0)),(1,.a (.val (.int .i64 x1))),(7,.a (.osl 0 Option.none)),(8,.a (.val (.int .i64 v8)))]
def L16_6 (v8:Int) (h0:List Int) (x0:List TyB4) (x1:Int):Heap:=[Option.some (Arr.mk (.int .i64) h0 false Option.none Option.none)]
mutual
def R16:Nat→List TyB4→Int→List Dyn→Prop
 | 0,_,_,_=>False
 | n+1,x0,x1,ds=>(if (g42_0 x0 x1 != 0)=true then (ds=[Dyn.mk (.sl (.int .i64)) [],Dyn.mk (.int .i64) (g42_0 x0 x1)]) else (R16_6 n (1) ([]) (x0) (x1) ds))
def R16_6:Nat→Int→List Int→List TyB4→Int→List Dyn→Prop
 | 0,_,_,_,_,_=>False
 | n+1,v8,h0,x0,x1,ds=>(if (decide (v8<(x0.length:Int)))=true then ((0≤v8)∧(v8<(x0.length:Int))∧((InR .i64 (v8 - 1))∧((0≤v8 - 1)∧(v8 - 1<(x0.length:Int))∧((InR .i64 ((List.getD x0 (Int.toNat v8) (0,0,())).1 - (List.getD x0 (Int.toNat (v8 - 1)) (0,0,())).1))∧((InR .i64 (v8 - 1))∧((0≤v8 - 1)∧(v8 - 1<(x0.length:Int))∧((InR .i64 ((List.getD x0 (Int.toNat v8) (0,0,())).1 - (List.getD x0 (Int.toNat (v8 - 1)) (0,0,())).1 - (List.getD x0 (Int.toNat (v8 - 1)) (0,0,())).2.1))∧((InR .i64 ((List.getD x0 (Int.toNat v8) (0,0,())).1 - (List.getD x0 (Int.toNat (v8 - 1)) (0,0,())).1 - (List.getD x0 (Int.toNat (v8 - 1)) (0,0,())).2.1 - x1))∧(((List.length h0+1)*8≤140737488355328)∧((InR .i64 (v8+1))∧(R16_6 n (v8+1) (h0++[(List.getD x0 (Int.toNat v8) (0,0,())).1 - (List.getD x0 (Int.toNat (v8 - 1)) (0,0,())).1 - (List.getD x0 (Int.toNat (v8 - 1)) (0,0,())).2.1 - x1]) (x0) (x1) ds))))))))))) else (ds=[Dyn.mk (.sl (.int .i64)) h0,Dyn.mk (.int .i64) 0]))
end
theorem snd16:∀ n,(∀ (x0:List TyB4) (x1:Int) ds,R16 n x0 x1 ds→∀ K q,AtV Tryz.prog 16 (PostR kds16 oks16 ds [] [] q K) 47 K q [] [.code b16] (entE 0 0 sig16 (x0,x1,())) (entL sig16 (x0,x1,())))∧(∀ (v8:Int) (h0:List Int) (x0:List TyB4) (x1:Int) ds,R16_6 n v8 h0 x0 x1 ds→∀ K q,AtV Tryz.prog 16 (PostR kds16 oks16 ds [] [] q K) 47 K q [] (cutAt b16 6) (E16_6 v8 h0 x0 x1) (L16_6 v8 h0 x0 x1)):=by
 intro n
 induction n with
 | zero=>exact ⟨fun _ _ _ h=>by simp only [R16] at h,fun _ _ _ _ _ h=>by simp only [R16_6] at h⟩
 | succ n ih =>
 obtain ⟨ih,ih6⟩:=ih
 refine ⟨?_,?_⟩
 ·intro x0 x1 ds h K q
  rw [R16] at h
  by_cases b0:(g42_0 x0 x1 != 0)=true
  ·rw [if_pos b0] at h
   subst h
   exact AtV.ret Tryz.func16 tabOk ext16Ok mixed false [] tys16 [true] (a1 trivial (a1 b0 trivial)) (by kernel_rfl)
  ·rw [if_neg b0] at h
   replace b0:=bf_ b0
   exact AtV.go tabOk ext16Ok mixed false [] [] [0,1,7,8] [0] [false] (a1 trivial (a1 b0 trivial)) (ih6 _ _ _ _ _ h K q) (by kernel_rfl)
 ·intro v8 h0 x0 x1 ds h K q
  rw [R16_6] at h
  by_cases b0:(decide (v8<(x0.length:Int)))=true
  ·rw [if_pos b0] at h
   obtain ⟨s0,s1,h⟩:=h
   obtain ⟨s2,h⟩:=h
   obtain ⟨s3,s4,h⟩:=h
   obtain ⟨s5,h⟩:=h
   obtain ⟨s6,h⟩:=h
   obtain ⟨s7,s8,h⟩:=h
   obtain ⟨s9,h⟩:=h
   obtain ⟨s10,h⟩:=h
   obtain ⟨s11,h⟩:=h
   obtain ⟨s12,h⟩:=h
   exact AtV.go tabOk ext16Ok mixed false [] [] [0,1,7,8] [0] [true] (a1 b0 (a1 s0 (a1 s1 (a1 s2 (a1 s3 (a1 s4 (a1 s5 (a1 s6 (a1 s7 (a1 s8 (a1 s9 (a1 s10 (a1 s11 (a1 s12 trivial)))))))))))))) (ih6 _ _ _ _ _ h K q) (by kernel_rfl)
  ·rw [if_neg b0] at h
   replace b0:=bf_ b0
   subst h
   exact AtV.ret Tryz.func16 tabOk ext16Ok mixed false [] tys16 [false] (a1 b0 trivial) (by kernel_rfl)
def sk16 (x1:Int):List TyB4→List Int
 | x :: y :: r=>(y.1 - x.1 - x.2.1 - x1) :: sk16 x1 (y :: r)
 | _=>[]
def g16_0 (x0:List TyB4) (x1:Int):List Int:=if (g42_0 x0 x1 != 0)=true then [] else sk16 x1 x0
def g16_1 (x0:List TyB4) (x1:Int):Int:=if (g42_0 x0 x1 != 0)=true then g42_0 x0 x1 else 0
def P16 (x0:List TyB4) (x1:Int):Prop:=(g42_0 x0 x1 != 0)=true∨x0.length≤1048576∧0≤x1∧x1≤100000∧∀ x∈x0,(0≤x.1∧x.1≤100000)∧0≤x.2.1∧x.2.1≤100000
theorem run16 (x0:List TyB4) (x1:Int) (hl:x0.length≤1048576) (h0:0≤x1) (h1:x1≤100000) (hp:∀ x∈x0,(0≤x.1∧x.1≤100000)∧0≤x.2.1∧x.2.1≤100000):∀ (k i:Nat) (h:List Int),i+k=x0.length→1≤i→h.length≤i →
  R16_6 (k+1) (i:Int) h x0 x1 [⟨.sl (.int .i64),h++sk16 x1 (x0.drop (i - 1))⟩,⟨.int .i64,(0:Int)⟩]:=by
 intro k
 induction k with
 | zero =>
  intro i h hi h2 hh
  have e:=drop_get x0 (i - 1) ((0:Int),(0:Int),()) (by omega)
  rw [show i - 1+1=i by omega,drop_end x0 i (by omega)] at e
  rw [R16_6,if_neg (by simp only [decide_eq_true_eq];omega),e]
  simp [sk16]
 | succ k ih =>
  intro i h hi h2 hh
  have hlt:i<x0.length:=by omega
  have hm:x0.length≤maxLen:=Nat.le_trans hl (by decide)
  have e:=drop_get x0 (i - 1) ((0:Int),(0:Int),()) (by omega)
  rw [show i - 1+1=i by omega] at e
  have e2:=drop_get x0 i ((0:Int),(0:Int),()) hlt
  have et:((i:Int) - 1).toNat=i - 1:=by omega
  obtain ⟨⟨a1,a2⟩,a3,a4⟩:=hp _ (mem_getD x0 (i - 1) ((0:Int),(0:Int),()) (by omega))
  obtain ⟨⟨b1,b2⟩,b3,b4⟩:=hp _ (mem_getD x0 i ((0:Int),(0:Int),()) hlt)
  have h3:=ih (i+1) (h++[(x0.getD i ((0:Int),(0:Int),())).1 - (x0.getD (i - 1) ((0:Int),(0:Int),())).1 - (x0.getD (i - 1) ((0:Int),(0:Int),())).2.1 - x1]) (by omega) (by omega) (by simp;omega)
  rw [R16_6,if_pos (by simp only [decide_eq_true_eq];omega),e,e2]
  simp only [Int.toNat_natCast,et,sk16]
  rw [show i+1 - 1=i by omega,e2,List.append_assoc] at h3
  exact ⟨by omega,by omega,by rw [i64_iff];omega,by omega,by omega,by rw [i64_iff];omega,by rw [i64_iff];omega,by omega,by omega,by rw [i64_iff];omega,by rw [i64_iff];omega,by omega,inR_up hm hlt,h3⟩
theorem top16 (x0:List TyB4) (x1:Int) (h:P16 x0 x1):∃ n,R16 n x0 x1 [⟨.sl (.int .i64),g16_0 x0 x1⟩,⟨.int .i64,g16_1 x0 x1⟩]:=by
 unfold g16_0 g16_1
 by_cases hc:(g42_0 x0 x1 != 0)=true
 ·exact ⟨1,by rw [R16,if_pos hc,if_pos hc,if_pos hc]⟩
 ·rw [if_neg hc,if_neg hc]
  obtain ⟨h1,h2,h3,h4⟩:=h.resolve_left hc
  cases x0 with
  | nil=>exact ⟨2,by rw [R16,if_neg hc,R16_6,if_neg (by simp)];rfl⟩
  | cons x r =>
   have:=run16 (x :: r) x1 h1 h2 h3 h4 r.length 1 [] (by simp;omega) (by omega) (by simp)
   simp only [List.nil_append,Nat.sub_self,List.drop_zero] at this
   exact ⟨r.length+1+1,by rw [R16,if_neg hc];exact this⟩
def S16:Am.Spec:={ sig:=sig16,pre:=fun ⟨x0,x1,_⟩=>P16 x0 x1,res:=fun ⟨x0,x1,_⟩=>[⟨.sl (.int .i64),g16_0 x0 x1⟩,⟨.int .i64,g16_1 x0 x1⟩] }
theorem con16:Contract Tryz.prog 16 S16:=contract_of Tryz.func16 hb16 (bl_ (by kernel_rfl)) (fun ⟨x0,x1,_⟩ h hwf K q =>
 let ⟨_,hn⟩:=top16 x0 x1 h
 (snd16 _).1 x0 x1 _ hn K q)
end
theorem bl_none {α β:Type} (f:Nat→α→List β):∀ (l:List α) (i:Nat),bl f i l=[]→∀ (j:Nat) (y:α),l[j]? = some y→f (i+j) y=[]
 | [],_,_,j,y,h=>by simp at h
 | x :: r,i,h,0,y,hy=>by
  simp only [bl,List.append_eq_nil_iff] at h
  cases hy
  exact h.1
 | x :: r,i,h,j+1,y,hy=>by
  simp only [bl,List.append_eq_nil_iff] at h
  have:=bl_none f r (i+1) h.2 j y (by simpa using hy)
  rw [show i+(j+1)=i+1+j by omega]
  exact this
theorem name_eq (s:ByteArray):g143_0 s=g111_0 s:=by
 have hs:∀ c,g139_0 c=(decide (97≤c)&&decide (c≤122)):=fun c=>by
  unfold g139_0
  by_cases h1:(97:Int)≤c <;> simp [h1]
 have hd:∀ c,g140_0 c=(decide (48≤c)&&decide (c≤57)):=fun c=>by
  unfold g140_0
  by_cases h1:(48:Int)≤c <;> simp [h1]
 unfold g143_0 g111_0
 have hl:=bytesOf_length s
 by_cases h1:1≤s.size
 ·cases hb:bytesOf s with
  | nil=>rw [hb] at hl;simp at hl;omega
  | cons c r =>
   have hr:allI ok143 1 r=r.all fun b=>g139_0 b||g140_0 b:=by
    rw [← allI_plain (fun b=>g139_0 b||g140_0 b) r 1]
    refine allI_congr r 1 fun j x hj => ?_
    have:(j==0)=false:=by simp;omega
    simp only [ok143,this,hs,hd,Bool.not_false,Bool.true_and]
   have h0:ok143 0 c=g139_0 c:=by simp [ok143,hs]
   simp only [allI,hr,h0,List.all_cons,List.getD_cons_zero]
   cases g139_0 c <;> simp
 ·simp [h1]
theorem bl_asym {x y:List UInt8} (h:Op.bytesLess x y=true):Op.bytesLess y x=false:=by
 cases h2:Op.bytesLess y x with
 | false=>rfl
 | true =>
  have:=bl_trans x y x h h2
  rw [bl_irrefl] at this
  cases this
theorem le_not (a b:ByteArray):(!(Op.bytesLess (ByteArray.toList a) (ByteArray.toList b)||ByteArray.toList a==ByteArray.toList b))=Op.bytesLess (ByteArray.toList b) (ByteArray.toList a):=by
 generalize ByteArray.toList a=x
 generalize ByteArray.toList b=y
 cases h1:Op.bytesLess x y with
 | true=>rw [bl_asym h1];rfl
 | false =>
  cases h2:(x==y) with
  | true =>
   have:x=y:=by simpa using h2
   subst this
   rw [bl_irrefl];rfl
  | false =>
   cases h3:Op.bytesLess y x with
   | true=>rfl
   | false =>
    have:=bl_tri x y h1 h3
    subst this
    simp at h2
theorem allI_mem {α:Type} {p:Nat→α→Bool}:∀ (l:List α) (i:Nat),allI p i l=true→∀ x∈l,∃ j,p j x=true
 | [],_,_,x,hx=>by cases hx
 | y :: r,i,h,x,hx=>by
  simp only [allI,Bool.and_eq_true] at h
  rcases List.mem_cons.1 hx with rfl | hx
  ·exact ⟨i,h.1⟩
  ·exact allI_mem r (i+1) h.2 x hx
theorem one_Group (x:TyB1):g117_0 x=g74_0 x:=by
 unfold g117_0 g74_0
 rw [name_eq]
 rfl
theorem list_Group (xs:List TyB1):g89_0 xs=g38_0 xs:=by
 unfold g89_0 g38_0
 congr 1
 refine allI_congr xs 0 fun j y _ => ?_
 unfold ok89 ok38
 rw [one_Group,le_not]
theorem one_Check (x:TyB0):g144_0 x=g106_0 x:=by
 unfold g144_0 g106_0
 rw [name_eq]
 rfl
theorem list_Check (xs:List TyB0):g119_0 xs=g62_0 xs:=by
 unfold g119_0 g62_0
 congr 1
 refine allI_congr xs 0 fun j y _ => ?_
 unfold ok119 ok62
 rw [one_Check,le_not]
theorem word_eq (w : ByteArray) : g163_0 w = g142_0 w := by
  have hb : ∀ b : Int, (!g174_0 b) = ok142 b := fun b => by
    unfold g174_0 ok142 g140_0
    by_cases h1 : b < 97 <;> by_cases h2 : b > 122 <;> by_cases h3 : b < 48 <;> by_cases h4 : b > 57 <;>
      first
        | omega
        | (have e1 : (97 ≤ b) ↔ ¬ b < 97 := by omega
           have e2 : (b ≤ 122) ↔ ¬ b > 122 := by omega
           have e3 : (b ≥ 48) ↔ ¬ b < 48 := by omega
           have e4 : (b ≤ 57) ↔ ¬ b > 57 := by omega
           simp [e1, e2, e3, e4, h1, h2, h3, h4])
  have ha : (!g173c174_0 (bytesOf w)) = (bytesOf w).all ok142 := by
    unfold g173c174_0
    rw [any181c174]
    induction bytesOf w with
    | nil => rfl
    | cons b r ih => rw [List.any_cons, List.all_cons, Bool.not_or, ih, hb]
  unfold g163_0 g142_0
  rw [ha]
  by_cases h : w = ByteArray.mk #[]
  · subst h
    have h1 : (ByteArray.toList (ByteArray.mk #[]) == ByteArray.toList (ByteArray.mk #[])) = true := beq_self_eq_true _
    have h2 : decide (((ByteArray.mk #[]).size : Int) > 0) = false := by decide
    rw [h1, h2, Bool.and_false]
    rfl
  · have h1 : (ByteArray.toList w == ByteArray.toList (ByteArray.mk #[])) = false := by
      rw [Bool.eq_false_iff]; exact fun hh => h ((bytes_eq _ _).1 hh)
    have h2 : decide ((w.size : Int) > 0) = true := by
      refine decide_eq_true ?_
      rcases Nat.lt_or_ge 0 w.size with h3 | h3
      · omega
      · exact absurd (bytesOf_inj (s := w) (t := ByteArray.mk #[]) (List.eq_nil_of_length_eq_zero (by rw [bytesOf_length]; omega))) h
    rw [h1, h2, Bool.and_true]
    rfl
theorem text_eq (s:ByteArray):g147_0 s=g115_0 s:=by
 have e:g161_0 s (ByteArray.mk #[32])=g141_0 s 32:=splitB_one 32 s
 have hw:∀ w,(!g162_0 w)=g142_0 w:=fun w=>by
  unfold g162_0
  rw [Bool.not_not,word_eq]
 have ha:∀ l:List ByteArray,(!g160c162_0 l)=l.all g142_0:=fun l=>by
  unfold g160c162_0
  rw [any171c162]
  induction l with
  | nil=>rfl
  | cons b r ih=>rw [List.any_cons,List.all_cons,Bool.not_or,ih,hw]
 unfold g147_0 g115_0
 rw [e,ha]
 by_cases h0:s.size=0
 ·have hn:s.data.toList=[]:=List.eq_nil_of_length_eq_zero h0
  have es:g141_0 s 32=[⟨⟨[]⟩⟩]:=by
   show bss (splitC (32:UInt8) s.data.toList)=_
   rw [hn];rfl
  rw [es]
  have ew:g142_0 ⟨⟨[]⟩⟩=false:=rfl
  simp [h0,ew]
 ·by_cases h1:(s.size:Int)≤40
  ·have h2:¬ (s.size:Int)>40:=by omega
   have h3:(((s.size:Nat):Int)==0)=false:=by rw [beq_eq_false_iff_ne];omega
   rw [decide_eq_true h1,decide_eq_false h2,h3]
   rfl
  ·have h2:(s.size:Int)>40:=by omega
   rw [decide_eq_false h1,decide_eq_true h2]
   simp
theorem one_Line (x:Int×Int×ByteArray×Int×Unit):g125_0 x=g84_0 x:=by
 unfold g125_0 g84_0
 rw [text_eq]
 rfl
theorem list_Line (xs:List TyB2):g94_0 xs=g51_0 xs:=by
 unfold g94_0 g51_0
 congr 1
 refine allI_congr xs 0 fun j y _ => ?_
 unfold ok94 ok51
 rw [one_Line]
 rfl
theorem track_eq (x:List TyB4×Int×Int×Unit):g85_0 x=g24_0 x:=rfl
theorem brake_eq (x:Int×Int×Unit):g87_0 x=g50_0 x:=rfl
theorem profile_eq (x:Int×Int×Int×Int×Unit):g88_0 x=g29_0 x:=rfl
theorem room_eq (x:Int×Int×Int×Unit):g90_0 x=g39_0 x:=rfl
theorem list_Ride (x:List TyB4):g92_0 x=g76_0 x:=rfl
theorem insp_eq (xs:List TyB0) (d r:Int):g91_0 xs d r 0=g26_0 xs d r:=by
 have h0:g120_0 0=true:=rfl
 have ha:g122c123_0 xs d r = !xs.all (q26 d r):=by
  unfold g122c123_0
  rw [any145c123]
  induction xs with
  | nil=>rfl
  | cons x l ih =>
   have hx:g123_0 x d r = !q26 d r x:=by
    unfold g123_0 q26 g65_0
    by_cases h1:x.2.2.2.1>d
    ·have h1':¬ x.2.2.2.1≤d:=by omega
     simp [h1,h1']
    ·have h1':x.2.2.2.1≤d:=by omega
     by_cases h2:x.2.2.2.2.1>r
     ·have h2':¬ x.2.2.2.2.1≤r:=by omega
      simp [h1,h1',h2,h2']
     ·have h2':x.2.2.2.2.1≤r:=by omega
      simp [h1,h1',h2,h2']
   rw [List.any_cons,List.all_cons,Bool.not_and,ih,hx]
 unfold g91_0 g26_0
 rw [ha,list_Check,h0]
 have e1:g121_0 d=g63_0 d:=rfl
 have e2:g120_0 r=g64_0 r:=rfl
 rw [e1,e2]
 cases g62_0 xs <;> cases g63_0 d <;> cases g64_0 r <;> cases xs.all (q26 d r) <;> rfl
theorem ask_ride (xs:List TyB4) (t:Int):(g42_0 xs t==0)=(g76_0 xs&&g93_0 t):=by
 unfold g42_0
 have e:g93_0 t=g77_0 t:=rfl
 rw [e]
 cases g76_0 xs <;> cases g77_0 t <;> rfl
theorem valid_works (x:(TyA0)):g52_0 x=g19_0 x:=by
 unfold g52_0 g19_0
 rw [track_eq,brake_eq,profile_eq,list_Group,room_eq,insp_eq,list_Ride,list_Line,ask_ride]
 have e:g86_0 x.2.1=g49_0 x.2.1:=rfl
 rw [e]
 generalize g26_0 x.2.2.2.2.2.2.1 x.2.2.2.2.2.2.2.1 x.2.2.2.2.2.2.2.2.1=n
 cases g24_0 x.1 <;> cases g49_0 x.2.1 <;> cases g50_0 x.2.2.1 <;> simp
 cases g29_0 x.2.2.2.1 <;> cases g38_0 x.2.2.2.2.1 <;> cases g39_0 x.2.2.2.2.2.1 <;> simp
 by_cases hn:n=0
 ·simp only [hn,if_true]
  simp [Bool.and_assoc]
 ·simp [hn]
theorem within_m {n a b:Int} (h:g116_0 n a b=true):a≤n∧n≤b:=by
 unfold g116_0 at h
 split at h
 ·rename_i h1
  simp only [decide_eq_true_eq] at h h1
  exact ⟨h1,h⟩
 ·cases h
theorem track_ok {t:List TyB4×Int×Int×Unit} (h:g85_0 t=true):(1≤t.1.length∧t.1.length≤12)∧(∀ x∈t.1,(1≤x.1∧x.1≤3000000)∧(0≤x.2.1∧x.2.1≤900))∧(0≤g96_0 t∧g96_0 t≤3000000)∧(0≤t.2.1∧t.2.1≤g96_0 t)∧(t.2.1≤t.2.2.1∧t.2.2.1≤g96_0 t):=by
 unfold g85_0 at h
 simp only [Bool.and_eq_true,decide_eq_true_eq] at h
 obtain ⟨⟨h1,h2,h3⟩,h4⟩:=h
 have hx:∀ x∈t.1,(1≤x.1∧x.1≤3000000)∧(0≤x.2.1∧x.2.1≤900):=fun x hx=>by
  have:=List.all_eq_true.1 h1 x hx
  unfold ok85 at this
  rw [Bool.and_eq_true] at this
  exact ⟨within_m this.1,within_m this.2⟩
 have hs:=sum96_le t.1 (fun x hm=>by have:=hx x hm;omega)
 unfold fine85 at h4
 split at h4
 ·rename_i h5
  split at h4
  ·rename_i h6
   exact ⟨⟨h2,h3⟩,hx,⟨hs.1,of_decide_eq_true h5⟩,within_m h6,within_m h4⟩
  ·cases h4
 ·cases h4
theorem brake_ok {b:Int×Int×Unit} (h:g87_0 b=true):(0≤b.1∧b.1≤100)∧(1≤b.2.1∧b.2.1≤10000):=by
 unfold g87_0 at h
 split at h
 ·rename_i h1
  exact ⟨within_m h1,within_m h⟩
 ·cases h
theorem profile_ok {p:Int×Int×Int×Int×Unit} (h:g88_0 p=true):(1≤p.1∧p.1≤2000)∧(100≤p.2.1∧p.2.1≤15000)∧(100≤p.2.2.1∧p.2.2.1≤p.2.1)∧(0≤p.2.2.2.1∧p.2.2.2.1≤3000000):=by
 unfold g88_0 g86_0 at h
 split at h
 ·rename_i h1
  split at h
  ·rename_i h2
   split at h
   ·rename_i h3
    exact ⟨within_m h1,within_m h2,within_m h3,within_m h⟩
   ·cases h
  ·cases h
 ·cases h
theorem len_same (t:List TyB4×Int×Int×Unit):g25_0 t=g96_0 t:=rfl
theorem mul_bd {a b A B:Int} (ha:0≤a) (ha2:a≤A) (hb:0≤b) (hb2:b≤B):0≤a*b∧a*b≤A*B :=
 ⟨Int.mul_nonneg ha hb,Int.mul_le_mul ha2 hb2 hb (Int.le_trans ha ha2)⟩
theorem near_div {a:Int} (h:0≤a∧a≤100000000):P177 a 100∧P159 a 100∧g177_0 a 100=g159_0 a 100∧0≤g159_0 a 100∧g159_0 a 100≤10000000:=by
 have e1:Int.tdiv a 100=a / 100:=Int.tdiv_eq_ediv_of_nonneg h.1
 have e2:Int.tmod a 100=a % 100:=Int.tmod_eq_emod_of_nonneg h.1
 have e3:Int.tdiv (2*a+100) (2*100)=(2*a+100) / 200:=Int.tdiv_eq_ediv_of_nonneg (by omega)
 have n1:decide (a<0)=false:=decide_eq_false (by omega)
 have n2:decide ((100:Int)<0)=false:=by decide
 have n3:decide (a % 100<0)=false:=decide_eq_false (by omega)
 have i1:InR .i64 (a / 100):=by rw [i64_iff];omega
 have i2:InR .i64 (a % 100):=by rw [i64_iff];omega
 have i3:InR .i64 (100 - a % 100):=by rw [i64_iff];omega
 have i4:InR .i64 (a / 100+1):=by rw [i64_iff];omega
 have i5:InR .i64 (2*a):=by rw [i64_iff];omega
 have i6:InR .i64 (2*a+100):=by rw [i64_iff];omega
 have i7:InR .i64 (2*100):=by rw [i64_iff];omega
 have i8:InR .i64 ((2*a+100) / 200):=by rw [i64_iff];omega
 unfold P177 P159 g177_0 g159_0 P127 g127_0
 simp only [e1,e2,e3,n1,n2,n3,Bool.false_eq_true,if_false,i1,i2,i3,i4,i5,i6,i7,i8,true_and,and_true,beq_self_eq_true,Bool.not_true,decide_eq_true_eq,ge_iff_le]
 refine ⟨?_,by decide,?_,by omega,by omega⟩
 ·refine ⟨by decide,by decide,?_⟩
  split <;> trivial
 ·split <;> omega
theorem force_same {b:Int×Int×Unit} (hb:(0≤b.1∧b.1≤100)∧(1≤b.2.1∧b.2.1≤10000)) {g:Int} (hg:0≤g∧g≤900) (d:Bool):P169 b g d∧P137 b g d∧g169_0 b g d=g137_0 b g d ∧ -100000000≤g137_0 b g d∧g137_0 b g d≤100000000:=by
 obtain ⟨n1,n2,n3,n4,n5⟩:=near_div (a:=g*981) ⟨by omega,by omega⟩
 have i1:InR .i64 (g*981):=by rw [i64_iff];omega
 unfold P169 P137 g169_0 g137_0
 rw [n3]
 cases d with
 | true =>
  simp only [if_true]
  exact ⟨⟨i1,n1,by rw [i64_iff];omega,trivial⟩,⟨i1,n2,by rw [i64_iff];omega,trivial⟩,by first | rfl | trivial,by omega,by omega⟩
 | false =>
  simp only [Bool.false_eq_true,if_false]
  exact ⟨⟨i1,n1,by rw [i64_iff];omega,trivial⟩,⟨i1,n2,by rw [i64_iff];omega,trivial⟩,by first | rfl | trivial,by omega,by omega⟩
theorem up_ok {a b:Int} (ha:0≤a∧a≤1000000000) (hb:1≤b∧b≤1000000000):P170 a b∧P138 a b∧g170_0 a b=g138_0 a b∧0≤g138_0 a b∧g138_0 a b≤2000000000:=by
 have e:Int.tdiv (a+b - 1) b=(a+b - 1) / b:=Int.tdiv_eq_ediv_of_nonneg (by omega)
 have h1:0≤(a+b - 1) / b:=Int.ediv_nonneg (by omega) (by omega)
 have h2:(a+b - 1) / b≤a+b - 1:=Int.ediv_le_self b (by omega)
 have p:InR .i64 (a+b)∧InR .i64 (a+b - 1)∧b≠0∧InR .i64 (Int.tdiv (a+b - 1) b)∧True:=⟨by rw [i64_iff];omega,by rw [i64_iff];omega,by omega,by rw [e,i64_iff];omega,trivial⟩
 refine ⟨p,p,rfl,?_,?_⟩
 ·show 0≤Int.tdiv (a+b - 1) b
  omega
 ·show Int.tdiv (a+b - 1) b≤2000000000
  omega
theorem way_same {b:Int×Int×Unit} (hb:(0≤b.1∧b.1≤100)∧(1≤b.2.1∧b.2.1≤10000)) {g s:Int} (hg:0≤g∧g≤900) (hs:0≤s∧s≤15000) (d:Bool):P155 b s g d∧P110 b s g d ∧
  ((g155_1 b s g d=true∧0≤g155_0 b s g d∧g110_0 b s g d=g155_0 b s g d)∨(g155_1 b s g d=false∧g110_0 b s g d = -1)):=by
 obtain ⟨f1,f2,f3,f4,f5⟩:=force_same hb hg d
 obtain ⟨m1,m2⟩:=mul_bd hs.1 hs.2 hb.1.1 hb.1.2
 obtain ⟨m3,m4⟩:=mul_bd hs.1 hs.2 hs.1 hs.2
 unfold P155 P110 g155_1 g155_0 g110_0
 rw [f3]
 generalize g137_0 b g d=f at *
 by_cases hf:f≤0
 ·rw [decide_eq_true hf]
  simp only [if_true]
  exact ⟨⟨f1,trivial⟩,⟨f2,trivial⟩,.inr ⟨by first | rfl | trivial,by first | rfl | trivial⟩⟩
 ·rw [decide_eq_false hf]
  simp only [Bool.false_eq_true,if_false]
  obtain ⟨u1,u2,u3,u4,u5⟩:=up_ok (a:=s*b.1) (b:=10) ⟨m1,by omega⟩ ⟨by omega,by omega⟩
  obtain ⟨v1,v2,v3,v4,v5⟩:=up_ok (a:=s*s) (b:=2*f) ⟨m3,by omega⟩ ⟨by omega,by omega⟩
  rw [u3,v3]
  exact ⟨⟨f1,by rw [i64_iff];omega,u1,by rw [i64_iff];omega,by rw [i64_iff];omega,v1,by rw [i64_iff];omega,trivial⟩,⟨f2,by rw [i64_iff];omega,u2,by rw [i64_iff];omega,by rw [i64_iff];omega,v2,by rw [i64_iff];omega,trivial⟩,.inl ⟨by first | rfl | trivial,by omega,by first | rfl | trivial⟩⟩
theorem grade_ok {t:List TyB4×Int×Int×Unit} (ht:(1≤t.1.length∧t.1.length≤12)∧(∀ x∈t.1,(1≤x.1∧x.1≤3000000)∧(0≤x.2.1∧x.2.1≤900))) {x:Int} (hx:0≤x∧x≤3000000) (d:Bool) :
  P131 t d∧P109 t x∧g131_0 t d=worstL d (g109_0 t x) t.1∧0≤g131_0 t d∧g131_0 t d≤900:=by
 obtain ⟨⟨h1,h2⟩,h3⟩:=ht
 have ps:P136 t x:=⟨⟨h1,by omega⟩,fun y hy=>by have:=h3 y hy;omega,hx.1,by omega⟩
 obtain ⟨s1,s2⟩:=in136 t x ps
 have m0:=mem_getD t.1 0 ((0:Int),(0:Int),()) (by omega)
 have m1:=mem_getD t.1 (g136_0 t x).toNat ((0:Int),(0:Int),()) (by omega)
 have e:g131_0 t d=worstL d (g109_0 t x) t.1:=worst_same d t.1 _ _ ⟨_,m0,rfl⟩ ⟨_,m1,rfl⟩
 refine ⟨⟨h1,by omega⟩,⟨ps,s1,s2,trivial⟩,e,?_⟩
 rcases worst_mem d t.1 (t.1.getD 0 ((0:Int),(0:Int),())).2.1 with h | ⟨y,hy,h⟩
 ·show 0≤worstL d (t.1.getD 0 ((0:Int),(0:Int),())).2.1 t.1∧worstL d (t.1.getD 0 ((0:Int),(0:Int),())).2.1 t.1≤900
  rw [h]
  exact (h3 _ m0).2
 ·show 0≤worstL d (t.1.getD 0 ((0:Int),(0:Int),())).2.1 t.1∧worstL d (t.1.getD 0 ((0:Int),(0:Int),())).2.1 t.1≤900
  rw [h]
  exact (h3 _ hy).2
theorem time_same {t:List TyB4×Int×Int×Unit} {b:Int×Int×Unit} (ht:g85_0 t=true) (hb:g87_0 b=true) {x s:Int} (hx:0≤x∧x≤g96_0 t) (hs:0≤s∧s≤15000) (d:Bool) :
  P101 t b x s d∧P34 t b x s d∧g101_0 t b x s d=g34_0 t b x s d:=by
 obtain ⟨t1,t2,t3,_⟩:=track_ok ht
 obtain ⟨g1,g2,g3,g4⟩:=grade_ok ⟨t1,t2⟩ (x:=x) ⟨hx.1,by omega⟩ d
 obtain ⟨w1,w2,w3⟩:=way_same (brake_ok hb) g4 hs d
 have pl:P96 t:=⟨by omega,fun y hy=>by have:=t2 y hy;omega⟩
 have pls:P25 t:=pl
 have eo:g73_0 t b x s d=g110_0 b s (g131_0 t d) d:=by
  rw [g3]
  rfl
 have po:P73 t b x s d:=⟨by omega,g2,by rw [← g3];exact w2⟩
 have i1:InR .i64 (g96_0 t - x):=by rw [i64_iff];omega
 unfold P101 P34 g101_0 g34_0 P130 g130_0
 rw [eo,len_same]
 cases d with
 | true =>
  simp only [if_true]
  refine ⟨⟨pl,i1,g1,⟨w1,trivial⟩,trivial⟩,⟨po,pls,i1,trivial⟩,?_⟩
  rcases w3 with ⟨a1,a2,a3⟩ | ⟨a1,a2⟩
  ·rw [a1,a3,if_pos rfl,decide_eq_true (show g155_0 b s (g131_0 t true) true≥0 from a2),if_pos rfl]
  ·rw [a1,a2]
   rfl
 | false =>
  simp only [Bool.false_eq_true,if_false]
  refine ⟨⟨pl,i1,g1,⟨w1,trivial⟩,trivial⟩,⟨po,pls,i1,trivial⟩,?_⟩
  rcases w3 with ⟨a1,a2,a3⟩ | ⟨a1,a2⟩
  ·rw [a1,a3,if_pos rfl,decide_eq_true (show g155_0 b s (g131_0 t false) false≥0 from a2),if_pos rfl]
  ·rw [a1,a2]
   rfl
theorem may_ok {p:Int×Int×Int×Int×Unit} (hp:(1≤p.1∧p.1≤2000)∧(100≤p.2.1∧p.2.1≤15000)∧(100≤p.2.2.1∧p.2.2.1≤p.2.1)∧(0≤p.2.2.2.1∧p.2.2.2.1≤3000000)) {l:Int} (hl:0≤l∧l≤3000000) (v:Int) (hv:0≤v∧v≤20000) :
  P70 p v l∧P154 v p l∧g154_0 v p l = !g70_0 p v l∧(g70_0 p v l=true↔v*v≤p.2.2.1*p.2.2.1+2*p.1*(if 0<l - v - p.2.2.2.1 then l - v - p.2.2.2.1 else 0)):=by
 obtain ⟨m1,m2⟩:=mul_bd hv.1 hv.2 hv.1 hv.2
 obtain ⟨m3,m4⟩:=mul_bd (a:=p.2.2.1) (b:=p.2.2.1) (A:=15000) (B:=15000) (by omega) (by omega) (by omega) (by omega)
 have em:g68_0 0 (l - v - p.2.2.2.1)=if 0<l - v - p.2.2.2.1 then l - v - p.2.2.2.1 else 0:=by
  unfold g68_0
  by_cases h:(0:Int)>l - v - p.2.2.2.1
  ·rw [if_pos (by simpa using h),if_neg (by omega)]
  ·rw [if_neg (by simpa using h)]
   split <;> omega
 have hmax:0≤(if 0<l - v - p.2.2.2.1 then l - v - p.2.2.2.1 else 0)∧(if 0<l - v - p.2.2.2.1 then l - v - p.2.2.2.1 else 0)≤3000000:=by split <;> omega
 unfold P70 P154 g154_0 g70_0
 rw [em]
 generalize (if 0<l - v - p.2.2.2.1 then l - v - p.2.2.2.1 else 0)=x at *
 obtain ⟨m5,m6⟩:=mul_bd (a:=2*p.1) (b:=x) (A:=4000) (B:=3000000) (by omega) (by omega) hmax.1 hmax.2
 refine ⟨⟨by rw [i64_iff];omega,by rw [i64_iff];omega,by rw [i64_iff];omega,by rw [i64_iff];omega,by rw [i64_iff];omega,by rw [i64_iff];omega,by rw [i64_iff];omega,by first | trivial | exact ⟨trivial,trivial⟩⟩,⟨by rw [i64_iff];omega,by rw [i64_iff];omega,by rw [i64_iff];omega,by rw [i64_iff];omega,by rw [i64_iff];omega,by rw [i64_iff];omega,by rw [i64_iff];omega,trivial⟩,?_,decide_eq_true_iff⟩
 by_cases h:v*v>p.2.2.1*p.2.2.1+2*p.1*x
 ·rw [decide_eq_true h,decide_eq_false (by omega)]
  rfl
 ·rw [decide_eq_false h,decide_eq_true (by omega)]
  rfl
theorem next_same {p:Int×Int×Int×Int×Unit} (hp:g88_0 p=true) {s l:Int} (hs:0≤s∧s≤15000) (hl:1≤l∧l≤3000000) :
  P129 p s l∧P32 p s l∧g129_0 p s l=g32_0 p s l∧1≤g129_0 p s l∧g129_0 p s l≤l∧g129_0 p s l≤15000:=by
 have hq:=profile_ok hp
 obtain ⟨h1,h2,h3,h4⟩:=hq
 have hm:=fun v hv=>may_ok (p:=p) ⟨h1,h2,h3,h4⟩ (l:=l) ⟨by omega,hl.2⟩ v hv
 have ps:P32 p s l:=⟨by omega,by omega,by omega,hs,fun v a b=>(hm v ⟨a,b⟩).1⟩
 obtain ⟨H,hH⟩:∃ H,(if s+p.1<p.2.1 then s+p.1 else p.2.1)=H:=⟨_,rfl⟩
 have hHb:1≤H∧H≤15000:=by rw [← hH];split <;> omega
 have et:top32 p s=if p.2.2.1>H then p.2.2.1 else H:=by
  unfold top32 g68_0 g69_0
  have e:(if decide (p.2.1<s+p.1)=true then p.2.1 else s+p.1)=H:=by
   rw [← hH]
   simp only [decide_eq_true_eq]
   split <;> split <;> omega
  rw [e]
  simp only [decide_eq_true_eq]
 have mn:∀ a b:Int,g69_0 a b=if b<a then b else a:=fun a b=>by
  unfold g69_0
  simp only [decide_eq_true_eq]
  split <;> split <;> omega
 by_cases hc:H>p.2.2.1
 ·have pl:P153c154 p.2.2.1 H p l:=⟨⟨by omega,by omega,by omega⟩,fun v a b=>(hm v ⟨a,by omega⟩).2.1⟩
  have eb:g153c154_0 p.2.2.1 H p l - 1=bsS (fun v=>g70_0 p v l) (H - p.2.2.1).toNat p.2.2.1 H:=by
   refine bs_same (fun v=>g70_0 p v l) (fun v=>g154_0 v p l) p.2.2.1 H _ _ (by omega) hc (by omega) (by omega) (fun v a b=>(hm v ⟨by omega,by omega⟩).2.2.1) ?_ (fun v v' a b c d => ?_)
   ·refine (hm p.2.2.1 ⟨by omega,by omega⟩).2.2.2.2 ?_
    have hx:0≤(if 0<l - p.2.2.1 - p.2.2.2.1 then l - p.2.2.1 - p.2.2.2.1 else 0):=by split <;> omega
    have:=Int.mul_nonneg (show (0:Int)≤2*p.1 by omega) hx
    omega
   ·have d:=(hm v' ⟨by omega,by omega⟩).2.2.2.1 d
    refine (hm v ⟨by omega,by omega⟩).2.2.2.2 ?_
    have m1:v*v≤v'*v':=Int.mul_le_mul b b (by omega) (by omega)
    have hx:(if 0<l - v' - p.2.2.2.1 then l - v' - p.2.2.2.1 else 0)≤(if 0<l - v - p.2.2.2.1 then l - v - p.2.2.2.1 else 0):=by split <;> split <;> omega
    have m2:=Int.mul_le_mul_of_nonneg_left hx (show (0:Int)≤2*p.1 by omega)
    omega
  have eq:g32_0 p s l=if l<g153c154_0 p.2.2.1 H p l - 1 then l else g153c154_0 p.2.2.1 H p l - 1:=by
   unfold g32_0
   rw [et,if_neg (by omega),mn, ← eb]
  have hb:=bsS_ok (fun v=>g70_0 p v l) p.2.2.1 H (H - p.2.2.1).toNat p.2.2.1 H (by omega) (by omega) (by omega) (.inl rfl) (.inl rfl) (Int.le_refl _) (Int.le_refl _)
  rw [← eb] at hb
  have ei:g129_0 p s l=if l<g153c154_0 p.2.2.1 H p l - 1 then l else g153c154_0 p.2.2.1 H p l - 1:=by
   unfold g129_0
   rw [hH,if_pos (by simpa using hc)]
  have pi:P129 p s l:=by
   unfold P129
   rw [hH,if_pos (by simpa using hc)]
   exact ⟨by rw [i64_iff];omega,pl,by rw [i64_iff];omega,trivial⟩
  refine ⟨pi,ps,by rw [ei,eq],?_⟩
  rw [ei]
  split <;> omega
 ·have eq:g32_0 p s l=if l<p.2.2.1 then l else p.2.2.1:=by
   unfold g32_0
   have e:top32 p s=p.2.2.1:=by rw [et];split <;> omega
   rw [e,mn,show (p.2.2.1 - p.2.2.1).toNat=0 by omega]
   rfl
  have ei:g129_0 p s l=if l<p.2.2.1 then l else p.2.2.1:=by
   unfold g129_0
   rw [hH,if_neg (by simpa using hc)]
  have pi:P129 p s l:=by
   unfold P129
   rw [hH,if_neg (by simpa using hc)]
   exact ⟨by rw [i64_iff];omega,trivial⟩
  refine ⟨pi,ps,by rw [ei,eq],?_⟩
  rw [ei]
  split <;> omega
theorem notT {b y:Bool} (h:(if (!b)=true then false else y)=true):b=true∧y=true:=by cases b <;> simp_all
theorem neT {n:Int} {y:Bool} (h:(if (n != 0)=true then false else y)=true):n=0∧y=true:=by
 by_cases hn:n=0
 ·subst hn;exact ⟨rfl,h⟩
 ·rw [if_pos (by simpa using hn)] at h;cases h
theorem eqT {n:Int} {y:Bool} (h:(if (n==0)=true then y else false)=true):n=0∧y=true:=by
 by_cases hn:n=0
 ·subst hn;exact ⟨rfl,h⟩
 ·rw [if_neg (by simpa using hn)] at h;cases h
theorem works_ok (x:(TyA0)) (h:g19_0 x=true):g24_0 x.1=true∧g49_0 x.2.1=true∧g50_0 x.2.2.1=true∧g29_0 x.2.2.2.1=true∧g38_0 x.2.2.2.2.1=true∧g39_0 x.2.2.2.2.2.1=true∧g26_0 x.2.2.2.2.2.2.1 x.2.2.2.2.2.2.2.1 x.2.2.2.2.2.2.2.2.1=0∧g42_0 x.2.2.2.2.2.2.2.2.2.1 x.2.2.2.2.2.2.2.2.2.2.1=0∧g51_0 x.2.2.2.2.2.2.2.2.2.2.2.1=true:=by
 unfold g19_0 at h
 obtain ⟨h1,h⟩:=notT h
 obtain ⟨h2,h⟩:=notT h
 obtain ⟨h3,h⟩:=notT h
 obtain ⟨h4,h⟩:=notT h
 obtain ⟨h5,h⟩:=notT h
 obtain ⟨h6,h⟩:=notT h
 obtain ⟨h7,h⟩:=neT h
 obtain ⟨h8,h⟩:=eqT h
 exact ⟨h1,h2,h3,h4,h5,h6,h7,h8,h⟩
theorem max_m (a b:Int):g68_0 a b=if a<b then b else a:=by
 unfold g68_0
 by_cases h:a>b
 ·rw [if_pos (by simpa using h),if_neg (by omega)]
 ·rw [if_neg (by simpa using h)]
  split <;> omega
theorem min_m (a b:Int):g69_0 a b=if b<a then b else a:=by
 unfold g69_0
 by_cases h:a<b
 ·rw [if_pos (by simpa using h),if_neg (by omega)]
 ·rw [if_neg (by simpa using h)]
  split <;> omega
theorem in_range' (n a b:Int) (h:g30_0 n a b=true):a≤n∧n≤b:=by
 unfold g30_0 at h
 split at h
 ·rename_i h1
  exact ⟨by simpa using h1,by simpa using h⟩
 ·cases h
theorem thenT {b y:Bool} (h:(if b=true then y else false)=true):b=true∧y=true:=by cases b <;> simp_all
theorem group_range (x:ByteArray×Int×Int×Int×Unit) (h:g74_0 x=true):1≤x.2.1∧x.2.1≤200∧0≤x.2.2.1∧x.2.2.1≤40∧0≤x.2.2.2.1∧x.2.2.2.1≤100000:=by
 unfold g74_0 at h
 obtain ⟨_,h⟩:=thenT h
 obtain ⟨h1,h⟩:=thenT h
 obtain ⟨h2,h3⟩:=thenT h
 have a1:=in_range' _ _ _ h1
 have a2:=in_range' _ _ _ h2
 have a3:=in_range' _ _ _ h3
 omega
theorem ride_range (x:Int×Int×Unit) (h:g112_0 x=true):0≤x.1∧x.1≤1440∧0≤x.2.1∧x.2.1≤1440:=by
 unfold g112_0 g77_0 at h
 obtain ⟨h1,h⟩:=thenT h
 obtain ⟨h2,h⟩:=thenT h
 have a1:=in_range' _ _ _ h1
 have a2:=in_range' _ _ _ h2
 omega
theorem check_range (x:TyB0) (h:g106_0 x=true):1≤x.2.1∧x.2.1≤100000∧1≤x.2.2.1∧x.2.2.1≤1000000∧0≤x.2.2.2.1∧x.2.2.2.1≤100000∧0≤x.2.2.2.2.1∧x.2.2.2.2.1≤1000000:=by
 unfold g106_0 g63_0 g64_0 at h
 obtain ⟨_,h⟩:=thenT h
 obtain ⟨h1,h⟩:=thenT h
 obtain ⟨h2,h⟩:=thenT h
 obtain ⟨h3,h4⟩:=thenT h
 have a1:=in_range' _ _ _ h1
 have a2:=in_range' _ _ _ h2
 have a3:=in_range' _ _ _ h3
 have a4:=in_range' _ _ _ h4
 omega
theorem groups_ok (l:List TyB1) (h:g38_0 l=true):(∀ x∈l,g74_0 x=true)∧l.length≤12:=by
 unfold g38_0 at h
 simp only [Bool.and_eq_true,decide_eq_true_eq] at h
 refine ⟨fun x hx => ?_,by omega⟩
 obtain ⟨j,hj⟩:=allI_mem _ _ h.1 x hx
 unfold ok38 at hj
 simp only [Bool.and_eq_true] at hj
 exact hj.1
theorem checks_ok (l:List TyB0) (h:g62_0 l=true):(∀ x∈l,g106_0 x=true)∧l.length≤16:=by
 unfold g62_0 at h
 simp only [Bool.and_eq_true,decide_eq_true_eq] at h
 refine ⟨fun x hx => ?_,by omega⟩
 obtain ⟨j,hj⟩:=allI_mem _ _ h.1 x hx
 unfold ok62 at hj
 simp only [Bool.and_eq_true] at hj
 exact hj.1
theorem rides_ok (l:List TyB4) (h:g76_0 l=true):(∀ x∈l,g112_0 x=true)∧l.length≤24:=by
 unfold g76_0 at h
 simp only [Bool.and_eq_true,decide_eq_true_eq] at h
 refine ⟨fun x hx => ?_,by omega⟩
 obtain ⟨j,hj⟩:=allI_mem _ _ h.1 x hx
 unfold ok76 one76 at hj
 simp only [Bool.and_eq_true] at hj
 exact hj.1
theorem ask_check {l:List TyB0} {d r:Int} (h:g26_0 l d r=0):g62_0 l=true∧0≤d∧d≤100000∧0≤r∧r≤1000000:=by
 unfold g26_0 at h
 by_cases h1:g62_0 l=true
 case neg=>rw [if_neg h1] at h;cases h
 by_cases h2:g63_0 d=true
 case neg=>rw [if_pos h1,if_neg h2] at h;cases h
 by_cases h3:g64_0 r=true
 case neg=>rw [if_pos h1,if_pos h2,if_neg h3] at h;cases h
 have a1:=in_range' _ _ _ (show g30_0 d 0 100000=true from h2)
 have a2:=in_range' _ _ _ (show g30_0 r 0 1000000=true from h3)
 exact ⟨h1,a1.1,a1.2,a2.1,a2.2⟩
theorem ask_rides {l:List TyB4} {t:Int} (h:g42_0 l t=0):g76_0 l=true∧g77_0 t=true∧0≤t∧t≤1440:=by
 unfold g42_0 at h
 by_cases h1:g76_0 l=true
 case neg=>rw [if_pos (by rw [Bool.eq_false_iff.2 h1];rfl)] at h;cases h
 by_cases h2:g77_0 t=true
 case neg=>rw [if_neg (by rw [h1];simp),if_pos (by rw [Bool.eq_false_iff.2 h2];rfl)] at h;cases h
 have a1:=in_range' _ _ _ (show g30_0 t 0 1440=true from h2)
 exact ⟨h1,h2,a1.1,a1.2⟩
theorem bvn (a:Nat) (h:a<9223372036854775808):(BitVec.ofInt 64 (a:Int)).toNat=a:=by
 rw [BitVec.toNat_ofInt]
 omega
theorem wrn (a:Nat) (h:a<9223372036854775808):IntKind.wrap IntKind.i64 (a:Int)=(a:Int):=wrap_of_inR (by rw [i64_iff];omega)
theorem bit_bound {s:Int} (h:0≤s∧s≤65535):0≤bit134 s∧bit134 s≤65535:=by
 obtain ⟨a,rfl⟩:=Int.eq_ofNat_of_zero_le h.1
 unfold bit134
 have e:(a:Int)*2=((a*2:Nat):Int):=by omega
 have e6:BitVec.ofInt 64 65535=BitVec.ofInt 64 ((65535:Nat):Int):=rfl
 have e7:BitVec.ofInt 64 4129=BitVec.ofInt 64 ((4129:Nat):Int):=rfl
 rw [e,wrn _ (by omega),e6,e7]
 have h1:(a*2) &&& 65535<65536:=Nat.lt_of_le_of_lt Nat.and_le_right (by decide)
 have h2:((a*2) &&& 65535) ^^^ 4129<2 ^ 16:=Nat.xor_lt_two_pow h1 (by decide)
 split
 ·rw [BitVec.toNat_and,bvn (a*2) (by omega),bvn 65535 (by omega),wrn (a*2 &&& 65535) (by omega),BitVec.toNat_xor,bvn (a*2 &&& 65535) (by omega),bvn 4129 (by omega),wrn (a*2 &&& 65535 ^^^ 4129) (by omega)]
  omega
 ·rename_i hc
  have hc':¬ ((a*2:Nat):Int)>65535:=fun hh=>hc (decide_eq_true hh)
  omega
theorem bits_bound:∀ (k:Nat) {s:Int},0≤s∧s≤65535→0≤bits134 k s∧bits134 k s≤65535
 | 0,_,h=>h
 | k+1,_,h=>bits_bound k (bit_bound h)
theorem byte_bound {s c:Int} (h:0≤s∧s≤65535) (hc:0≤c∧c≤255):0≤byte134 s c∧byte134 s c≤65535:=by
 refine bits_bound 8 ?_
 obtain ⟨a,rfl⟩:=Int.eq_ofNat_of_zero_le h.1
 obtain ⟨b,rfl⟩:=Int.eq_ofNat_of_zero_le hc.1
 have e:(b:Int)*256=((b*256:Nat):Int):=by omega
 have h2:a ^^^ (b*256)<2 ^ 16:=Nat.xor_lt_two_pow (by omega) (by omega)
 rw [e,wrn (b*256) (by omega),BitVec.toNat_xor,bvn a (by omega),bvn (b*256) (by omega),wrn (a ^^^ (b*256)) (by omega)]
 omega
theorem crc_bound (x:ByteArray) {s:Int} (h:0≤s∧s≤65535):0≤g134_0 x s∧g134_0 x s≤65535:=by
 unfold g134_0
 have hb:=bytesOf_range x
 revert hb
 generalize bytesOf x=l
 revert s
 induction l with
 | nil=>intro s h _;exact h
 | cons c r ih =>
  intro s h hb
  rw [List.foldl_cons]
  have hc:=hb c (List.mem_cons_self ..)
  exact ih (byte_bound h ⟨hc.1,hc.2⟩) fun b hb'=>hb b (List.mem_cons_of_mem _ hb')
theorem crc_eq (x:ByteArray) {s:Int} (h:0≤s∧s≤65535):g156_0 x s=g134_0 x s:=by
 unfold g156_0
 rw [if_neg (by
  have c1:s≥0:=h.1
  unfold g116_0
  simp [c1,h.2])]
 have e:byte156=byte134:=by
  funext s c
  unfold byte156 byte134
  have:∀ (k:Nat) (t:Int),bits156 k t=bits134 k t:=by
   intro k
   induction k with
   | zero=>intro t;rfl
   | succ k ih=>intro t;exact ih _
  exact this 8 _
 rw [e]
 rfl
theorem in_range (n a b:Int) (h:g30_0 n a b=true):a≤n∧n≤b:=by
 unfold g30_0 at h
 split at h
 ·rename_i h1
  exact ⟨by simpa using h1,by simpa using h⟩
 ·cases h
theorem line_sizes (x:Int×Int×ByteArray×Int×Unit) (h:g84_0 x=true):(numB x.1).size≤21∧(numB x.2.1).size≤21∧x.2.2.1.size≤40∧InR .i64 x.2.2.2.1:=by
 unfold g84_0 g63_0 at h
 by_cases h1:g30_0 x.1 0 100000=true
 case neg=>rw [if_neg h1] at h;cases h
 by_cases h2:g30_0 x.2.1 0 1439=true
 case neg=>rw [if_pos h1,if_neg h2] at h;cases h
 by_cases h3:g115_0 x.2.2.1=true
 case neg=>rw [if_pos h1,if_pos h2,if_neg h3] at h;cases h
 rw [if_pos h1,if_pos h2,if_pos h3] at h
 have a1:=in_range _ _ _ h1
 have a2:=in_range _ _ _ h2
 have a4:=in_range _ _ _ h
 refine ⟨numB_size _ (by omega) (by omega),numB_size _ (by omega) (by omega),?_,by rw [i64_iff];omega⟩
 unfold g115_0 at h3
 simp only [Bool.and_eq_true,Bool.not_eq_true',decide_eq_false_iff_not] at h3
 omega
theorem seal_pre (x:Int×Int×ByteArray×Int×Unit) (h:g84_0 x=true) (c:Int):P108 c x.1 x.2.1 x.2.2.1∧P133 c x:=by
 obtain ⟨a1,a2,a3,_⟩:=line_sizes x h
 have e1:g158_0=numB:=rfl
 have e2:g55_0=numB:=rfl
 have p1:∀ n,P55 n:=fun n=>⟨rfl,trivial⟩
 have e3:(ByteArray.mk #[32]).size=1:=rfl
 unfold P108 P133 P135 P157
 rw [e1,e2]
 simp only [ByteArray.size_append,e3,p1,true_and,and_true]
 omega
theorem seal_eq (x:Int×Int×ByteArray×Int×Unit) {c:Int} (h:0≤c∧c≤65535):g133_0 c x=g108_0 c x.1 x.2.1 x.2.2.1∧0≤g108_0 c x.1 x.2.1 x.2.2.1∧g108_0 c x.1 x.2.1 x.2.2.1≤65535:=by
 unfold g133_0 g108_0
 have e:g157_0 x=g135_0 x.1 x.2.1 x.2.2.1:=rfl
 rw [e]
 exact ⟨crc_eq _ h,crc_bound _ h⟩
theorem broken_eq:∀ (l:List TyB2) (c i:Int),0≤c∧c≤65535→br67 c i l=(match fb61 i l (sl105 c l) with | some k=>k | none => -1)
 | [],_,_,_=>rfl
 | x :: r,c,i,h=>by
  obtain ⟨e1,e2⟩:=seal_eq x h
  simp only [br67,sl105,fb61,e1]
  have ih:=broken_eq r (g108_0 c x.1 x.2.1 x.2.2.1) (i+1) e2
  obtain ⟨x1,x2,x3,x4,⟨⟩⟩:=x
  have hd:eqD (Ty.cons (Ty.int IntKind.i64) (Ty.cons (Ty.int IntKind.i64) (Ty.cons Ty.str (Ty.cons (Ty.int IntKind.i64) Ty.unit)))) (x1,x2,x3,x4,()) (x1,x2,x3,g108_0 c x1 x2 x3,())=true↔g108_0 c x1 x2 x3=x4:=by
   rw [eqD_eq rfl]
   simp only [Prod.mk.injEq,true_and,and_true]
   exact eq_comm
  by_cases hc:g108_0 c x1 x2 x3=x4
  ·rw [if_neg (by simp [hc]),if_neg (by rw [hd.2 hc];simp)]
   exact ih
  ·rw [if_pos (by simpa using hc),if_pos (by rw [Bool.eq_false_iff.2 (fun hh=>hc (hd.1 hh))];rfl)]
theorem fb_range:∀ (l m:List TyB2) (i k:Int),fb61 i l m=some k→i≤k∧k<i+l.length
 | [],_,_,_,h=>by cases h
 | _ :: _,[],_,_,h=>by cases h
 | x :: r,y :: s,i,k,h=>by
  simp only [fb61] at h
  simp only [List.length_cons]
  split at h
  ·cases h;omega
  ·have:=fb_range r s (i+1) k h
   omega
theorem lines_ok (l:List TyB2) (h:g51_0 l=true):(∀ x∈l,g84_0 x=true)∧l.length≤40:=by
 unfold g51_0 at h
 simp only [Bool.and_eq_true,decide_eq_true_eq] at h
 refine ⟨fun x hx => ?_,by omega⟩
 obtain ⟨j,hj⟩:=allI_mem _ _ h.1 x hx
 unfold ok51 at hj
 simp only [Bool.and_eq_true] at hj
 exact hj.1
theorem log_part (l:List TyB2) (h:g51_0 l=true) :
  P67 l∧P61 l∧(g67_0 l<0∧g61_1 l=3∨0≤g67_0 l∧g67_0 l<l.length∧g61_1 l=0∧g61_0 l=g67_0 l):=by
 obtain ⟨h1,h2⟩:=lines_ok l h
 refine ⟨fun x hx c=>(seal_pre x (h1 x hx) c).1,fun _=>⟨by omega,fun x hx c=>(seal_pre x (h1 x hx) c).2⟩,?_⟩
 have hv:g94_0 l=true:=by rw [list_Line];exact h
 unfold g67_0 g61_0 g61_1
 rw [if_pos hv,if_pos hv,broken_eq l 65535 0 (by decide)]
 have e:g105_0 l=sl105 65535 l:=rfl
 rw [e]
 cases hf:fb61 0 l (sl105 65535 l) with
 | none=>exact .inl ⟨by decide,rfl⟩
 | some k =>
  have:=fb_range _ _ _ _ hf
  exact .inr ⟨this.1,(by show k<(l.length:Int);omega),rfl,rfl⟩
theorem safe_I {t:List TyB4×Int×Int×Unit} (ht:g85_0 t=true) (c:Int) :
  P53 t c∧P54 t∧(g53_0 t c=true→g95_0 t≤g95_1 t∧(g95_0 t=0∨c≤g96_0 t - 2*(g95_0 t - 1)))∧(0≤g95_0 t∧g95_0 t+g95_1 t=g96_0 t):=by
 obtain ⟨t1,t2,t3,t4,t5⟩:=track_ok ht
 have pl:P96 t:=⟨by omega,fun y hy=>by have:=t2 y hy;omega⟩
 have pp:P95 t:=⟨pl,by rw [i64_iff];omega,pl,by rw [i64_iff];omega,trivial⟩
 have e2:g95_2 t=decide (g95_0 t≤g95_1 t):=rfl
 have hb:(0≤g95_0 t∧g95_0 t≤g96_0 t)∧g95_0 t+g95_1 t=g96_0 t:=by
  unfold g95_0 g95_1
  split <;> split <;> omega
 have hm:Int.tmod (g96_0 t) 2=g96_0 t % 2:=Int.tmod_eq_emod_of_nonneg t3.1
 unfold P53 P54 g53_0 g54_0 g54_1 P97 g97_0 P127 g127_0
 rw [e2,hm]
 generalize g95_0 t=lo at *
 generalize g95_1 t=hi at *
 generalize g96_0 t=n at *
 by_cases hc:lo≤hi
 ·have d1:decide (lo≤hi)=true:=decide_eq_true hc
  by_cases hz:lo=0
  ·have d3:(lo==0)=true:=by simpa using hz
   simp only [d1,d3,Bool.not_true,Bool.false_eq_true,if_false,if_true,Bool.not_false,pp,pl,true_and,and_true]
   omega
  ·have d3:(lo==0)=false:=by simpa using hz
   have d4:decide (n - 2*(lo - 1)<0)=false:=decide_eq_false (by omega)
   have i1:InR .i64 (lo - 1):=by rw [i64_iff];omega
   have i2:InR .i64 (2*(lo - 1)):=by rw [i64_iff];omega
   have i3:InR .i64 (n - 2*(lo - 1)):=by rw [i64_iff];omega
   simp only [d1,d3,d4,i1,i2,i3,Bool.not_true,Bool.false_eq_true,if_false,if_true,Bool.not_false,pp,pl,true_and,and_true,decide_eq_true_eq]
   omega
 ·have d1:decide (lo≤hi)=false:=decide_eq_false hc
  have i1:InR .i64 (n % 2):=by rw [i64_iff];omega
  simp only [d1,i1,Bool.not_true,Bool.false_eq_true,if_false,if_true,Bool.not_false,pp,pl,true_and,and_true,false_implies]
  omega
theorem motion_I (x:(TyA0)) (h:g19_0 x=true) (hu:∀ d,P56 x.1 x.2.2.1 x.2.2.2.1 d):P21 x∧(g21_0 x).length≤3∧(g21_0 x=[]→g53_0 x.1 x.2.1=true∧∀ d,g56_1 x.1 x.2.2.1 x.2.2.2.1 d≠0):=by
 obtain ⟨h1,_⟩:=works_ok x h
 obtain ⟨s1,s2,_⟩:=safe_I (show g85_0 x.1=true from h1) x.2.1
 have pd:∀ n,P55 n:=fun n=>⟨rfl,trivial⟩
 refine ⟨⟨s1,fun _=>⟨s2,pd _⟩,⟨hu false,fun _=>pd _⟩,hu true,fun _=>pd _⟩,?_,?_⟩
 ·unfold g21_0 trk021 one21
  simp only [List.length_append]
  split <;> split <;> split <;> simp
 ·intro he
  unfold g21_0 at he
  simp only [List.append_eq_nil_iff] at he
  obtain ⟨⟨e1,e2⟩,e3⟩:=he
  refine ⟨?_,fun d hd => ?_⟩
  ·unfold trk021 at e1
   by_cases c:g53_0 x.1 x.2.1=true
   ·exact c
   ·rw [if_pos (by rw [Bool.eq_false_iff.2 c];rfl)] at e1
    cases e1
  ·unfold one21 at e2 e3
   cases d with
   | false=>rw [if_pos (by rw [hd];rfl)] at e2;cases e2
   | true=>rw [if_pos (by rw [hd];rfl)] at e3;cases e3
theorem skI_len (t:Int):∀ l:List TyB4,(sk60 t l).length=l.length - 1
 | []=>rfl
 | [_]=>rfl
 | x :: y :: r=>by
  simp only [sk60,List.length_cons,skI_len t (y :: r)]
  omega
theorem slackI (x:(TyA0)) (h:g19_0 x=true):g60_0 x.2.2.2.2.2.2.2.2.2.1 x.2.2.2.2.2.2.2.2.2.2.1=sk60 x.2.2.2.2.2.2.2.2.2.2.1 x.2.2.2.2.2.2.2.2.2.1:=by
 obtain ⟨_,_,_,_,_,_,_,h3,_⟩:=works_ok x h
 obtain ⟨h3,t0,_⟩:=ask_rides h3
 unfold g60_0 g103_0
 have e1:g93_0 x.2.2.2.2.2.2.2.2.2.2.1=true:=t0
 have e2:g92_0 x.2.2.2.2.2.2.2.2.2.1=true:=h3
 rw [e1,e2,if_neg (by decide)]
theorem service_I (x:(TyA0)) (h:g19_0 x=true):P22 x∧(g22_0 x).length≤60∧(g22_0 x=[]→(∀ y∈x.2.2.2.2.1,g57_0 (y.2.1,y.2.2.1,75*y.2.1+15*y.2.2.1+y.2.2.2.1,()) x.2.2.2.2.2.1=true)∧(∀ y∈x.2.2.2.2.2.2.1,g59_0 y x.2.2.2.2.2.2.2.1 x.2.2.2.2.2.2.2.2.1=false)∧∀ n∈sk60 x.2.2.2.2.2.2.2.2.2.2.1 x.2.2.2.2.2.2.2.2.2.1,0≤n):=by
 obtain ⟨_,_,_,_,h1,_,h2,h3,_⟩:=works_ok x h
 obtain ⟨g1,g2⟩:=groups_ok _ h1
 obtain ⟨h2,d1,d2,d3,d4⟩:=ask_check h2
 obtain ⟨c1,c2⟩:=checks_ok _ h2
 obtain ⟨h3,t0,t1,t2⟩:=ask_rides h3
 obtain ⟨r1,r2⟩:=rides_ok _ h3
 have es:=slackI x h
 have hl:=skI_len x.2.2.2.2.2.2.2.2.2.2.1 x.2.2.2.2.2.2.2.2.2.1
 have q1:∀ y∈x.2.2.2.2.1,P58 y:=fun y hy=>by
  have:=group_range y (g1 y hy)
  unfold P58
  simp only [i64_iff,and_true]
  omega
 have q2:∀ y∈x.2.2.2.2.2.2.1,P59 y x.2.2.2.2.2.2.2.1 x.2.2.2.2.2.2.2.2.1:=fun y hy=>by
  have:=check_range y (c1 y hy)
  unfold P59 P102
  simp only [i64_iff,and_true]
  omega
 have q3:P60 x.2.2.2.2.2.2.2.2.2.1 x.2.2.2.2.2.2.2.2.2.2.1 := .inr ⟨by omega,by omega,by omega,fun y hy=>by
  have:=ride_range y (r1 y hy)
  have e:g104_0 y=y.1+y.2.1:=rfl
  unfold ok60 P104
  rw [e]
  simp only [i64_iff,and_true]
  omega⟩
 have l1:∀ i y,(fG22 x.2.2.2.2.2.1 i y).length≤1:=fun i y=>by unfold fG22;split <;> simp
 have l2:∀ i y,(fC22 x.2.2.2.2.2.2.2.1 x.2.2.2.2.2.2.2.2.1 i y).length≤1:=fun i y=>by unfold fC22;split <;> simp
 have l3:∀ i y,(fS22 i y).length≤1:=fun i y=>by unfold fS22;split <;> simp
 have b1:=bl_len _ l1 x.2.2.2.2.1 0
 have b2:=bl_len _ l2 x.2.2.2.2.2.2.1 0
 have b3:=bl_len _ l3 (sk60 x.2.2.2.2.2.2.2.2.2.2.1 x.2.2.2.2.2.2.2.2.2.1) 0
 refine ⟨⟨by omega,by omega,by rw [es];omega,q1,q2,q3⟩,?_,fun he => ?_⟩
 ·unfold g22_0
  rw [es]
  simp only [List.length_append]
  omega
 ·unfold g22_0 at he
  rw [es] at he
  simp only [List.append_eq_nil_iff] at he
  obtain ⟨⟨h1,h2⟩,h3⟩:=he
  refine ⟨fun y hy => ?_,fun y hy => ?_,fun n hn => ?_⟩
  ·obtain ⟨j,hj⟩:=List.mem_iff_getElem?.1 hy
   have:=bl_none _ _ _ h1 j y hj
   unfold fG22 at this
   by_cases c:g57_0 (y.2.1,y.2.2.1,75*y.2.1+15*y.2.2.1+y.2.2.2.1,()) x.2.2.2.2.2.1=true
   ·exact c
   ·rw [if_pos (by rw [Bool.eq_false_iff.2 c];rfl)] at this
    cases this
  ·obtain ⟨j,hj⟩:=List.mem_iff_getElem?.1 hy
   have:=bl_none _ _ _ h2 j y hj
   unfold fC22 at this
   by_cases c:g59_0 y x.2.2.2.2.2.2.2.1 x.2.2.2.2.2.2.2.2.1=true
   ·rw [if_pos c] at this
    cases this
   ·exact Bool.eq_false_iff.2 c
  ·obtain ⟨j,hj⟩:=List.mem_iff_getElem?.1 hn
   have:=bl_none _ _ _ h3 j n hj
   unfold fS22 at this
   by_cases c:n<0
   ·rw [if_pos (decide_eq_true c)] at this
    cases this
   ·omega
theorem log_I (x:(TyA0)) (h:g19_0 x=true):P23 x∧(g23_0 x).length≤1∧(g23_0 x=[]→g61_1 x.2.2.2.2.2.2.2.2.2.2.2.1=3):=by
 have hl:=(works_ok x h).2.2.2.2.2.2.2.2
 obtain ⟨h1,h2⟩:=lines_ok _ hl
 have pf:P61 x.2.2.2.2.2.2.2.2.2.2.2.1:=fun _=>⟨by omega,fun y hy c=>(seal_pre y (h1 y hy) c).2⟩
 have p1:∀ n,P55 n:=fun n=>⟨rfl,trivial⟩
 have hv:g94_0 x.2.2.2.2.2.2.2.2.2.2.2.1=true:=by rw [list_Line];exact hl
 have hr:(g61_1 x.2.2.2.2.2.2.2.2.2.2.2.1=3)∨(g61_1 x.2.2.2.2.2.2.2.2.2.2.2.1=0∧0≤g61_0 x.2.2.2.2.2.2.2.2.2.2.2.1∧g61_0 x.2.2.2.2.2.2.2.2.2.2.2.1<(x.2.2.2.2.2.2.2.2.2.2.2.1.length:Int)):=by
  unfold g61_0 g61_1
  rw [if_pos hv,if_pos hv]
  cases hf:fb61 0 x.2.2.2.2.2.2.2.2.2.2.2.1 (g105_0 x.2.2.2.2.2.2.2.2.2.2.2.1) with
  | none=>exact .inl rfl
  | some k =>
   have:=fb_range _ _ _ _ hf
   exact .inr ⟨rfl,this.1,by show k<_;omega⟩
 unfold P23 g23_0
 rcases hr with hr | ⟨hr,r1,r2⟩
 ·rw [hr]
  simp [pf]
 ·rw [hr]
  simp [pf,p1,r1,r2]
theorem all_I (x:(TyA0)) (hu:g19_0 x=true→∀ d,P56 x.1 x.2.2.1 x.2.2.2.1 d):g7_0 x=(if g19_0 x=true then g21_0 x++g22_0 x++g23_0 x else [])∧g7_1 x=(if g19_0 x=true then 0 else 1)∧P7 x:=by
 unfold g7_0 g7_1 P7 g20c21c22c23_0 g20c21c22c23_1 P20c21c22c23
 rw [valid_works]
 by_cases h:g19_0 x=true
 ·obtain ⟨p1,hl,_⟩:=motion_I x h (hu h)
  obtain ⟨q1,hk,_⟩:=service_I x h
  obtain ⟨r1,hm,_⟩:=log_I x h
  have hf:¬ (!g19_0 x)=true:=by rw [h];simp
  simp only [if_neg hf,if_pos h,p1,q1,r1,true_and,and_true,List.length_append]
  exact ⟨by omega,by omega,by omega⟩
 ·have hf:(!g19_0 x)=true:=by rw [Bool.eq_false_iff.2 h];rfl
  simp only [if_pos hf,if_neg h,true_and,and_true]
theorem in_dec (n a b:Int):g30_0 n a b=decide (a≤n∧n≤b):=by
 unfold g30_0
 by_cases h:n≥a
 ·rw [if_pos (by simpa using h)]
  by_cases h2:n≤b
  ·rw [decide_eq_true h2,decide_eq_true ⟨h,h2⟩]
  ·rw [decide_eq_false h2,decide_eq_false (fun x=>h2 x.2)]
 ·rw [if_neg (by simpa using h),decide_eq_false (fun x=>h x.1)]
def badS (tr:List TyB4×Int×Int×Unit) (br:Int×Int×Unit) (down:Bool) (way place speed:Int):Bool := !g34_0 tr br (if down=true then way - place else place) speed down
theorem unsafe_I {t:List TyB4×Int×Int×Unit} {b:Int×Int×Unit} {p:Int×Int×Int×Int×Unit} (ht:g85_0 t=true) (hb:g87_0 b=true) (hp:g88_0 p=true) (d:Bool) :
  P56 t b p d∧(g56_1 t b p d≠0→rideL (g32_0 p) (badS t b d (g25_0 t)) (g25_0 t) (g25_0 t).toNat 0 0 0=none):=by
 obtain ⟨t1,t2,t3,_⟩:=track_ok ht
 have pl:P96 t:=⟨by omega,fun y hy=>by have:=t2 y hy;omega⟩
 have hn:=fun s l (a:0≤s) (b:s≤15000) (c:1≤l) (d:l≤g96_0 t)=>next_same hp (s:=s) (l:=l) ⟨a,b⟩ ⟨c,by omega⟩
 have h1:P56 t b p d:=fun _ _ _=>⟨pl,t3,fun s l a b c e=>⟨(hn s l a b c e).1,(hn s l a b c e).2.2.2⟩,fun place s k fd a b' c e f g=>by
  have q1:=(time_same ht hb (x:=place) (s:=s) ⟨a,b'⟩ ⟨c,e⟩ d).1
  have q2:=(time_same ht hb (x:=g96_0 t - place) (s:=s) ⟨by omega,by omega⟩ ⟨c,e⟩ d).1
  unfold P100
  refine ⟨by rw [i64_iff];omega,?_⟩
  split
  ·refine ⟨by rw [i64_iff];omega,?_⟩
   split
   ·exact ⟨q2,trivial⟩
   ·trivial
  ·split
   ·exact ⟨q1,trivial⟩
   ·trivial⟩
 have hr:run56 t b p d=rideL (g32_0 p) (badS t b d (g25_0 t)) (g25_0 t) (g25_0 t).toNat 0 0 0:=by
  refine rideL_congr (n:=g96_0 t) (fun s l a b c e => ?_) (fun place s a b' c e => ?_) _ 0 0 0 (Int.le_refl _) (Int.le_refl _) (by decide)
  ·obtain ⟨_,_,q2,q3,q4,q5⟩:=hn s l a b c e
   exact ⟨q2,q3,q4,q5⟩
  ·unfold bad56 badS
   cases d with
   | true=>rw [if_pos rfl];exact congrArg _ (time_same ht hb (x:=g96_0 t - place) (s:=s) ⟨by omega,by omega⟩ ⟨c,e⟩ true).2.2
   | false=>rw [if_neg (by decide)];exact congrArg _ (time_same ht hb (x:=place) (s:=s) ⟨a,by omega⟩ ⟨c,e⟩ false).2.2
 refine ⟨h1,fun hne => ?_⟩
 unfold g56_1 at hne
 rw [ht,hb,hp,hr] at hne
 simp only [Bool.and_self,if_true] at hne
 cases hx:rideL (g32_0 p) (badS t b d (g25_0 t)) (g25_0 t) (g25_0 t).toNat 0 0 0 with
 | none=>rfl
 | some r=>rw [hx] at hne;exact absurd rfl hne
theorem pl_ok {t:List TyB4×Int×Int×Unit} (ht:g24_0 t=true):P25 t∧0≤g25_0 t∧g25_0 t≤3000000∧(0≤t.2.1∧t.2.1≤g25_0 t)∧(t.2.1≤t.2.2.1∧t.2.2.1≤g25_0 t):=by
 have ht':g85_0 t=true:=ht
 obtain ⟨t1,t2,t3,t4,t5⟩:=track_ok ht'
 exact ⟨⟨by omega,fun y hy=>by have:=t2 y hy;omega⟩,t3.1,t3.2,t4,t5⟩
theorem tl_ok {t:List TyB4×Int×Int×Unit} (ht:g24_0 t=true):P8 t∧g8_0 t=g25_0 t∧g8_1 t=0:=by
 have hf:¬ (!g24_0 t)=true:=by rw [ht];decide
 unfold P8 g8_0 g8_1
 rw [if_neg hf,if_neg hf,if_neg hf]
 exact ⟨⟨(pl_ok ht).1,trivial⟩,rfl,rfl⟩
theorem place_ok {t:List TyB4×Int×Int×Unit} (ht:g24_0 t=true) {x:Int} (hx:0≤x∧x≤g25_0 t):P71 t x∧g71_0 t x=true:=by
 unfold P71 g71_0
 rw [in_dec]
 exact ⟨⟨(pl_ok ht).1,trivial⟩,decide_eq_true hx⟩
theorem ask_ok {t:List TyB4×Int×Int×Unit} (ht:g24_0 t=true) {x:Int} (hx:0≤x∧x≤g25_0 t):P35 t x∧g35_0 t x=0:=by
 have hf:¬ (!g24_0 t)=true:=by rw [ht];decide
 obtain ⟨p,e⟩:=place_ok ht hx
 unfold P35 g35_0
 rw [if_neg hf,if_neg hf,e,if_neg (by decide)]
 exact ⟨⟨p,trivial⟩,rfl⟩
theorem stops_ok {t:List TyB4×Int×Int×Unit} {b:Int×Int×Unit} (ht:g24_0 t=true) (hb:g50_0 b=true) {x s:Int} (hx:0≤x∧x≤g25_0 t) (hs:0≤s∧s≤15000) (d:Bool) :
  P12 t b x s d∧g12_0 t b x s d=g34_0 t b x s d:=by
 have hf:¬ (!g24_0 t)=true:=by rw [ht];decide
 have hg:¬ (!g50_0 b)=true:=by rw [hb];decide
 obtain ⟨p,e⟩:=place_ok ht hx
 have es:g72_0 s=true:=by
  unfold g72_0
  rw [in_dec]
  exact decide_eq_true hs
 have e0:g33_0 t b x s=0:=by
  unfold g33_0
  rw [if_neg hf,if_neg hg,e,es,if_neg (by decide),if_neg (by decide)]
 have p0:P33 t b x s:=by
  unfold P33
  rw [if_neg hf,if_neg hg]
  exact ⟨p,trivial⟩
 unfold P12 g12_0
 rw [e0,if_pos (by decide),if_pos (by decide)]
 exact ⟨⟨p0,(time_same (show g85_0 t=true from ht) (show g87_0 b=true from hb) (show 0≤x∧x≤g96_0 t from hx) hs d).2.1,trivial⟩,rfl⟩
theorem speed_ok {p:Int×Int×Int×Int×Unit} (hp:g29_0 p=true) {s l:Int} (hs:0≤s∧s≤15000) (hl:1≤l∧l≤3000000) :
  P11 p s l∧g11_1 p s l=0∧g11_0 p s l=g32_0 p s l∧1≤g32_0 p s l∧g32_0 p s l≤l∧g32_0 p s l≤15000:=by
 have hf:¬ (!g29_0 p)=true:=by rw [hp];decide
 have h1:g30_0 s 0 15000=true:=by rw [in_dec];exact decide_eq_true hs
 have h2:g31_0 l=true:=by unfold g31_0;rw [in_dec];exact decide_eq_true ⟨by omega,hl.2⟩
 obtain ⟨_,q1,q2,q3,q4,q5⟩:=next_same (show g88_0 p=true from hp) hs hl
 rw [q2] at q3 q4 q5
 unfold P11 g11_0 g11_1
 rw [h1,h2]
 simp only [if_neg hf,Bool.not_true,Bool.false_eq_true,if_false]
 exact ⟨⟨q1,trivial⟩,by first | rfl | trivial,by first | rfl | trivial,q3,q4,q5⟩
theorem apart_ok {t:List TyB4×Int×Int×Unit} (ht:g24_0 t=true) {c:Int} (hs:g53_0 t c=true) {x:Int} (hx:0≤x∧x≤g25_0 t) :
  P13 t x∧P14 t x∧g14_1 t x=0∧(g13_0 t x=false→c≤g14_0 t x):=by
 obtain ⟨p0,e0⟩:=ask_ok ht hx
 obtain ⟨pl,l0,l1,l2,l3⟩:=pl_ok ht
 have hn:¬ ((0:Int) != 0)=true:=by decide
 unfold P13 P14 g14_1 g13_0 g14_0
 rw [e0]
 simp only [if_neg hn]
 refine ⟨⟨p0,⟨pl,by rw [i64_iff];omega,by rw [i64_iff];omega,trivial⟩,trivial⟩,⟨p0,⟨pl,by rw [i64_iff];omega,by rw [i64_iff];omega,by rw [i64_iff];omega,trivial⟩,trivial⟩,by first | rfl | trivial,fun hin => ?_⟩
 have e0:g36_0 t=g95_0 t:=by
  unfold g36_0 g95_0
  rw [max_m,len_same]
 have e1:g36_1 t=g95_1 t:=by
  unfold g36_1 g95_1
  rw [min_m,len_same]
 obtain ⟨_,_,hs2,hb⟩:=safe_I (show g85_0 t=true from ht) c
 have hs2:=hs2 hs
 unfold g37_0
 rw [max_m]
 rw [in_dec,decide_eq_false_iff_not,e0,e1] at hin
 rw [len_same] at *
 generalize g95_0 t=lo at *
 generalize g95_1 t=hi at *
 generalize g96_0 t=n at *
 split <;> omega
theorem fits_ok {l:List TyB1} {r:Int×Int×Int×Unit} (hl:g38_0 l=true) (hr:g39_0 r=true) {i:Nat} (hi:i<l.length) (hf:∀ y∈l,g57_0 (y.2.1,y.2.2.1,75*y.2.1+15*y.2.2.1+y.2.2.2.1,()) r=true) :
  P15 l [(i:Int)] r∧g15_0 l [(i:Int)] r=true:=by
 obtain ⟨g1,g2⟩:=groups_ok _ hl
 have hm:=mem_getD l i (ByteArray.empty,(0:Int),(0:Int),(0:Int),()) hi
 have hy:=group_range _ (g1 _ hm)
 have hp:P41 l [(i:Int)] r:=⟨i,rfl,by omega,by omega,by
  simp only [Int.toNat_natCast]
  generalize l.getD i (ByteArray.empty,(0:Int),(0:Int),(0:Int),())=y at hy
  unfold P75 g75_0
  simp only [i64_iff,and_true]
  omega⟩
 have ef:∀ y,fit41 y r=g57_0 (y.2.1,y.2.2.1,75*y.2.1+15*y.2.2.1+y.2.2.2.1,()) r:=fun y=>by
  unfold fit41 g57_0 g75_0
  have e1:75*y.2.1+15*y.2.2.1+y.2.2.2.1=y.2.1*75+y.2.2.1*15+y.2.2.2.1:=by omega
  rw [e1]
 have e1:g41_0 l [(i:Int)] r=true:=(ef _).trans (hf _ hm)
 have e2:g40_0 [(i:Int)] 0 ((l.length:Int) - 1)=true:=by
  unfold g40_0
  simp only [allI,ok40,in_dec]
  rw [decide_eq_true (show (0:Int)≤(i:Int)∧(i:Int)≤(l.length:Int) - 1 by omega)]
  rfl
 unfold P15 g15_0
 rw [hl,hr,e1,e2]
 simp only [if_true]
 exact ⟨⟨by rw [i64_iff];omega,hp,trivial⟩,by first | rfl | trivial⟩
theorem slack_eq2 (t:Int):∀ l:List TyB4,sk16 t l=sk60 t l
 | []=>rfl
 | [_]=>rfl
 | x :: y :: r=>by
  have ih:=slack_eq2 t (y :: r)
  have e:g104_0 x=x.1+x.2.1:=rfl
  simp only [sk16,sk60,ih,e]
  congr 1
  omega
theorem over_none {l:List TyB0} {d r:Int} (h:∀ y∈l,g59_0 y d r=false):g27_0 l d r=[]:=by
 unfold g27_0
 rw [List.filter_eq_nil_iff.2 (fun y hy=>by
  have e:g66_0 y d r=g59_0 y d r:=rfl
  rw [e,h y hy];decide)]
 rfl
theorem broken_none {l:List TyB2} (hl:g51_0 l=true) (h:g61_1 l=3):P67 l∧g67_0 l<0:=by
 obtain ⟨p,_,h1 | ⟨_,_,h1,_⟩⟩:=log_part l hl
 ·exact ⟨p,h1.1⟩
 ·rw [h1] at h;cases h
theorem passes {x:(TyA0)} (h:g19_0 x=true) (he:g7_0 x=[]):g53_0 x.1 x.2.1=true∧(∀ d,rideL (g32_0 x.2.2.2.1) (badS x.1 x.2.2.1 d (g25_0 x.1)) (g25_0 x.1) (g25_0 x.1).toNat 0 0 0=none) ∧
  (∀ y∈x.2.2.2.2.1,g57_0 (y.2.1,y.2.2.1,75*y.2.1+15*y.2.2.1+y.2.2.2.1,()) x.2.2.2.2.2.1=true)∧g27_0 x.2.2.2.2.2.2.1 x.2.2.2.2.2.2.2.1 x.2.2.2.2.2.2.2.2.1=[]∧(∀ n∈sk60 x.2.2.2.2.2.2.2.2.2.2.1 x.2.2.2.2.2.2.2.2.2.1,0≤n)∧P67 x.2.2.2.2.2.2.2.2.2.2.2.1∧g67_0 x.2.2.2.2.2.2.2.2.2.2.2.1<0:=by
 obtain ⟨h1,_,h3,h4,_,_,_,_,h8⟩:=works_ok x h
 have hu:=fun d=>unsafe_I (show g85_0 x.1=true from h1) (show g87_0 x.2.2.1=true from h3) (show g88_0 x.2.2.2.1=true from h4) d
 obtain ⟨e0,_⟩:=all_I x (fun _ d=>(hu d).1)
 rw [he,if_pos h] at e0
 have e0:=e0.symm
 simp only [List.append_eq_nil_iff] at e0
 obtain ⟨⟨a1,a2⟩,a3⟩:=e0
 obtain ⟨_,_,m⟩:=motion_I x h (fun d=>(hu d).1)
 obtain ⟨_,_,s⟩:=service_I x h
 obtain ⟨_,_,l⟩:=log_I x h
 obtain ⟨m1,m2⟩:=m a1
 obtain ⟨s1,s2,s3⟩:=s a2
 exact ⟨m1,fun d=>(hu d).2 (m2 d),s1,over_none s2,s3,broken_none h8 (l a3)⟩
noncomputable section
def ext3:Ext:=[(4,S4),(5,S5),(6,S6),(7,S7),(8,S8),(9,S9),(10,S10),(11,S11),(12,S12),(13,S13),(14,S14),(15,S15),(16,S16)]
theorem ext3Ok:ExtOk Tryz.prog ext3:=⟨⟨ca4,con4⟩,⟨ca5,con5⟩,⟨ca6,con6⟩,⟨ca7,con7⟩,⟨ca8,con8⟩,⟨ca9,con9⟩,⟨ca10,con10⟩,⟨ca11,con11⟩,⟨ca12,con12⟩,⟨ca13,con13⟩,⟨ca14,con14⟩,⟨ca15,con15⟩,⟨ca16,con16⟩,trivial⟩
noncomputable def b3:Code:=bodyOf Tryz.f3
theorem hb3:Tryz.f3.body=some b3:=by kernel_rfl
def sig3:List AT:=[AT.v (.sl (.int .u8))]
def tys3:List Ty:=[.bool]
def kds3:List RK:=[]
def oks3:List AT:=owns sig3
def E3_3 (x0:List Int):Env:=[(0,.a (.sl (.int .u8) x0))]
def L3_3 (x0:List Int):Heap:=[]
def E3_6 (x0:List Int):Env:=[(3,.a (.bptr 0 0 YA0))]
def L3_6 (x0:List Int):Heap:=[Option.some (Arr.mk YA0 [] false (Option.some [Leaf.sl YA11 (g4_0 x0).1.1,Leaf.val (Value.int .i64 (g4_0 x0).1.2.1),Leaf.val (Value.int .i64 (g4_0 x0).1.2.2.1),Leaf.val (Value.int .i64 (g4_0 x0).2.1),Leaf.val (Value.int .i64 (g4_0 x0).2.2.1.1),Leaf.val (Value.int .i64 (g4_0 x0).2.2.1.2.1),Leaf.val (Value.int .i64 (g4_0 x0).2.2.2.1.1),Leaf.val (Value.int .i64 (g4_0 x0).2.2.2.1.2.1),Leaf.val (Value.int .i64 (g4_0 x0).2.2.2.1.2.2.1),Leaf.val (Value.int .i64 (g4_0 x0).2.2.2.1.2.2.2.1),Leaf.sl YA5 (g4_0 x0).2.2.2.2.1,Leaf.val (Value.int .i64 (g4_0 x0).2.2.2.2.2.1.1),Leaf.val (Value.int .i64 (g4_0 x0).2.2.2.2.2.1.2.1),Leaf.val (Value.int .i64 (g4_0 x0).2.2.2.2.2.1.2.2.1),Leaf.sl YA3 (g4_0 x0).2.2.2.2.2.2.1,Leaf.val (Value.int .i64 (g4_0 x0).2.2.2.2.2.2.2.1),Leaf.val (Value.int .i64 (g4_0 x0).2.2.2.2.2.2.2.2.1),Leaf.sl YA11 (g4_0 x0).2.2.2.2.2.2.2.2.2.1,Leaf.val (Value.int .i64 (g4_0 x0).2.2.2.2.2.2.2.2.2.2.1),Leaf.sl YA6 (g4_0 x0).2.2.2.2.2.2.2.2.2.2.2.1]) Option.none)]
def E3_9 (x0:List Int):Env:=[(3,.a (.bptr 0 0 YA0))]
def L3_9 (x0:List Int):Heap:=[Option.some (Arr.mk YA0 [] false (Option.some [Leaf.sl YA11 (g4_0 x0).1.1,Leaf.val (Value.int .i64 (g4_0 x0).1.2.1),Leaf.val (Value.int .i64 (g4_0 x0).1.2.2.1),Leaf.val (Value.int .i64 (g4_0 x0).2.1),Leaf.val (Value.int .i64 (g4_0 x0).2.2.1.1),Leaf.val (Value.int .i64 (g4_0 x0).2.2.1.2.1),Leaf.val (Value.int .i64 (g4_0 x0).2.2.2.1.1),Leaf.val (Value.int .i64 (g4_0 x0).2.2.2.1.2.1),Leaf.val (Value.int .i64 (g4_0 x0).2.2.2.1.2.2.1),Leaf.val (Value.int .i64 (g4_0 x0).2.2.2.1.2.2.2.1),Leaf.sl YA5 (g4_0 x0).2.2.2.2.1,Leaf.val (Value.int .i64 (g4_0 x0).2.2.2.2.2.1.1),Leaf.val (Value.int .i64 (g4_0 x0).2.2.2.2.2.1.2.1),Leaf.val (Value.int .i64 (g4_0 x0).2.2.2.2.2.1.2.2.1),Leaf.sl YA3 (g4_0 x0).2.2.2.2.2.2.1,Leaf.val (Value.int .i64 (g4_0 x0).2.2.2.2.2.2.2.1),Leaf.val (Value.int .i64 (g4_0 x0).2.2.2.2.2.2.2.2.1),Leaf.sl YA11 (g4_0 x0).2.2.2.2.2.2.2.2.2.1,Leaf.val (Value.int .i64 (g4_0 x0).2.2.2.2.2.2.2.2.2.2.1),Leaf.sl YA6 (g4_0 x0).2.2.2.2.2.2.2.2.2.2.2.1]) Option.none)]
def E3_13 (x0:List Int):Env:=[(3,.a (.bptr 0 0 YA0)),(6,.a (.bptr 1 0 YA2)),(7,.a (.val (.int .i64 (g8_0 (g4_0 x0).1))))]
def L3_13 (x0:List Int):Heap:=[Option.some (Arr.mk YA0 [] false (Option.some [Leaf.sl YA11 (g4_0 x0).1.1,Leaf.val (Value.int .i64 (g4_0 x0).1.2.1),Leaf.val (Value.int .i64 (g4_0 x0).1.2.2.1),Leaf.val (Value.int .i64 (g4_0 x0).2.1),Leaf.val (Value.int .i64 (g4_0 x0).2.2.1.1),Leaf.val (Value.int .i64 (g4_0 x0).2.2.1.2.1),Leaf.val (Value.int .i64 (g4_0 x0).2.2.2.1.1),Leaf.val (Value.int .i64 (g4_0 x0).2.2.2.1.2.1),Leaf.val (Value.int .i64 (g4_0 x0).2.2.2.1.2.2.1),Leaf.val (Value.int .i64 (g4_0 x0).2.2.2.1.2.2.2.1),Leaf.sl YA5 (g4_0 x0).2.2.2.2.1,Leaf.val (Value.int .i64 (g4_0 x0).2.2.2.2.2.1.1),Leaf.val (Value.int .i64 (g4_0 x0).2.2.2.2.2.1.2.1),Leaf.val (Value.int .i64 (g4_0 x0).2.2.2.2.2.1.2.2.1),Leaf.sl YA3 (g4_0 x0).2.2.2.2.2.2.1,Leaf.val (Value.int .i64 (g4_0 x0).2.2.2.2.2.2.2.1),Leaf.val (Value.int .i64 (g4_0 x0).2.2.2.2.2.2.2.2.1),Leaf.sl YA11 (g4_0 x0).2.2.2.2.2.2.2.2.2.1,Leaf.val (Value.int .i64 (g4_0 x0).2.2.2.2.2.2.2.2.2.2.1),Leaf.sl YA6 (g4_0 x0).2.2.2.2.2.2.2.2.2.2.2.1]) Option.none),Option.some (Arr.mk YA2 [] false (Option.some [Leaf.sl YA11 (g4_0 x0).1.1,Leaf.val (Value.int .i64 (g4_0 x0).1.2.1),Leaf.val (Value.int .i64 (g4_0 x0).1.2.2.1)]) Option.none)]
def E3_15 (v9:Int) (v10:Int) (x0:List Int):Env:=[(3,.a (.bptr 0 0 YA0)),(6,.a (.bptr 1 0 YA2)),(7,.a (.val (.int .i64 (g8_0 (g4_0 x0).1)))),(9,.a (.val (.int .i64 v9))),(10,.a (.val (.int .i64 v10)))]
def L3_15 (v9:Int) (v10:Int) (x0:List Int):Heap:=[Option.some (Arr.mk YA0 [] false (Option.some [Leaf.sl YA11 (g4_0 x0).1.1,Leaf.val (Value.int .i64 (g4_0 x0).1.2.1),Leaf.val (Value.int .i64 (g4_0 x0).1.2.2.1),Leaf.val (Value.int .i64 (g4_0 x0).2.1),Leaf.val (Value.int .i64 (g4_0 x0).2.2.1.1),Leaf.val (Value.int .i64 (g4_0 x0).2.2.1.2.1),Leaf.val (Value.int .i64 (g4_0 x0).2.2.2.1.1),Leaf.val (Value.int .i64 (g4_0 x0).2.2.2.1.2.1),Leaf.val (Value.int .i64 (g4_0 x0).2.2.2.1.2.2.1),Leaf.val (Value.int .i64 (g4_0 x0).2.2.2.1.2.2.2.1),Leaf.sl YA5 (g4_0 x0).2.2.2.2.1,Leaf.val (Value.int .i64 (g4_0 x0).2.2.2.2.2.1.1),Leaf.val (Value.int .i64 (g4_0 x0).2.2.2.2.2.1.2.1),Leaf.val (Value.int .i64 (g4_0 x0).2.2.2.2.2.1.2.2.1),Leaf.sl YA3 (g4_0 x0).2.2.2.2.2.2.1,Leaf.val (Value.int .i64 (g4_0 x0).2.2.2.2.2.2.2.1),Leaf.val (Value.int .i64 (g4_0 x0).2.2.2.2.2.2.2.2.1),Leaf.sl YA11 (g4_0 x0).2.2.2.2.2.2.2.2.2.1,Leaf.val (Value.int .i64 (g4_0 x0).2.2.2.2.2.2.2.2.2.2.1),Leaf.sl YA6 (g4_0 x0).2.2.2.2.2.2.2.2.2.2.2.1]) Option.none),Option.some (Arr.mk YA2 [] false (Option.some [Leaf.sl YA11 (g4_0 x0).1.1,Leaf.val (Value.int .i64 (g4_0 x0).1.2.1),Leaf.val (Value.int .i64 (g4_0 x0).1.2.2.1)]) Option.none)]
def E3_16 (x0:List Int) (v9:Int) (v10:Int):Env:=[(3,.a (.bptr 0 0 YA0)),(6,.a (.bptr 1 0 YA2)),(7,.a (.val (.int .i64 (g8_0 (g4_0 x0).1)))),(9,.a (.val (.int .i64 v9))),(10,.a (.val (.int .i64 v10)))]
def L3_16 (x0:List Int) (v9:Int) (v10:Int):Heap:=[Option.some (Arr.mk YA0 [] false (Option.some [Leaf.sl YA11 (g4_0 x0).1.1,Leaf.val (Value.int .i64 (g4_0 x0).1.2.1),Leaf.val (Value.int .i64 (g4_0 x0).1.2.2.1),Leaf.val (Value.int .i64 (g4_0 x0).2.1),Leaf.val (Value.int .i64 (g4_0 x0).2.2.1.1),Leaf.val (Value.int .i64 (g4_0 x0).2.2.1.2.1),Leaf.val (Value.int .i64 (g4_0 x0).2.2.2.1.1),Leaf.val (Value.int .i64 (g4_0 x0).2.2.2.1.2.1),Leaf.val (Value.int .i64 (g4_0 x0).2.2.2.1.2.2.1),Leaf.val (Value.int .i64 (g4_0 x0).2.2.2.1.2.2.2.1),Leaf.sl YA5 (g4_0 x0).2.2.2.2.1,Leaf.val (Value.int .i64 (g4_0 x0).2.2.2.2.2.1.1),Leaf.val (Value.int .i64 (g4_0 x0).2.2.2.2.2.1.2.1),Leaf.val (Value.int .i64 (g4_0 x0).2.2.2.2.2.1.2.2.1),Leaf.sl YA3 (g4_0 x0).2.2.2.2.2.2.1,Leaf.val (Value.int .i64 (g4_0 x0).2.2.2.2.2.2.2.1),Leaf.val (Value.int .i64 (g4_0 x0).2.2.2.2.2.2.2.2.1),Leaf.sl YA11 (g4_0 x0).2.2.2.2.2.2.2.2.2.1,Leaf.val (Value.int .i64 (g4_0 x0).2.2.2.2.2.2.2.2.2.2.1),Leaf.sl YA6 (g4_0 x0).2.2.2.2.2.2.2.2.2.2.2.1]) Option.none),Option.some (Arr.mk YA2 [] false (Option.some [Leaf.sl YA11 (g4_0 x0).1.1,Leaf.val (Value.int .i64 (g4_0 x0).1.2.1),Leaf.val (Value.int .i64 (g4_0 x0).1.2.2.1)]) Option.none)]
def E3_28 (v16:Int) (x0:List Int):Env:=[(3,.a (.bptr 0 0 YA0)),(16,.a (.val (.int .i64 v16)))]
def L3_28 (v16:Int) (x0:List Int):Heap:=[Option.some (Arr.mk YA0 [] false (Option.some [Leaf.sl YA11 (g4_0 x0).1.1,Leaf.val (Value.int .i64 (g4_0 x0).1.2.1),Leaf.val (Value.int .i64 (g4_0 x0).1.2.2.1),Leaf.val (Value.int .i64 (g4_0 x0).2.1),Leaf.val (Value.int .i64 (g4_0 x0).2.2.1.1),Leaf.val (Value.int .i64 (g4_0 x0).2.2.1.2.1),Leaf.val (Value.int .i64 (g4_0 x0).2.2.2.1.1),Leaf.val (Value.int .i64 (g4_0 x0).2.2.2.1.2.1),Leaf.val (Value.int .i64 (g4_0 x0).2.2.2.1.2.2.1),Leaf.val (Value.int .i64 (g4_0 x0).2.2.2.1.2.2.2.1),Leaf.sl YA5 (g4_0 x0).2.2.2.2.1,Leaf.val (Value.int .i64 (g4_0 x0).2.2.2.2.2.1.1),Leaf.val (Value.int .i64 (g4_0 x0).2.2.2.2.2.1.2.1),Leaf.val (Value.int .i64 (g4_0 x0).2.2.2.2.2.1.2.2.1),Leaf.sl YA3 (g4_0 x0).2.2.2.2.2.2.1,Leaf.val (Value.int .i64 (g4_0 x0).2.2.2.2.2.2.2.1),Leaf.val (Value.int .i64 (g4_0 x0).2.2.2.2.2.2.2.2.1),Leaf.sl YA11 (g4_0 x0).2.2.2.2.2.2.2.2.2.1,Leaf.val (Value.int .i64 (g4_0 x0).2.2.2.2.2.2.2.2.2.2.1),Leaf.sl YA6 (g4_0 x0).2.2.2.2.2.2.2.2.2.2.2.1]) Option.none)]
def E3_19 (x0:List Int) (v9:Int) (v10:Int):Env:=[(3,.a (.bptr 0 0 YA0)),(6,.a (.bptr 1 0 YA2)),(7,.a (.val (.int .i64 (g8_0 (g4_0 x0).1)))),(9,.a (.val (.int .i64 v9))),(11,.a (.val (.int .i64 (g11_0 (g4_0 x0).2.2.2.1 v10 (g8_0 (g4_0 x0).1 - v9))))),(87,.a (.val (.int .i64 (g11_0 (g4_0 x0).2.2.2.1 v10 (g8_0 (g4_0 x0).1 - v9))))),(88,.a (.val (.bool (decide (g11_0 (g4_0 x0).2.2.2.1 v10 (g8_0 (g4_0 x0).1 - v9)<1)))))]
def L3_19 (x0:List Int) (v9:Int) (v10:Int):Heap:=[Option.some (Arr.mk YA0 [] false (Option.some [Leaf.sl YA11 (g4_0 x0).1.1,Leaf.val (Value.int .i64 (g4_0 x0).1.2.1),Leaf.val (Value.int .i64 (g4_0 x0).1.2.2.1),Leaf.val (Value.int .i64 (g4_0 x0).2.1),Leaf.val (Value.int .i64 (g4_0 x0).2.2.1.1),Leaf.val (Value.int .i64 (g4_0 x0).2.2.1.2.1),Leaf.val (Value.int .i64 (g4_0 x0).2.2.2.1.1),Leaf.val (Value.int .i64 (g4_0 x0).2.2.2.1.2.1),Leaf.val (Value.int .i64 (g4_0 x0).2.2.2.1.2.2.1),Leaf.val (Value.int .i64 (g4_0 x0).2.2.2.1.2.2.2.1),Leaf.sl YA5 (g4_0 x0).2.2.2.2.1,Leaf.val (Value.int .i64 (g4_0 x0).2.2.2.2.2.1.1),Leaf.val (Value.int .i64 (g4_0 x0).2.2.2.2.2.1.2.1),Leaf.val (Value.int .i64 (g4_0 x0).2.2.2.2.2.1.2.2.1),Leaf.sl YA3 (g4_0 x0).2.2.2.2.2.2.1,Leaf.val (Value.int .i64 (g4_0 x0).2.2.2.2.2.2.2.1),Leaf.val (Value.int .i64 (g4_0 x0).2.2.2.2.2.2.2.2.1),Leaf.sl YA11 (g4_0 x0).2.2.2.2.2.2.2.2.2.1,Leaf.val (Value.int .i64 (g4_0 x0).2.2.2.2.2.2.2.2.2.2.1),Leaf.sl YA6 (g4_0 x0).2.2.2.2.2.2.2.2.2.2.2.1]) Option.none),Option.some (Arr.mk YA2 [] false (Option.some [Leaf.sl YA11 (g4_0 x0).1.1,Leaf.val (Value.int .i64 (g4_0 x0).1.2.1),Leaf.val (Value.int .i64 (g4_0 x0).1.2.2.1)]) Option.none)]
def E3_30 (v16:Int) (x0:List Int):Env:=[(3,.a (.bptr 0 0 YA0)),(16,.a (.val (.int .i64 v16)))]
def L3_30 (v16:Int) (x0:List Int):Heap:=[Option.some (Arr.mk YA0 [] false (Option.some [Leaf.sl YA11 (g4_0 x0).1.1,Leaf.val (Value.int .i64 (g4_0 x0).1.2.1),Leaf.val (Value.int .i64 (g4_0 x0).1.2.2.1),Leaf.val (Value.int .i64 (g4_0 x0).2.1),Leaf.val (Value.int .i64 (g4_0 x0).2.2.1.1),Leaf.val (Value.int .i64 (g4_0 x0).2.2.1.2.1),Leaf.val (Value.int .i64 (g4_0 x0).2.2.2.1.1),Leaf.val (Value.int .i64 (g4_0 x0).2.2.2.1.2.1),Leaf.val (Value.int .i64 (g4_0 x0).2.2.2.1.2.2.1),Leaf.val (Value.int .i64 (g4_0 x0).2.2.2.1.2.2.2.1),Leaf.sl YA5 (g4_0 x0).2.2.2.2.1,Leaf.val (Value.int .i64 (g4_0 x0).2.2.2.2.2.1.1),Leaf.val (Value.int .i64 (g4_0 x0).2.2.2.2.2.1.2.1),Leaf.val (Value.int .i64 (g4_0 x0).2.2.2.2.2.1.2.2.1),Leaf.sl YA3 (g4_0 x0).2.2.2.2.2.2.1,Leaf.val (Value.int .i64 (g4_0 x0).2.2.2.2.2.2.2.1),Leaf.val (Value.int .i64 (g4_0 x0).2.2.2.2.2.2.2.2.1),Leaf.sl YA11 (g4_0 x0).2.2.2.2.2.2.2.2.2.1,Leaf.val (Value.int .i64 (g4_0 x0).2.2.2.2.2.2.2.2.2.2.1),Leaf.sl YA6 (g4_0 x0).2.2.2.2.2.2.2.2.2.2.2.1]) Option.none)]
def E3_34 (v19:Int) (x0:List Int):Env:=[(17,.a (.osl 0 Option.none)),(18,.a (.val (.int .i64 (g16_1 (g4_0 x0).2.2.2.2.2.2.2.2.2.1 (g4_0 x0).2.2.2.2.2.2.2.2.2.2.1)))),(19,.a (.val (.int .i64 v19)))]
def L3_34 (v19:Int) (x0:List Int):Heap:=[Option.some (Arr.mk (.int .i64) (g16_0 (g4_0 x0).2.2.2.2.2.2.2.2.2.1 (g4_0 x0).2.2.2.2.2.2.2.2.2.2.1) false Option.none Option.none)]
def E3_23 (x0:List Int) (v9:Int) (v10:Int):Env:=[(3,.a (.bptr 0 0 YA0)),(6,.a (.bptr 1 0 YA2)),(7,.a (.val (.int .i64 (g8_0 (g4_0 x0).1)))),(9,.a (.val (.int .i64 (v9+g11_0 (g4_0 x0).2.2.2.1 v10 (g8_0 (g4_0 x0).1 - v9))))),(10,.a (.val (.int .i64 (g11_0 (g4_0 x0).2.2.2.1 v10 (g8_0 (g4_0 x0).1 - v9))))),(87,.a (.val (.int .i64 (g11_0 (g4_0 x0).2.2.2.1 v10 (g8_0 (g4_0 x0).1 - v9))))),(88,.a (.val (.bool (decide (g11_0 (g4_0 x0).2.2.2.1 v10 (g8_0 (g4_0 x0).1 - v9)<1)))))]
def L3_23 (x0:List Int) (v9:Int) (v10:Int):Heap:=[Option.some (Arr.mk YA0 [] false (Option.some [Leaf.sl YA11 (g4_0 x0).1.1,Leaf.val (Value.int .i64 (g4_0 x0).1.2.1),Leaf.val (Value.int .i64 (g4_0 x0).1.2.2.1),Leaf.val (Value.int .i64 (g4_0 x0).2.1),Leaf.val (Value.int .i64 (g4_0 x0).2.2.1.1),Leaf.val (Value.int .i64 (g4_0 x0).2.2.1.2.1),Leaf.val (Value.int .i64 (g4_0 x0).2.2.2.1.1),Leaf.val (Value.int .i64 (g4_0 x0).2.2.2.1.2.1),Leaf.val (Value.int .i64 (g4_0 x0).2.2.2.1.2.2.1),Leaf.val (Value.int .i64 (g4_0 x0).2.2.2.1.2.2.2.1),Leaf.sl YA5 (g4_0 x0).2.2.2.2.1,Leaf.val (Value.int .i64 (g4_0 x0).2.2.2.2.2.1.1),Leaf.val (Value.int .i64 (g4_0 x0).2.2.2.2.2.1.2.1),Leaf.val (Value.int .i64 (g4_0 x0).2.2.2.2.2.1.2.2.1),Leaf.sl YA3 (g4_0 x0).2.2.2.2.2.2.1,Leaf.val (Value.int .i64 (g4_0 x0).2.2.2.2.2.2.2.1),Leaf.val (Value.int .i64 (g4_0 x0).2.2.2.2.2.2.2.2.1),Leaf.sl YA11 (g4_0 x0).2.2.2.2.2.2.2.2.2.1,Leaf.val (Value.int .i64 (g4_0 x0).2.2.2.2.2.2.2.2.2.2.1),Leaf.sl YA6 (g4_0 x0).2.2.2.2.2.2.2.2.2.2.2.1]) Option.none),Option.some (Arr.mk YA2 [] false (Option.some [Leaf.sl YA11 (g4_0 x0).1.1,Leaf.val (Value.int .i64 (g4_0 x0).1.2.1),Leaf.val (Value.int .i64 (g4_0 x0).1.2.2.1)]) Option.none)]
def E3_29 (v16:Int) (x0:List Int):Env:=[(3,.a (.bptr 0 0 YA0)),(16,.a (.val (.int .i64 v16)))]
def L3_29 (v16:Int) (x0:List Int):Heap:=[Option.some (Arr.mk YA0 [] false (Option.some [Leaf.sl YA11 (g4_0 x0).1.1,Leaf.val (Value.int .i64 (g4_0 x0).1.2.1),Leaf.val (Value.int .i64 (g4_0 x0).1.2.2.1),Leaf.val (Value.int .i64 (g4_0 x0).2.1),Leaf.val (Value.int .i64 (g4_0 x0).2.2.1.1),Leaf.val (Value.int .i64 (g4_0 x0).2.2.1.2.1),Leaf.val (Value.int .i64 (g4_0 x0).2.2.2.1.1),Leaf.val (Value.int .i64 (g4_0 x0).2.2.2.1.2.1),Leaf.val (Value.int .i64 (g4_0 x0).2.2.2.1.2.2.1),Leaf.val (Value.int .i64 (g4_0 x0).2.2.2.1.2.2.2.1),Leaf.sl YA5 (g4_0 x0).2.2.2.2.1,Leaf.val (Value.int .i64 (g4_0 x0).2.2.2.2.2.1.1),Leaf.val (Value.int .i64 (g4_0 x0).2.2.2.2.2.1.2.1),Leaf.val (Value.int .i64 (g4_0 x0).2.2.2.2.2.1.2.2.1),Leaf.sl YA3 (g4_0 x0).2.2.2.2.2.2.1,Leaf.val (Value.int .i64 (g4_0 x0).2.2.2.2.2.2.2.1),Leaf.val (Value.int .i64 (g4_0 x0).2.2.2.2.2.2.2.2.1),Leaf.sl YA11 (g4_0 x0).2.2.2.2.2.2.2.2.2.1,Leaf.val (Value.int .i64 (g4_0 x0).2.2.2.2.2.2.2.2.2.2.1),Leaf.sl YA6 (g4_0 x0).2.2.2.2.2.2.2.2.2.2.2.1]) Option.none)]
def E3_36 (x0:List Int) (v19:Int):Env:=[(17,.a (.osl 0 Option.none)),(18,.a (.val (.int .i64 (g16_1 (g4_0 x0).2.2.2.2.2.2.2.2.2.1 (g4_0 x0).2.2.2.2.2.2.2.2.2.2.1)))),(19,.a (.val (.int .i64 v19)))]
def L3_36 (x0:List Int) (v19:Int):Heap:=[Option.some (Arr.mk (.int .i64) (g16_0 (g4_0 x0).2.2.2.2.2.2.2.2.2.1 (g4_0 x0).2.2.2.2.2.2.2.2.2.2.1) false Option.none Option.none)]
def E3_35 (x0:List Int) (v19:Int):Env:=[(17,.a (.osl 0 Option.none)),(18,.a (.val (.int .i64 (g16_1 (g4_0 x0).2.2.2.2.2.2.2.2.2.1 (g4_0 x0).2.2.2.2.2.2.2.2.2.2.1)))),(19,.a (.val (.int .i64 v19)))]
def L3_35 (x0:List Int) (v19:Int):Heap:=[Option.some (Arr.mk (.int .i64) (g16_0 (g4_0 x0).2.2.2.2.2.2.2.2.2.1 (g4_0 x0).2.2.2.2.2.2.2.2.2.2.1) false Option.none Option.none)]
mutual
def R3:Nat→List Int→List Dyn→Prop
 | 0,_,_=>False
 | n+1,x0,ds=>(if (decide ((x0.length:Int)>1048576))=true then (ds=[Dyn.mk .bool true]) else (R3_3 n (x0) ds))
def R3_3:Nat→List Int→List Dyn→Prop
 | 0,_,_=>False
 | n+1,x0,ds=>((P4 x0)∧(if (!g5_0 (g4_0 x0))=true then ((P6 (g4_0 x0))∧(ds=[Dyn.mk .bool !g6_0 (g4_0 x0)])) else (R3_6 n (x0) ds)))
def R3_6:Nat→List Int→List Dyn→Prop
 | 0,_,_=>False
 | n+1,x0,ds=>((P6 (g4_0 x0))∧(if (!g6_0 (g4_0 x0))=true then ((P7 (g4_0 x0))∧(if (g7_1 (g4_0 x0)==0)=true then (ds=[Dyn.mk .bool (decide ((↑(List.length (g7_0 (g4_0 x0))):Int)>0))]) else (ds=[Dyn.mk .bool false]))) else (R3_9 n (x0) ds)))
def R3_9:Nat→List Int→List Dyn→Prop
 | 0,_,_=>False
 | n+1,x0,ds=>((P8 (g4_0 x0).1)∧(if (g8_1 (g4_0 x0).1 != 0)=true then (ds=[Dyn.mk .bool false]) else ((P9 (g4_0 x0).2.2.2.2.2.2.1 (g4_0 x0).2.2.2.2.2.2.2.1 (g4_0 x0).2.2.2.2.2.2.2.2.1)∧(if (!g9_0 (g4_0 x0).2.2.2.2.2.2.1 (g4_0 x0).2.2.2.2.2.2.2.1 (g4_0 x0).2.2.2.2.2.2.2.2.1)=true then (ds=[Dyn.mk .bool false]) else ((P10 (g4_0 x0).2.2.2.2.2.2.2.2.2.2.2.1)∧(if (!g10_0 (g4_0 x0).2.2.2.2.2.2.2.2.2.2.2.1)=true then (ds=[Dyn.mk .bool false]) else (R3_13 n (x0) ds)))))))
def R3_13:Nat→List Int→List Dyn→Prop
 | 0,_,_=>False
 | n+1,x0,ds=>(R3_15 n (0) (0) (x0) ds)
def R3_15:Nat→Int→Int→List Int→List Dyn→Prop
 | 0,_,_,_,_=>False
 | n+1,v9,v10,x0,ds=>(if (decide (v9<g8_0 (g4_0 x0).1))=true then (R3_16 n (x0) (v9) (v10) ds) else (R3_28 n (0) (x0) ds))
def R3_16:Nat→List Int→Int→Int→List Dyn→Prop
 | 0,_,_,_,_=>False
 | n+1,x0,v9,v10,ds=>((InR .i64 (g8_0 (g4_0 x0).1 - v9))∧((P11 (g4_0 x0).2.2.2.1 v10 (g8_0 (g4_0 x0).1 - v9))∧(if (g11_1 (g4_0 x0).2.2.2.1 v10 (g8_0 (g4_0 x0).1 - v9) != 0)=true then (ds=[Dyn.mk .bool false]) else (if (decide (g11_0 (g4_0 x0).2.2.2.1 v10 (g8_0 (g4_0 x0).1 - v9)<1))=true then (ds=[Dyn.mk .bool false]) else (R3_19 n (x0) (v9) (v10) ds)))))
def R3_28:Nat→Int→List Int→List Dyn→Prop
 | 0,_,_,_=>False
 | n+1,v16,x0,ds=>(if (decide (v16<(↑(List.length (g4_0 x0).2.2.2.2.1):Int)))=true then (R3_30 n (v16) (x0) ds) else ((P16 (g4_0 x0).2.2.2.2.2.2.2.2.2.1 (g4_0 x0).2.2.2.2.2.2.2.2.2.2.1)∧(R3_34 n (0) (x0) ds)))
def R3_19:Nat→List Int→Int→Int→List Dyn→Prop
 | 0,_,_,_,_=>False
 | n+1,x0,v9,v10,ds=>((InR .i64 (v9+g11_0 (g4_0 x0).2.2.2.1 v10 (g8_0 (g4_0 x0).1 - v9)))∧(if (decide (v9+g11_0 (g4_0 x0).2.2.2.1 v10 (g8_0 (g4_0 x0).1 - v9)<g8_0 (g4_0 x0).1))=true then ((P12 (g4_0 x0).1 (g4_0 x0).2.2.1 (v9+g11_0 (g4_0 x0).2.2.2.1 v10 (g8_0 (g4_0 x0).1 - v9)) (g11_0 (g4_0 x0).2.2.2.1 v10 (g8_0 (g4_0 x0).1 - v9)) false)∧(if (!g12_0 (g4_0 x0).1 (g4_0 x0).2.2.1 (v9+g11_0 (g4_0 x0).2.2.2.1 v10 (g8_0 (g4_0 x0).1 - v9)) (g11_0 (g4_0 x0).2.2.2.1 v10 (g8_0 (g4_0 x0).1 - v9)) false)=true then (ds=[Dyn.mk .bool false]) else ((InR .i64 (g8_0 (g4_0 x0).1 - (v9+g11_0 (g4_0 x0).2.2.2.1 v10 (g8_0 (g4_0 x0).1 - v9))))∧((P12 (g4_0 x0).1 (g4_0 x0).2.2.1 (g8_0 (g4_0 x0).1 - (v9+g11_0 (g4_0 x0).2.2.2.1 v10 (g8_0 (g4_0 x0).1 - v9))) (g11_0 (g4_0 x0).2.2.2.1 v10 (g8_0 (g4_0 x0).1 - v9)) true)∧(if (!g12_0 (g4_0 x0).1 (g4_0 x0).2.2.1 (g8_0 (g4_0 x0).1 - (v9+g11_0 (g4_0 x0).2.2.2.1 v10 (g8_0 (g4_0 x0).1 - v9))) (g11_0 (g4_0 x0).2.2.2.1 v10 (g8_0 (g4_0 x0).1 - v9)) true)=true then (ds=[Dyn.mk .bool false]) else (R3_23 n (x0) (v9) (v10) ds)))))) else (R3_23 n (x0) (v9) (v10) ds)))
def R3_30:Nat→Int→List Int→List Dyn→Prop
 | 0,_,_,_=>False
 | n+1,v16,x0,ds=>((P15 (g4_0 x0).2.2.2.2.1 [v16] (g4_0 x0).2.2.2.2.2.1)∧(if (!g15_0 (g4_0 x0).2.2.2.2.1 [v16] (g4_0 x0).2.2.2.2.2.1)=true then (ds=[Dyn.mk .bool false]) else (R3_29 n (v16) (x0) ds)))
def R3_34:Nat→Int→List Int→List Dyn→Prop
 | 0,_,_,_=>False
 | n+1,v19,x0,ds=>(if (decide (v19<(↑(List.length (g16_0 (g4_0 x0).2.2.2.2.2.2.2.2.2.1 (g4_0 x0).2.2.2.2.2.2.2.2.2.2.1)):Int)))=true then (R3_36 n (x0) (v19) ds) else (ds=[Dyn.mk .bool (g16_1 (g4_0 x0).2.2.2.2.2.2.2.2.2.1 (g4_0 x0).2.2.2.2.2.2.2.2.2.2.1==0)]))
def R3_23:Nat→List Int→Int→Int→List Dyn→Prop
 | 0,_,_,_,_=>False
 | n+1,x0,v9,v10,ds=>((P13 (g4_0 x0).1 (v9+g11_0 (g4_0 x0).2.2.2.1 v10 (g8_0 (g4_0 x0).1 - v9)))∧((P14 (g4_0 x0).1 (v9+g11_0 (g4_0 x0).2.2.2.1 v10 (g8_0 (g4_0 x0).1 - v9)))∧(if (g14_1 (g4_0 x0).1 (v9+g11_0 (g4_0 x0).2.2.2.1 v10 (g8_0 (g4_0 x0).1 - v9)) != 0)=true then (ds=[Dyn.mk .bool false]) else (if (!g13_0 (g4_0 x0).1 (v9+g11_0 (g4_0 x0).2.2.2.1 v10 (g8_0 (g4_0 x0).1 - v9)))=true then (if (decide (g14_0 (g4_0 x0).1 (v9+g11_0 (g4_0 x0).2.2.2.1 v10 (g8_0 (g4_0 x0).1 - v9))<(g4_0 x0).2.1))=true then (ds=[Dyn.mk .bool false]) else (R3_15 n (v9+g11_0 (g4_0 x0).2.2.2.1 v10 (g8_0 (g4_0 x0).1 - v9)) (g11_0 (g4_0 x0).2.2.2.1 v10 (g8_0 (g4_0 x0).1 - v9)) (x0) ds)) else (R3_15 n (v9+g11_0 (g4_0 x0).2.2.2.1 v10 (g8_0 (g4_0 x0).1 - v9)) (g11_0 (g4_0 x0).2.2.2.1 v10 (g8_0 (g4_0 x0).1 - v9)) (x0) ds)))))
def R3_29:Nat→Int→List Int→List Dyn→Prop
 | 0,_,_,_=>False
 | n+1,v16,x0,ds=>((InR .i64 (v16+1))∧(R3_28 n (v16+1) (x0) ds))
def R3_36:Nat→List Int→Int→List Dyn→Prop
 | 0,_,_,_=>False
 | n+1,x0,v19,ds=>((0≤v19)∧(v19<(↑(List.length (g16_0 (g4_0 x0).2.2.2.2.2.2.2.2.2.1 (g4_0 x0).2.2.2.2.2.2.2.2.2.2.1)):Int))∧(if (decide (List.getD (g16_0 (g4_0 x0).2.2.2.2.2.2.2.2.2.1 (g4_0 x0).2.2.2.2.2.2.2.2.2.2.1) (Int.toNat v19) 0<0))=true then (ds=[Dyn.mk .bool false]) else (R3_35 n (x0) (v19) ds)))
def R3_35:Nat→List Int→Int→List Dyn→Prop
 | 0,_,_,_=>False
 | n+1,x0,v19,ds=>((InR .i64 (v19+1))∧(R3_34 n (v19+1) (x0) ds))
end
theorem snd3:∀ n,(∀ (x0:List Int) ds,R3 n x0 ds→∀ K q,AtV Tryz.prog 3 (PostR kds3 oks3 ds [] [] q K) 174 K q [] [.code b3] (entE 0 0 sig3 (x0,())) (entL sig3 (x0,())))∧(∀ (x0:List Int) ds,R3_3 n x0 ds→∀ K q,AtV Tryz.prog 3 (PostR kds3 oks3 ds [] [] q K) 174 K q [] (cutAt b3 3) (E3_3 x0) (L3_3 x0))∧(∀ (x0:List Int) ds,R3_6 n x0 ds→∀ K q,AtV Tryz.prog 3 (PostR kds3 oks3 ds [] [] q K) 174 K q [] (cutAt b3 6) (E3_6 x0) (L3_6 x0))∧(∀ (x0:List Int) ds,R3_9 n x0 ds→∀ K q,AtV Tryz.prog 3 (PostR kds3 oks3 ds [] [] q K) 174 K q [] (cutAt b3 9) (E3_9 x0) (L3_9 x0))∧(∀ (x0:List Int) ds,R3_13 n x0 ds→∀ K q,AtV Tryz.prog 3 (PostR kds3 oks3 ds [] [] q K) 174 K q [] (cutAt b3 13) (E3_13 x0) (L3_13 x0))∧(∀ (v9:Int) (v10:Int) (x0:List Int) ds,R3_15 n v9 v10 x0 ds→∀ K q,AtV Tryz.prog 3 (PostR kds3 oks3 ds [] [] q K) 174 K q [] (cutAt b3 15) (E3_15 v9 v10 x0) (L3_15 v9 v10 x0))∧(∀ (x0:List Int) (v9:Int) (v10:Int) ds,R3_16 n x0 v9 v10 ds→∀ K q,AtV Tryz.prog 3 (PostR kds3 oks3 ds [] [] q K) 174 K q [] (cutAt b3 16) (E3_16 x0 v9 v10) (L3_16 x0 v9 v10))∧(∀ (v16:Int) (x0:List Int) ds,R3_28 n v16 x0 ds→∀ K q,AtV Tryz.prog 3 (PostR kds3 oks3 ds [] [] q K) 174 K q [] (cutAt b3 28) (E3_28 v16 x0) (L3_28 v16 x0))∧(∀ (x0:List Int) (v9:Int) (v10:Int) ds,R3_19 n x0 v9 v10 ds→∀ K q,AtV Tryz.prog 3 (PostR kds3 oks3 ds [] [] q K) 174 K q [] (cutAt b3 19) (E3_19 x0 v9 v10) (L3_19 x0 v9 v10))∧(∀ (v16:Int) (x0:List Int) ds,R3_30 n v16 x0 ds→∀ K q,AtV Tryz.prog 3 (PostR kds3 oks3 ds [] [] q K) 174 K q [] (cutAt b3 30) (E3_30 v16 x0) (L3_30 v16 x0))∧(∀ (v19:Int) (x0:List Int) ds,R3_34 n v19 x0 ds→∀ K q,AtV Tryz.prog 3 (PostR kds3 oks3 ds [] [] q K) 174 K q [] (cutAt b3 34) (E3_34 v19 x0) (L3_34 v19 x0))∧(∀ (x0:List Int) (v9:Int) (v10:Int) ds,R3_23 n x0 v9 v10 ds→∀ K q,AtV Tryz.prog 3 (PostR kds3 oks3 ds [] [] q K) 174 K q [] (cutAt b3 23) (E3_23 x0 v9 v10) (L3_23 x0 v9 v10))∧(∀ (v16:Int) (x0:List Int) ds,R3_29 n v16 x0 ds→∀ K q,AtV Tryz.prog 3 (PostR kds3 oks3 ds [] [] q K) 174 K q [] (cutAt b3 29) (E3_29 v16 x0) (L3_29 v16 x0))∧(∀ (x0:List Int) (v19:Int) ds,R3_36 n x0 v19 ds→∀ K q,AtV Tryz.prog 3 (PostR kds3 oks3 ds [] [] q K) 174 K q [] (cutAt b3 36) (E3_36 x0 v19) (L3_36 x0 v19))∧(∀ (x0:List Int) (v19:Int) ds,R3_35 n x0 v19 ds→∀ K q,AtV Tryz.prog 3 (PostR kds3 oks3 ds [] [] q K) 174 K q [] (cutAt b3 35) (E3_35 x0 v19) (L3_35 x0 v19)):=by
 intro n
 induction n with
 | zero=>exact ⟨fun _ _ h=>by simp only [R3] at h,fun _ _ h=>by simp only [R3_3] at h,fun _ _ h=>by simp only [R3_6] at h,fun _ _ h=>by simp only [R3_9] at h,fun _ _ h=>by simp only [R3_13] at h,fun _ _ _ _ h=>by simp only [R3_15] at h,fun _ _ _ _ h=>by simp only [R3_16] at h,fun _ _ _ h=>by simp only [R3_28] at h,fun _ _ _ _ h=>by simp only [R3_19] at h,fun _ _ _ h=>by simp only [R3_30] at h,fun _ _ _ h=>by simp only [R3_34] at h,fun _ _ _ _ h=>by simp only [R3_23] at h,fun _ _ _ h=>by simp only [R3_29] at h,fun _ _ _ h=>by simp only [R3_36] at h,fun _ _ _ h=>by simp only [R3_35] at h⟩
 | succ n ih =>
 obtain ⟨ih,ih3,ih6,ih9,ih13,ih15,ih16,ih28,ih19,ih30,ih34,ih23,ih29,ih36,ih35⟩:=ih
 refine ⟨?_,?_,?_,?_,?_,?_,?_,?_,?_,?_,?_,?_,?_,?_,?_⟩
 ·intro x0 ds h K q
  rw [R3] at h
  by_cases b0:(decide ((x0.length:Int)>1048576))=true
  ·rw [if_pos b0] at h
   subst h
   exact AtV.ret Tryz.func3 tabOk ext3Ok mixed false [3,6,9,13,16,19,23,30,29,36,35] tys3 [true] (a1 b0 trivial) (by kernel_rfl)
  ·rw [if_neg b0] at h
   replace b0:=bf_ b0
   exact AtV.go tabOk ext3Ok mixed false [3,6,9,13,16,19,23,30,29,36,35] [] [0] [] [false] (a1 b0 trivial) (ih3 _ _ h K q) (by kernel_rfl)
 ·intro x0 ds h K q
  rw [R3_3] at h
  obtain ⟨s0,h⟩:=h
  by_cases b0:(!g5_0 (g4_0 x0))=true
  ·rw [if_pos b0] at h
   obtain ⟨s1,h⟩:=h
   subst h
   exact AtV.ret Tryz.func3 tabOk ext3Ok mixed false [3,6,9,13,16,19,23,30,29,36,35] tys3 [true] (a1 s0 (a1 trivial (a1 b0 (a1 s1 trivial)))) (by kernel_rfl)
  ·rw [if_neg b0] at h
   replace b0:=bf_ b0
   exact AtV.go tabOk ext3Ok mixed false [3,6,9,13,16,19,23,30,29,36,35] [] [3] [0] [false] (a1 s0 (a1 trivial (a1 b0 trivial))) (ih6 _ _ h K q) (by kernel_rfl)
 ·intro x0 ds h K q
  rw [R3_6] at h
  obtain ⟨s0,h⟩:=h
  by_cases b0:(!g6_0 (g4_0 x0))=true
  ·rw [if_pos b0] at h
   obtain ⟨s1,h⟩:=h
   by_cases b1:(g7_1 (g4_0 x0)==0)=true
   ·rw [if_pos b1] at h
    subst h
    exact AtV.ret Tryz.func3 tabOk ext3Ok mixed false [3,6,9,13,16,19,23,30,29,36,35] tys3 [true,true] (a1 s0 (a1 b0 (a1 s1 (a1 b1 trivial)))) (by kernel_rfl)
   ·rw [if_neg b1] at h
    replace b1:=bf_ b1
    subst h
    exact AtV.ret Tryz.func3 tabOk ext3Ok mixed false [3,6,9,13,16,19,23,30,29,36,35] tys3 [true,false] (a1 s0 (a1 b0 (a1 s1 (a1 b1 trivial)))) (by kernel_rfl)
  ·rw [if_neg b0] at h
   replace b0:=bf_ b0
   exact AtV.go tabOk ext3Ok mixed false [3,6,9,13,16,19,23,30,29,36,35] [] [3] [0] [false] (a1 s0 (a1 b0 trivial)) (ih9 _ _ h K q) (by kernel_rfl)
 ·intro x0 ds h K q
  rw [R3_9] at h
  obtain ⟨s0,h⟩:=h
  by_cases b0:(g8_1 (g4_0 x0).1 != 0)=true
  ·rw [if_pos b0] at h
   subst h
   exact AtV.ret Tryz.func3 tabOk ext3Ok mixed false [3,6,9,13,16,19,23,30,29,36,35] tys3 [true,true,true] (a1 s0 (a1 b0 (a1 (rfl:true=true) (a1 (rfl:true=true) trivial)))) (by kernel_rfl)
  ·rw [if_neg b0] at h
   replace b0:=bf_ b0
   obtain ⟨s1,h⟩:=h
   by_cases b1:(!g9_0 (g4_0 x0).2.2.2.2.2.2.1 (g4_0 x0).2.2.2.2.2.2.2.1 (g4_0 x0).2.2.2.2.2.2.2.2.1)=true
   ·rw [if_pos b1] at h
    subst h
    exact AtV.ret Tryz.func3 tabOk ext3Ok mixed false [3,6,9,13,16,19,23,30,29,36,35] tys3 [false,true,true] (a1 s0 (a1 b0 (a1 s1 (a1 b1 (a1 (rfl:true=true) trivial))))) (by kernel_rfl)
   ·rw [if_neg b1] at h
    replace b1:=bf_ b1
    obtain ⟨s2,h⟩:=h
    by_cases b2:(!g10_0 (g4_0 x0).2.2.2.2.2.2.2.2.2.2.2.1)=true
    ·rw [if_pos b2] at h
     subst h
     exact AtV.ret Tryz.func3 tabOk ext3Ok mixed false [3,6,9,13,16,19,23,30,29,36,35] tys3 [false,false,true] (a1 s0 (a1 b0 (a1 s1 (a1 b1 (a1 s2 (a1 b2 trivial)))))) (by kernel_rfl)
    ·rw [if_neg b2] at h
     replace b2:=bf_ b2
     exact AtV.go tabOk ext3Ok mixed false [3,6,9,13,16,19,23,30,29,36,35] [] [3,6,7] [0,1] [false,false,false] (a1 s0 (a1 b0 (a1 s1 (a1 b1 (a1 s2 (a1 b2 trivial)))))) (ih13 _ _ h K q) (by kernel_rfl)
 ·intro x0 ds h K q
  rw [R3_13] at h
  exact AtV.go tabOk ext3Ok mixed false [3,6,9,13,16,19,23,30,29,36,35] [] [3,6,7,9,10] [0,1] [] trivial (ih15 _ _ _ _ h K q) (by kernel_rfl)
 ·intro v9 v10 x0 ds h K q
  rw [R3_15] at h
  by_cases b0:(decide (v9<g8_0 (g4_0 x0).1))=true
  ·rw [if_pos b0] at h
   exact AtV.go tabOk ext3Ok mixed false [3,6,9,13,16,19,23,30,29,36,35] [] [3,6,7,9,10] [0,1] [true] (a1 b0 trivial) (ih16 _ _ _ _ h K q) (by kernel_rfl)
  ·rw [if_neg b0] at h
   replace b0:=bf_ b0
   exact AtV.go tabOk ext3Ok mixed false [3,6,9,13,16,19,23,30,29,36,35] [] [3,16] [0] [false] (a1 b0 trivial) (ih28 _ _ _ h K q) (by kernel_rfl)
 ·intro x0 v9 v10 ds h K q
  rw [R3_16] at h
  obtain ⟨s0,h⟩:=h
  obtain ⟨s1,h⟩:=h
  by_cases b0:(g11_1 (g4_0 x0).2.2.2.1 v10 (g8_0 (g4_0 x0).1 - v9) != 0)=true
  ·rw [if_pos b0] at h
   subst h
   exact AtV.ret Tryz.func3 tabOk ext3Ok mixed false [3,6,9,13,16,19,23,30,29,36,35] tys3 [true,true] (a1 s0 (a1 s1 (a1 b0 (a1 (rfl:true=true) trivial)))) (by kernel_rfl)
  ·rw [if_neg b0] at h
   replace b0:=bf_ b0
   by_cases b1:(decide (g11_0 (g4_0 x0).2.2.2.1 v10 (g8_0 (g4_0 x0).1 - v9)<1))=true
   ·rw [if_pos b1] at h
    subst h
    exact AtV.ret Tryz.func3 tabOk ext3Ok mixed false [3,6,9,13,16,19,23,30,29,36,35] tys3 [false,true] (a1 s0 (a1 s1 (a1 b0 (a1 b1 trivial)))) (by kernel_rfl)
   ·rw [if_neg b1] at h
    replace b1:=bf_ b1
    exact AtV.go tabOk ext3Ok mixed false [3,6,9,13,16,19,23,30,29,36,35] [] [3,6,7,9,11,87,88] [0,1] [false,false] (a1 s0 (a1 s1 (a1 b0 (a1 b1 trivial)))) (ih19 _ _ _ _ h K q) (by kernel_rfl)
 ·intro v16 x0 ds h K q
  rw [R3_28] at h
  by_cases b0:(decide (v16<(↑(List.length (g4_0 x0).2.2.2.2.1):Int)))=true
  ·rw [if_pos b0] at h
   exact AtV.go tabOk ext3Ok mixed false [3,6,9,13,16,19,23,30,29,36,35] [] [3,16] [0] [true] (a1 b0 trivial) (ih30 _ _ _ h K q) (by kernel_rfl)
  ·rw [if_neg b0] at h
   replace b0:=bf_ b0
   obtain ⟨s0,h⟩:=h
   exact AtV.go tabOk ext3Ok mixed false [3,6,9,13,16,19,23,30,29,36,35] [] [17,18,19] [1] [false] (a1 b0 (a1 s0 trivial)) (ih34 _ _ _ h K q) (by kernel_rfl)
 ·intro x0 v9 v10 ds h K q
  rw [R3_19] at h
  obtain ⟨s0,h⟩:=h
  by_cases b0:(decide (v9+g11_0 (g4_0 x0).2.2.2.1 v10 (g8_0 (g4_0 x0).1 - v9)<g8_0 (g4_0 x0).1))=true
  ·rw [if_pos b0] at h
   obtain ⟨s1,h⟩:=h
   by_cases b1:(!g12_0 (g4_0 x0).1 (g4_0 x0).2.2.1 (v9+g11_0 (g4_0 x0).2.2.2.1 v10 (g8_0 (g4_0 x0).1 - v9)) (g11_0 (g4_0 x0).2.2.2.1 v10 (g8_0 (g4_0 x0).1 - v9)) false)=true
   ·rw [if_pos b1] at h
    subst h
    exact AtV.ret Tryz.func3 tabOk ext3Ok mixed false [3,6,9,13,16,19,23,30,29,36,35] tys3 [true,true,true] (a1 s0 (a1 b0 (a1 s1 (a1 b1 (a1 (rfl:true=true) trivial))))) (by kernel_rfl)
   ·rw [if_neg b1] at h
    replace b1:=bf_ b1
    obtain ⟨s2,h⟩:=h
    obtain ⟨s3,h⟩:=h
    by_cases b2:(!g12_0 (g4_0 x0).1 (g4_0 x0).2.2.1 (g8_0 (g4_0 x0).1 - (v9+g11_0 (g4_0 x0).2.2.2.1 v10 (g8_0 (g4_0 x0).1 - v9))) (g11_0 (g4_0 x0).2.2.2.1 v10 (g8_0 (g4_0 x0).1 - v9)) true)=true
    ·rw [if_pos b2] at h
     subst h
     exact AtV.ret Tryz.func3 tabOk ext3Ok mixed false [3,6,9,13,16,19,23,30,29,36,35] tys3 [true,false,true] (a1 s0 (a1 b0 (a1 s1 (a1 b1 (a1 s2 (a1 s3 (a1 b2 trivial))))))) (by kernel_rfl)
    ·rw [if_neg b2] at h
     replace b2:=bf_ b2
     exact AtV.go tabOk ext3Ok mixed false [3,6,9,13,16,19,23,30,29,36,35] [] [3,6,7,9,10,87,88] [0,1] [true,false,false] (a1 s0 (a1 b0 (a1 s1 (a1 b1 (a1 s2 (a1 s3 (a1 b2 trivial))))))) (ih23 _ _ _ _ h K q) (by kernel_rfl)
  ·rw [if_neg b0] at h
   replace b0:=bf_ b0
   exact AtV.go tabOk ext3Ok mixed false [3,6,9,13,16,19,23,30,29,36,35] [] [3,6,7,9,10,87,88] [0,1] [false,false] (a1 s0 (a1 b0 (a1 (rfl:false=false) trivial))) (ih23 _ _ _ _ h K q) (by kernel_rfl)
 ·intro v16 x0 ds h K q
  rw [R3_30] at h
  obtain ⟨s0,h⟩:=h
  by_cases b0:(!g15_0 (g4_0 x0).2.2.2.2.1 [v16] (g4_0 x0).2.2.2.2.2.1)=true
  ·rw [if_pos b0] at h
   subst h
   exact AtV.ret Tryz.func3 tabOk ext3Ok mixed false [3,6,9,13,16,19,23,30,29,36,35] tys3 [true] (a1 s0 (a1 b0 trivial)) (by kernel_rfl)
  ·rw [if_neg b0] at h
   replace b0:=bf_ b0
   exact AtV.go tabOk ext3Ok mixed false [3,6,9,13,16,19,23,30,29,36,35] [] [3,16] [0] [false] (a1 s0 (a1 b0 trivial)) (ih29 _ _ _ h K q) (by kernel_rfl)
 ·intro v19 x0 ds h K q
  rw [R3_34] at h
  by_cases b0:(decide (v19<(↑(List.length (g16_0 (g4_0 x0).2.2.2.2.2.2.2.2.2.1 (g4_0 x0).2.2.2.2.2.2.2.2.2.2.1)):Int)))=true
  ·rw [if_pos b0] at h
   exact AtV.go tabOk ext3Ok mixed false [3,6,9,13,16,19,23,30,29,36,35] [] [17,18,19] [0] [true] (a1 b0 trivial) (ih36 _ _ _ h K q) (by kernel_rfl)
  ·rw [if_neg b0] at h
   replace b0:=bf_ b0
   subst h
   exact AtV.ret Tryz.func3 tabOk ext3Ok mixed false [3,6,9,13,16,19,23,30,29,36,35] tys3 [false] (a1 b0 trivial) (by kernel_rfl)
 ·intro x0 v9 v10 ds h K q
  rw [R3_23] at h
  obtain ⟨s0,h⟩:=h
  obtain ⟨s1,h⟩:=h
  by_cases b0:(g14_1 (g4_0 x0).1 (v9+g11_0 (g4_0 x0).2.2.2.1 v10 (g8_0 (g4_0 x0).1 - v9)) != 0)=true
  ·rw [if_pos b0] at h
   subst h
   exact AtV.ret Tryz.func3 tabOk ext3Ok mixed false [3,6,9,13,16,19,23,30,29,36,35] tys3 [true,true] (a1 s0 (a1 s1 (a1 b0 (a1 (rfl:true=true) trivial)))) (by kernel_rfl)
  ·rw [if_neg b0] at h
   replace b0:=bf_ b0
   by_cases b1:(!g13_0 (g4_0 x0).1 (v9+g11_0 (g4_0 x0).2.2.2.1 v10 (g8_0 (g4_0 x0).1 - v9)))=true
   ·rw [if_pos b1] at h
    by_cases b2:(decide (g14_0 (g4_0 x0).1 (v9+g11_0 (g4_0 x0).2.2.2.1 v10 (g8_0 (g4_0 x0).1 - v9))<(g4_0 x0).2.1))=true
    ·rw [if_pos b2] at h
     subst h
     exact AtV.ret Tryz.func3 tabOk ext3Ok mixed false [3,6,9,13,16,19,23,30,29,36,35] tys3 [false,true,true] (a1 s0 (a1 s1 (a1 b0 (a1 b1 (a1 b2 trivial))))) (by kernel_rfl)
    ·rw [if_neg b2] at h
     replace b2:=bf_ b2
     exact AtV.go tabOk ext3Ok mixed false [3,6,9,13,16,19,23,30,29,36,35] [] [3,6,7,9,10] [0,1] [false,true,false] (a1 s0 (a1 s1 (a1 b0 (a1 b1 (a1 b2 trivial))))) (ih15 _ _ _ _ h K q) (by kernel_rfl)
   ·rw [if_neg b1] at h
    replace b1:=bf_ b1
    exact AtV.go tabOk ext3Ok mixed false [3,6,9,13,16,19,23,30,29,36,35] [] [3,6,7,9,10] [0,1] [false,false,false] (a1 s0 (a1 s1 (a1 b0 (a1 b1 (a1 (rfl:false=false) trivial))))) (ih15 _ _ _ _ h K q) (by kernel_rfl)
 ·intro v16 x0 ds h K q
  rw [R3_29] at h
  obtain ⟨s0,h⟩:=h
  exact AtV.go tabOk ext3Ok mixed false [3,6,9,13,16,19,23,30,29,36,35] [] [3,16] [0] [] (a1 s0 trivial) (ih28 _ _ _ h K q) (by kernel_rfl)
 ·intro x0 v19 ds h K q
  rw [R3_36] at h
  obtain ⟨s0,s1,h⟩:=h
  by_cases b0:(decide (List.getD (g16_0 (g4_0 x0).2.2.2.2.2.2.2.2.2.1 (g4_0 x0).2.2.2.2.2.2.2.2.2.2.1) (Int.toNat v19) 0<0))=true
  ·rw [if_pos b0] at h
   subst h
   exact AtV.ret Tryz.func3 tabOk ext3Ok mixed false [3,6,9,13,16,19,23,30,29,36,35] tys3 [true] (a1 s0 (a1 s1 (a1 b0 trivial))) (by kernel_rfl)
  ·rw [if_neg b0] at h
   replace b0:=bf_ b0
   exact AtV.go tabOk ext3Ok mixed false [3,6,9,13,16,19,23,30,29,36,35] [] [17,18,19] [0] [false] (a1 s0 (a1 s1 (a1 b0 trivial))) (ih35 _ _ _ h K q) (by kernel_rfl)
 ·intro x0 v19 ds h K q
  rw [R3_35] at h
  obtain ⟨s0,h⟩:=h
  exact AtV.go tabOk ext3Ok mixed false [3,6,9,13,16,19,23,30,29,36,35] [] [17,18,19] [0] [] (a1 s0 trivial) (ih34 _ _ _ h K q) (by kernel_rfl)
def g3_0 (x0:List Int):Bool:=true
def P3 (x0:List Int):Prop:=True
abbrev T3:List Dyn:=[⟨.bool,true⟩]
theorem start3 {x:List Int} (hw:Wf (.sl (.int .u8)) x):P4 x :=
 ⟨show P18 (x,0,0,()) from (src_start hw).up (by decide),trivial⟩
theorem slack3 (x0:List Int) (h:g19_0 (g4_0 x0)=true) (hp:∀ n∈sk60 (g4_0 x0).2.2.2.2.2.2.2.2.2.2.1 (g4_0 x0).2.2.2.2.2.2.2.2.2.1,0≤n):∃ n,R3_34 n 0 x0 T3:=by
 obtain ⟨_,_,_,_,_,_,_,h3,_⟩:=works_ok _ h
 obtain ⟨h4,_,t1,t2⟩:=ask_rides h3
 have r2:=(rides_ok _ h4).2
 have hc:¬ (g42_0 (g4_0 x0).2.2.2.2.2.2.2.2.2.1 (g4_0 x0).2.2.2.2.2.2.2.2.2.2.1 != 0)=true:=by rw [h3];decide
 have e0:g16_0 (g4_0 x0).2.2.2.2.2.2.2.2.2.1 (g4_0 x0).2.2.2.2.2.2.2.2.2.2.1=sk60 (g4_0 x0).2.2.2.2.2.2.2.2.2.2.1 (g4_0 x0).2.2.2.2.2.2.2.2.2.1:=by
  unfold g16_0
  rw [if_neg hc,slack_eq2]
 have e1:g16_1 (g4_0 x0).2.2.2.2.2.2.2.2.2.1 (g4_0 x0).2.2.2.2.2.2.2.2.2.2.1=0:=by
  unfold g16_1
  rw [if_neg hc]
 have hl:(sk60 (g4_0 x0).2.2.2.2.2.2.2.2.2.2.1 (g4_0 x0).2.2.2.2.2.2.2.2.2.1).length≤24:=by
  rw [skI_len];omega
 have key:∀ (k i:Nat),i+k=(sk60 (g4_0 x0).2.2.2.2.2.2.2.2.2.2.1 (g4_0 x0).2.2.2.2.2.2.2.2.2.1).length→R3_34 (3*k+1) (i:Int) x0 T3:=by
  intro k
  induction k with
  | zero =>
   intro i hi
   rw [R3_34,e0,if_neg (by simp only [decide_eq_true_eq];omega),e1]
   rfl
  | succ k ih =>
   intro i hi
   have:=hp _ (mem_getD _ i 0 (by omega))
   have e3:(i:Int)+1=((i+1:Nat):Int):=by omega
   rw [show 3*(k+1)+1=3*k+1+1+1+1 by omega,R3_34,e0,if_pos (by simp only [decide_eq_true_eq];omega),R3_36,e0]
   simp only [Int.toNat_natCast]
   refine ⟨by omega,by omega,?_⟩
   rw [if_neg (by simp only [decide_eq_true_eq];omega),R3_35,e3]
   exact ⟨by rw [i64_iff];omega,ih (i+1) (by omega)⟩
 exact ⟨_,key _ 0 (by rw [Nat.zero_add])⟩
theorem groups3 (x0:List Int) (h:g19_0 (g4_0 x0)=true) (he:g7_0 (g4_0 x0)=[]):∃ n,R3_28 n 0 x0 T3:=by
 obtain ⟨_,_,_,_,h1,h2,_,h3,_⟩:=works_ok _ h
 obtain ⟨_,_,f1,_,f3,_⟩:=passes h he
 obtain ⟨m,hm⟩:=slack3 x0 h f3
 obtain ⟨h4,_,t1,t2⟩:=ask_rides h3
 obtain ⟨r1,r2⟩:=rides_ok _ h4
 have hl:=(groups_ok _ h1).2
 have p16:P16 (g4_0 x0).2.2.2.2.2.2.2.2.2.1 (g4_0 x0).2.2.2.2.2.2.2.2.2.2.1 := .inr ⟨by omega,t1,by omega,fun y hy=>by
  have:=ride_range y (r1 y hy)
  omega⟩
 have key:∀ (k i:Nat),i+k=(g4_0 x0).2.2.2.2.1.length→R3_28 (m+1+3*k) (i:Int) x0 T3:=by
  intro k
  induction k with
  | zero =>
   intro i hi
   rw [Nat.mul_zero,Nat.add_zero,R3_28,if_neg (by simp only [decide_eq_true_eq];omega)]
   exact ⟨p16,hm⟩
  | succ k ih =>
   intro i hi
   obtain ⟨p,e⟩:=fits_ok h1 h2 (i:=i) (by omega) f1
   have e3:(i:Int)+1=((i+1:Nat):Int):=by omega
   rw [show m+1+3*(k+1)=m+1+3*k+1+1+1 by omega,R3_28,if_pos (by simp only [decide_eq_true_eq];omega),R3_30]
   refine ⟨p,?_⟩
   rw [e,if_neg (by decide),R3_29,e3]
   exact ⟨by rw [i64_iff];omega,ih (i+1) (by omega)⟩
 exact ⟨_,key _ 0 (by rw [Nat.zero_add])⟩
theorem ride3 (x0:List Int) (h:g19_0 (g4_0 x0)=true) (he:g7_0 (g4_0 x0)=[]) {m:Nat} (hm:R3_28 m 0 x0 T3):∀ (f:Nat) (place speed k:Int),(0≤place∧place≤g25_0 (g4_0 x0).1)→(0≤speed∧speed≤15000)→g25_0 (g4_0 x0).1 - place≤(f:Int) →
  rideL (g32_0 (g4_0 x0).2.2.2.1) (badS (g4_0 x0).1 (g4_0 x0).2.2.1 false (g25_0 (g4_0 x0).1)) (g25_0 (g4_0 x0).1) f place speed k=none →
  rideL (g32_0 (g4_0 x0).2.2.2.1) (badS (g4_0 x0).1 (g4_0 x0).2.2.1 true (g25_0 (g4_0 x0).1)) (g25_0 (g4_0 x0).1) f place speed k=none →
  ∃ q,R3_15 q place speed x0 T3:=by
 obtain ⟨h1,_,h3,h4,_⟩:=works_ok _ h
 obtain ⟨hs,_⟩:=passes h he
 obtain ⟨_,l0,l1,_⟩:=pl_ok h1
 obtain ⟨_,e8,_⟩:=tl_ok h1
 have stop:∀ place speed:Int,¬ place<g25_0 (g4_0 x0).1→R3_15 (m+1) place speed x0 T3:=fun place speed hlt=>by
  rw [R3_15,e8,if_neg (by simpa using hlt)]
  exact hm
 intro f
 induction f with
 | zero =>
  intro place speed k hp hsp hf _ _
  exact ⟨_,stop place speed (by omega)⟩
 | succ f ih =>
  intro place speed k hp hsp hf n1 n2
  by_cases hlt:place<g25_0 (g4_0 x0).1
  ·obtain ⟨q1,q2,q3,q4,q5,q6⟩:=speed_ok h4 hsp (l:=g25_0 (g4_0 x0).1 - place) ⟨by omega,by omega⟩
   rw [rideL,if_pos hlt] at n1 n2
   have iv:InR .i64 (g25_0 (g4_0 x0).1 - place):=by rw [i64_iff];omega
   have k1:¬ decide (g32_0 (g4_0 x0).2.2.2.1 speed (g25_0 (g4_0 x0).1 - place)<1)=true:=by simp only [decide_eq_true_eq];omega
   obtain ⟨q,last⟩:∃ q,R3_15 q (place+g32_0 (g4_0 x0).2.2.2.1 speed (g25_0 (g4_0 x0).1 - place)) (g32_0 (g4_0 x0).2.2.2.1 speed (g25_0 (g4_0 x0).1 - place)) x0 T3:=by
    refine ih _ _ (k+1) (by omega) (by omega) (by omega) ?_ ?_
    ·split at n1
     ·cases n1
     ·exact n1
    ·split at n2
     ·cases n2
     ·exact n2
   have mid:R3_23 (q+1) x0 place speed T3:=by
    obtain ⟨a1,a2,a3,a4⟩:=apart_ok h1 hs (x:=place+g32_0 (g4_0 x0).2.2.2.1 speed (g25_0 (g4_0 x0).1 - place)) ⟨by omega,by omega⟩
    rw [R3_23,e8,q3]
    refine ⟨a1,a2,?_⟩
    rw [a3,if_neg (by decide)]
    cases hin:g13_0 (g4_0 x0).1 (place+g32_0 (g4_0 x0).2.2.2.1 speed (g25_0 (g4_0 x0).1 - place)) with
    | true =>
     rw [if_neg (by decide)]
     exact last
    | false =>
     have:=a4 hin
     rw [if_pos (by decide),if_neg (by simp only [decide_eq_true_eq];omega)]
     exact last
   refine ⟨q+1+1+1+1,?_⟩
   rw [R3_15,e8,if_pos (by simpa using hlt),R3_16,e8,q2,q3]
   refine ⟨iv,q1,?_⟩
   rw [if_neg (by decide),if_neg k1,R3_19,e8,q3]
   refine ⟨by rw [i64_iff];omega,?_⟩
   by_cases hd:place+g32_0 (g4_0 x0).2.2.2.1 speed (g25_0 (g4_0 x0).1 - place)<g25_0 (g4_0 x0).1
   ·obtain ⟨b1,b2⟩:=stops_ok h1 h3 (x:=place+g32_0 (g4_0 x0).2.2.2.1 speed (g25_0 (g4_0 x0).1 - place)) (s:=g32_0 (g4_0 x0).2.2.2.1 speed (g25_0 (g4_0 x0).1 - place)) ⟨by omega,by omega⟩ ⟨by omega,q6⟩ false
    obtain ⟨d1,d2⟩:=stops_ok h1 h3 (x:=g25_0 (g4_0 x0).1 - (place+g32_0 (g4_0 x0).2.2.2.1 speed (g25_0 (g4_0 x0).1 - place))) (s:=g32_0 (g4_0 x0).2.2.2.1 speed (g25_0 (g4_0 x0).1 - place)) ⟨by omega,by omega⟩ ⟨by omega,q6⟩ true
    rw [decide_eq_true hd,Bool.true_and] at n1 n2
    have c1:g34_0 (g4_0 x0).1 (g4_0 x0).2.2.1 (place+g32_0 (g4_0 x0).2.2.2.1 speed (g25_0 (g4_0 x0).1 - place)) (g32_0 (g4_0 x0).2.2.2.1 speed (g25_0 (g4_0 x0).1 - place)) false=true:=by
     split at n1
     ·cases n1
     ·rename_i hb
      unfold badS at hb
      rw [if_neg (by decide)] at hb
      simpa using hb
    have c2:g34_0 (g4_0 x0).1 (g4_0 x0).2.2.1 (g25_0 (g4_0 x0).1 - (place+g32_0 (g4_0 x0).2.2.2.1 speed (g25_0 (g4_0 x0).1 - place))) (g32_0 (g4_0 x0).2.2.2.1 speed (g25_0 (g4_0 x0).1 - place)) true=true:=by
     split at n2
     ·cases n2
     ·rename_i hb
      unfold badS at hb
      rw [if_pos rfl] at hb
      simpa using hb
    rw [if_pos (decide_eq_true hd)]
    refine ⟨b1,?_⟩
    rw [b2,c1,if_neg (by decide)]
    refine ⟨by rw [i64_iff];omega,d1,?_⟩
    rw [d2,c2,if_neg (by decide)]
    exact mid
   ·rw [if_neg (by simpa using hd)]
    exact mid
  ·exact ⟨_,stop place speed hlt⟩
theorem pass3 (x0:List Int) (h:g19_0 (g4_0 x0)=true) (he:g7_0 (g4_0 x0)=[]):∃ n,R3_9 n x0 T3:=by
 obtain ⟨h1,_,h3,h4,_,_,h6,_,h8⟩:=works_ok _ h
 obtain ⟨_,u,_,o1,_,pb,hlog⟩:=passes h he
 obtain ⟨p8,e8,e9⟩:=tl_ok h1
 obtain ⟨m,hm⟩:=groups3 x0 h he
 obtain ⟨_,l0,l1,_⟩:=pl_ok h1
 obtain ⟨q,hr⟩:=ride3 x0 h he hm (g25_0 (g4_0 x0).1).toNat 0 0 0 ⟨Int.le_refl _,l0⟩ ⟨Int.le_refl _,by decide⟩ (by omega) (u false) (u true)
 have hc:(g26_0 (g4_0 x0).2.2.2.2.2.2.1 (g4_0 x0).2.2.2.2.2.2.2.1 (g4_0 x0).2.2.2.2.2.2.2.2.1==0)=true:=by rw [h6];rfl
 obtain ⟨hck,d1,d2,d3,d4⟩:=ask_check h6
 obtain ⟨c1,c2⟩:=checks_ok _ hck
 have p9:P9 (g4_0 x0).2.2.2.2.2.2.1 (g4_0 x0).2.2.2.2.2.2.2.1 (g4_0 x0).2.2.2.2.2.2.2.2.1:=by
  unfold P9
  rw [if_pos hc]
  exact ⟨⟨by omega,fun y hy=>by
   have:=check_range y (c1 y hy)
   unfold P66 P107
   simp only [i64_iff,and_true]
   omega⟩,trivial⟩
 have e10:g9_0 (g4_0 x0).2.2.2.2.2.2.1 (g4_0 x0).2.2.2.2.2.2.2.1 (g4_0 x0).2.2.2.2.2.2.2.2.1=true:=by
  unfold g9_0
  rw [if_pos hc,o1]
  rfl
 have hl:g51_0 (g4_0 x0).2.2.2.2.2.2.2.2.2.2.2.1=true:=h8
 have p11:P10 (g4_0 x0).2.2.2.2.2.2.2.2.2.2.2.1:=by
  refine ⟨?_,trivial⟩
  unfold P28
  rw [if_pos hl]
  exact ⟨pb,trivial⟩
 have e12:g10_0 (g4_0 x0).2.2.2.2.2.2.2.2.2.2.2.1=true:=by
  show g28_0 _=true
  unfold g28_0
  rw [if_pos hl]
  exact decide_eq_true hlog
 refine ⟨q+1+1,?_⟩
 rw [R3_9,e9,e10,e12,if_neg (by decide),if_neg (by decide),if_neg (by decide),R3_13]
 exact ⟨p8,p9,p11,hr⟩
theorem top3 (x0:List Int) (w0:Wf (.sl (.int .u8)) x0):∃ n,R3 n x0 [⟨.bool,g3_0 x0⟩]:=by
 obtain ⟨k0,k1,p2⟩:=all_I (g4_0 x0) (fun h d=>by
  obtain ⟨h1,_,h3,h4,_⟩:=works_ok _ h
  exact (unsafe_I (show g85_0 (g4_0 x0).1=true from h1) (show g87_0 (g4_0 x0).2.2.1=true from h3) (show g88_0 (g4_0 x0).2.2.2.1=true from h4) d).1)
 have p6:P6 (g4_0 x0):=⟨p2,trivial⟩
 by_cases hz:decide ((x0.length:Int)>1048576)=true
 ·exact ⟨1,by rw [R3,if_pos hz];rfl⟩
 by_cases h:g19_0 (g4_0 x0)=true
 ·have hv:¬ (!g5_0 (g4_0 x0))=true:=by
   show ¬ (!g19_0 (g4_0 x0))=true
   rw [h];decide
  clear k0
  rw [if_pos h] at k1
  have hp:g6_0 (g4_0 x0)=(((g7_0 (g4_0 x0)).length:Int)==0):=by
   unfold g6_0
   rw [k1]
   rfl
  by_cases he:g7_0 (g4_0 x0)=[]
  ·obtain ⟨n,hn⟩:=pass3 x0 h he
   refine ⟨n+1+1+1,?_⟩
   rw [R3,if_neg hz,R3_3,if_neg hv,R3_6,hp,he,if_neg (by decide)]
   exact ⟨start3 w0,p6,hn⟩
  ·have hne:0<(g7_0 (g4_0 x0)).length:=List.length_pos_iff.2 he
   have hb:(((g7_0 (g4_0 x0)).length:Int)==0)=false:=by
    rw [beq_eq_false_iff_ne];omega
   refine ⟨1+1+1,?_⟩
   rw [R3,if_neg hz,R3_3,if_neg hv,R3_6,hp,hb,if_pos (by decide),k1,if_pos (by decide),decide_eq_true (show ((g7_0 (g4_0 x0)).length:Int)>0 by omega)]
   exact ⟨start3 w0,p6,p2,rfl⟩
 ·have hv:(!g5_0 (g4_0 x0))=true:=by
   show (!g19_0 (g4_0 x0))=true
   rw [bf_ h];rfl
  rw [if_neg h] at k1
  have hp:g6_0 (g4_0 x0)=false:=by
   unfold g6_0
   rw [k1]
   rfl
  refine ⟨1+1,?_⟩
  rw [R3,if_neg hz,R3_3,if_pos hv,hp]
  exact ⟨start3 w0,p6,rfl⟩
def S3:Am.Spec:={ sig:=sig3,pre:=fun ⟨x0,_⟩=>P3 x0,res:=fun ⟨x0,_⟩=>[⟨.bool,g3_0 x0⟩] }
theorem con3:Contract Tryz.prog 3 S3:=contract_of Tryz.func3 hb3 (bl_ (by kernel_rfl)) (fun ⟨x0,_⟩ h hwf K q =>
 let ⟨n,hn⟩:=top3 x0 hwf.1
 (snd3 n).1 x0 _ hn K q)
end
theorem law3 (x0:List Int) (h0:Wf (.sl (.int .u8)) x0):P3 x0∧g3_0 x0=true:=⟨trivial,rfl⟩
end Go.Proofs.YtfpmclmpbjbmcaaGreatDoor
