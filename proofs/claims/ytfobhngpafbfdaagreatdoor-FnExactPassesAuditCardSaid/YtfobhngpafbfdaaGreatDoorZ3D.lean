/- Several texts in one: the functions that this law reaches, and their laws. -/
import Derived.Test.YtfobhngpafbfdaaGreatDoorZ3A
import Derived.Test.YtfobhngpafbfdaaGreatDoorZ3B
import Derived.Test.YtfobhngpafbfdaaGreatDoorZ3C
import Derived.Lib.TrimByte
import Derived.Lib.ItoaNum
set_option linter.unusedVariables false
set_option linter.unusedSimpArgs false
set_option maxRecDepth 100000
namespace Go.Proofs.YtfobhngpafbfdaaGreatDoor
open Go Go.Am Go.Proofs
noncomputable section
def ext66:Ext:=[(94,S94)]
theorem ext66Ok:ExtOk Tryz.prog ext66:=⟨⟨ca94,con94⟩,trivial⟩
def b66:Code:=bodyOf Tryz.f66
theorem hb66:Tryz.f66.body=some b66:=by kernel_rfl
def sig66:List AT:=[AT.v (.sl YA3)]
def tys66:List Ty:=[.bool]
def kds66:List RK:=[]
def oks66:List AT:=owns sig66
def E66_2 (v3:Int) (x0:List TyB0):Env:=[(0,.a (.sl YA3 x0)),(3,.a (.val (.int .i64 v3)))]
def L66_2 (v3:Int) (x0:List TyB0):Heap:=[]
mutual
def R66:Nat→List TyB0→List Dyn→Prop
 | 0,_,_=>False
 | n+1,x0,ds=>(R66_2 n (0) (x0) ds)
def R66_2:Nat→Int→List TyB0→List Dyn→Prop
 | 0,_,_,_=>False
 | n+1,v3,x0,ds=>(if (decide (v3<(x0.length:Int)))=true then ((0≤v3)∧(v3<(x0.length:Int))∧(if (!g94_0 (List.getD x0 (Int.toNat v3) (ByteArray.empty,0,0,0,0,())))=true then (ds=[Dyn.mk .bool false]) else (if (decide (v3>0))=true then ((InR .i64 (v3 - 1))∧((0≤v3 - 1)∧(v3 - 1<(x0.length:Int))∧((0≤v3)∧(v3<(x0.length:Int))∧(if (!Op.bytesLess (ByteArray.toList (List.getD x0 (Int.toNat (v3 - 1)) (ByteArray.empty,0,0,0,0,())).1) (ByteArray.toList (List.getD x0 (Int.toNat v3) (ByteArray.empty,0,0,0,0,())).1))=true then (ds=[Dyn.mk .bool false]) else ((InR .i64 (v3+1))∧(R66_2 n (v3+1) (x0) ds)))))) else ((InR .i64 (v3+1))∧(R66_2 n (v3+1) (x0) ds))))) else (ds=[Dyn.mk .bool (decide ((x0.length:Int)≤16))]))
end
theorem snd66:∀ n,(∀ (x0:List TyB0) ds,R66 n x0 ds→∀ K q,AtV Tryz.prog 66 (PostR kds66 oks66 ds [] [] q K) 36 K q [] [.code b66] (entE 0 0 sig66 (x0,())) (entL sig66 (x0,())))∧(∀ (v3:Int) (x0:List TyB0) ds,R66_2 n v3 x0 ds→∀ K q,AtV Tryz.prog 66 (PostR kds66 oks66 ds [] [] q K) 36 K q [] (cutAt b66 2) (E66_2 v3 x0) (L66_2 v3 x0)):=by
 intro n
 induction n with
 | zero=>exact ⟨fun _ _ h=>by simp only [R66] at h,fun _ _ _ h=>by simp only [R66_2] at h⟩
 | succ n ih =>
 obtain ⟨ih,ih2⟩:=ih
 refine ⟨?_,?_⟩
 ·intro x0 ds h K q
  rw [R66] at h
  exact AtV.go tabOk ext66Ok mixed false [] [] [0,3] [] [] trivial (ih2 _ _ _ h K q) (by kernel_rfl)
 ·intro v3 x0 ds h K q
  rw [R66_2] at h
  by_cases b0:(decide (v3<(x0.length:Int)))=true
  ·rw [if_pos b0] at h
   obtain ⟨s0,s1,h⟩:=h
   by_cases b1:(!g94_0 (List.getD x0 (Int.toNat v3) (ByteArray.empty,0,0,0,0,())))=true
   ·rw [if_pos b1] at h
    subst h
    exact AtV.ret Tryz.func66 tabOk ext66Ok mixed false [] tys66 [true,true,true] (a1 b0 (a1 s0 (a1 s1 (a1 trivial (a1 b1 (a1 (rfl:true=true) trivial)))))) (by kernel_rfl)
   ·rw [if_neg b1] at h
    replace b1:=bf_ b1
    by_cases b2:(decide (v3>0))=true
    ·rw [if_pos b2] at h
     obtain ⟨s2,h⟩:=h
     obtain ⟨s3,s4,h⟩:=h
     obtain ⟨s5,s6,h⟩:=h
     by_cases b3:(!Op.bytesLess (ByteArray.toList (List.getD x0 (Int.toNat (v3 - 1)) (ByteArray.empty,0,0,0,0,())).1) (ByteArray.toList (List.getD x0 (Int.toNat v3) (ByteArray.empty,0,0,0,0,())).1))=true
     ·rw [if_pos b3] at h
      subst h
      exact AtV.ret Tryz.func66 tabOk ext66Ok mixed false [] tys66 [true,false,true,true] (a1 b0 (a1 s0 (a1 s1 (a1 trivial (a1 b1 (a1 b2 (a1 s2 (a1 s3 (a1 s4 (a1 s5 (a1 s6 (a1 b3 trivial)))))))))))) (by kernel_rfl)
     ·rw [if_neg b3] at h
      replace b3:=bf_ b3
      obtain ⟨s7,h⟩:=h
      exact AtV.go tabOk ext66Ok mixed false [] [] [0,3] [] [true,false,true,false] (a1 b0 (a1 s0 (a1 s1 (a1 trivial (a1 b1 (a1 b2 (a1 s2 (a1 s3 (a1 s4 (a1 s5 (a1 s6 (a1 b3 (a1 s7 trivial))))))))))))) (ih2 _ _ _ h K q) (by kernel_rfl)
    ·rw [if_neg b2] at h
     replace b2:=bf_ b2
     obtain ⟨s2,h⟩:=h
     exact AtV.go tabOk ext66Ok mixed false [] [] [0,3] [] [true,false,false,false] (a1 b0 (a1 s0 (a1 s1 (a1 trivial (a1 b1 (a1 b2 (a1 (rfl:false=false) (a1 s2 trivial)))))))) (ih2 _ _ _ h K q) (by kernel_rfl)
  ·rw [if_neg b0] at h
   replace b0:=bf_ b0
   subst h
   exact AtV.ret Tryz.func66 tabOk ext66Ok mixed false [] tys66 [false] (a1 b0 trivial) (by kernel_rfl)
def ok66 (x0:List TyB0) (i:Nat) (x:TyB0):Bool :=
 g94_0 x&&(i==0||Op.bytesLess (ByteArray.toList (x0.getD (i - 1) (ByteArray.empty,(0:Int),(0:Int),(0:Int),(0:Int),())).1) (ByteArray.toList x.1))
def g66_0 (x0:List TyB0):Bool:=allI (ok66 x0) 0 x0&&decide (x0.length≤16)
def P66 (x0:List TyB0):Prop:=True
theorem step66 (n i : Nat) (x0 : List TyB0) (hm : x0.length ≤ maxLen) (hi : i < x0.length) (ds : List Dyn) :
    (if ok66 x0 i (x0.getD i (ByteArray.empty, (0 : Int), (0 : Int), (0 : Int), (0 : Int), ())) = true then R66_2 n ((i : Int) + 1) x0 ds else ds = [⟨.bool, false⟩]) → R66_2 (n + 1) (i : Int) x0 ds := by
  intro h
  have hu := inR_up hm hi
  rw [R66_2, if_pos (by simp; omega)]
  refine ⟨by omega, by omega, ?_⟩
  simp only [Int.toNat_natCast]
  unfold ok66 at h
  cases h1 : g94_0 (x0.getD i (ByteArray.empty, (0 : Int), (0 : Int), (0 : Int), (0 : Int), ())) with
  | false =>
    rw [h1] at h
    rw [if_pos (by rfl)]
    simpa using h
  | true =>
    rw [h1] at h
    rw [if_neg (by simp)]
    by_cases h0 : (i : Int) > 0
    · rw [if_pos (by simpa using h0)]
      have hi0 : (i == 0) = false := by simp; omega
      have e : ((i : Int) - 1).toNat = i - 1 := by omega
      refine ⟨by rw [i64_iff]; have : maxLen ≤ 9223372036854775807 := by decide
                 omega, by omega, by omega, by omega, by omega, ?_⟩
      rw [e]
      by_cases h2 : Op.bytesLess (ByteArray.toList (x0.getD (i - 1) (ByteArray.empty, (0 : Int), (0 : Int), (0 : Int), (0 : Int), ())).1) (ByteArray.toList (x0.getD i (ByteArray.empty, (0 : Int), (0 : Int), (0 : Int), (0 : Int), ())).1) = true
      · rw [h2, hi0] at h
        rw [if_neg (by rw [h2]; simp)]
        exact ⟨hu, by simpa using h⟩
      · have h2 := bf_ h2
        rw [h2, hi0] at h
        rw [if_pos (by rw [h2]; rfl)]
        simpa using h
    · rw [if_neg (by simpa using h0)]
      have hi0 : (i == 0) = true := by simp; omega
      rw [hi0] at h
      exact ⟨hu, by simpa using h⟩
theorem top66 (x0:List TyB0) (hw:x0.length≤maxLen):R66 (x0.length+1+1) x0 [⟨.bool,g66_0 x0⟩]:=by
 rw [R66]
 have key:=loop_testI x0 (ByteArray.empty,(0:Int),(0:Int),(0:Int),(0:Int),()) (ok66 x0) [(⟨.bool,false⟩:Dyn)] [⟨.bool,decide (x0.length≤16)⟩] (fun n i ds=>R66_2 n i x0 ds) (fun n => ?_) (fun n i hi hok ds hr => ?_) (fun n i hi hok => ?_)
 ·unfold g66_0
  cases h:allI (ok66 x0) 0 x0 with
  | true=>rw [if_pos h] at key;simpa using key
  | false=>rw [if_neg (by rw [h];simp)] at key;simpa using key
 ·rw [R66_2,if_neg (by simp)]
  have hc:decide ((x0.length:Int)≤16)=decide (x0.length≤16):=by
   congr 1;exact propext ⟨fun h=>by omega,fun h=>by omega⟩
  rw [hc]
 ·exact step66 n i x0 hw hi ds (by rw [if_pos hok];exact hr)
 ·exact step66 n i x0 hw hi _ (by rw [if_neg (by rw [hok];simp)])
def S66:Am.Spec:={ sig:=sig66,pre:=fun ⟨x0,_⟩=>P66 x0,res:=fun ⟨x0,_⟩=>[⟨.bool,g66_0 x0⟩] }
theorem con66:Contract Tryz.prog 66 S66:=contract_of Tryz.func66 hb66 (bl_ (by kernel_rfl)) (fun ⟨x0,_⟩ h hwf K q =>
 (snd66 _).1 x0 _ (top66 x0 hwf.1.1) K q)
end
noncomputable section
def ext69:Ext:=[]
theorem ext69Ok:ExtOk Tryz.prog ext69:=trivial
def b69:Code:=bodyOf Tryz.f69
theorem hb69:Tryz.f69.body=some b69:=by kernel_rfl
def sig69:List AT:=[AT.p YA3,AT.v (.int .i64),AT.v (.int .i64)]
def tys69:List Ty:=[.bool]
def kds69:List RK:=[]
def oks69:List AT:=owns sig69
def P69 (x0:ByteArray×Int×Int×Int×Int×Unit) (x1:Int) (x2:Int):Prop:=True
def g69_0 (x0:ByteArray×Int×Int×Int×Int×Unit) (x1:Int) (x2:Int):Bool:=(if (decide (x0.2.2.2.1≤x1))=true then decide (x0.2.2.2.2.1≤x2) else false)
theorem at69 (x0:ByteArray×Int×Int×Int×Int×Unit) (x1:Int) (x2:Int) (h:P69 x0 x1 x2) (K:Ctx) (q:Nat→Value):AtV Tryz.prog 69 (PostR kds69 oks69 [⟨.bool,g69_0 x0 x1 x2⟩] [] [] q K) 21 K q [] [.code b69] (entE 0 0 sig69 (x0,x1,x2,())) (entL sig69 (x0,x1,x2,())):=by
 unfold P69 at h
 unfold g69_0
 by_cases b0:(decide (x0.2.2.2.1≤x1))=true
 ·try simp only [if_pos b0] at h ⊢
  exact AtV.ret Tryz.func69 tabOk ext69Ok mixed false [] tys69 [true] (a1 b0 trivial) (by kernel_rfl)
 ·try simp only [if_neg b0] at h ⊢
  replace b0:=bf_ b0
  exact AtV.ret Tryz.func69 tabOk ext69Ok mixed false [] tys69 [false] (a1 b0 trivial) (by kernel_rfl)
def S69:Am.Spec:={ sig:=sig69,pre:=fun ⟨x0,x1,x2,_⟩=>P69 x0 x1 x2,res:=fun ⟨x0,x1,x2,_⟩=>[⟨.bool,g69_0 x0 x1 x2⟩],kds:=kds69 }
theorem con69:Contract Tryz.prog 69 S69:=contract_of Tryz.func69 hb69 (bl_ (by kernel_rfl)) (fun ⟨x0,x1,x2,_⟩ h _ K q=>at69 x0 x1 x2 h K q)
end
noncomputable section
def ext43:Ext:=[(66,S66),(67,S67),(68,S68),(69,S69)]
theorem ext43Ok:ExtOk Tryz.prog ext43:=⟨⟨ca66,con66⟩,⟨ca67,con67⟩,⟨ca68,con68⟩,⟨ca69,con69⟩,trivial⟩
def b43:Code:=bodyOf Tryz.f43
theorem hb43:Tryz.f43.body=some b43:=by kernel_rfl
def sig43:List AT:=[AT.v (.sl YA3),AT.v (.int .i64),AT.v (.int .i64)]
def tys43:List Ty:=[.int .i64]
def kds43:List RK:=[]
def oks43:List AT:=owns sig43
def E43_6 (v7:Int) (x0:List TyB0) (x1:Int) (x2:Int):Env:=[(0,.a (.sl YA3 x0)),(1,.a (.val (.int .i64 x1))),(2,.a (.val (.int .i64 x2))),(7,.a (.val (.int .i64 v7)))]
def L43_6 (v7:Int) (x0:List TyB0) (x1:Int) (x2:Int):Heap:=[]
mutual
def R43:Nat→List TyB0→Int→Int→List Dyn→Prop
 | 0,_,_,_,_=>False
 | n+1,x0,x1,x2,ds=>(if (!g66_0 x0)=true then (ds=[Dyn.mk (.int .i64) 1]) else (if (!g67_0 x1)=true then (ds=[Dyn.mk (.int .i64) 2]) else (if (!g68_0 x2)=true then (ds=[Dyn.mk (.int .i64) 2]) else (R43_6 n (0) (x0) (x1) (x2) ds))))
def R43_6:Nat→Int→List TyB0→Int→Int→List Dyn→Prop
 | 0,_,_,_,_,_=>False
 | n+1,v7,x0,x1,x2,ds=>(if (decide (v7<(x0.length:Int)))=true then ((0≤v7)∧(v7<(x0.length:Int))∧(if (!g69_0 (List.getD x0 (Int.toNat v7) (ByteArray.empty,0,0,0,0,())) x1 x2)=true then (ds=[Dyn.mk (.int .i64) 6]) else ((InR .i64 (v7+1))∧(R43_6 n (v7+1) (x0) (x1) (x2) ds)))) else (ds=[Dyn.mk (.int .i64) 0]))
end
theorem snd43:∀ n,(∀ (x0:List TyB0) (x1:Int) (x2:Int) ds,R43 n x0 x1 x2 ds→∀ K q,AtV Tryz.prog 43 (PostR kds43 oks43 ds [] [] q K) 32 K q [] [.code b43] (entE 0 0 sig43 (x0,x1,x2,())) (entL sig43 (x0,x1,x2,())))∧(∀ (v7:Int) (x0:List TyB0) (x1:Int) (x2:Int) ds,R43_6 n v7 x0 x1 x2 ds→∀ K q,AtV Tryz.prog 43 (PostR kds43 oks43 ds [] [] q K) 32 K q [] (cutAt b43 6) (E43_6 v7 x0 x1 x2) (L43_6 v7 x0 x1 x2)):=by
 intro n
 induction n with
 | zero=>exact ⟨fun _ _ _ _ h=>by simp only [R43] at h,fun _ _ _ _ _ h=>by simp only [R43_6] at h⟩
 | succ n ih =>
 obtain ⟨ih,ih6⟩:=ih
 refine ⟨?_,?_⟩
 ·intro x0 x1 x2 ds h K q
  rw [R43] at h
  by_cases b0:(!g66_0 x0)=true
  ·rw [if_pos b0] at h
   subst h
   exact AtV.ret Tryz.func43 tabOk ext43Ok mixed false [] tys43 [true] (a1 trivial (a1 b0 trivial)) (by kernel_rfl)
  ·rw [if_neg b0] at h
   replace b0:=bf_ b0
   by_cases b1:(!g67_0 x1)=true
   ·rw [if_pos b1] at h
    subst h
    exact AtV.ret Tryz.func43 tabOk ext43Ok mixed false [] tys43 [false,true,true] (a1 trivial (a1 b0 (a1 trivial (a1 b1 (a1 (rfl:true=true) trivial))))) (by kernel_rfl)
   ·rw [if_neg b1] at h
    replace b1:=bf_ b1
    by_cases b2:(!g68_0 x2)=true
    ·rw [if_pos b2] at h
     subst h
     exact AtV.ret Tryz.func43 tabOk ext43Ok mixed false [] tys43 [false,false,true] (a1 trivial (a1 b0 (a1 trivial (a1 b1 (a1 trivial (a1 b2 trivial)))))) (by kernel_rfl)
    ·rw [if_neg b2] at h
     replace b2:=bf_ b2
     exact AtV.go tabOk ext43Ok mixed false [] [] [0,1,2,7] [] [false,false,false] (a1 trivial (a1 b0 (a1 trivial (a1 b1 (a1 trivial (a1 b2 trivial)))))) (ih6 _ _ _ _ _ h K q) (by kernel_rfl)
 ·intro v7 x0 x1 x2 ds h K q
  rw [R43_6] at h
  by_cases b0:(decide (v7<(x0.length:Int)))=true
  ·rw [if_pos b0] at h
   obtain ⟨s0,s1,h⟩:=h
   by_cases b1:(!g69_0 (List.getD x0 (Int.toNat v7) (ByteArray.empty,0,0,0,0,())) x1 x2)=true
   ·rw [if_pos b1] at h
    subst h
    exact AtV.ret Tryz.func43 tabOk ext43Ok mixed false [] tys43 [true,true] (a1 b0 (a1 s0 (a1 s1 (a1 trivial (a1 b1 trivial))))) (by kernel_rfl)
   ·rw [if_neg b1] at h
    replace b1:=bf_ b1
    obtain ⟨s2,h⟩:=h
    exact AtV.go tabOk ext43Ok mixed false [] [] [0,1,2,7] [] [true,false] (a1 b0 (a1 s0 (a1 s1 (a1 trivial (a1 b1 (a1 s2 trivial)))))) (ih6 _ _ _ _ _ h K q) (by kernel_rfl)
  ·rw [if_neg b0] at h
   replace b0:=bf_ b0
   subst h
   exact AtV.ret Tryz.func43 tabOk ext43Ok mixed false [] tys43 [false] (a1 b0 trivial) (by kernel_rfl)
def q43 (x1 x2:Int) (x:TyB0):Bool:=g69_0 x x1 x2
def g43_0 (x0:List TyB0) (x1 x2:Int):Int:=if g66_0 x0=true then (if g67_0 x1=true then (if g68_0 x2=true then (if x0.all (q43 x1 x2)=true then 0 else 6) else 2) else 2) else 1
def P43 (x0:List TyB0) (x1 x2:Int):Prop:=True
theorem top43 (x0:List TyB0) (x1 x2:Int) (hm:x0.length≤maxLen):R43 (x0.length+1+1) x0 x1 x2 [⟨.int .i64,g43_0 x0 x1 x2⟩]:=by
 rw [R43]
 unfold g43_0
 cases h0:g66_0 x0 with
 | false=>rw [if_pos (show (!false)=true from rfl),if_neg (by simp)]
 | true =>
 cases h1:g67_0 x1 with
 | false=>rw [if_neg (show ¬ (!true)=true by decide),if_pos (show (!false)=true from rfl),if_pos rfl,if_neg (by simp)]
 | true =>
 cases h2:g68_0 x2 with
 | false=>rw [if_neg (show ¬ (!true)=true by decide),if_neg (show ¬ (!true)=true by decide),if_pos (show (!false)=true from rfl),if_pos rfl,if_pos rfl,if_neg (by simp)]
 | true =>
 rw [if_neg (show ¬ (!true)=true by decide),if_neg (show ¬ (!true)=true by decide),if_neg (show ¬ (!true)=true by decide),if_pos rfl,if_pos rfl,if_pos rfl]
 have key:=loop_test x0 (ByteArray.empty,(0:Int),(0:Int),(0:Int),(0:Int),()) (q43 x1 x2) [(⟨.int .i64,6⟩:Dyn)] [⟨.int .i64,0⟩] (fun n i ds=>R43_6 n i x0 x1 x2 ds) (fun n => ?_) (fun n i hi hok ds hr => ?_) (fun n i hi hok => ?_)
 ·cases h:x0.all (q43 x1 x2) <;> rw [h] at key <;> simpa using key
 ·rw [R43_6,if_neg (by simp)]
 ·rw [R43_6,if_pos (by simp;omega)]
  simp only [Int.toNat_natCast]
  unfold q43 at hok
  refine ⟨by omega,by omega,?_⟩
  rw [if_neg (by rw [hok];simp)]
  exact ⟨inR_up hm hi,hr⟩
 ·rw [R43_6,if_pos (by simp;omega)]
  simp only [Int.toNat_natCast]
  unfold q43 at hok
  refine ⟨by omega,by omega,?_⟩
  rw [if_pos (by rw [hok];rfl)] <;> trivial
def S43:Am.Spec:={ sig:=sig43,pre:=fun ⟨x0,x1,x2,_⟩=>P43 x0 x1 x2,res:=fun ⟨x0,x1,x2,_⟩=>[⟨.int .i64,g43_0 x0 x1 x2⟩] }
theorem con43:Contract Tryz.prog 43 S43:=contract_of Tryz.func43 hb43 (bl_ (by kernel_rfl)) (fun ⟨x0,x1,x2,_⟩ h hwf K q =>
 (snd43 _).1 x0 x1 x2 _ (top43 x0 x1 x2 hwf.1.1) K q)
end
noncomputable section
def ext71:Ext:=[(63,S63)]
theorem ext71Ok:ExtOk Tryz.prog ext71:=⟨⟨ca63,con63⟩,trivial⟩
def b71:Code:=bodyOf Tryz.f71
theorem hb71:Tryz.f71.body=some b71:=by kernel_rfl
def sig71:List AT:=[AT.v (.int .i64)]
def tys71:List Ty:=[.bool]
def kds71:List RK:=[]
def oks71:List AT:=owns sig71
def P71 (x0:Int):Prop:=True
def g71_0 (x0:Int):Bool:=g63_0 x0 0 1440
theorem at71 (x0:Int) (h:P71 x0) (K:Ctx) (q:Nat→Value):AtV Tryz.prog 71 (PostR kds71 oks71 [⟨.bool,g71_0 x0⟩] [] [] q K) 5 K q [] [.code b71] (entE 0 0 sig71 (x0,())) (entL sig71 (x0,())):=by
 unfold P71 at h
 unfold g71_0
 exact AtV.ret Tryz.func71 tabOk ext71Ok mixed false [] tys71 [] (a1 trivial trivial) (by kernel_rfl)
def S71:Am.Spec:={ sig:=sig71,pre:=fun ⟨x0,_⟩=>P71 x0,res:=fun ⟨x0,_⟩=>[⟨.bool,g71_0 x0⟩],kds:=kds71 }
theorem con71:Contract Tryz.prog 71 S71:=contract_of Tryz.func71 hb71 (bl_ (by kernel_rfl)) (fun ⟨x0,_⟩ h _ K q=>at71 x0 h K q)
end
noncomputable section
def ext95:Ext:=[(71,S71),(63,S63)]
theorem ext95Ok:ExtOk Tryz.prog ext95:=⟨⟨ca71,con71⟩,⟨ca63,con63⟩,trivial⟩
def b95:Code:=bodyOf Tryz.f95
theorem hb95:Tryz.f95.body=some b95:=by kernel_rfl
def sig95:List AT:=[AT.p YA9]
def tys95:List Ty:=[.bool]
def kds95:List RK:=[]
def oks95:List AT:=owns sig95
def P95 (x0:Int×Int×Unit):Prop:=(if (g71_0 x0.1)=true then (if (g63_0 x0.2.1 1 1440)=true then ((InR .i64 (x0.1+x0.2.1))∧True) else True) else True)
def g95_0 (x0:Int×Int×Unit):Bool:=(if (g71_0 x0.1)=true then (if (g63_0 x0.2.1 1 1440)=true then decide (x0.1+x0.2.1≤1440) else false) else false)
theorem at95 (x0:Int×Int×Unit) (h:P95 x0) (K:Ctx) (q:Nat→Value):AtV Tryz.prog 95 (PostR kds95 oks95 [⟨.bool,g95_0 x0⟩] [] [] q K) 27 K q [] [.code b95] (entE 0 0 sig95 (x0,())) (entL sig95 (x0,())):=by
 unfold P95 at h
 unfold g95_0
 by_cases b0:(g71_0 x0.1)=true
 ·try simp only [if_pos b0] at h ⊢
  by_cases b1:(g63_0 x0.2.1 1 1440)=true
  ·try simp only [if_pos b1] at h ⊢
   obtain ⟨s0,h⟩:=h
   exact AtV.ret Tryz.func95 tabOk ext95Ok mixed false [] tys95 [true,true] (a1 trivial (a1 b0 (a1 trivial (a1 b1 (a1 s0 trivial))))) (by kernel_rfl)
  ·try simp only [if_neg b1] at h ⊢
   replace b1:=bf_ b1
   exact AtV.ret Tryz.func95 tabOk ext95Ok mixed false [] tys95 [true,false] (a1 trivial (a1 b0 (a1 trivial (a1 b1 trivial)))) (by kernel_rfl)
 ·try simp only [if_neg b0] at h ⊢
  replace b0:=bf_ b0
  exact AtV.ret Tryz.func95 tabOk ext95Ok mixed false [] tys95 [false,false] (a1 trivial (a1 b0 (a1 (rfl:false=false) trivial))) (by kernel_rfl)
def S95:Am.Spec:={ sig:=sig95,pre:=fun ⟨x0,_⟩=>P95 x0,res:=fun ⟨x0,_⟩=>[⟨.bool,g95_0 x0⟩],kds:=kds95 }
theorem con95:Contract Tryz.prog 95 S95:=contract_of Tryz.func95 hb95 (bl_ (by kernel_rfl)) (fun ⟨x0,_⟩ h _ K q=>at95 x0 h K q)
end
noncomputable section
def ext70:Ext:=[(95,S95)]
theorem ext70Ok:ExtOk Tryz.prog ext70:=⟨⟨ca95,con95⟩,trivial⟩
def b70:Code:=bodyOf Tryz.f70
theorem hb70:Tryz.f70.body=some b70:=by kernel_rfl
def sig70:List AT:=[AT.v (.sl YA9)]
def tys70:List Ty:=[.bool]
def kds70:List RK:=[]
def oks70:List AT:=owns sig70
def E70_2 (v3:Int) (x0:List TyB4):Env:=[(0,.a (.sl YA9 x0)),(3,.a (.val (.int .i64 v3)))]
def L70_2 (v3:Int) (x0:List TyB4):Heap:=[]
mutual
def R70:Nat→List TyB4→List Dyn→Prop
 | 0,_,_=>False
 | n+1,x0,ds=>(R70_2 n (0) (x0) ds)
def R70_2:Nat→Int→List TyB4→List Dyn→Prop
 | 0,_,_,_=>False
 | n+1,v3,x0,ds=>(if (decide (v3<(x0.length:Int)))=true then ((0≤v3)∧(v3<(x0.length:Int))∧((P95 (List.getD x0 (Int.toNat v3) (0,0,())))∧(if (!g95_0 (List.getD x0 (Int.toNat v3) (0,0,())))=true then (ds=[Dyn.mk .bool false]) else (if (decide (v3>0))=true then ((InR .i64 (v3 - 1))∧((0≤v3 - 1)∧(v3 - 1<(x0.length:Int))∧((InR .i64 (v3 - 1))∧((0≤v3 - 1)∧(v3 - 1<(x0.length:Int))∧((InR .i64 ((List.getD x0 (Int.toNat (v3 - 1)) (0,0,())).1+(List.getD x0 (Int.toNat (v3 - 1)) (0,0,())).2.1))∧((0≤v3)∧(v3<(x0.length:Int))∧(if (decide ((List.getD x0 (Int.toNat (v3 - 1)) (0,0,())).1+(List.getD x0 (Int.toNat (v3 - 1)) (0,0,())).2.1>(List.getD x0 (Int.toNat v3) (0,0,())).1))=true then (ds=[Dyn.mk .bool false]) else ((InR .i64 (v3+1))∧(R70_2 n (v3+1) (x0) ds))))))))) else ((InR .i64 (v3+1))∧(R70_2 n (v3+1) (x0) ds)))))) else (ds=[Dyn.mk .bool (decide ((x0.length:Int)≤24))]))
end
theorem snd70:∀ n,(∀ (x0:List TyB4) ds,R70 n x0 ds→∀ K q,AtV Tryz.prog 70 (PostR kds70 oks70 ds [] [] q K) 43 K q [] [.code b70] (entE 0 0 sig70 (x0,())) (entL sig70 (x0,())))∧(∀ (v3:Int) (x0:List TyB4) ds,R70_2 n v3 x0 ds→∀ K q,AtV Tryz.prog 70 (PostR kds70 oks70 ds [] [] q K) 43 K q [] (cutAt b70 2) (E70_2 v3 x0) (L70_2 v3 x0)):=by
 intro n
 induction n with
 | zero=>exact ⟨fun _ _ h=>by simp only [R70] at h,fun _ _ _ h=>by simp only [R70_2] at h⟩
 | succ n ih =>
 obtain ⟨ih,ih2⟩:=ih
 refine ⟨?_,?_⟩
 ·intro x0 ds h K q
  rw [R70] at h
  exact AtV.go tabOk ext70Ok mixed false [] [] [0,3] [] [] trivial (ih2 _ _ _ h K q) (by kernel_rfl)
 ·intro v3 x0 ds h K q
  rw [R70_2] at h
  by_cases b0:(decide (v3<(x0.length:Int)))=true
  ·rw [if_pos b0] at h
   obtain ⟨s0,s1,h⟩:=h
   obtain ⟨s2,h⟩:=h
   by_cases b1:(!g95_0 (List.getD x0 (Int.toNat v3) (0,0,())))=true
   ·rw [if_pos b1] at h
    subst h
    exact AtV.ret Tryz.func70 tabOk ext70Ok mixed false [] tys70 [true,true,true] (a1 b0 (a1 s0 (a1 s1 (a1 s2 (a1 b1 (a1 (rfl:true=true) trivial)))))) (by kernel_rfl)
   ·rw [if_neg b1] at h
    replace b1:=bf_ b1
    by_cases b2:(decide (v3>0))=true
    ·rw [if_pos b2] at h
     obtain ⟨s3,h⟩:=h
     obtain ⟨s4,s5,h⟩:=h
     obtain ⟨s6,h⟩:=h
     obtain ⟨s7,s8,h⟩:=h
     obtain ⟨s9,h⟩:=h
     obtain ⟨s10,s11,h⟩:=h
     by_cases b3:(decide ((List.getD x0 (Int.toNat (v3 - 1)) (0,0,())).1+(List.getD x0 (Int.toNat (v3 - 1)) (0,0,())).2.1>(List.getD x0 (Int.toNat v3) (0,0,())).1))=true
     ·rw [if_pos b3] at h
      subst h
      exact AtV.ret Tryz.func70 tabOk ext70Ok mixed false [] tys70 [true,false,true,true] (a1 b0 (a1 s0 (a1 s1 (a1 s2 (a1 b1 (a1 b2 (a1 s3 (a1 s4 (a1 s5 (a1 s6 (a1 s7 (a1 s8 (a1 s9 (a1 s10 (a1 s11 (a1 b3 trivial)))))))))))))))) (by kernel_rfl)
     ·rw [if_neg b3] at h
      replace b3:=bf_ b3
      obtain ⟨s12,h⟩:=h
      exact AtV.go tabOk ext70Ok mixed false [] [] [0,3] [] [true,false,true,false] (a1 b0 (a1 s0 (a1 s1 (a1 s2 (a1 b1 (a1 b2 (a1 s3 (a1 s4 (a1 s5 (a1 s6 (a1 s7 (a1 s8 (a1 s9 (a1 s10 (a1 s11 (a1 b3 (a1 s12 trivial))))))))))))))))) (ih2 _ _ _ h K q) (by kernel_rfl)
    ·rw [if_neg b2] at h
     replace b2:=bf_ b2
     obtain ⟨s3,h⟩:=h
     exact AtV.go tabOk ext70Ok mixed false [] [] [0,3] [] [true,false,false,false] (a1 b0 (a1 s0 (a1 s1 (a1 s2 (a1 b1 (a1 b2 (a1 (rfl:false=false) (a1 s3 trivial)))))))) (ih2 _ _ _ h K q) (by kernel_rfl)
  ·rw [if_neg b0] at h
   replace b0:=bf_ b0
   subst h
   exact AtV.ret Tryz.func70 tabOk ext70Ok mixed false [] tys70 [false] (a1 b0 trivial) (by kernel_rfl)
def one70 (x:TyB4):Bool:=g95_0 x
def ok70 (x0:List TyB4) (i:Nat) (x:TyB4):Bool:=one70 x&&(i==0||decide ((x0.getD (i - 1) ((0:Int),(0:Int),())).1+(x0.getD (i - 1) ((0:Int),(0:Int),())).2.1≤x.1))
def g70_0 (x0:List TyB4):Bool:=allI (ok70 x0) 0 x0&&decide ((x0.length:Int)≤24)
def P70 (x0:List TyB4):Prop:=True
theorem in70 {x a b:Int}:g63_0 x a b=true↔a≤x∧x≤b:=by
 unfold g63_0
 by_cases c1:x≥a
 ·by_cases c2:x≤b
  ·simp [c1,c2]
  ·simp [c1,c2]
 ·have:¬ a≤x:=c1
  simp [c1,this]
theorem one70_pre (x:TyB4):P95 x:=by
 unfold P95
 split
 ·rename_i h1
  split
  ·rename_i h2
   have h1:=in70.1 (show g63_0 x.1 0 1440=true from h1)
   have h2:=in70.1 (show g63_0 x.2.1 1 1440=true from h2)
   exact ⟨by rw [i64_iff];omega,trivial⟩
  ·trivial
 ·trivial
theorem one70_b {x:TyB4} (h:one70 x=true):(0≤x.1∧x.1≤1440)∧(1≤x.2.1∧x.2.1≤1440):=by
 unfold one70 g95_0 at h
 split at h
 ·rename_i h0
  split at h
  ·rename_i h1
   exact ⟨in70.1 h0,in70.1 h1⟩
  ·cases h
 ·cases h
theorem run70 (x0:List TyB4) (hm:x0.length≤maxLen):∀ (k i:Nat),i+k=x0.length→(∀ j,j<i→one70 (x0.getD j ((0:Int),(0:Int),()))=true) →
  R70_2 (k+1) (i:Int) x0 [⟨.bool,allI (ok70 x0) i (x0.drop i)&&decide ((x0.length:Int)≤24)⟩]:=by
 intro k
 induction k with
 | zero =>
  intro i hi _
  rw [R70_2,if_neg (by simp only [decide_eq_true_eq];omega),drop_end _ _ (by omega)]
  rfl
 | succ k ih =>
  intro i hi hp
  have hlt:i<x0.length:=by omega
  have hu:=inR_up hm hlt
  have hmx:maxLen≤9223372036854775807:=by decide
  rw [R70_2,if_pos (by simp only [decide_eq_true_eq];omega),drop_get x0 i ((0:Int),(0:Int),()) hlt]
  simp only [Int.toNat_natCast,allI]
  refine ⟨by omega,by omega,one70_pre _,?_⟩
  cases h1:one70 (x0.getD i ((0:Int),(0:Int),())) with
  | false =>
   unfold one70 at h1
   rw [if_pos (by rw [h1];rfl)]
   have:ok70 x0 i (x0.getD i ((0:Int),(0:Int),()))=false:=by unfold ok70 one70;rw [h1];rfl
   rw [this];rfl
  | true =>
   have h1':=h1
   unfold one70 at h1
   rw [if_neg (by rw [h1];simp)]
   have hnext:=ih (i+1) (by omega) (fun j hj=>by
    rcases Nat.lt_or_ge j i with h | h
    ·exact hp j h
    ·have:j=i:=by omega
     subst this;exact h1')
   have e1:(((i+1:Nat)):Int)=(i:Int)+1:=by omega
   rw [e1] at hnext
   by_cases h0:(i:Int)>0
   ·rw [if_pos (by simpa using h0)]
    have hi0:(i==0)=false:=by simp;omega
    have e:((i:Int) - 1).toNat=i - 1:=by omega
    obtain ⟨b1,b2⟩:=one70_b (hp (i - 1) (by omega))
    have hd:InR .i64 ((i:Int) - 1):=by rw [i64_iff];omega
    simp only [e]
    refine ⟨hd,by omega,by omega,hd,by omega,by omega,by rw [i64_iff];omega,by omega,by omega,?_⟩
    by_cases hc:(x0.getD (i - 1) ((0:Int),(0:Int),())).1+(x0.getD (i - 1) ((0:Int),(0:Int),())).2.1≤(x0.getD i ((0:Int),(0:Int),())).1
    ·rw [if_neg (by show ¬ decide ((x0.getD (i - 1) ((0:Int),(0:Int),())).1+(x0.getD (i - 1) ((0:Int),(0:Int),())).2.1>(x0.getD i ((0:Int),(0:Int),())).1)=true;rw [decide_eq_true_eq];omega)]
     have:ok70 x0 i (x0.getD i ((0:Int),(0:Int),()))=true:=by unfold ok70;rw [h1',hi0,decide_eq_true hc];rfl
     rw [this,Bool.true_and]
     exact ⟨hu,hnext⟩
    ·rw [if_pos (by show decide ((x0.getD (i - 1) ((0:Int),(0:Int),())).1+(x0.getD (i - 1) ((0:Int),(0:Int),())).2.1>(x0.getD i ((0:Int),(0:Int),())).1)=true;rw [decide_eq_true_eq];omega)]
     have:ok70 x0 i (x0.getD i ((0:Int),(0:Int),()))=false:=by unfold ok70;rw [hi0,decide_eq_false hc,Bool.or_false,Bool.and_false]
     rw [this,Bool.false_and,Bool.false_and]
   ·rw [if_neg (by simpa using h0)]
    have hi0:(i==0)=true:=by simp;omega
    have:ok70 x0 i (x0.getD i ((0:Int),(0:Int),()))=true:=by unfold ok70;rw [h1',hi0];rfl
    rw [this,Bool.true_and]
    exact ⟨hu,hnext⟩
theorem top70 (x0:List TyB4) (hw:x0.length≤maxLen):R70 (x0.length+1+1) x0 [⟨.bool,g70_0 x0⟩]:=by
 rw [R70]
 exact run70 x0 hw x0.length 0 (by omega) (fun j hj=>by omega)
def S70:Am.Spec:={ sig:=sig70,pre:=fun ⟨x0,_⟩=>P70 x0,res:=fun ⟨x0,_⟩=>[⟨.bool,g70_0 x0⟩] }
theorem con70:Contract Tryz.prog 70 S70:=contract_of Tryz.func70 hb70 (bl_ (by kernel_rfl)) (fun ⟨x0,_⟩ h hwf K q =>
 (snd70 _).1 x0 _ (top70 x0 hwf.1.1) K q)
end
noncomputable section
def ext44:Ext:=[(70,S70),(71,S71)]
theorem ext44Ok:ExtOk Tryz.prog ext44:=⟨⟨ca70,con70⟩,⟨ca71,con71⟩,trivial⟩
def b44:Code:=bodyOf Tryz.f44
theorem hb44:Tryz.f44.body=some b44:=by kernel_rfl
def sig44:List AT:=[AT.v (.sl YA9),AT.v (.int .i64)]
def tys44:List Ty:=[.int .i64]
def kds44:List RK:=[]
def oks44:List AT:=owns sig44
def P44 (x0:List TyB4) (x1:Int):Prop:=True
def g44_0 (x0:List TyB4) (x1:Int):Int:=(if (!g70_0 x0)=true then 1 else (if (!g71_0 x1)=true then 2 else 0))
theorem at44 (x0:List TyB4) (x1:Int) (h:P44 x0 x1) (K:Ctx) (q:Nat→Value):AtV Tryz.prog 44 (PostR kds44 oks44 [⟨.int .i64,g44_0 x0 x1⟩] [] [] q K) 11 K q [] [.code b44] (entE 0 0 sig44 (x0,x1,())) (entL sig44 (x0,x1,())):=by
 unfold P44 at h
 unfold g44_0
 by_cases b0:(!g70_0 x0)=true
 ·try simp only [if_pos b0] at h ⊢
  exact AtV.ret Tryz.func44 tabOk ext44Ok mixed false [] tys44 [true] (a1 trivial (a1 b0 trivial)) (by kernel_rfl)
 ·try simp only [if_neg b0] at h ⊢
  replace b0:=bf_ b0
  by_cases b1:(!g71_0 x1)=true
  ·try simp only [if_pos b1] at h ⊢
   exact AtV.ret Tryz.func44 tabOk ext44Ok mixed false [] tys44 [false,true] (a1 trivial (a1 b0 (a1 trivial (a1 b1 trivial)))) (by kernel_rfl)
  ·try simp only [if_neg b1] at h ⊢
   replace b1:=bf_ b1
   exact AtV.ret Tryz.func44 tabOk ext44Ok mixed false [] tys44 [false,false] (a1 trivial (a1 b0 (a1 trivial (a1 b1 trivial)))) (by kernel_rfl)
def S44:Am.Spec:={ sig:=sig44,pre:=fun ⟨x0,x1,_⟩=>P44 x0 x1,res:=fun ⟨x0,x1,_⟩=>[⟨.int .i64,g44_0 x0 x1⟩],kds:=kds44 }
theorem con44:Contract Tryz.prog 44 S44:=contract_of Tryz.func44 hb44 (bl_ (by kernel_rfl)) (fun ⟨x0,x1,_⟩ h _ K q=>at44 x0 x1 h K q)
end
noncomputable section
def ext125:Ext:=[]
theorem ext125Ok:ExtOk Tryz.prog ext125:=trivial
def b125:Code:=bodyOf Tryz.f125
theorem hb125:Tryz.f125.body=some b125:=by kernel_rfl
def sig125:List AT:=[AT.v (.str),AT.v (.int .u8)]
def tys125:List Ty:=[.sl .str]
def kds125:List RK:=[]
def oks125:List AT:=owns sig125
def E125_4 (v6:Int) (v7:Int) (h0:List ByteArray) (x0:ByteArray) (x1:Int):Env:=[(0,.a (.val (.string x0))),(1,.a (.val (.int .u8 x1))),(5,.a (.osl 0 Option.none)),(6,.a (.val (.int .i64 v6))),(7,.a (.val (.int .i64 v7)))]
def L125_4 (v6:Int) (v7:Int) (h0:List ByteArray) (x0:ByteArray) (x1:Int):Heap:=[Option.some (Arr.mk .str h0 false Option.none Option.none)]
mutual
def R125:Nat→ByteArray→Int→List Dyn→Prop
 | 0,_,_,_=>False
 | n+1,x0,x1,ds=>(R125_4 n (0) (0) ([]) (x0) (x1) ds)
def R125_4:Nat→Int→Int→List ByteArray→ByteArray→Int→List Dyn→Prop
 | 0,_,_,_,_,_,_=>False
 | n+1,v6,v7,h0,x0,x1,ds=>(if (decide (v7<(↑(ByteArray.size x0):Int)))=true then ((0≤v7)∧(v7<(↑(ByteArray.size x0):Int))∧(if ((↑(UInt8.toNat (List.getD (Array.toList (ByteArray.data x0)) (Int.toNat v7) 0)):Int)==x1)=true then ((0≤v6)∧(v6≤v7)∧(v7≤(↑(ByteArray.size x0):Int))∧(((List.length h0+1)*16≤140737488355328)∧((InR .i64 (v7+1))∧((InR .i64 (v7+1))∧(R125_4 n (v7+1) (v7+1) (h0++[ByteArray.extract x0 (Int.toNat v6) (Int.toNat v7)]) (x0) (x1) ds))))) else ((InR .i64 (v7+1))∧(R125_4 n (v6) (v7+1) (h0) (x0) (x1) ds)))) else ((0≤v6)∧(v6≤(↑(ByteArray.size x0):Int))∧(((List.length h0+1)*16≤140737488355328)∧(ds=[Dyn.mk (.sl .str) (h0++[ByteArray.extract x0 (Int.toNat v6) (Int.toNat (↑(ByteArray.size x0):Int))])]))))
end
theorem snd125:∀ n,(∀ (x0:ByteArray) (x1:Int) ds,R125 n x0 x1 ds→∀ K q,AtV Tryz.prog 125 (PostR kds125 oks125 ds [] [] q K) 35 K q [] [.code b125] (entE 0 0 sig125 (x0,x1,())) (entL sig125 (x0,x1,())))∧(∀ (v6:Int) (v7:Int) (h0:List ByteArray) (x0:ByteArray) (x1:Int) ds,R125_4 n v6 v7 h0 x0 x1 ds→∀ K q,AtV Tryz.prog 125 (PostR kds125 oks125 ds [] [] q K) 35 K q [] (cutAt b125 4) (E125_4 v6 v7 h0 x0 x1) (L125_4 v6 v7 h0 x0 x1)):=by
 intro n
 induction n with
 | zero=>exact ⟨fun _ _ _ h=>by simp only [R125] at h,fun _ _ _ _ _ _ h=>by simp only [R125_4] at h⟩
 | succ n ih =>
 obtain ⟨ih,ih4⟩:=ih
 refine ⟨?_,?_⟩
 ·intro x0 x1 ds h K q
  rw [R125] at h
  exact AtV.go tabOk ext125Ok mixed false [] [] [0,1,5,6,7] [0] [] trivial (ih4 _ _ _ _ _ _ h K q) (by kernel_rfl)
 ·intro v6 v7 h0 x0 x1 ds h K q
  rw [R125_4] at h
  by_cases b0:(decide (v7<(↑(ByteArray.size x0):Int)))=true
  ·rw [if_pos b0] at h
   obtain ⟨s0,s1,h⟩:=h
   by_cases b1:((↑(UInt8.toNat (List.getD (Array.toList (ByteArray.data x0)) (Int.toNat v7) 0)):Int)==x1)=true
   ·rw [if_pos b1] at h
    obtain ⟨s2,s3,s4,h⟩:=h
    obtain ⟨s5,h⟩:=h
    obtain ⟨s6,h⟩:=h
    obtain ⟨s7,h⟩:=h
    exact AtV.go tabOk ext125Ok mixed false [] [] [0,1,5,6,7] [0] [true,true] (a1 b0 (a1 s0 (a1 s1 (a1 b1 (a1 s2 (a1 s3 (a1 s4 (a1 s5 (a1 s6 (a1 s7 trivial)))))))))) (ih4 _ _ _ _ _ _ h K q) (by kernel_rfl)
   ·rw [if_neg b1] at h
    replace b1:=bf_ b1
    obtain ⟨s2,h⟩:=h
    exact AtV.go tabOk ext125Ok mixed false [] [] [0,1,5,6,7] [0] [true,false] (a1 b0 (a1 s0 (a1 s1 (a1 b1 (a1 s2 trivial))))) (ih4 _ _ _ _ _ _ h K q) (by kernel_rfl)
  ·rw [if_neg b0] at h
   replace b0:=bf_ b0
   obtain ⟨s0,s1,h⟩:=h
   obtain ⟨s2,h⟩:=h
   subst h
   exact AtV.ret Tryz.func125 tabOk ext125Ok mixed false [] tys125 [false] (a1 b0 (a1 s0 (a1 s1 (a1 s2 trivial)))) (by kernel_rfl)
def c125 (x1:Int):UInt8:=UInt8.ofNat x1.toNat
def g125_0 (x0:ByteArray) (x1:Int):List ByteArray:=bss (splitC (c125 x1) x0.data.toList)
def P125 (x0:ByteArray) (x1:Int):Prop:=x0.size<4294967281∧0≤x1∧x1≤255
theorem run125 (x0:ByteArray) (x1:Int) (hs:x0.size<4294967281) (h0:0≤x1) (h1:x1≤255):∀ (k i frm:Nat) (h:List ByteArray),i+k=x0.size→frm≤i→c125 x1 ∉ (x0.data.toList.drop frm).take (i - frm)→h.length≤i →
  R125_4 (k+1) (frm:Int) (i:Int) h x0 x1 [⟨.sl .str,h++bss (splitC (c125 x1) (x0.data.toList.drop frm))⟩]:=by
 intro k
 have hll:x0.data.toList.length=x0.size:=rfl
 induction k with
 | zero =>
  intro i frm h hi hf hc hl
  rw [R125_4,if_neg (by simp;omega)]
  refine ⟨by omega,by omega,by omega,?_⟩
  have e:(x0.data.toList.drop frm).take (i - frm)=x0.data.toList.drop frm:=List.take_of_length_le (by rw [List.length_drop];omega)
  rw [e] at hc
  rw [splitC_free _ hc,Int.toNat_natCast,Int.toNat_natCast,Lib.extract_from]
  rfl
 | succ k ih =>
  intro i frm h hi hf hc hl
  have hup:InR .i64 ((i:Int)+1):=by rw [i64_iff];omega
  have hlt:i<x0.data.toList.length:=by rw [hll];omega
  have hcons:x0.data.toList.drop i=x0.data.toList.getD i 0 :: x0.data.toList.drop (i+1):=drop_get _ i 0 hlt
  have hsplit:x0.data.toList.drop frm=(x0.data.toList.drop frm).take (i - frm)++x0.data.toList.drop i:=by
   conv=>lhs;rw [← List.take_append_drop (i - frm) (x0.data.toList.drop frm)]
   rw [List.drop_drop,show frm+(i - frm)=i by omega]
  rw [R125_4,if_pos (by simp;omega)]
  simp only [Int.toNat_natCast]
  refine ⟨by omega,by omega,?_⟩
  have hb:(((x0.data.toList.getD i 0).toNat:Int)==x1)=true↔x0.data.toList.getD i 0=c125 x1:=by
   have hlt':=(x0.data.toList.getD i 0).toNat_lt
   rw [beq_iff_eq, ← UInt8.toNat_inj]
   unfold c125
   have:(UInt8.ofNat x1.toNat).toNat=x1.toNat:=by rw [UInt8.toNat_ofNat'];omega
   rw [this]
   omega
  by_cases he:x0.data.toList.getD i 0=c125 x1
  ·rw [if_pos (hb.2 he)]
   refine ⟨by omega,by omega,by omega,by omega,hup,hup,?_⟩
   have:=ih (i+1) (i+1) (h++[x0.extract frm i]) (by omega) (Nat.le_refl _) (by simp) (by simp;omega)
   have e2:x0.extract frm i=⟨((x0.data.toList.drop frm).take (i - frm)).toArray⟩:=Lib.extract_mk x0.data.toList frm i
   have e3:splitC (c125 x1) (x0.data.toList.drop frm)=(x0.data.toList.drop frm).take (i - frm) :: splitC (c125 x1) (x0.data.toList.drop (i+1)):=by
    conv=>lhs;rw [hsplit,hcons,he]
    exact splitC_hit _ _ hc
   rw [e3,e2]
   rw [List.append_assoc,e2] at this
   exact this
  ·rw [if_neg (fun hh=>he (hb.1 hh))]
   refine ⟨hup,?_⟩
   refine ih (i+1) frm h (by omega) (by omega) (fun hm => ?_) (by omega)
   have e4:(x0.data.toList.drop frm).take (i+1 - frm)=(x0.data.toList.drop frm).take (i - frm)++[x0.data.toList.getD i 0]:=by
    conv=>lhs;rw [hsplit,hcons]
    rw [List.take_append,List.take_of_length_le (by rw [List.length_take,List.length_drop];omega)]
    have:i+1 - frm - ((x0.data.toList.drop frm).take (i - frm)).length=1:=by rw [List.length_take,List.length_drop];omega
    rw [this]
    rfl
   rw [e4] at hm
   rcases List.mem_append.1 hm with hm | hm
   ·exact hc hm
   ·exact he (List.mem_singleton.1 hm).symm
theorem top125 (x0:ByteArray) (x1:Int) (h:P125 x0 x1):R125 (x0.size+1+1) x0 x1 [⟨.sl .str,g125_0 x0 x1⟩]:=by
 rw [R125]
 have:=run125 x0 x1 h.1 h.2.1 h.2.2 x0.size 0 0 [] (by omega) (Nat.le_refl _) (by simp) (by simp)
 simpa [g125_0] using this
def S125:Am.Spec:={ sig:=sig125,pre:=fun ⟨x0,x1,_⟩=>P125 x0 x1,res:=fun ⟨x0,x1,_⟩=>[⟨.sl .str,g125_0 x0 x1⟩] }
theorem con125:Contract Tryz.prog 125 S125:=contract_of Tryz.func125 hb125 (bl_ (by kernel_rfl)) (fun ⟨x0,x1,_⟩ h hwf K q =>
 (snd125 _).1 x0 x1 _ (top125 x0 x1 h) K q)
end
noncomputable section
def ext126:Ext:=[(124,S124)]
theorem ext126Ok:ExtOk Tryz.prog ext126:=⟨⟨ca124,con124⟩,trivial⟩
def b126:Code:=bodyOf Tryz.f126
theorem hb126:Tryz.f126.body=some b126:=by kernel_rfl
def sig126:List AT:=[AT.v (.str)]
def tys126:List Ty:=[.bool]
def kds126:List RK:=[]
def oks126:List AT:=owns sig126
def E126_2 (v3:Int) (x0:ByteArray):Env:=[(0,.a (.val (.string x0))),(3,.a (.val (.int .i64 v3)))]
def L126_2 (v3:Int) (x0:ByteArray):Heap:=[]
mutual
def R126:Nat→ByteArray→List Dyn→Prop
 | 0,_,_=>False
 | n+1,x0,ds=>(R126_2 n (0) (x0) ds)
def R126_2:Nat→Int→ByteArray→List Dyn→Prop
 | 0,_,_,_=>False
 | n+1,v3,x0,ds=>(if (decide (v3<(↑(ByteArray.size x0):Int)))=true then ((0≤v3)∧(v3<(↑(ByteArray.size x0):Int))∧(if (!g124_0 (↑(UInt8.toNat (List.getD (Array.toList (ByteArray.data x0)) (Int.toNat v3) 0)):Int))=true then ((0≤v3)∧(v3<(↑(ByteArray.size x0):Int))∧(if (decide ((↑(UInt8.toNat (List.getD (Array.toList (ByteArray.data x0)) (Int.toNat v3) 0)):Int)<97))=true then (ds=[Dyn.mk .bool false]) else ((0≤v3)∧(v3<(↑(ByteArray.size x0):Int))∧(if (decide ((↑(UInt8.toNat (List.getD (Array.toList (ByteArray.data x0)) (Int.toNat v3) 0)):Int)>122))=true then (ds=[Dyn.mk .bool false]) else ((InR .i64 (v3+1))∧(R126_2 n (v3+1) (x0) ds)))))) else ((InR .i64 (v3+1))∧(R126_2 n (v3+1) (x0) ds)))) else (ds=[Dyn.mk .bool (decide ((↑(ByteArray.size x0):Int)>0))]))
end
theorem snd126:∀ n,(∀ (x0:ByteArray) ds,R126 n x0 ds→∀ K q,AtV Tryz.prog 126 (PostR kds126 oks126 ds [] [] q K) 30 K q [] [.code b126] (entE 0 0 sig126 (x0,())) (entL sig126 (x0,())))∧(∀ (v3:Int) (x0:ByteArray) ds,R126_2 n v3 x0 ds→∀ K q,AtV Tryz.prog 126 (PostR kds126 oks126 ds [] [] q K) 30 K q [] (cutAt b126 2) (E126_2 v3 x0) (L126_2 v3 x0)):=by
 intro n
 induction n with
 | zero=>exact ⟨fun _ _ h=>by simp only [R126] at h,fun _ _ _ h=>by simp only [R126_2] at h⟩
 | succ n ih =>
 obtain ⟨ih,ih2⟩:=ih
 refine ⟨?_,?_⟩
 ·intro x0 ds h K q
  rw [R126] at h
  exact AtV.go tabOk ext126Ok mixed false [] [] [0,3] [] [] trivial (ih2 _ _ _ h K q) (by kernel_rfl)
 ·intro v3 x0 ds h K q
  rw [R126_2] at h
  by_cases b0:(decide (v3<(↑(ByteArray.size x0):Int)))=true
  ·rw [if_pos b0] at h
   obtain ⟨s0,s1,h⟩:=h
   by_cases b1:(!g124_0 (↑(UInt8.toNat (List.getD (Array.toList (ByteArray.data x0)) (Int.toNat v3) 0)):Int))=true
   ·rw [if_pos b1] at h
    obtain ⟨s2,s3,h⟩:=h
    by_cases b2:(decide ((↑(UInt8.toNat (List.getD (Array.toList (ByteArray.data x0)) (Int.toNat v3) 0)):Int)<97))=true
    ·rw [if_pos b2] at h
     subst h
     exact AtV.ret Tryz.func126 tabOk ext126Ok mixed false [] tys126 [true,true,true,true] (a1 b0 (a1 s0 (a1 s1 (a1 trivial (a1 b1 (a1 s2 (a1 s3 (a1 b2 (a1 (rfl:true=true) trivial))))))))) (by kernel_rfl)
    ·rw [if_neg b2] at h
     replace b2:=bf_ b2
     obtain ⟨s4,s5,h⟩:=h
     by_cases b3:(decide ((↑(UInt8.toNat (List.getD (Array.toList (ByteArray.data x0)) (Int.toNat v3) 0)):Int)>122))=true
     ·rw [if_pos b3] at h
      subst h
      exact AtV.ret Tryz.func126 tabOk ext126Ok mixed false [] tys126 [true,true,false,true] (a1 b0 (a1 s0 (a1 s1 (a1 trivial (a1 b1 (a1 s2 (a1 s3 (a1 b2 (a1 s4 (a1 s5 (a1 b3 trivial))))))))))) (by kernel_rfl)
     ·rw [if_neg b3] at h
      replace b3:=bf_ b3
      obtain ⟨s6,h⟩:=h
      exact AtV.go tabOk ext126Ok mixed false [] [] [0,3] [] [true,true,false,false] (a1 b0 (a1 s0 (a1 s1 (a1 trivial (a1 b1 (a1 s2 (a1 s3 (a1 b2 (a1 s4 (a1 s5 (a1 b3 (a1 s6 trivial)))))))))))) (ih2 _ _ _ h K q) (by kernel_rfl)
   ·rw [if_neg b1] at h
    replace b1:=bf_ b1
    obtain ⟨s2,h⟩:=h
    exact AtV.go tabOk ext126Ok mixed false [] [] [0,3] [] [true,false,false] (a1 b0 (a1 s0 (a1 s1 (a1 trivial (a1 b1 (a1 (rfl:false=false) (a1 s2 trivial))))))) (ih2 _ _ _ h K q) (by kernel_rfl)
  ·rw [if_neg b0] at h
   replace b0:=bf_ b0
   subst h
   exact AtV.ret Tryz.func126 tabOk ext126Ok mixed false [] tys126 [false] (a1 b0 trivial) (by kernel_rfl)
def ok126 (b:Int):Bool:=g124_0 b||(decide (97≤b)&&decide (b≤122))
def g126_0 (x0:ByteArray):Bool:=(bytesOf x0).all ok126&&decide ((x0.size:Int)>0)
def P126 (x0:ByteArray):Prop:=True
theorem top126 (x0:ByteArray) (hw:Wf .str x0):R126 (x0.size+1+1) x0 [⟨.bool,g126_0 x0⟩]:=by
 have hl:=bytesOf_length x0
 rw [R126]
 have key:=loop_test (bytesOf x0) 0 ok126 [(⟨.bool,false⟩:Dyn)] [⟨.bool,decide ((x0.size:Int)>0)⟩] (fun n i ds=>R126_2 n i x0 ds) (fun n => ?_) (fun n i hi hok ds hr => ?_) (fun n i hi hok => ?_)
 ·rw [hl] at key
  unfold g126_0
  cases h:(bytesOf x0).all ok126 <;> rw [h] at key <;> simpa using key
 ·show R126_2 (n+1) ((bytesOf x0).length:Int) x0 _
  rw [R126_2,hl,if_neg (by simp)]
 ·have hu:=inR_up (xs:=bytesOf x0) (by rw [hl];exact hw) hi
  rw [R126_2,if_pos (by simp;omega)]
  simp only [Int.toNat_natCast,byte_get]
  generalize (bytesOf x0).getD i 0=c at *
  unfold ok126 at hok
  refine ⟨by omega,by omega,?_⟩
  by_cases hd:g124_0 c=true
  ·rw [if_neg (by rw [hd];simp)]
   exact ⟨hu,hr⟩
  ·rw [bf_ hd] at hok
   simp only [Bool.false_or,Bool.and_eq_true,decide_eq_true_eq] at hok
   rw [if_pos (by rw [bf_ hd];rfl)]
   refine ⟨by omega,by omega,?_⟩
   rw [if_neg (by simp only [decide_eq_true_eq];omega)]
   refine ⟨by omega,by omega,?_⟩
   rw [if_neg (by simp only [decide_eq_true_eq];omega)]
   exact ⟨hu,hr⟩
 ·rw [R126_2,if_pos (by simp;omega)]
  simp only [Int.toNat_natCast,byte_get]
  generalize (bytesOf x0).getD i 0=c at *
  unfold ok126 at hok
  refine ⟨by omega,by omega,?_⟩
  simp only [Bool.or_eq_false_iff] at hok
  obtain ⟨hd,h2⟩:=hok
  rw [if_pos (by rw [hd];rfl)]
  refine ⟨by omega,by omega,?_⟩
  by_cases h1:c<97
  ·rw [if_pos (by simpa using h1)] <;> trivial
  ·rw [if_neg (by simpa using h1)]
   refine ⟨by omega,by omega,?_⟩
   rw [if_pos (by
    simp only [Bool.and_eq_false_iff,decide_eq_false_iff_not] at h2
    simp only [decide_eq_true_eq];omega)] <;> trivial
def S126:Am.Spec:={ sig:=sig126,pre:=fun ⟨x0,_⟩=>P126 x0,res:=fun ⟨x0,_⟩=>[⟨.bool,g126_0 x0⟩] }
theorem con126:Contract Tryz.prog 126 S126:=contract_of Tryz.func126 hb126 (bl_ (by kernel_rfl)) (fun ⟨x0,_⟩ h hwf K q =>
 (snd126 _).1 x0 _ (top126 x0 hwf.1) K q)
end
noncomputable section
def ext96:Ext:=[(125,S125),(126,S126)]
theorem ext96Ok:ExtOk Tryz.prog ext96:=⟨⟨ca125,con125⟩,⟨ca126,con126⟩,trivial⟩
def b96:Code:=bodyOf Tryz.f96
theorem hb96:Tryz.f96.body=some b96:=by kernel_rfl
def sig96:List AT:=[AT.v (.str)]
def tys96:List Ty:=[.bool]
def kds96:List RK:=[]
def oks96:List AT:=owns sig96
def E96_5 (v4:Int) (x0:ByteArray):Env:=[(3,.a (.osl 0 Option.none)),(4,.a (.val (.int .i64 v4)))]
def L96_5 (v4:Int) (x0:ByteArray):Heap:=[Option.some (Arr.mk .str (g125_0 x0 32) false Option.none Option.none)]
mutual
def R96:Nat→ByteArray→List Dyn→Prop
 | 0,_,_=>False
 | n+1,x0,ds=>(if ((↑(ByteArray.size x0):Int)==0)=true then (ds=[Dyn.mk .bool false]) else (if (decide ((↑(ByteArray.size x0):Int)>40))=true then (ds=[Dyn.mk .bool false]) else ((P125 x0 32)∧(R96_5 n (0) (x0) ds))))
def R96_5:Nat→Int→ByteArray→List Dyn→Prop
 | 0,_,_,_=>False
 | n+1,v4,x0,ds=>(if (decide (v4<(↑(List.length (g125_0 x0 32)):Int)))=true then ((0≤v4)∧(v4<(↑(List.length (g125_0 x0 32)):Int))∧(if (!g126_0 (List.getD (g125_0 x0 32) (Int.toNat v4) ByteArray.empty))=true then (ds=[Dyn.mk .bool false]) else ((InR .i64 (v4+1))∧(R96_5 n (v4+1) (x0) ds)))) else (ds=[Dyn.mk .bool true]))
end
theorem snd96:∀ n,(∀ (x0:ByteArray) ds,R96 n x0 ds→∀ K q,AtV Tryz.prog 96 (PostR kds96 oks96 ds [] [] q K) 27 K q [] [.code b96] (entE 0 0 sig96 (x0,())) (entL sig96 (x0,())))∧(∀ (v4:Int) (x0:ByteArray) ds,R96_5 n v4 x0 ds→∀ K q,AtV Tryz.prog 96 (PostR kds96 oks96 ds [] [] q K) 27 K q [] (cutAt b96 5) (E96_5 v4 x0) (L96_5 v4 x0)):=by
 intro n
 induction n with
 | zero=>exact ⟨fun _ _ h=>by simp only [R96] at h,fun _ _ _ h=>by simp only [R96_5] at h⟩
 | succ n ih =>
 obtain ⟨ih,ih5⟩:=ih
 refine ⟨?_,?_⟩
 ·intro x0 ds h K q
  rw [R96] at h
  by_cases b0:((↑(ByteArray.size x0):Int)==0)=true
  ·rw [if_pos b0] at h
   subst h
   exact AtV.ret Tryz.func96 tabOk ext96Ok mixed false [] tys96 [true,true] (a1 b0 (a1 (rfl:true=true) trivial)) (by kernel_rfl)
  ·rw [if_neg b0] at h
   replace b0:=bf_ b0
   by_cases b1:(decide ((↑(ByteArray.size x0):Int)>40))=true
   ·rw [if_pos b1] at h
    subst h
    exact AtV.ret Tryz.func96 tabOk ext96Ok mixed false [] tys96 [false,true] (a1 b0 (a1 b1 trivial)) (by kernel_rfl)
   ·rw [if_neg b1] at h
    replace b1:=bf_ b1
    obtain ⟨s0,h⟩:=h
    exact AtV.go tabOk ext96Ok mixed false [] [] [3,4] [0] [false,false] (a1 b0 (a1 b1 (a1 s0 trivial))) (ih5 _ _ _ h K q) (by kernel_rfl)
 ·intro v4 x0 ds h K q
  rw [R96_5] at h
  by_cases b0:(decide (v4<(↑(List.length (g125_0 x0 32)):Int)))=true
  ·rw [if_pos b0] at h
   obtain ⟨s0,s1,h⟩:=h
   by_cases b1:(!g126_0 (List.getD (g125_0 x0 32) (Int.toNat v4) ByteArray.empty))=true
   ·rw [if_pos b1] at h
    subst h
    exact AtV.ret Tryz.func96 tabOk ext96Ok mixed false [] tys96 [true,true] (a1 b0 (a1 s0 (a1 s1 (a1 trivial (a1 b1 trivial))))) (by kernel_rfl)
   ·rw [if_neg b1] at h
    replace b1:=bf_ b1
    obtain ⟨s2,h⟩:=h
    exact AtV.go tabOk ext96Ok mixed false [] [] [3,4] [0] [true,false] (a1 b0 (a1 s0 (a1 s1 (a1 trivial (a1 b1 (a1 s2 trivial)))))) (ih5 _ _ _ h K q) (by kernel_rfl)
  ·rw [if_neg b0] at h
   replace b0:=bf_ b0
   subst h
   exact AtV.ret Tryz.func96 tabOk ext96Ok mixed false [] tys96 [false] (a1 b0 trivial) (by kernel_rfl)
def g96_0 (x0:ByteArray):Bool := !(((x0.size:Nat):Int)==0) && !decide (((x0.size:Nat):Int)>40)&&(g125_0 x0 32).all g126_0
def P96 (x0:ByteArray):Prop:=True
theorem top96 (x0:ByteArray):∃ n,R96 n x0 [⟨.bool,g96_0 x0⟩]:=by
 unfold g96_0
 by_cases h0:(((x0.size:Nat):Int)==0)=true
 ·refine ⟨1,?_⟩
  rw [R96,if_pos h0,h0];rfl
 by_cases h1:((x0.size:Nat):Int)>40
 ·refine ⟨1,?_⟩
  rw [R96,if_neg h0,if_pos (decide_eq_true h1),bf_ h0,decide_eq_true h1];rfl
 ·have hl:(g125_0 x0 32).length=x0.data.toList.count 32+1:=by
   show (bss (splitC (32:UInt8) x0.data.toList)).length=_
   unfold bss
   rw [List.length_map,splitC_length]
  have hc:x0.data.toList.count (32:UInt8)≤x0.size:=List.count_le_length
  have hmx:1000≤maxLen:=by decide
  have key:=loop_test (g125_0 x0 32) ByteArray.empty g126_0 [(⟨.bool,false⟩:Dyn)] [⟨.bool,true⟩] (fun n i ds=>R96_5 n i x0 ds) (fun n => ?_) (fun n i hi hok ds hr => ?_) (fun n i hi hok => ?_)
  ·refine ⟨(g125_0 x0 32).length+1+1,?_⟩
   rw [R96,if_neg h0,if_neg (by simpa using h1),bf_ h0,decide_eq_false h1]
   refine ⟨⟨by omega,by omega,by omega⟩,?_⟩
   ·cases h:(g125_0 x0 32).all g126_0 <;> rw [h] at key <;> exact key
  ·rw [R96_5,if_neg (by simp)]
  ·rw [R96_5,if_pos (by simp;omega)]
   simp only [Int.toNat_natCast]
   refine ⟨by omega,by omega,?_⟩
   rw [if_neg (by rw [hok];simp)]
   exact ⟨by rw [i64_iff];omega,hr⟩
  ·rw [R96_5,if_pos (by simp;omega)]
   simp only [Int.toNat_natCast]
   refine ⟨by omega,by omega,?_⟩
   rw [if_pos (by rw [hok];rfl)] <;> trivial
def S96:Am.Spec:={ sig:=sig96,pre:=fun ⟨x0,_⟩=>P96 x0,res:=fun ⟨x0,_⟩=>[⟨.bool,g96_0 x0⟩] }
theorem con96:Contract Tryz.prog 96 S96:=contract_of Tryz.func96 hb96 (bl_ (by kernel_rfl)) (fun ⟨x0,_⟩ h hwf K q =>
 let ⟨n,hn⟩:=top96 x0
 (snd96 n).1 x0 _ hn K q)
end
noncomputable section
def ext72:Ext:=[(67,S67),(63,S63),(96,S96)]
theorem ext72Ok:ExtOk Tryz.prog ext72:=⟨⟨ca67,con67⟩,⟨ca63,con63⟩,⟨ca96,con96⟩,trivial⟩
def b72:Code:=bodyOf Tryz.f72
theorem hb72:Tryz.f72.body=some b72:=by kernel_rfl
def sig72:List AT:=[AT.p YA6]
def tys72:List Ty:=[.bool]
def kds72:List RK:=[]
def oks72:List AT:=owns sig72
def P72 (x0:Int×Int×ByteArray×Int×Unit):Prop:=True
def g72_0 (x0:Int×Int×ByteArray×Int×Unit):Bool:=(if (g67_0 x0.1)=true then (if (g63_0 x0.2.1 0 1439)=true then (if (g96_0 x0.2.2.1)=true then g63_0 x0.2.2.2.1 0 65535 else false) else false) else false)
theorem at72 (x0:Int×Int×ByteArray×Int×Unit) (h:P72 x0) (K:Ctx) (q:Nat→Value):AtV Tryz.prog 72 (PostR kds72 oks72 [⟨.bool,g72_0 x0⟩] [] [] q K) 29 K q [] [.code b72] (entE 0 0 sig72 (x0,())) (entL sig72 (x0,())):=by
 unfold P72 at h
 unfold g72_0
 by_cases b0:(g67_0 x0.1)=true
 ·try simp only [if_pos b0] at h ⊢
  by_cases b1:(g63_0 x0.2.1 0 1439)=true
  ·try simp only [if_pos b1] at h ⊢
   by_cases b2:(g96_0 x0.2.2.1)=true
   ·try simp only [if_pos b2] at h ⊢
    exact AtV.ret Tryz.func72 tabOk ext72Ok mixed false [] tys72 [true,true,true] (a1 trivial (a1 b0 (a1 trivial (a1 b1 (a1 trivial (a1 b2 (a1 trivial trivial))))))) (by kernel_rfl)
   ·try simp only [if_neg b2] at h ⊢
    replace b2:=bf_ b2
    exact AtV.ret Tryz.func72 tabOk ext72Ok mixed false [] tys72 [true,true,false] (a1 trivial (a1 b0 (a1 trivial (a1 b1 (a1 trivial (a1 b2 trivial)))))) (by kernel_rfl)
  ·try simp only [if_neg b1] at h ⊢
   replace b1:=bf_ b1
   exact AtV.ret Tryz.func72 tabOk ext72Ok mixed false [] tys72 [true,false,false] (a1 trivial (a1 b0 (a1 trivial (a1 b1 (a1 (rfl:false=false) trivial))))) (by kernel_rfl)
 ·try simp only [if_neg b0] at h ⊢
  replace b0:=bf_ b0
  exact AtV.ret Tryz.func72 tabOk ext72Ok mixed false [] tys72 [false,false,false] (a1 trivial (a1 b0 (a1 (rfl:false=false) (a1 (rfl:false=false) trivial)))) (by kernel_rfl)
def S72:Am.Spec:={ sig:=sig72,pre:=fun ⟨x0,_⟩=>P72 x0,res:=fun ⟨x0,_⟩=>[⟨.bool,g72_0 x0⟩],kds:=kds72 }
theorem con72:Contract Tryz.prog 72 S72:=contract_of Tryz.func72 hb72 (bl_ (by kernel_rfl)) (fun ⟨x0,_⟩ h _ K q=>at72 x0 h K q)
end
noncomputable section
def ext45:Ext:=[(72,S72)]
theorem ext45Ok:ExtOk Tryz.prog ext45:=⟨⟨ca72,con72⟩,trivial⟩
def b45:Code:=bodyOf Tryz.f45
theorem hb45:Tryz.f45.body=some b45:=by kernel_rfl
def sig45:List AT:=[AT.v (.sl YA6)]
def tys45:List Ty:=[.bool]
def kds45:List RK:=[]
def oks45:List AT:=owns sig45
def E45_2 (v3:Int) (x0:List TyB2):Env:=[(0,.a (.sl YA6 x0)),(3,.a (.val (.int .i64 v3)))]
def L45_2 (v3:Int) (x0:List TyB2):Heap:=[]
mutual
def R45:Nat→List TyB2→List Dyn→Prop
 | 0,_,_=>False
 | n+1,x0,ds=>(R45_2 n (0) (x0) ds)
def R45_2:Nat→Int→List TyB2→List Dyn→Prop
 | 0,_,_,_=>False
 | n+1,v3,x0,ds=>(if (decide (v3<(x0.length:Int)))=true then ((0≤v3)∧(v3<(x0.length:Int))∧(if (!g72_0 (List.getD x0 (Int.toNat v3) (0,0,ByteArray.empty,0,())))=true then (ds=[Dyn.mk .bool false]) else (if (decide (v3>0))=true then ((InR .i64 (v3 - 1))∧((0≤v3 - 1)∧(v3 - 1<(x0.length:Int))∧(if (decide ((List.getD x0 (Int.toNat (v3 - 1)) (0,0,ByteArray.empty,0,())).1>(List.getD x0 (Int.toNat v3) (0,0,ByteArray.empty,0,())).1))=true then (ds=[Dyn.mk .bool false]) else ((InR .i64 (v3 - 1))∧((0≤v3 - 1)∧(v3 - 1<(x0.length:Int))∧(if ((List.getD x0 (Int.toNat (v3 - 1)) (0,0,ByteArray.empty,0,())).1==(List.getD x0 (Int.toNat v3) (0,0,ByteArray.empty,0,())).1)=true then ((InR .i64 (v3 - 1))∧((0≤v3 - 1)∧(v3 - 1<(x0.length:Int))∧(if (decide ((List.getD x0 (Int.toNat (v3 - 1)) (0,0,ByteArray.empty,0,())).2.1>(List.getD x0 (Int.toNat v3) (0,0,ByteArray.empty,0,())).2.1))=true then (ds=[Dyn.mk .bool false]) else ((InR .i64 (v3+1))∧(R45_2 n (v3+1) (x0) ds))))) else ((InR .i64 (v3+1))∧(R45_2 n (v3+1) (x0) ds)))))))) else ((InR .i64 (v3+1))∧(R45_2 n (v3+1) (x0) ds))))) else (ds=[Dyn.mk .bool (decide ((x0.length:Int)≤40))]))
end
theorem snd45:∀ n,(∀ (x0:List TyB2) ds,R45 n x0 ds→∀ K q,AtV Tryz.prog 45 (PostR kds45 oks45 ds [] [] q K) 61 K q [] [.code b45] (entE 0 0 sig45 (x0,())) (entL sig45 (x0,())))∧(∀ (v3:Int) (x0:List TyB2) ds,R45_2 n v3 x0 ds→∀ K q,AtV Tryz.prog 45 (PostR kds45 oks45 ds [] [] q K) 61 K q [] (cutAt b45 2) (E45_2 v3 x0) (L45_2 v3 x0)):=by
 intro n
 induction n with
 | zero=>exact ⟨fun _ _ h=>by simp only [R45] at h,fun _ _ _ h=>by simp only [R45_2] at h⟩
 | succ n ih =>
 obtain ⟨ih,ih2⟩:=ih
 refine ⟨?_,?_⟩
 ·intro x0 ds h K q
  rw [R45] at h
  exact AtV.go tabOk ext45Ok mixed false [] [] [0,3] [] [] trivial (ih2 _ _ _ h K q) (by kernel_rfl)
 ·intro v3 x0 ds h K q
  rw [R45_2] at h
  by_cases b0:(decide (v3<(x0.length:Int)))=true
  ·rw [if_pos b0] at h
   obtain ⟨s0,s1,h⟩:=h
   by_cases b1:(!g72_0 (List.getD x0 (Int.toNat v3) (0,0,ByteArray.empty,0,())))=true
   ·rw [if_pos b1] at h
    subst h
    exact AtV.ret Tryz.func45 tabOk ext45Ok mixed false [] tys45 [true,true] (a1 b0 (a1 s0 (a1 s1 (a1 trivial (a1 b1 trivial))))) (by kernel_rfl)
   ·rw [if_neg b1] at h
    replace b1:=bf_ b1
    by_cases b2:(decide (v3>0))=true
    ·rw [if_pos b2] at h
     obtain ⟨s2,h⟩:=h
     obtain ⟨s3,s4,h⟩:=h
     by_cases b3:(decide ((List.getD x0 (Int.toNat (v3 - 1)) (0,0,ByteArray.empty,0,())).1>(List.getD x0 (Int.toNat v3) (0,0,ByteArray.empty,0,())).1))=true
     ·rw [if_pos b3] at h
      subst h
      exact AtV.ret Tryz.func45 tabOk ext45Ok mixed false [] tys45 [true,false,true,true,true] (a1 b0 (a1 s0 (a1 s1 (a1 trivial (a1 b1 (a1 b2 (a1 s2 (a1 s3 (a1 s4 (a1 b3 (a1 (rfl:true=true) trivial))))))))))) (by kernel_rfl)
     ·rw [if_neg b3] at h
      replace b3:=bf_ b3
      obtain ⟨s5,h⟩:=h
      obtain ⟨s6,s7,h⟩:=h
      by_cases b4:((List.getD x0 (Int.toNat (v3 - 1)) (0,0,ByteArray.empty,0,())).1==(List.getD x0 (Int.toNat v3) (0,0,ByteArray.empty,0,())).1)=true
      ·rw [if_pos b4] at h
       obtain ⟨s8,h⟩:=h
       obtain ⟨s9,s10,h⟩:=h
       by_cases b5:(decide ((List.getD x0 (Int.toNat (v3 - 1)) (0,0,ByteArray.empty,0,())).2.1>(List.getD x0 (Int.toNat v3) (0,0,ByteArray.empty,0,())).2.1))=true
       ·rw [if_pos b5] at h
        subst h
        exact AtV.ret Tryz.func45 tabOk ext45Ok mixed false [] tys45 [true,false,true,false,true,true] (a1 b0 (a1 s0 (a1 s1 (a1 trivial (a1 b1 (a1 b2 (a1 s2 (a1 s3 (a1 s4 (a1 b3 (a1 s5 (a1 s6 (a1 s7 (a1 b4 (a1 s8 (a1 s9 (a1 s10 (a1 b5 trivial)))))))))))))))))) (by kernel_rfl)
       ·rw [if_neg b5] at h
        replace b5:=bf_ b5
        obtain ⟨s11,h⟩:=h
        exact AtV.go tabOk ext45Ok mixed false [] [] [0,3] [] [true,false,true,false,true,false] (a1 b0 (a1 s0 (a1 s1 (a1 trivial (a1 b1 (a1 b2 (a1 s2 (a1 s3 (a1 s4 (a1 b3 (a1 s5 (a1 s6 (a1 s7 (a1 b4 (a1 s8 (a1 s9 (a1 s10 (a1 b5 (a1 s11 trivial))))))))))))))))))) (ih2 _ _ _ h K q) (by kernel_rfl)
      ·rw [if_neg b4] at h
       replace b4:=bf_ b4
       obtain ⟨s8,h⟩:=h
       exact AtV.go tabOk ext45Ok mixed false [] [] [0,3] [] [true,false,true,false,false,false] (a1 b0 (a1 s0 (a1 s1 (a1 trivial (a1 b1 (a1 b2 (a1 s2 (a1 s3 (a1 s4 (a1 b3 (a1 s5 (a1 s6 (a1 s7 (a1 b4 (a1 (rfl:false=false) (a1 s8 trivial)))))))))))))))) (ih2 _ _ _ h K q) (by kernel_rfl)
    ·rw [if_neg b2] at h
     replace b2:=bf_ b2
     obtain ⟨s2,h⟩:=h
     exact AtV.go tabOk ext45Ok mixed false [] [] [0,3] [] [true,false,false,false] (a1 b0 (a1 s0 (a1 s1 (a1 trivial (a1 b1 (a1 b2 (a1 (rfl:false=false) (a1 s2 trivial)))))))) (ih2 _ _ _ h K q) (by kernel_rfl)
  ·rw [if_neg b0] at h
   replace b0:=bf_ b0
   subst h
   exact AtV.ret Tryz.func45 tabOk ext45Ok mixed false [] tys45 [false] (a1 b0 trivial) (by kernel_rfl)
def bad45 (y x:TyB2):Bool:=if decide (y.1>x.1)=true then true else (if (y.1==x.1)=true then decide (y.2.1>x.2.1) else false)
def ok45 (x0:List TyB2) (i:Nat) (x:TyB2):Bool:=g72_0 x&&(i==0 || !bad45 (x0.getD (i - 1) ((0:Int),(0:Int),ByteArray.empty,(0:Int),())) x)
def g45_0 (x0:List TyB2):Bool:=allI (ok45 x0) 0 x0&&decide ((x0.length:Int)≤40)
def P45 (x0:List TyB2):Prop:=True
theorem step45 (n i:Nat) (x0:List TyB2) (hm:x0.length≤maxLen) (hi:i<x0.length) (ds:List Dyn)
  (h:if ok45 x0 i (x0.getD i ((0:Int),(0:Int),ByteArray.empty,(0:Int),()))=true then R45_2 n ((i:Int)+1) x0 ds else ds=[⟨.bool,false⟩]):R45_2 (n+1) (i:Int) x0 ds:=by
 have hu:=inR_up hm hi
 have hmx:maxLen≤9223372036854775807:=by decide
 rw [R45_2,if_pos (by simp only [decide_eq_true_eq];omega)]
 simp only [Int.toNat_natCast]
 refine ⟨by omega,by omega,?_⟩
 unfold ok45 at h
 by_cases hv:g72_0 (x0.getD i ((0:Int),(0:Int),ByteArray.empty,(0:Int),()))=true
 case neg=>rw [bf_ hv] at h;rw [if_pos (by rw [bf_ hv];rfl)];simpa using h
 rw [if_neg (by rw [hv];simp)]
 rw [hv] at h
 by_cases h0:(i:Int)>0
 case neg =>
  rw [if_neg (by simpa using h0)]
  have hi0:(i==0)=true:=by simp;omega
  rw [hi0] at h
  exact ⟨hu,by simpa using h⟩
 rw [if_pos (by simpa using h0)]
 have hi0:(i==0)=false:=by simp;omega
 have e:((i:Int) - 1).toNat=i - 1:=by omega
 have hd:InR .i64 ((i:Int) - 1):=by rw [i64_iff];omega
 rw [hi0] at h
 simp only [e]
 refine ⟨hd,by omega,by omega,?_⟩
 by_cases c0:(x0.getD (i - 1) ((0:Int),(0:Int),ByteArray.empty,(0:Int),())).1>(x0.getD i ((0:Int),(0:Int),ByteArray.empty,(0:Int),())).1
 ·rw [if_pos (decide_eq_true c0)]
  have:bad45 (x0.getD (i - 1) ((0:Int),(0:Int),ByteArray.empty,(0:Int),())) (x0.getD i ((0:Int),(0:Int),ByteArray.empty,(0:Int),()))=true:=by unfold bad45;rw [if_pos (decide_eq_true c0)]
  rw [this] at h
  simpa using h
 ·rw [if_neg (by simpa using c0)]
  refine ⟨hd,by omega,by omega,?_⟩
  by_cases c1:((x0.getD (i - 1) ((0:Int),(0:Int),ByteArray.empty,(0:Int),())).1==(x0.getD i ((0:Int),(0:Int),ByteArray.empty,(0:Int),())).1)=true
  ·rw [if_pos c1]
   refine ⟨hd,by omega,by omega,?_⟩
   have eb:bad45 (x0.getD (i - 1) ((0:Int),(0:Int),ByteArray.empty,(0:Int),())) (x0.getD i ((0:Int),(0:Int),ByteArray.empty,(0:Int),()))=decide ((x0.getD (i - 1) ((0:Int),(0:Int),ByteArray.empty,(0:Int),())).2.1>(x0.getD i ((0:Int),(0:Int),ByteArray.empty,(0:Int),())).2.1):=by unfold bad45;rw [if_neg (by simpa using c0),if_pos c1]
   rw [eb] at h
   by_cases c2:(x0.getD (i - 1) ((0:Int),(0:Int),ByteArray.empty,(0:Int),())).2.1>(x0.getD i ((0:Int),(0:Int),ByteArray.empty,(0:Int),())).2.1
   ·rw [if_pos (decide_eq_true c2)]
    rw [decide_eq_true c2] at h
    simpa using h
   ·rw [if_neg (by simpa using c2)]
    rw [decide_eq_false c2] at h
    exact ⟨hu,by simpa using h⟩
  ·rw [if_neg c1]
   have eb:bad45 (x0.getD (i - 1) ((0:Int),(0:Int),ByteArray.empty,(0:Int),())) (x0.getD i ((0:Int),(0:Int),ByteArray.empty,(0:Int),()))=false:=by unfold bad45;rw [if_neg (by simpa using c0),if_neg c1]
   rw [eb] at h
   exact ⟨hu,by simpa using h⟩
theorem top45 (x0:List TyB2) (hw:x0.length≤maxLen):R45 (x0.length+1+1) x0 [⟨.bool,g45_0 x0⟩]:=by
 rw [R45]
 have key:=loop_testI x0 ((0:Int),(0:Int),ByteArray.empty,(0:Int),()) (ok45 x0) [(⟨.bool,false⟩:Dyn)] [⟨.bool,decide ((x0.length:Int)≤40)⟩] (fun n i ds=>R45_2 n i x0 ds) (fun n => ?_) (fun n i hi hok ds hr => ?_) (fun n i hi hok => ?_)
 ·unfold g45_0
  cases h:allI (ok45 x0) 0 x0 with
  | true=>rw [if_pos h] at key;simpa using key
  | false=>rw [if_neg (by rw [h];simp)] at key;simpa using key
 ·rw [R45_2,if_neg (by simp)]
 ·exact step45 n i x0 hw hi ds (by rw [if_pos hok];exact hr)
 ·exact step45 n i x0 hw hi _ (by rw [if_neg (by rw [hok];simp)])
def S45:Am.Spec:={ sig:=sig45,pre:=fun ⟨x0,_⟩=>P45 x0,res:=fun ⟨x0,_⟩=>[⟨.bool,g45_0 x0⟩] }
theorem con45:Contract Tryz.prog 45 S45:=contract_of Tryz.func45 hb45 (bl_ (by kernel_rfl)) (fun ⟨x0,_⟩ h hwf K q =>
 (snd45 _).1 x0 _ (top45 x0 hwf.1.1) K q)
end
noncomputable section
def ext14:Ext:=[(37,S37),(38,S38),(39,S39),(40,S40),(41,S41),(42,S42),(43,S43),(44,S44),(45,S45)]
theorem ext14Ok:ExtOk Tryz.prog ext14:=⟨⟨ca37,con37⟩,⟨ca38,con38⟩,⟨ca39,con39⟩,⟨ca40,con40⟩,⟨ca41,con41⟩,⟨ca42,con42⟩,⟨ca43,con43⟩,⟨ca44,con44⟩,⟨ca45,con45⟩,trivial⟩
def b14:Code:=bodyOf Tryz.f14
theorem hb14:Tryz.f14.body=some b14:=by kernel_rfl
def sig14:List AT:=[AT.p YA0]
def tys14:List Ty:=[.bool]
def kds14:List RK:=[]
def oks14:List AT:=owns sig14
def P14 (x0:TyA0):Prop:=True
def g14_0 (x0:TyA0):Bool:=(if (!g37_0 x0.1)=true then false else (if (!g38_0 x0.2.1)=true then false else (if (!g39_0 x0.2.2.1)=true then false else (if (!g40_0 x0.2.2.2.1)=true then false else (if (!g41_0 x0.2.2.2.2.1)=true then false else (if (!g42_0 x0.2.2.2.2.2.1)=true then false else (if (g43_0 x0.2.2.2.2.2.2.1 x0.2.2.2.2.2.2.2.1 x0.2.2.2.2.2.2.2.2.1 != 0)=true then false else (if (g44_0 x0.2.2.2.2.2.2.2.2.2.1 x0.2.2.2.2.2.2.2.2.2.2.1==0)=true then g45_0 x0.2.2.2.2.2.2.2.2.2.2.2.1 else false))))))))
theorem at14 (x0:TyA0) (h:P14 x0) (K:Ctx) (q:Nat→Value):AtV Tryz.prog 14 (PostR kds14 oks14 [⟨.bool,g14_0 x0⟩] [] [] q K) 76 K q [] [.code b14] (entE 0 0 sig14 (x0,())) (entL sig14 (x0,())):=by
 unfold P14 at h
 unfold g14_0
 by_cases b0:(!g37_0 x0.1)=true
 ·try simp only [if_pos b0] at h ⊢
  exact AtV.ret Tryz.func14 tabOk ext14Ok mixed false [] tys14 [true,true,true,true] (a1 trivial (a1 b0 (a1 (rfl:true=true) (a1 (rfl:true=true) (a1 (rfl:true=true) trivial))))) (by kernel_rfl)
 ·try simp only [if_neg b0] at h ⊢
  replace b0:=bf_ b0
  by_cases b1:(!g38_0 x0.2.1)=true
  ·try simp only [if_pos b1] at h ⊢
   exact AtV.ret Tryz.func14 tabOk ext14Ok mixed false [] tys14 [false,true,true,true] (a1 trivial (a1 b0 (a1 trivial (a1 b1 (a1 (rfl:true=true) (a1 (rfl:true=true) trivial)))))) (by kernel_rfl)
  ·try simp only [if_neg b1] at h ⊢
   replace b1:=bf_ b1
   by_cases b2:(!g39_0 x0.2.2.1)=true
   ·try simp only [if_pos b2] at h ⊢
    exact AtV.ret Tryz.func14 tabOk ext14Ok mixed false [] tys14 [false,false,true,true] (a1 trivial (a1 b0 (a1 trivial (a1 b1 (a1 trivial (a1 b2 (a1 (rfl:true=true) trivial))))))) (by kernel_rfl)
   ·try simp only [if_neg b2] at h ⊢
    replace b2:=bf_ b2
    by_cases b3:(!g40_0 x0.2.2.2.1)=true
    ·try simp only [if_pos b3] at h ⊢
     exact AtV.ret Tryz.func14 tabOk ext14Ok mixed false [] tys14 [false,false,false,true] (a1 trivial (a1 b0 (a1 trivial (a1 b1 (a1 trivial (a1 b2 (a1 trivial (a1 b3 trivial)))))))) (by kernel_rfl)
    ·try simp only [if_neg b3] at h ⊢
     replace b3:=bf_ b3
     by_cases b4:(!g41_0 x0.2.2.2.2.1)=true
     ·try simp only [if_pos b4] at h ⊢
      exact AtV.ret Tryz.func14 tabOk ext14Ok mixed false [] tys14 [false,false,false,false,true,true,true] (a1 trivial (a1 b0 (a1 trivial (a1 b1 (a1 trivial (a1 b2 (a1 trivial (a1 b3 (a1 trivial (a1 b4 (a1 (rfl:true=true) (a1 (rfl:true=true) trivial)))))))))))) (by kernel_rfl)
     ·try simp only [if_neg b4] at h ⊢
      replace b4:=bf_ b4
      by_cases b5:(!g42_0 x0.2.2.2.2.2.1)=true
      ·try simp only [if_pos b5] at h ⊢
       exact AtV.ret Tryz.func14 tabOk ext14Ok mixed false [] tys14 [false,false,false,false,false,true,true] (a1 trivial (a1 b0 (a1 trivial (a1 b1 (a1 trivial (a1 b2 (a1 trivial (a1 b3 (a1 trivial (a1 b4 (a1 trivial (a1 b5 (a1 (rfl:true=true) trivial))))))))))))) (by kernel_rfl)
      ·try simp only [if_neg b5] at h ⊢
       replace b5:=bf_ b5
       by_cases b6:(g43_0 x0.2.2.2.2.2.2.1 x0.2.2.2.2.2.2.2.1 x0.2.2.2.2.2.2.2.2.1 != 0)=true
       ·try simp only [if_pos b6] at h ⊢
        exact AtV.ret Tryz.func14 tabOk ext14Ok mixed false [] tys14 [false,false,false,false,false,false,true] (a1 trivial (a1 b0 (a1 trivial (a1 b1 (a1 trivial (a1 b2 (a1 trivial (a1 b3 (a1 trivial (a1 b4 (a1 trivial (a1 b5 (a1 trivial (a1 b6 trivial)))))))))))))) (by kernel_rfl)
       ·try simp only [if_neg b6] at h ⊢
        replace b6:=bf_ b6
        by_cases b7:(g44_0 x0.2.2.2.2.2.2.2.2.2.1 x0.2.2.2.2.2.2.2.2.2.2.1==0)=true
        ·try simp only [if_pos b7] at h ⊢
         exact AtV.ret Tryz.func14 tabOk ext14Ok mixed false [] tys14 [false,false,false,false,false,false,false,true] (a1 trivial (a1 b0 (a1 trivial (a1 b1 (a1 trivial (a1 b2 (a1 trivial (a1 b3 (a1 trivial (a1 b4 (a1 trivial (a1 b5 (a1 trivial (a1 b6 (a1 trivial (a1 b7 (a1 trivial trivial))))))))))))))))) (by kernel_rfl)
        ·try simp only [if_neg b7] at h ⊢
         replace b7:=bf_ b7
         exact AtV.ret Tryz.func14 tabOk ext14Ok mixed false [] tys14 [false,false,false,false,false,false,false,false] (a1 trivial (a1 b0 (a1 trivial (a1 b1 (a1 trivial (a1 b2 (a1 trivial (a1 b3 (a1 trivial (a1 b4 (a1 trivial (a1 b5 (a1 trivial (a1 b6 (a1 trivial (a1 b7 trivial)))))))))))))))) (by kernel_rfl)
def S14:Am.Spec:={ sig:=sig14,pre:=fun ⟨x0,_⟩=>P14 x0,res:=fun ⟨x0,_⟩=>[⟨.bool,g14_0 x0⟩],kds:=kds14 }
theorem con14:Contract Tryz.prog 14 S14:=contract_of Tryz.func14 hb14 (bl_ (by kernel_rfl)) (fun ⟨x0,_⟩ h _ K q=>at14 x0 h K q)
end
noncomputable section
def ext127:Ext:=[]
theorem ext127Ok:ExtOk Tryz.prog ext127:=trivial
def b127:Code:=bodyOf Tryz.f127
theorem hb127:Tryz.f127.body=some b127:=by kernel_rfl
def sig127:List AT:=[AT.v (.int .i64),AT.v (.int .i64)]
def tys127:List Ty:=[.int .i64]
def kds127:List RK:=[]
def oks127:List AT:=owns sig127
def P127 (x0:Int) (x1:Int):Prop:=True
def g127_0 (x0:Int) (x1:Int):Int:=(if (decide (x0>x1))=true then x0 else x1)
theorem at127 (x0:Int) (x1:Int) (h:P127 x0 x1) (K:Ctx) (q:Nat→Value):AtV Tryz.prog 127 (PostR kds127 oks127 [⟨.int .i64,g127_0 x0 x1⟩] [] [] q K) 10 K q [] [.code b127] (entE 0 0 sig127 (x0,x1,())) (entL sig127 (x0,x1,())):=by
 unfold P127 at h
 unfold g127_0
 by_cases b0:(decide (x0>x1))=true
 ·try simp only [if_pos b0] at h ⊢
  exact AtV.ret Tryz.func127 tabOk ext127Ok mixed false [] tys127 [true] (a1 b0 trivial) (by kernel_rfl)
 ·try simp only [if_neg b0] at h ⊢
  replace b0:=bf_ b0
  exact AtV.ret Tryz.func127 tabOk ext127Ok mixed false [] tys127 [false] (a1 b0 trivial) (by kernel_rfl)
def S127:Am.Spec:={ sig:=sig127,pre:=fun ⟨x0,x1,_⟩=>P127 x0 x1,res:=fun ⟨x0,x1,_⟩=>[⟨.int .i64,g127_0 x0 x1⟩],kds:=kds127 }
theorem con127:Contract Tryz.prog 127 S127:=contract_of Tryz.func127 hb127 (bl_ (by kernel_rfl)) (fun ⟨x0,x1,_⟩ h _ K q=>at127 x0 x1 h K q)
end
noncomputable section
def ext128:Ext:=[]
theorem ext128Ok:ExtOk Tryz.prog ext128:=trivial
def b128:Code:=bodyOf Tryz.f128
theorem hb128:Tryz.f128.body=some b128:=by kernel_rfl
def sig128:List AT:=[AT.v (.int .i64),AT.v (.int .i64)]
def tys128:List Ty:=[.int .i64]
def kds128:List RK:=[]
def oks128:List AT:=owns sig128
def P128 (x0:Int) (x1:Int):Prop:=True
def g128_0 (x0:Int) (x1:Int):Int:=(if (decide (x0<x1))=true then x0 else x1)
theorem at128 (x0:Int) (x1:Int) (h:P128 x0 x1) (K:Ctx) (q:Nat→Value):AtV Tryz.prog 128 (PostR kds128 oks128 [⟨.int .i64,g128_0 x0 x1⟩] [] [] q K) 10 K q [] [.code b128] (entE 0 0 sig128 (x0,x1,())) (entL sig128 (x0,x1,())):=by
 unfold P128 at h
 unfold g128_0
 by_cases b0:(decide (x0<x1))=true
 ·try simp only [if_pos b0] at h ⊢
  exact AtV.ret Tryz.func128 tabOk ext128Ok mixed false [] tys128 [true] (a1 b0 trivial) (by kernel_rfl)
 ·try simp only [if_neg b0] at h ⊢
  replace b0:=bf_ b0
  exact AtV.ret Tryz.func128 tabOk ext128Ok mixed false [] tys128 [false] (a1 b0 trivial) (by kernel_rfl)
def S128:Am.Spec:={ sig:=sig128,pre:=fun ⟨x0,x1,_⟩=>P128 x0 x1,res:=fun ⟨x0,x1,_⟩=>[⟨.int .i64,g128_0 x0 x1⟩],kds:=kds128 }
theorem con128:Contract Tryz.prog 128 S128:=contract_of Tryz.func128 hb128 (bl_ (by kernel_rfl)) (fun ⟨x0,x1,_⟩ h _ K q=>at128 x0 x1 h K q)
end
noncomputable section
def ext97:Ext:=[(64,S64),(127,S127),(128,S128)]
theorem ext97Ok:ExtOk Tryz.prog ext97:=⟨⟨ca64,con64⟩,⟨ca127,con127⟩,⟨ca128,con128⟩,trivial⟩
def b97:Code:=bodyOf Tryz.f97
theorem hb97:Tryz.f97.body=some b97:=by kernel_rfl
def sig97:List AT:=[AT.p YA2]
def tys97:List Ty:=[.int .i64,.int .i64]
def kds97:List RK:=[]
def oks97:List AT:=owns sig97
def P97 (x0:List TyB4×Int×Int×Unit):Prop:=((P64 x0)∧((InR .i64 (g64_0 x0 - x0.2.2.1))∧((InR .i64 (g64_0 x0 - x0.2.1))∧True)))
def g97_0 (x0:List TyB4×Int×Int×Unit):Int:=g127_0 x0.2.1 (g64_0 x0 - x0.2.2.1)
def g97_1 (x0:List TyB4×Int×Int×Unit):Int:=g128_0 x0.2.2.1 (g64_0 x0 - x0.2.1)
theorem at97 (x0:List TyB4×Int×Int×Unit) (h:P97 x0) (K:Ctx) (q:Nat→Value):AtV Tryz.prog 97 (PostR kds97 oks97 [⟨.int .i64,g97_0 x0⟩,⟨.int .i64,g97_1 x0⟩] [] [] q K) 29 K q [] [.code b97] (entE 0 0 sig97 (x0,())) (entL sig97 (x0,())):=by
 unfold P97 at h
 unfold g97_0 g97_1
 obtain ⟨s0,h⟩:=h
 obtain ⟨s1,h⟩:=h
 obtain ⟨s2,h⟩:=h
 exact AtV.ret Tryz.func97 tabOk ext97Ok mixed false [] tys97 [] (a1 s0 (a1 s1 (a1 trivial (a1 s2 (a1 trivial trivial))))) (by kernel_rfl)
def S97:Am.Spec:={ sig:=sig97,pre:=fun ⟨x0,_⟩=>P97 x0,res:=fun ⟨x0,_⟩=>[⟨.int .i64,g97_0 x0⟩,⟨.int .i64,g97_1 x0⟩],kds:=kds97 }
theorem con97:Contract Tryz.prog 97 S97:=contract_of Tryz.func97 hb97 (bl_ (by kernel_rfl)) (fun ⟨x0,_⟩ h _ K q=>at97 x0 h K q)
end
noncomputable section
def ext75:Ext:=[(97,S97),(64,S64)]
theorem ext75Ok:ExtOk Tryz.prog ext75:=⟨⟨ca97,con97⟩,⟨ca64,con64⟩,trivial⟩
def b75:Code:=bodyOf Tryz.f75
theorem hb75:Tryz.f75.body=some b75:=by kernel_rfl
def sig75:List AT:=[AT.p YA2]
def tys75:List Ty:=[.int .i64]
def kds75:List RK:=[]
def oks75:List AT:=owns sig75
def P75 (x0:List TyB4×Int×Int×Unit):Prop:=((P97 x0)∧((P64 x0)∧(if (decide (g97_0 x0>g97_1 x0))=true then ((InR .i64 (Int.tmod (g64_0 x0) 2))∧True) else (if (g97_0 x0==0)=true then True else ((InR .i64 (g97_0 x0 - 1))∧((InR .i64 (2*(g97_0 x0 - 1)))∧((InR .i64 (g64_0 x0 - 2*(g97_0 x0 - 1)))∧True)))))))
def g75_0 (x0:List TyB4×Int×Int×Unit):Int:=(if (decide (g97_0 x0>g97_1 x0))=true then Int.tmod (g64_0 x0) 2 else (if (g97_0 x0==0)=true then -1 else g64_0 x0 - 2*(g97_0 x0 - 1)))
theorem at75 (x0:List TyB4×Int×Int×Unit) (h:P75 x0) (K:Ctx) (q:Nat→Value):AtV Tryz.prog 75 (PostR kds75 oks75 [⟨.int .i64,g75_0 x0⟩] [] [] q K) 25 K q [] [.code b75] (entE 0 0 sig75 (x0,())) (entL sig75 (x0,())):=by
 unfold P75 at h
 unfold g75_0
 obtain ⟨s0,h⟩:=h
 obtain ⟨s1,h⟩:=h
 by_cases b0:(decide (g97_0 x0>g97_1 x0))=true
 ·try simp only [if_pos b0] at h ⊢
  obtain ⟨s2,h⟩:=h
  exact AtV.ret Tryz.func75 tabOk ext75Ok mixed false [] tys75 [true] (a1 s0 (a1 s1 (a1 b0 (a1 ((by decide):(2:Int)≠(0:Int)) (a1 s2 trivial))))) (by kernel_rfl)
 ·try simp only [if_neg b0] at h ⊢
  replace b0:=bf_ b0
  by_cases b1:(g97_0 x0==0)=true
  ·try simp only [if_pos b1] at h ⊢
   exact AtV.ret Tryz.func75 tabOk ext75Ok mixed false [] tys75 [false,true] (a1 s0 (a1 s1 (a1 b0 (a1 b1 trivial)))) (by kernel_rfl)
  ·try simp only [if_neg b1] at h ⊢
   replace b1:=bf_ b1
   obtain ⟨s2,h⟩:=h
   obtain ⟨s3,h⟩:=h
   obtain ⟨s4,h⟩:=h
   exact AtV.ret Tryz.func75 tabOk ext75Ok mixed false [] tys75 [false,false] (a1 s0 (a1 s1 (a1 b0 (a1 b1 (a1 s2 (a1 s3 (a1 s4 trivial))))))) (by kernel_rfl)
def S75:Am.Spec:={ sig:=sig75,pre:=fun ⟨x0,_⟩=>P75 x0,res:=fun ⟨x0,_⟩=>[⟨.int .i64,g75_0 x0⟩],kds:=kds75 }
theorem con75:Contract Tryz.prog 75 S75:=contract_of Tryz.func75 hb75 (bl_ (by kernel_rfl)) (fun ⟨x0,_⟩ h _ K q=>at75 x0 h K q)
end
noncomputable section
def ext73:Ext:=[(97,S97),(75,S75)]
theorem ext73Ok:ExtOk Tryz.prog ext73:=⟨⟨ca97,con97⟩,⟨ca75,con75⟩,trivial⟩
def b73:Code:=bodyOf Tryz.f73
theorem hb73:Tryz.f73.body=some b73:=by kernel_rfl
def sig73:List AT:=[AT.p YA2,AT.v (.int .i64)]
def tys73:List Ty:=[.bool]
def kds73:List RK:=[]
def oks73:List AT:=owns sig73
def P73 (x0:List TyB4×Int×Int×Unit) (x1:Int):Prop:=((P97 x0)∧((P75 x0)∧True))
def g73_0 (x0:List TyB4×Int×Int×Unit) (x1:Int):Bool:=(if (decide (g97_0 x0≤g97_1 x0))=true then (if (decide (g75_0 x0<0))=true then true else decide (g75_0 x0≥x1)) else false)
theorem at73 (x0:List TyB4×Int×Int×Unit) (x1:Int) (h:P73 x0 x1) (K:Ctx) (q:Nat→Value):AtV Tryz.prog 73 (PostR kds73 oks73 [⟨.bool,g73_0 x0 x1⟩] [] [] q K) 27 K q [] [.code b73] (entE 0 0 sig73 (x0,x1,())) (entL sig73 (x0,x1,())):=by
 unfold P73 at h
 unfold g73_0
 obtain ⟨s0,h⟩:=h
 obtain ⟨s1,h⟩:=h
 by_cases b0:(decide (g97_0 x0≤g97_1 x0))=true
 ·try simp only [if_pos b0] at h ⊢
  by_cases b1:(decide (g75_0 x0<0))=true
  ·try simp only [if_pos b1] at h ⊢
   exact AtV.ret Tryz.func73 tabOk ext73Ok mixed false [] tys73 [true,true] (a1 s0 (a1 s1 (a1 b0 (a1 b1 trivial)))) (by kernel_rfl)
  ·try simp only [if_neg b1] at h ⊢
   replace b1:=bf_ b1
   exact AtV.ret Tryz.func73 tabOk ext73Ok mixed false [] tys73 [true,false] (a1 s0 (a1 s1 (a1 b0 (a1 b1 trivial)))) (by kernel_rfl)
 ·try simp only [if_neg b0] at h ⊢
  replace b0:=bf_ b0
  exact AtV.ret Tryz.func73 tabOk ext73Ok mixed false [] tys73 [false] (a1 s0 (a1 s1 (a1 b0 trivial))) (by kernel_rfl)
def S73:Am.Spec:={ sig:=sig73,pre:=fun ⟨x0,x1,_⟩=>P73 x0 x1,res:=fun ⟨x0,x1,_⟩=>[⟨.bool,g73_0 x0 x1⟩],kds:=kds73 }
theorem con73:Contract Tryz.prog 73 S73:=contract_of Tryz.func73 hb73 (bl_ (by kernel_rfl)) (fun ⟨x0,x1,_⟩ h _ K q=>at73 x0 x1 h K q)
end
noncomputable section
def ext74:Ext:=[]
theorem ext74Ok:ExtOk Tryz.prog ext74:=trivial
def b74:Code:=bodyOf Tryz.f74
theorem hb74:Tryz.f74.body=some b74:=by kernel_rfl
def sig74:List AT:=[AT.v (.int .i64)]
def tys74:List Ty:=[.str]
def kds74:List RK:=[]
def oks74:List AT:=owns sig74
def E74_5 (v4:Int) (h0:List Int) (x0:Int):Env:=[(0,.a (.val (.int .i64 x0))),(3,.a (.osl 0 Option.none)),(4,.a (.val (.int .i64 v4)))]
def L74_5 (v4:Int) (h0:List Int) (x0:Int):Heap:=[Option.some (Arr.mk (.int .u8) h0 false Option.none Option.none)]
def E74_15 (v7:Int) (h0:List Int) (h1:List Int):Env:=[(3,.a (.osl 0 Option.none)),(6,.a (.osl 1 Option.none)),(7,.a (.val (.int .i64 v7)))]
def L74_15 (v7:Int) (h0:List Int) (h1:List Int):Heap:=[Option.some (Arr.mk (.int .u8) h0 false Option.none Option.none),Option.some (Arr.mk (.int .u8) h1 false Option.none Option.none)]
mutual
def R74:Nat→Int→List Dyn→Prop
 | 0,_,_=>False
 | n+1,x0,ds=>(if (x0==0)=true then (ds=[Dyn.mk .str (ByteArray.mk #[48])]) else (R74_5 n (x0) ([]) (x0) ds))
def R74_5:Nat→Int→List Int→Int→List Dyn→Prop
 | 0,_,_,_,_=>False
 | n+1,v4,h0,x0,ds=>(if (v4 != 0)=true then ((InR .i64 (Int.tmod v4 10))∧(if (decide (Int.tmod v4 10<0))=true then ((InR .i64 (0 - Int.tmod v4 10))∧((InR .i64 (48+(0 - Int.tmod v4 10)))∧((InR .u8 (48+(0 - Int.tmod v4 10)))∧(((List.length h0+1)*1≤140737488355328)∧((InR .i64 (Int.tdiv v4 10))∧(R74_5 n (Int.tdiv v4 10) (h0++[48+(0 - Int.tmod v4 10)]) (x0) ds)))))) else ((InR .i64 (48+Int.tmod v4 10))∧((InR .u8 (48+Int.tmod v4 10))∧(((List.length h0+1)*1≤140737488355328)∧((InR .i64 (Int.tdiv v4 10))∧(R74_5 n (Int.tdiv v4 10) (h0++[48+Int.tmod v4 10]) (x0) ds))))))) else (if (decide (x0<0))=true then (((List.length h0+1)*1≤140737488355328)∧((InR .i64 ((↑(List.length (h0++[45])):Int) - 1))∧(R74_15 n ((↑(List.length (h0++[45])):Int) - 1) (h0++[45]) ([]) ds))) else ((InR .i64 ((h0.length:Int) - 1))∧(R74_15 n ((h0.length:Int) - 1) (h0) ([]) ds))))
def R74_15:Nat→Int→List Int→List Int→List Dyn→Prop
 | 0,_,_,_,_=>False
 | n+1,v7,h0,h1,ds=>(if (decide (v7≥0))=true then ((0≤v7)∧(v7<(h0.length:Int))∧(((List.length h1+1)*1≤140737488355328)∧((InR .i64 (v7 - 1))∧(R74_15 n (v7 - 1) (h0) (h1++[List.getD h0 (Int.toNat v7) 0]) ds)))) else (ds=[Dyn.mk .str (bytesStr h1)]))
end
theorem snd74:∀ n,(∀ (x0:Int) ds,R74 n x0 ds→∀ K q,AtV Tryz.prog 74 (PostR kds74 oks74 ds [] [] q K) 50 K q [] [.code b74] (entE 0 0 sig74 (x0,())) (entL sig74 (x0,())))∧(∀ (v4:Int) (h0:List Int) (x0:Int) ds,R74_5 n v4 h0 x0 ds→∀ K q,AtV Tryz.prog 74 (PostR kds74 oks74 ds [] [] q K) 50 K q [] (cutAt b74 5) (E74_5 v4 h0 x0) (L74_5 v4 h0 x0))∧(∀ (v7:Int) (h0:List Int) (h1:List Int) ds,R74_15 n v7 h0 h1 ds→∀ K q,AtV Tryz.prog 74 (PostR kds74 oks74 ds [] [] q K) 50 K q [] (cutAt b74 15) (E74_15 v7 h0 h1) (L74_15 v7 h0 h1)):=by
 intro n
 induction n with
 | zero=>exact ⟨fun _ _ h=>by simp only [R74] at h,fun _ _ _ _ h=>by simp only [R74_5] at h,fun _ _ _ _ h=>by simp only [R74_15] at h⟩
 | succ n ih =>
 obtain ⟨ih,ih5,ih15⟩:=ih
 refine ⟨?_,?_,?_⟩
 ·intro x0 ds h K q
  rw [R74] at h
  by_cases b0:(x0==0)=true
  ·rw [if_pos b0] at h
   subst h
   exact AtV.ret Tryz.func74 tabOk ext74Ok mixed false [] tys74 [true] (a1 b0 trivial) (by kernel_rfl)
  ·rw [if_neg b0] at h
   replace b0:=bf_ b0
   exact AtV.go tabOk ext74Ok mixed false [] [] [0,3,4] [0] [false] (a1 b0 trivial) (ih5 _ _ _ _ h K q) (by kernel_rfl)
 ·intro v4 h0 x0 ds h K q
  rw [R74_5] at h
  by_cases b0:(v4 != 0)=true
  ·rw [if_pos b0] at h
   obtain ⟨s0,h⟩:=h
   by_cases b1:(decide (Int.tmod v4 10<0))=true
   ·rw [if_pos b1] at h
    obtain ⟨s1,h⟩:=h
    obtain ⟨s2,h⟩:=h
    obtain ⟨s3,h⟩:=h
    obtain ⟨s4,h⟩:=h
    obtain ⟨s5,h⟩:=h
    exact AtV.go tabOk ext74Ok mixed false [] [] [0,3,4] [0] [true,true] (a1 b0 (a1 ((by decide):(10:Int)≠(0:Int)) (a1 s0 (a1 b1 (a1 s1 (a1 s2 (a1 s3 (a1 s4 (a1 ((by decide):(10:Int)≠(0:Int)) (a1 s5 trivial)))))))))) (ih5 _ _ _ _ h K q) (by kernel_rfl)
   ·rw [if_neg b1] at h
    replace b1:=bf_ b1
    obtain ⟨s1,h⟩:=h
    obtain ⟨s2,h⟩:=h
    obtain ⟨s3,h⟩:=h
    obtain ⟨s4,h⟩:=h
    exact AtV.go tabOk ext74Ok mixed false [] [] [0,3,4] [0] [true,false] (a1 b0 (a1 ((by decide):(10:Int)≠(0:Int)) (a1 s0 (a1 b1 (a1 s1 (a1 s2 (a1 s3 (a1 ((by decide):(10:Int)≠(0:Int)) (a1 s4 trivial))))))))) (ih5 _ _ _ _ h K q) (by kernel_rfl)
  ·rw [if_neg b0] at h
   replace b0:=bf_ b0
   by_cases b1:(decide (x0<0))=true
   ·rw [if_pos b1] at h
    obtain ⟨s0,h⟩:=h
    obtain ⟨s1,h⟩:=h
    exact AtV.go tabOk ext74Ok mixed false [] [] [3,6,7] [0,2] [false,true] (a1 b0 (a1 b1 (a1 s0 (a1 s1 trivial)))) (ih15 _ _ _ _ h K q) (by kernel_rfl)
   ·rw [if_neg b1] at h
    replace b1:=bf_ b1
    obtain ⟨s0,h⟩:=h
    exact AtV.go tabOk ext74Ok mixed false [] [] [3,6,7] [0,1] [false,false] (a1 b0 (a1 b1 (a1 s0 trivial))) (ih15 _ _ _ _ h K q) (by kernel_rfl)
 ·intro v7 h0 h1 ds h K q
  rw [R74_15] at h
  by_cases b0:(decide (v7≥0))=true
  ·rw [if_pos b0] at h
   obtain ⟨s0,s1,h⟩:=h
   obtain ⟨s2,h⟩:=h
   obtain ⟨s3,h⟩:=h
   exact AtV.go tabOk ext74Ok mixed false [] [] [3,6,7] [0,1] [true] (a1 b0 (a1 s0 (a1 s1 (a1 s2 (a1 s3 trivial))))) (ih15 _ _ _ _ h K q) (by kernel_rfl)
  ·rw [if_neg b0] at h
   replace b0:=bf_ b0
   subst h
   exact AtV.ret Tryz.func74 tabOk ext74Ok mixed false [] tys74 [false] (a1 b0 trivial) (by kernel_rfl)
def g74_0 (x0:Int):ByteArray:=numB x0
def P74 (x0:Int):Prop:=True
theorem bstr74 (xs:List Int):bytesStr xs=⟨⟨xs.map fun n=>UInt8.ofNat n.toNat⟩⟩:=by
 have key:∀ (xs:List Int) (s:ByteArray),(xs.foldl (fun r n=>r.push (UInt8.ofNat n.toNat)) s).data.toList=s.data.toList++xs.map fun n=>UInt8.ofNat n.toNat:=by
  intro xs
  induction xs with
  | nil=>intro s;simp
  | cons a r ih =>
   intro s
   rw [List.foldl_cons,ih]
   show (s.data.push _).toList++_=_
   rw [Array.toList_push]
   simp
 apply ByteArray.ext
 apply Array.ext'
 have:=key xs ByteArray.empty
 unfold bytesStr
 rw [this]
 rfl
theorem bstrB74 (l:List UInt8):bytesStr (l.map fun b=>(b.toNat:Int))=⟨⟨l⟩⟩:=by
 rw [bstr74,List.map_map]
 congr 2
 conv=>rhs;rw [← List.map_id l]
 refine List.map_congr_left fun b _ => ?_
 show UInt8.ofNat ((b.toNat:Int)).toNat=b
 rw [Int.toNat_natCast,UInt8.ofNat_toNat]
def rd74 (m:Nat):List Int:=if h:m=0 then [] else ((48+m % 10:Nat):Int) :: rd74 (m / 10)
termination_by m
decreasing_by omega
theorem rd074:rd74 0=[]:=by rw [rd74,dif_pos rfl]
theorem rds74 {m:Nat} (h:m≠0):rd74 m=((48+m % 10:Nat):Int) :: rd74 (m / 10):=by rw [rd74,dif_neg h]
theorem rdl74 : ∀ (k m : Nat), m < 10 ^ k → (rd74 m).length ≤ k
  | 0, m, h => by obtain rfl : m = 0 := by simpa using h
                  rw [rd074]; exact Nat.le_refl _
  | k + 1, m, h => by
    by_cases h0 : m = 0
    · rw [h0, rd074]; exact Nat.zero_le _
    · rw [rds74 h0, List.length_cons]
      have := rdl74 k (m / 10) (by rw [Nat.pow_succ] at h; omega)
      omega
theorem rdd74 (m:Nat) (h:m≠0):bytesStr (rd74 m).reverse=⟨⟨Lib.decDigits m⟩⟩:=by
 have key:∀ m:Nat,m≠0→(rd74 m).reverse=(Lib.decDigits m).map fun b=>(b.toNat:Int):=by
  intro m
  induction m using Nat.strongRecOn with
  | _ m ih =>
   intro h
   rw [rds74 h,List.reverse_cons,Lib.decDigits]
   have e:(UInt8.ofNat (48+m % 10)).toNat=48+m % 10:=by rw [UInt8.toNat_ofNat'];omega
   split
   ·rename_i hs
    rw [show m / 10=0 by omega,rd074]
    have e':(UInt8.ofNat (48+m)).toNat=48+m % 10:=by rw [UInt8.toNat_ofNat'];omega
    rw [List.map_singleton,e']
    rfl
   ·rw [ih (m / 10) (by omega) (by omega),List.map_append,List.map_singleton,e]
 rw [key m h]
 exact bstrB74 _
theorem back74 (h0:List Int):∀ (j:Nat) (h1:List Int),j≤h0.length→h1.length+j≤64→R74_15 (j+1) ((j:Int) - 1) h0 h1 [⟨.str,bytesStr (h1++(h0.take j).reverse)⟩]
 | 0,h1,_,_=>by
  rw [R74_15,if_neg (by decide)]
  simp
 | j+1,h1,hj,hl=>by
  have ih:=back74 h0 j (h1++[h0.getD j 0]) (by omega) (by rw [List.length_append,List.length_singleton];omega)
  have e:((j+1:Nat):Int) - 1=(j:Int):=by omega
  rw [R74_15,e,if_pos (by simp only [decide_eq_true_eq];omega),Int.toNat_natCast]
  refine ⟨by omega,by omega,by omega,by rw [i64_iff];omega,?_⟩
  have et:(h0.take (j+1)).reverse=h0.getD j 0 :: (h0.take j).reverse:=by
   have hlt:j<h0.length:=by omega
   rw [List.take_add_one,List.getElem?_eq_getElem hlt,List.reverse_append,List.getD_eq_getElem?_getD,List.getElem?_eq_getElem hlt]
   rfl
  rw [et]
  rw [List.append_assoc] at ih
  exact ih
theorem last74 (x0:Int) (h0:List Int) (hl:h0.length≤20):R74_5 ((if x0<0 then h0.length+1 else h0.length)+1+1) 0 h0 x0 [⟨.str,bytesStr ((if x0<0 then h0++[45] else h0)).reverse⟩]:=by
 rw [R74_5,if_neg (by decide)]
 by_cases hx:x0<0
 ·have b:=back74 (h0++[45]) (h0.length+1) [] (by rw [List.length_append,List.length_singleton];omega) (by simp;omega)
  have e:(h0++[(45:Int)]).length=h0.length+1:=by rw [List.length_append,List.length_singleton]
  rw [List.take_of_length_le (by omega)] at b
  simp only [hx,decide_true,if_true]
  rw [e]
  exact ⟨by omega,by rw [i64_iff];omega,b⟩
 ·have b:=back74 h0 h0.length [] (Nat.le_refl _) (by simp;omega)
  rw [List.take_of_length_le (Nat.le_refl _)] at b
  simp only [hx,decide_false,Bool.false_eq_true,if_false]
  exact ⟨by rw [i64_iff];omega,b⟩
theorem run74 (x0:Int) (ds:List Dyn) (F:List Int) (K:Nat) (hF:R74_5 K 0 F x0 ds):∀ (m:Nat) (v:Int) (h0:List Int),(v=(m:Int)∨v = -(m:Int))→m≤9223372036854775808→InR .i64 v→h0.length+(rd74 m).length≤20→h0++rd74 m=F→R74_5 ((rd74 m).length+K) v h0 x0 ds:=by
 intro m
 induction m using Nat.strongRecOn with
 | _ m ih =>
  intro v h0 hv hm hi hl he
  by_cases h:m=0
  ·subst h
   obtain rfl:v=0:=by omega
   rw [rd074] at he ⊢
   rw [List.append_nil] at he
   rw [he,List.length_nil,Nat.zero_add]
   exact hF
  ·have hr:=rds74 h
   rw [hr] at he hl ⊢
   rw [List.length_cons] at hl ⊢
   have hne:(v != 0)=true:=by
    have:v≠0:=by omega
    simpa using this
   rw [i64_iff] at hi
   have e1:(rd74 (m / 10)).length+1+K=((rd74 (m / 10)).length+K)+1:=by omega
   have next:∀ v',(v'=((m / 10:Nat):Int)∨v' = -((m / 10:Nat):Int))→R74_5 ((rd74 (m / 10)).length+K) v' (h0++[((48+m % 10:Nat):Int)]) x0 ds:=fun v' hv' =>
    ih (m / 10) (by omega) v' _ hv' (by omega) (by rw [i64_iff];omega) (by rw [List.length_append,List.length_singleton];omega) (by rw [List.append_assoc];exact he)
   rw [e1,R74_5,if_pos hne]
   rcases hv with rfl | rfl
   ·have t1:Int.tmod (m:Int) 10=((m % 10:Nat):Int):=rfl
    have t2:Int.tdiv (m:Int) 10=((m / 10:Nat):Int):=rfl
    rw [t1,t2]
    refine ⟨by rw [i64_iff];omega,?_⟩
    rw [if_neg (by simp only [decide_eq_true_eq];omega)]
    have e2:48+((m % 10:Nat):Int)=((48+m % 10:Nat):Int):=by omega
    rw [e2]
    exact ⟨by rw [i64_iff];omega,by rw [u8_iff];omega,by omega,by rw [i64_iff];omega,next _ (.inl rfl)⟩
   ·have t1:Int.tmod (-(m:Int)) 10 = -((m % 10:Nat):Int):=by rw [Int.neg_tmod];rfl
    have t2:Int.tdiv (-(m:Int)) 10 = -((m / 10:Nat):Int):=by rw [Int.neg_tdiv];rfl
    rw [t1,t2]
    refine ⟨by rw [i64_iff];omega,?_⟩
    by_cases hz:m % 10=0
    ·rw [if_neg (by simp only [decide_eq_true_eq];omega)]
     have e2:48 + -((m % 10:Nat):Int)=((48+m % 10:Nat):Int):=by omega
     rw [e2]
     exact ⟨by rw [i64_iff];omega,by rw [u8_iff];omega,by omega,by rw [i64_iff];omega,next _ (.inr rfl)⟩
    ·rw [if_pos (by simp only [decide_eq_true_eq];omega)]
     have e2:48+(0 - -((m % 10:Nat):Int))=((48+m % 10:Nat):Int):=by omega
     rw [e2]
     exact ⟨by rw [i64_iff];omega,by rw [i64_iff];omega,by rw [u8_iff];omega,by omega,by rw [i64_iff];omega,next _ (.inr rfl)⟩
theorem top74 (x0:Int) (hi:InR .i64 x0):∃ n,R74 n x0 [⟨.str,g74_0 x0⟩]:=by
 unfold g74_0 numB Lib.itoa
 by_cases h:x0=0
 ·subst h
  refine ⟨1,?_⟩
  rw [R74,if_pos (by rfl),if_neg (by decide)]
  have e:Lib.decDigits (Int.toNat 0)=[48]:=by rw [Lib.decDigits,dif_pos (by decide)];rfl
  rw [e]
 ·have hi':=hi
  rw [i64_iff] at hi'
  have hn:x0.natAbs≠0:=by omega
  have hl:=rdl74 19 x0.natAbs (by omega)
  refine ⟨(rd74 x0.natAbs).length+((if x0<0 then (rd74 x0.natAbs).length+1 else (rd74 x0.natAbs).length)+1+1)+1,?_⟩
  rw [R74,if_neg (by simpa using h)]
  have hlast:=last74 x0 (rd74 x0.natAbs) (by omega)
  have hrun:=run74 x0 _ (rd74 x0.natAbs) _ hlast x0.natAbs x0 [] (by omega) (by omega) hi (by simp;omega) rfl
  have e:bytesStr (if x0<0 then rd74 x0.natAbs++[45] else rd74 x0.natAbs).reverse=⟨(if x0<0 then 45 :: Lib.decDigits x0.natAbs else Lib.decDigits x0.toNat).toArray⟩:=by
   by_cases hx:x0<0
   ·rw [if_pos hx,if_pos hx,List.reverse_append]
    show bytesStr ((45:Int) :: (rd74 x0.natAbs).reverse)=_
    have:=rdd74 x0.natAbs hn
    have e0:bytesStr ((45:Int) :: (rd74 x0.natAbs).reverse)=⟨⟨45 :: (bytesStr (rd74 x0.natAbs).reverse).data.toList⟩⟩:=by rw [bstr74,bstr74];rfl
    rw [e0,this]
   ·rw [if_neg hx,if_neg hx,rdd74 x0.natAbs hn,show x0.natAbs=x0.toNat by omega]
  rw [e] at hrun
  exact hrun
def S74:Am.Spec:={ sig:=sig74,pre:=fun ⟨x0,_⟩=>P74 x0,res:=fun ⟨x0,_⟩=>[⟨.str,g74_0 x0⟩] }
theorem con74:Contract Tryz.prog 74 S74:=contract_of Tryz.func74 hb74 (bl_ (by kernel_rfl)) (fun ⟨x0,_⟩ h hwf K q=>by
 obtain ⟨n,hn⟩:=top74 x0 hwf.1
 exact (snd74 n).1 x0 _ hn K q)
end
noncomputable section
def ext129:Ext:=[(127,S127)]
theorem ext129Ok:ExtOk Tryz.prog ext129:=⟨⟨ca127,con127⟩,trivial⟩
def b129:Code:=bodyOf Tryz.f129
theorem hb129:Tryz.f129.body=some b129:=by kernel_rfl
def sig129:List AT:=[AT.p YA4,AT.v (.int .i64),AT.v (.int .i64)]
def tys129:List Ty:=[.bool]
def kds129:List RK:=[]
def oks129:List AT:=owns sig129
def P129 (x0:Int×Int×Int×Int×Unit) (x1:Int) (x2:Int):Prop:=((InR .i64 (x1*x1))∧((InR .i64 (x0.2.2.1*x0.2.2.1))∧((InR .i64 (2*x0.1))∧((InR .i64 (x2 - x1))∧((InR .i64 (x2 - x1 - x0.2.2.2.1))∧((InR .i64 (2*x0.1*g127_0 0 (x2 - x1 - x0.2.2.2.1)))∧((InR .i64 (x0.2.2.1*x0.2.2.1+2*x0.1*g127_0 0 (x2 - x1 - x0.2.2.2.1)))∧True)))))))
def g129_0 (x0:Int×Int×Int×Int×Unit) (x1:Int) (x2:Int):Bool:=decide (x1*x1≤x0.2.2.1*x0.2.2.1+2*x0.1*g127_0 0 (x2 - x1 - x0.2.2.2.1))
theorem at129 (x0:Int×Int×Int×Int×Unit) (x1:Int) (x2:Int) (h:P129 x0 x1 x2) (K:Ctx) (q:Nat→Value):AtV Tryz.prog 129 (PostR kds129 oks129 [⟨.bool,g129_0 x0 x1 x2⟩] [] [] q K) 36 K q [] [.code b129] (entE 0 0 sig129 (x0,x1,x2,())) (entL sig129 (x0,x1,x2,())):=by
 unfold P129 at h
 unfold g129_0
 obtain ⟨s0,h⟩:=h
 obtain ⟨s1,h⟩:=h
 obtain ⟨s2,h⟩:=h
 obtain ⟨s3,h⟩:=h
 obtain ⟨s4,h⟩:=h
 obtain ⟨s5,h⟩:=h
 obtain ⟨s6,h⟩:=h
 exact AtV.ret Tryz.func129 tabOk ext129Ok mixed false [] tys129 [] (a1 s0 (a1 s1 (a1 s2 (a1 s3 (a1 s4 (a1 trivial (a1 s5 (a1 s6 trivial)))))))) (by kernel_rfl)
def S129:Am.Spec:={ sig:=sig129,pre:=fun ⟨x0,x1,x2,_⟩=>P129 x0 x1 x2,res:=fun ⟨x0,x1,x2,_⟩=>[⟨.bool,g129_0 x0 x1 x2⟩],kds:=kds129 }
theorem con129:Contract Tryz.prog 129 S129:=contract_of Tryz.func129 hb129 (bl_ (by kernel_rfl)) (fun ⟨x0,x1,x2,_⟩ h _ K q=>at129 x0 x1 x2 h K q)
end
def bsI (C:Int→Bool):Nat→Int→Int→Int
 | 0,lo,_=>lo
 | n+1,lo,e=>if lo<e then (if C (Int.tdiv (lo+e) 2)=true then bsI C n lo (Int.tdiv (lo+e) 2) else bsI C n (Int.tdiv (lo+e) 2+1) e) else lo
theorem half_in {lo e:Int} (h0:0≤lo) (h:lo<e):lo≤Int.tdiv (lo+e) 2∧Int.tdiv (lo+e) 2<e:=by
 rw [Int.tdiv_eq_ediv_of_nonneg (by omega)]
 omega
theorem bsI_ok (C:Int→Bool) (l0 e0:Int):∀ (n:Nat) (lo e:Int),0≤lo→lo≤e→e - lo≤(n:Int)→(e=e0∨C e=true)→(lo=l0∨C (lo - 1)=false)→l0≤lo→e≤e0 →
  l0≤bsI C n lo e∧bsI C n lo e≤e0∧(bsI C n lo e=e0∨C (bsI C n lo e)=true)∧(bsI C n lo e=l0∨C (bsI C n lo e - 1)=false)
 | 0,lo,e,h0,h1,h2,h3,h4,h5,h6=>by
  obtain rfl:e=lo:=by omega
  exact ⟨h5,h6,h3,h4⟩
 | n+1,lo,e,h0,h1,h2,h3,h4,h5,h6=>by
  unfold bsI
  by_cases h:lo<e
  ·obtain ⟨m1,m2⟩:=half_in h0 h
   rw [if_pos h]
   by_cases hc:C (Int.tdiv (lo+e) 2)=true
   ·rw [if_pos hc]
    exact bsI_ok C l0 e0 n lo _ h0 m1 (by omega) (.inr hc) h4 h5 (by omega)
   ·rw [if_neg hc]
    refine bsI_ok C l0 e0 n _ e (by omega) (by omega) (by omega) h3 (.inr ?_) (by omega) h6
    rw [Int.add_sub_cancel]
    exact Bool.eq_false_iff.2 hc
  ·rw [if_neg h]
   obtain rfl:e=lo:=by omega
   exact ⟨h5,h6,h3,h4⟩
def bsS (M:Int→Bool):Nat→Int→Int→Int
 | 0,lo,_=>lo
 | n+1,lo,hi=>if lo<hi then (if M (Int.tdiv (lo+hi+1) 2)=true then bsS M n (Int.tdiv (lo+hi+1) 2) hi else bsS M n lo (Int.tdiv (lo+hi+1) 2 - 1)) else lo
theorem half_up {lo hi:Int} (h0:0≤lo) (h:lo<hi):lo<Int.tdiv (lo+hi+1) 2∧Int.tdiv (lo+hi+1) 2≤hi:=by
 rw [Int.tdiv_eq_ediv_of_nonneg (by omega)]
 omega
theorem bsS_ok (M:Int→Bool) (l0 h9:Int):∀ (n:Nat) (lo hi:Int),0≤lo→lo≤hi→hi - lo≤(n:Int)→(lo=l0∨M lo=true)→(hi=h9∨M (hi+1)=false)→l0≤lo→hi≤h9 →
  l0≤bsS M n lo hi∧bsS M n lo hi≤h9∧(bsS M n lo hi=l0∨M (bsS M n lo hi)=true)∧(bsS M n lo hi=h9∨M (bsS M n lo hi+1)=false)
 | 0,lo,hi,h0,h1,h2,h3,h4,h5,h6=>by
  obtain rfl:hi=lo:=by omega
  exact ⟨h5,h6,h3,h4⟩
 | n+1,lo,hi,h0,h1,h2,h3,h4,h5,h6=>by
  unfold bsS
  by_cases h:lo<hi
  ·obtain ⟨m1,m2⟩:=half_up h0 h
   rw [if_pos h]
   by_cases hc:M (Int.tdiv (lo+hi+1) 2)=true
   ·rw [if_pos hc]
    exact bsS_ok M l0 h9 n _ hi (by omega) m2 (by omega) (.inr hc) h4 (by omega) h6
   ·rw [if_neg hc]
    refine bsS_ok M l0 h9 n lo _ h0 (by omega) (by omega) h3 (.inr ?_) h5 (by omega)
    rw [Int.sub_add_cancel]
    exact Bool.eq_false_iff.2 hc
  ·rw [if_neg h]
   obtain rfl:hi=lo:=by omega
   exact ⟨h5,h6,h3,h4⟩
theorem bs_same (M C:Int→Bool) (c h:Int) (n m:Nat) (hc:0≤c) (hh:c<h) (hn:h+1 - c≤(n:Int)) (hm:h - c≤(m:Int)) (hCM:∀ v,c≤v→v≤h→C v = !M v) (h0:M c=true) (hmono:∀ v v',c≤v→v≤v'→v'≤h→M v'=true→M v=true) :
  bsI C n c (h+1) - 1=bsS M m c h:=by
 obtain ⟨a1,a2,a3,a4⟩:=bsI_ok C c (h+1) n c (h+1) hc (by omega) hn (.inl rfl) (.inl rfl) (Int.le_refl _) (Int.le_refl _)
 obtain ⟨b1,b2,b3,b4⟩:=bsS_ok M c h m c h hc (by omega) hm (.inl rfl) (.inl rfl) (Int.le_refl _) (Int.le_refl _)
 generalize bsI C n c (h+1)=r at *
 generalize bsS M m c h=s at *
 have hs:M s=true:=by
  rcases b3 with rfl | b3
  ·exact h0
  ·exact b3
 have hr:r≠c:=by
  rintro rfl
  rcases a3 with a3 | a3
  ·omega
  ·rw [hCM r (Int.le_refl _) (by omega),h0] at a3
   cases a3
 have hr1:M (r - 1)=true:=by
  rcases a4 with a4 | a4
  ·exact absurd a4 hr
  ·rw [hCM (r - 1) (by omega) (by omega)] at a4
   simpa using a4
 rcases Int.lt_trichotomy (r - 1) s with hlt | heq | hgt
 ·rcases a3 with a3 | a3
  ·omega
  ·rw [hCM r (by omega) (by omega)] at a3
   rw [hmono r s (by omega) (by omega) b2 hs] at a3
   cases a3
 ·exact heq
 ·rcases b4 with b4 | b4
  ·omega
  ·rw [hmono (s+1) (r - 1) (by omega) (by omega) (by omega) hr1] at b4
   cases b4
noncomputable section
def ext98:Ext:=[(128,S128),(127,S127),(129,S129)]
theorem ext98Ok:ExtOk Tryz.prog ext98:=⟨⟨ca128,con128⟩,⟨ca127,con127⟩,⟨ca129,con129⟩,trivial⟩
def b98:Code:=bodyOf Tryz.f98
theorem hb98:Tryz.f98.body=some b98:=by kernel_rfl
def sig98:List AT:=[AT.p YA4,AT.v (.int .i64),AT.v (.int .i64)]
def tys98:List Ty:=[.int .i64]
def kds98:List RK:=[]
def oks98:List AT:=owns sig98
def E98_3 (v7:Int) (v8:Int) (x0:Int×Int×Int×Int×Unit) (x2:Int):Env:=[(0,.a (.ptr YA4 x0)),(2,.a (.val (.int .i64 x2))),(7,.a (.val (.int .i64 v7))),(8,.a (.val (.int .i64 v8)))]
def L98_3 (v7:Int) (v8:Int) (x0:Int×Int×Int×Int×Unit) (x2:Int):Heap:=[]
mutual
def R98:Nat→Int×Int×Int×Int×Unit→Int→Int→List Dyn→Prop
 | 0,_,_,_,_=>False
 | n+1,x0,x1,x2,ds=>((InR .i64 (x1+x0.1))∧(R98_3 n x0.2.2.1 (g127_0 x0.2.2.1 (g128_0 x0.2.1 (x1+x0.1))) (x0) (x2) ds))
def R98_3:Nat→Int→Int→Int×Int×Int×Int×Unit→Int→List Dyn→Prop
 | 0,_,_,_,_,_=>False
 | n+1,v7,v8,x0,x2,ds=>(if (decide (v7<v8))=true then ((InR .i64 (v7+v8))∧((InR .i64 (v7+v8+1))∧((InR .i64 (Int.tdiv (v7+v8+1) 2))∧((P129 x0 (Int.tdiv (v7+v8+1) 2) x2)∧(if (g129_0 x0 (Int.tdiv (v7+v8+1) 2) x2)=true then (R98_3 n (Int.tdiv (v7+v8+1) 2) (v8) (x0) (x2) ds) else ((InR .i64 (Int.tdiv (v7+v8+1) 2 - 1))∧(R98_3 n (v7) (Int.tdiv (v7+v8+1) 2 - 1) (x0) (x2) ds))))))) else (ds=[Dyn.mk (.int .i64) (g128_0 v7 x2)]))
end
theorem snd98:∀ n,(∀ (x0:Int×Int×Int×Int×Unit) (x1:Int) (x2:Int) ds,R98 n x0 x1 x2 ds→∀ K q,AtV Tryz.prog 98 (PostR kds98 oks98 ds [] [] q K) 48 K q [] [.code b98] (entE 0 0 sig98 (x0,x1,x2,())) (entL sig98 (x0,x1,x2,())))∧(∀ (v7:Int) (v8:Int) (x0:Int×Int×Int×Int×Unit) (x2:Int) ds,R98_3 n v7 v8 x0 x2 ds→∀ K q,AtV Tryz.prog 98 (PostR kds98 oks98 ds [] [] q K) 48 K q [] (cutAt b98 3) (E98_3 v7 v8 x0 x2) (L98_3 v7 v8 x0 x2)):=by
 intro n
 induction n with
 | zero=>exact ⟨fun _ _ _ _ h=>by simp only [R98] at h,fun _ _ _ _ _ h=>by simp only [R98_3] at h⟩
 | succ n ih =>
 obtain ⟨ih,ih3⟩:=ih
 refine ⟨?_,?_⟩
 ·intro x0 x1 x2 ds h K q
  rw [R98] at h
  obtain ⟨s0,h⟩:=h
  exact AtV.go tabOk ext98Ok mixed false [] [] [0,2,7,8] [] [] (a1 s0 (a1 trivial (a1 trivial trivial))) (ih3 _ _ _ _ _ h K q) (by kernel_rfl)
 ·intro v7 v8 x0 x2 ds h K q
  rw [R98_3] at h
  by_cases b0:(decide (v7<v8))=true
  ·rw [if_pos b0] at h
   obtain ⟨s0,h⟩:=h
   obtain ⟨s1,h⟩:=h
   obtain ⟨s2,h⟩:=h
   obtain ⟨s3,h⟩:=h
   by_cases b1:(g129_0 x0 (Int.tdiv (v7+v8+1) 2) x2)=true
   ·rw [if_pos b1] at h
    exact AtV.go tabOk ext98Ok mixed false [] [] [0,2,7,8] [] [true,true] (a1 b0 (a1 s0 (a1 s1 (a1 ((by decide):(2:Int)≠(0:Int)) (a1 s2 (a1 s3 (a1 b1 trivial))))))) (ih3 _ _ _ _ _ h K q) (by kernel_rfl)
   ·rw [if_neg b1] at h
    replace b1:=bf_ b1
    obtain ⟨s4,h⟩:=h
    exact AtV.go tabOk ext98Ok mixed false [] [] [0,2,7,8] [] [true,false] (a1 b0 (a1 s0 (a1 s1 (a1 ((by decide):(2:Int)≠(0:Int)) (a1 s2 (a1 s3 (a1 b1 (a1 s4 trivial)))))))) (ih3 _ _ _ _ _ h K q) (by kernel_rfl)
  ·rw [if_neg b0] at h
   replace b0:=bf_ b0
   subst h
   exact AtV.ret Tryz.func98 tabOk ext98Ok mixed false [] tys98 [false] (a1 b0 (a1 trivial trivial)) (by kernel_rfl)
def top98 (x0:Int×Int×Int×Int×Unit) (x1:Int):Int:=g127_0 x0.2.2.1 (g128_0 x0.2.1 (x1+x0.1))
def g98_0 (x0:Int×Int×Int×Int×Unit) (x1 x2:Int):Int:=g128_0 (bsS (fun v=>g129_0 x0 v x2) (top98 x0 x1 - x0.2.2.1).toNat x0.2.2.1 (top98 x0 x1)) x2
def P98 (x0:Int×Int×Int×Int×Unit) (x1 x2:Int):Prop:=(0≤x0.1∧x0.1≤2000)∧(0≤x0.2.1∧x0.2.1≤15000)∧(0≤x0.2.2.1∧x0.2.2.1≤15000)∧(0≤x1∧x1≤15000)∧∀ v,0≤v→v≤20000→P129 x0 v x2
theorem top98_le (x0:Int×Int×Int×Int×Unit) (x1 x2:Int) (h:P98 x0 x1 x2):x0.2.2.1≤top98 x0 x1∧top98 x0 x1≤15000:=by
 obtain ⟨h1,h2,h3,h4,_⟩:=h
 unfold top98 g127_0 g128_0
 simp only [decide_eq_true_eq,gt_iff_lt]
 split <;> split <;> omega
theorem run98 (x0:Int×Int×Int×Int×Unit) (x2:Int) (hp:∀ v,0≤v→v≤20000→P129 x0 v x2):∀ (k:Nat) (lo hi:Int),0≤lo→lo≤hi→hi≤15000→hi - lo≤(k:Int) →
  R98_3 (k+1) lo hi x0 x2 [⟨.int .i64,g128_0 (bsS (fun v=>g129_0 x0 v x2) k lo hi) x2⟩]:=by
 intro k
 induction k with
 | zero =>
  intro lo hi h0 h1 h2 h3
  rw [R98_3,if_neg (by simp only [decide_eq_true_eq];omega)]
  rfl
 | succ k ih =>
  intro lo hi h0 h1 h2 h3
  unfold bsS
  by_cases hlt:lo<hi
  ·obtain ⟨m1,m2⟩:=half_up h0 hlt
   rw [R98_3,if_pos (by simpa using hlt),if_pos hlt]
   refine ⟨by rw [i64_iff];omega,by rw [i64_iff];omega,by rw [i64_iff];omega,hp _ (by omega) (by omega),?_⟩
   by_cases hc:g129_0 x0 (Int.tdiv (lo+hi+1) 2) x2=true
   ·rw [if_pos hc,if_pos hc]
    exact ih _ hi (by omega) m2 h2 (by omega)
   ·rw [if_neg hc,if_neg hc]
    exact ⟨by rw [i64_iff];omega,ih lo _ h0 (by omega) (by omega) (by omega)⟩
  ·rw [R98_3,if_neg (by simpa using hlt),if_neg hlt]
theorem all98 (x0:Int×Int×Int×Int×Unit) (x1 x2:Int) (h:P98 x0 x1 x2):R98 ((top98 x0 x1 - x0.2.2.1).toNat+1+1) x0 x1 x2 [⟨.int .i64,g98_0 x0 x1 x2⟩]:=by
 obtain ⟨t1,t2⟩:=top98_le x0 x1 x2 h
 obtain ⟨h1,h2,h3,h4,h5⟩:=h
 rw [R98]
 exact ⟨by rw [i64_iff];omega,run98 x0 x2 h5 _ _ (top98 x0 x1) h3.1 t1 t2 (by omega)⟩
def S98:Am.Spec:={ sig:=sig98,pre:=fun ⟨x0,x1,x2,_⟩=>P98 x0 x1 x2,res:=fun ⟨x0,x1,x2,_⟩=>[⟨.int .i64,g98_0 x0 x1 x2⟩] }
theorem con98:Contract Tryz.prog 98 S98:=contract_of Tryz.func98 hb98 (bl_ (by kernel_rfl)) (fun ⟨x0,x1,x2,_⟩ h hwf K q =>
 (snd98 _).1 x0 x1 x2 _ (all98 x0 x1 x2 h) K q)
end
noncomputable section
def ext169:Ext:=[]
theorem ext169Ok:ExtOk Tryz.prog ext169:=trivial
def b169:Code:=bodyOf Tryz.f169
theorem hb169:Tryz.f169.body=some b169:=by kernel_rfl
def sig169:List AT:=[AT.p YA2,AT.v (.int .i64)]
def tys169:List Ty:=[.int .i64]
def kds169:List RK:=[]
def oks169:List AT:=owns sig169
def E169_2 (v5:Int) (x0:List TyB4×Int×Int×Unit) (x1:Int):Env:=[(0,.a (.ptr YA2 x0)),(1,.a (.val (.int .i64 x1))),(5,.a (.val (.int .i64 v5)))]
def L169_2 (v5:Int) (x0:List TyB4×Int×Int×Unit) (x1:Int):Heap:=[]
mutual
def R169:Nat→List TyB4×Int×Int×Unit→Int→List Dyn→Prop
 | 0,_,_,_=>False
 | n+1,x0,x1,ds=>(R169_2 n (0) (x0) (x1) ds)
def R169_2:Nat→Int→List TyB4×Int×Int×Unit→Int→List Dyn→Prop
 | 0,_,_,_,_=>False
 | n+1,v5,x0,x1,ds=>((InR .i64 ((x0.1.length:Int) - 1))∧(if (decide (v5<(x0.1.length:Int) - 1))=true then ((0≤v5)∧(v5<(x0.1.length:Int))∧(if (decide (x1≥(List.getD x0.1 (Int.toNat v5) (0,0,())).1))=true then ((0≤v5)∧(v5<(x0.1.length:Int))∧((InR .i64 (x1 - (List.getD x0.1 (Int.toNat v5) (0,0,())).1))∧((InR .i64 (v5+1))∧(R169_2 n (v5+1) (x0) (x1 - (List.getD x0.1 (Int.toNat v5) (0,0,())).1) ds)))) else (ds=[Dyn.mk (.int .i64) v5]))) else (ds=[Dyn.mk (.int .i64) v5])))
end
theorem snd169:∀ n,(∀ (x0:List TyB4×Int×Int×Unit) (x1:Int) ds,R169 n x0 x1 ds→∀ K q,AtV Tryz.prog 169 (PostR kds169 oks169 ds [] [] q K) 39 K q [] [.code b169] (entE 0 0 sig169 (x0,x1,())) (entL sig169 (x0,x1,())))∧(∀ (v5:Int) (x0:List TyB4×Int×Int×Unit) (x1:Int) ds,R169_2 n v5 x0 x1 ds→∀ K q,AtV Tryz.prog 169 (PostR kds169 oks169 ds [] [] q K) 39 K q [] (cutAt b169 2) (E169_2 v5 x0 x1) (L169_2 v5 x0 x1)):=by
 intro n
 induction n with
 | zero=>exact ⟨fun _ _ _ h=>by simp only [R169] at h,fun _ _ _ _ h=>by simp only [R169_2] at h⟩
 | succ n ih =>
 obtain ⟨ih,ih2⟩:=ih
 refine ⟨?_,?_⟩
 ·intro x0 x1 ds h K q
  rw [R169] at h
  exact AtV.go tabOk ext169Ok mixed false [] [] [0,1,5] [] [] trivial (ih2 _ _ _ _ h K q) (by kernel_rfl)
 ·intro v5 x0 x1 ds h K q
  rw [R169_2] at h
  obtain ⟨s0,h⟩:=h
  by_cases b0:(decide (v5<(x0.1.length:Int) - 1))=true
  ·rw [if_pos b0] at h
   obtain ⟨s1,s2,h⟩:=h
   by_cases b1:(decide (x1≥(List.getD x0.1 (Int.toNat v5) (0,0,())).1))=true
   ·rw [if_pos b1] at h
    obtain ⟨s3,s4,h⟩:=h
    obtain ⟨s5,h⟩:=h
    obtain ⟨s6,h⟩:=h
    exact AtV.go tabOk ext169Ok mixed false [] [] [0,1,5] [] [true,true] (a1 s0 (a1 b0 (a1 s1 (a1 s2 (a1 b1 (a1 s3 (a1 s4 (a1 s5 (a1 s6 trivial))))))))) (ih2 _ _ _ _ h K q) (by kernel_rfl)
   ·rw [if_neg b1] at h
    replace b1:=bf_ b1
    subst h
    exact AtV.ret Tryz.func169 tabOk ext169Ok mixed false [] tys169 [true,false] (a1 s0 (a1 b0 (a1 s1 (a1 s2 (a1 b1 trivial))))) (by kernel_rfl)
  ·rw [if_neg b0] at h
   replace b0:=bf_ b0
   subst h
   exact AtV.ret Tryz.func169 tabOk ext169Ok mixed false [] tys169 [false,false] (a1 s0 (a1 b0 (a1 (rfl:false=false) trivial))) (by kernel_rfl)
def at169 (xs:List TyB4):Nat→Nat→Int→Int
 | 0,i,_=>(i:Int)
 | k+1,i,x=>if (i:Int)<(xs.length:Int) - 1 then (if x≥(xs.getD i ((0:Int),(0:Int),())).1 then at169 xs k (i+1) (x - (xs.getD i ((0:Int),(0:Int),())).1) else (i:Int)) else (i:Int)
def g169_0 (x0:List TyB4×Int×Int×Unit) (x1:Int):Int:=at169 x0.1 x0.1.length 0 x1
def P169 (x0:List TyB4×Int×Int×Unit) (x1:Int):Prop:=(1≤x0.1.length∧x0.1.length≤1000)∧(∀ x∈x0.1,0≤x.1∧x.1≤3000000)∧(0≤x1∧x1≤1000000000)
theorem run169 (x0:List TyB4×Int×Int×Unit) (hl:1≤x0.1.length∧x0.1.length≤1000) (hx:∀ x∈x0.1,0≤x.1∧x.1≤3000000):∀ (k i:Nat) (x:Int),i+k=x0.1.length→(0≤x∧x≤1000000000)→i<x0.1.length →
  (0≤at169 x0.1 k i x∧at169 x0.1 k i x<(x0.1.length:Int))∧R169_2 (k+1) (i:Int) x0 x [⟨.int .i64,at169 x0.1 k i x⟩]:=by
 intro k
 induction k with
 | zero =>
  intro i x hi _ hl
  omega
 | succ k ih =>
  intro i x hi hb hlt
  have hm:=hx _ (mem_getD x0.1 i ((0:Int),(0:Int),()) hlt)
  unfold at169
  by_cases h1:(i:Int)<(x0.1.length:Int) - 1
  ·rw [if_pos h1]
   by_cases h2:x≥(x0.1.getD i ((0:Int),(0:Int),())).1
   ·rw [if_pos h2]
    obtain ⟨a1,a2⟩:=ih (i+1) (x - (x0.1.getD i ((0:Int),(0:Int),())).1) (by omega) (by omega) (by omega)
    refine ⟨a1,?_⟩
    rw [R169_2]
    refine ⟨by rw [i64_iff];omega,?_⟩
    rw [if_pos (by simpa using h1)]
    simp only [Int.toNat_natCast]
    refine ⟨by omega,by omega,?_⟩
    rw [if_pos (by simpa using h2)]
    exact ⟨by omega,by omega,by rw [i64_iff];omega,by rw [i64_iff];omega,a2⟩
   ·rw [if_neg h2]
    refine ⟨by omega,?_⟩
    rw [R169_2]
    refine ⟨by rw [i64_iff];omega,?_⟩
    rw [if_pos (by simpa using h1)]
    simp only [Int.toNat_natCast]
    refine ⟨by omega,by omega,?_⟩
    rw [if_neg (by simpa using h2)] <;> trivial
  ·rw [if_neg h1]
   refine ⟨by omega,?_⟩
   rw [R169_2]
   refine ⟨by rw [i64_iff];omega,?_⟩
   rw [if_neg (by simpa using h1)] <;> trivial
theorem in169 (x0:List TyB4×Int×Int×Unit) (x1:Int) (h:P169 x0 x1):0≤g169_0 x0 x1∧g169_0 x0 x1<(x0.1.length:Int) :=
 (run169 x0 h.1 h.2.1 x0.1.length 0 x1 (by omega) h.2.2 (by have:=h.1;omega)).1
theorem top169 (x0:List TyB4×Int×Int×Unit) (x1:Int) (h:P169 x0 x1):R169 (x0.1.length+1+1) x0 x1 [⟨.int .i64,g169_0 x0 x1⟩]:=by
 rw [R169]
 exact (run169 x0 h.1 h.2.1 x0.1.length 0 x1 (by omega) h.2.2 (by have:=h.1;omega)).2
def S169:Am.Spec:={ sig:=sig169,pre:=fun ⟨x0,x1,_⟩=>P169 x0 x1,res:=fun ⟨x0,x1,_⟩=>[⟨.int .i64,g169_0 x0 x1⟩] }
theorem con169:Contract Tryz.prog 169 S169:=contract_of Tryz.func169 hb169 (bl_ (by kernel_rfl)) (fun ⟨x0,x1,_⟩ h hwf K q =>
 (snd169 _).1 x0 x1 _ (top169 x0 x1 h) K q)
end
noncomputable section
def ext152:Ext:=[(169,S169)]
theorem ext152Ok:ExtOk Tryz.prog ext152:=⟨⟨ca169,con169⟩,trivial⟩
def b152:Code:=bodyOf Tryz.f152
theorem hb152:Tryz.f152.body=some b152:=by kernel_rfl
def sig152:List AT:=[AT.p YA2,AT.v (.int .i64)]
def tys152:List Ty:=[.int .i64]
def kds152:List RK:=[]
def oks152:List AT:=owns sig152
def P152 (x0:List TyB4×Int×Int×Unit) (x1:Int):Prop:=((P169 x0 x1)∧((0≤g169_0 x0 x1)∧(g169_0 x0 x1<(x0.1.length:Int))∧True))
def g152_0 (x0:List TyB4×Int×Int×Unit) (x1:Int):Int:=(List.getD x0.1 (Int.toNat (g169_0 x0 x1)) (0,0,())).2.1
theorem at152 (x0:List TyB4×Int×Int×Unit) (x1:Int) (h:P152 x0 x1) (K:Ctx) (q:Nat→Value):AtV Tryz.prog 152 (PostR kds152 oks152 [⟨.int .i64,g152_0 x0 x1⟩] [] [] q K) 15 K q [] [.code b152] (entE 0 0 sig152 (x0,x1,())) (entL sig152 (x0,x1,())):=by
 unfold P152 at h
 unfold g152_0
 obtain ⟨s0,h⟩:=h
 obtain ⟨s1,s2,h⟩:=h
 exact AtV.ret Tryz.func152 tabOk ext152Ok mixed false [] tys152 [] (a1 s0 (a1 s1 (a1 s2 trivial))) (by kernel_rfl)
def S152:Am.Spec:={ sig:=sig152,pre:=fun ⟨x0,x1,_⟩=>P152 x0 x1,res:=fun ⟨x0,x1,_⟩=>[⟨.int .i64,g152_0 x0 x1⟩],kds:=kds152 }
theorem con152:Contract Tryz.prog 152 S152:=contract_of Tryz.func152 hb152 (bl_ (by kernel_rfl)) (fun ⟨x0,x1,_⟩ h _ K q=>at152 x0 x1 h K q)
end
noncomputable section
def ext183:Ext:=[]
theorem ext183Ok:ExtOk Tryz.prog ext183:=trivial
def b183:Code:=bodyOf Tryz.f183
theorem hb183:Tryz.f183.body=some b183:=by kernel_rfl
def sig183:List AT:=[AT.v (.int .i64),AT.v (.int .i64)]
def tys183:List Ty:=[.int .i64]
def kds183:List RK:=[]
def oks183:List AT:=owns sig183
def P183 (x0:Int) (x1:Int):Prop:=(if (decide (x1<0))=true then ((InR .i64 (0 - x0))∧((InR .i64 (0 - x1))∧(if (decide (0 - x0<0))=true then ((InR .i64 (2*(0 - x0)))∧((InR .i64 (0 - x1 - 2*(0 - x0)))∧((InR .i64 (2*(0 - x1)))∧((2*(0 - x1)≠0)∧(InR .i64 (Int.tdiv (0 - x1 - 2*(0 - x0)) (2*(0 - x1))))∧((InR .i64 (0 - Int.tdiv (0 - x1 - 2*(0 - x0)) (2*(0 - x1))))∧True))))) else ((InR .i64 (2*(0 - x0)))∧((InR .i64 (2*(0 - x0)+(0 - x1)))∧((InR .i64 (2*(0 - x1)))∧((2*(0 - x1)≠0)∧(InR .i64 (Int.tdiv (2*(0 - x0)+(0 - x1)) (2*(0 - x1))))∧True))))))) else (if (decide (x0<0))=true then ((InR .i64 (2*x0))∧((InR .i64 (x1 - 2*x0))∧((InR .i64 (2*x1))∧((2*x1≠0)∧(InR .i64 (Int.tdiv (x1 - 2*x0) (2*x1)))∧((InR .i64 (0 - Int.tdiv (x1 - 2*x0) (2*x1)))∧True))))) else ((InR .i64 (2*x0))∧((InR .i64 (2*x0+x1))∧((InR .i64 (2*x1))∧((2*x1≠0)∧(InR .i64 (Int.tdiv (2*x0+x1) (2*x1)))∧True))))))
def g183_0 (x0:Int) (x1:Int):Int:=(if (decide (x1<0))=true then (if (decide (0 - x0<0))=true then 0 - Int.tdiv (0 - x1 - 2*(0 - x0)) (2*(0 - x1)) else Int.tdiv (2*(0 - x0)+(0 - x1)) (2*(0 - x1))) else (if (decide (x0<0))=true then 0 - Int.tdiv (x1 - 2*x0) (2*x1) else Int.tdiv (2*x0+x1) (2*x1)))
theorem at183 (x0:Int) (x1:Int) (h:P183 x0 x1) (K:Ctx) (q:Nat→Value):AtV Tryz.prog 183 (PostR kds183 oks183 [⟨.int .i64,g183_0 x0 x1⟩] [] [] q K) 28 K q [] [.code b183] (entE 0 0 sig183 (x0,x1,())) (entL sig183 (x0,x1,())):=by
 unfold P183 at h
 unfold g183_0
 by_cases b0:(decide (x1<0))=true
 ·try simp only [if_pos b0] at h ⊢
  obtain ⟨s0,h⟩:=h
  obtain ⟨s1,h⟩:=h
  by_cases b1:(decide (0 - x0<0))=true
  ·try simp only [if_pos b1] at h ⊢
   obtain ⟨s2,h⟩:=h
   obtain ⟨s3,h⟩:=h
   obtain ⟨s4,h⟩:=h
   obtain ⟨s5,s6,h⟩:=h
   obtain ⟨s7,h⟩:=h
   exact AtV.ret Tryz.func183 tabOk ext183Ok mixed false [] tys183 [true,true] (a1 b0 (a1 s0 (a1 s1 (a1 b1 (a1 s2 (a1 s3 (a1 s4 (a1 s5 (a1 s6 (a1 s7 trivial)))))))))) (by kernel_rfl)
  ·try simp only [if_neg b1] at h ⊢
   replace b1:=bf_ b1
   obtain ⟨s2,h⟩:=h
   obtain ⟨s3,h⟩:=h
   obtain ⟨s4,h⟩:=h
   obtain ⟨s5,s6,h⟩:=h
   exact AtV.ret Tryz.func183 tabOk ext183Ok mixed false [] tys183 [true,false] (a1 b0 (a1 s0 (a1 s1 (a1 b1 (a1 s2 (a1 s3 (a1 s4 (a1 s5 (a1 s6 trivial))))))))) (by kernel_rfl)
 ·try simp only [if_neg b0] at h ⊢
  replace b0:=bf_ b0
  by_cases b1:(decide (x0<0))=true
  ·try simp only [if_pos b1] at h ⊢
   obtain ⟨s0,h⟩:=h
   obtain ⟨s1,h⟩:=h
   obtain ⟨s2,h⟩:=h
   obtain ⟨s3,s4,h⟩:=h
   obtain ⟨s5,h⟩:=h
   exact AtV.ret Tryz.func183 tabOk ext183Ok mixed false [] tys183 [false,true] (a1 b0 (a1 b1 (a1 s0 (a1 s1 (a1 s2 (a1 s3 (a1 s4 (a1 s5 trivial)))))))) (by kernel_rfl)
  ·try simp only [if_neg b1] at h ⊢
   replace b1:=bf_ b1
   obtain ⟨s0,h⟩:=h
   obtain ⟨s1,h⟩:=h
   obtain ⟨s2,h⟩:=h
   obtain ⟨s3,s4,h⟩:=h
   exact AtV.ret Tryz.func183 tabOk ext183Ok mixed false [] tys183 [false,false] (a1 b0 (a1 b1 (a1 s0 (a1 s1 (a1 s2 (a1 s3 (a1 s4 trivial))))))) (by kernel_rfl)
def S183:Am.Spec:={ sig:=sig183,pre:=fun ⟨x0,x1,_⟩=>P183 x0 x1,res:=fun ⟨x0,x1,_⟩=>[⟨.int .i64,g183_0 x0 x1⟩],kds:=kds183 }
theorem con183:Contract Tryz.prog 183 S183:=contract_of Tryz.func183 hb183 (bl_ (by kernel_rfl)) (fun ⟨x0,x1,_⟩ h _ K q=>at183 x0 x1 h K q)
end
noncomputable section
def ext170:Ext:=[(183,S183)]
theorem ext170Ok:ExtOk Tryz.prog ext170:=⟨⟨ca183,con183⟩,trivial⟩
def b170:Code:=bodyOf Tryz.f170
theorem hb170:Tryz.f170.body=some b170:=by kernel_rfl
def sig170:List AT:=[AT.p YA9,AT.v (.int .i64),AT.v (.bool)]
def tys170:List Ty:=[.int .i64]
def kds170:List RK:=[]
def oks170:List AT:=owns sig170
def P170 (x0:Int×Int×Unit) (x1:Int) (x2:Bool):Prop:=(if (x2)=true then ((InR .i64 (x1*981))∧((P183 (x1*981) 100)∧((InR .i64 (x0.2.1 - g183_0 (x1*981) 100))∧True))) else ((InR .i64 (x1*981))∧((P183 (x1*981) 100)∧((InR .i64 (x0.2.1+g183_0 (x1*981) 100))∧True))))
def g170_0 (x0:Int×Int×Unit) (x1:Int) (x2:Bool):Int:=(if (x2)=true then x0.2.1 - g183_0 (x1*981) 100 else x0.2.1+g183_0 (x1*981) 100)
theorem at170 (x0:Int×Int×Unit) (x1:Int) (x2:Bool) (h:P170 x0 x1 x2) (K:Ctx) (q:Nat→Value):AtV Tryz.prog 170 (PostR kds170 oks170 [⟨.int .i64,g170_0 x0 x1 x2⟩] [] [] q K) 24 K q [] [.code b170] (entE 0 0 sig170 (x0,x1,x2,())) (entL sig170 (x0,x1,x2,())):=by
 unfold P170 at h
 unfold g170_0
 by_cases b0:(x2)=true
 ·try simp only [if_pos b0] at h ⊢
  obtain ⟨s0,h⟩:=h
  obtain ⟨s1,h⟩:=h
  obtain ⟨s2,h⟩:=h
  exact AtV.ret Tryz.func170 tabOk ext170Ok mixed false [] tys170 [true] (a1 b0 (a1 s0 (a1 s1 (a1 s2 trivial)))) (by kernel_rfl)
 ·try simp only [if_neg b0] at h ⊢
  replace b0:=bf_ b0
  obtain ⟨s0,h⟩:=h
  obtain ⟨s1,h⟩:=h
  obtain ⟨s2,h⟩:=h
  exact AtV.ret Tryz.func170 tabOk ext170Ok mixed false [] tys170 [false] (a1 b0 (a1 s0 (a1 s1 (a1 s2 trivial)))) (by kernel_rfl)
def S170:Am.Spec:={ sig:=sig170,pre:=fun ⟨x0,x1,x2,_⟩=>P170 x0 x1 x2,res:=fun ⟨x0,x1,x2,_⟩=>[⟨.int .i64,g170_0 x0 x1 x2⟩],kds:=kds170 }
theorem con170:Contract Tryz.prog 170 S170:=contract_of Tryz.func170 hb170 (bl_ (by kernel_rfl)) (fun ⟨x0,x1,x2,_⟩ h _ K q=>at170 x0 x1 x2 h K q)
end
noncomputable section
def ext171:Ext:=[]
theorem ext171Ok:ExtOk Tryz.prog ext171:=trivial
def b171:Code:=bodyOf Tryz.f171
theorem hb171:Tryz.f171.body=some b171:=by kernel_rfl
def sig171:List AT:=[AT.v (.int .i64),AT.v (.int .i64)]
def tys171:List Ty:=[.int .i64]
def kds171:List RK:=[]
def oks171:List AT:=owns sig171
def P171 (x0:Int) (x1:Int):Prop:=((InR .i64 (x0+x1))∧((InR .i64 (x0+x1 - 1))∧((x1≠0)∧(InR .i64 (Int.tdiv (x0+x1 - 1) x1))∧True)))
def g171_0 (x0:Int) (x1:Int):Int:=Int.tdiv (x0+x1 - 1) x1
theorem at171 (x0:Int) (x1:Int) (h:P171 x0 x1) (K:Ctx) (q:Nat→Value):AtV Tryz.prog 171 (PostR kds171 oks171 [⟨.int .i64,g171_0 x0 x1⟩] [] [] q K) 11 K q [] [.code b171] (entE 0 0 sig171 (x0,x1,())) (entL sig171 (x0,x1,())):=by
 unfold P171 at h
 unfold g171_0
 obtain ⟨s0,h⟩:=h
 obtain ⟨s1,h⟩:=h
 obtain ⟨s2,s3,h⟩:=h
 exact AtV.ret Tryz.func171 tabOk ext171Ok mixed false [] tys171 [] (a1 s0 (a1 s1 (a1 s2 (a1 s3 trivial)))) (by kernel_rfl)
def S171:Am.Spec:={ sig:=sig171,pre:=fun ⟨x0,x1,_⟩=>P171 x0 x1,res:=fun ⟨x0,x1,_⟩=>[⟨.int .i64,g171_0 x0 x1⟩],kds:=kds171 }
theorem con171:Contract Tryz.prog 171 S171:=contract_of Tryz.func171 hb171 (bl_ (by kernel_rfl)) (fun ⟨x0,x1,_⟩ h _ K q=>at171 x0 x1 h K q)
end
noncomputable section
def ext153:Ext:=[(170,S170),(171,S171)]
theorem ext153Ok:ExtOk Tryz.prog ext153:=⟨⟨ca170,con170⟩,⟨ca171,con171⟩,trivial⟩
def b153:Code:=bodyOf Tryz.f153
theorem hb153:Tryz.f153.body=some b153:=by kernel_rfl
def sig153:List AT:=[AT.p YA9,AT.v (.int .i64),AT.v (.int .i64),AT.v (.bool)]
def tys153:List Ty:=[.int .i64]
def kds153:List RK:=[]
def oks153:List AT:=owns sig153
def P153 (x0:Int×Int×Unit) (x1:Int) (x2:Int) (x3:Bool):Prop:=((P170 x0 x2 x3)∧(if (decide (g170_0 x0 x2 x3≤0))=true then True else ((InR .i64 (x1*x0.1))∧((P171 (x1*x0.1) 10)∧((InR .i64 (x1*x1))∧((InR .i64 (2*g170_0 x0 x2 x3))∧((P171 (x1*x1) (2*g170_0 x0 x2 x3))∧((InR .i64 (g171_0 (x1*x0.1) 10+g171_0 (x1*x1) (2*g170_0 x0 x2 x3)))∧True))))))))
def g153_0 (x0:Int×Int×Unit) (x1:Int) (x2:Int) (x3:Bool):Int:=(if (decide (g170_0 x0 x2 x3≤0))=true then -1 else g171_0 (x1*x0.1) 10+g171_0 (x1*x1) (2*g170_0 x0 x2 x3))
theorem at153 (x0:Int×Int×Unit) (x1:Int) (x2:Int) (x3:Bool) (h:P153 x0 x1 x2 x3) (K:Ctx) (q:Nat→Value):AtV Tryz.prog 153 (PostR kds153 oks153 [⟨.int .i64,g153_0 x0 x1 x2 x3⟩] [] [] q K) 30 K q [] [.code b153] (entE 0 0 sig153 (x0,x1,x2,x3,())) (entL sig153 (x0,x1,x2,x3,())):=by
 unfold P153 at h
 unfold g153_0
 obtain ⟨s0,h⟩:=h
 by_cases b0:(decide (g170_0 x0 x2 x3≤0))=true
 ·try simp only [if_pos b0] at h ⊢
  exact AtV.ret Tryz.func153 tabOk ext153Ok mixed false [] tys153 [true] (a1 s0 (a1 b0 trivial)) (by kernel_rfl)
 ·try simp only [if_neg b0] at h ⊢
  replace b0:=bf_ b0
  obtain ⟨s1,h⟩:=h
  obtain ⟨s2,h⟩:=h
  obtain ⟨s3,h⟩:=h
  obtain ⟨s4,h⟩:=h
  obtain ⟨s5,h⟩:=h
  obtain ⟨s6,h⟩:=h
  exact AtV.ret Tryz.func153 tabOk ext153Ok mixed false [] tys153 [false] (a1 s0 (a1 b0 (a1 s1 (a1 s2 (a1 s3 (a1 s4 (a1 s5 (a1 s6 trivial)))))))) (by kernel_rfl)
def S153:Am.Spec:={ sig:=sig153,pre:=fun ⟨x0,x1,x2,x3,_⟩=>P153 x0 x1 x2 x3,res:=fun ⟨x0,x1,x2,x3,_⟩=>[⟨.int .i64,g153_0 x0 x1 x2 x3⟩],kds:=kds153 }
theorem con153:Contract Tryz.prog 153 S153:=contract_of Tryz.func153 hb153 (bl_ (by kernel_rfl)) (fun ⟨x0,x1,x2,x3,_⟩ h _ K q=>at153 x0 x1 x2 x3 h K q)
end
def worstL (down:Bool) (g:Int) (xs:List TyB4):Int:=xs.foldl (fun g x=>if down=true then (if g<x.2.1 then x.2.1 else g) else (if x.2.1<g then x.2.1 else g)) g
theorem worst_cons (down:Bool) (g:Int) (x:Int×Int×Unit) (xs:List TyB4):worstL down g (x :: xs)=worstL down (if down=true then (if g<x.2.1 then x.2.1 else g) else (if x.2.1<g then x.2.1 else g)) xs:=rfl
theorem worst_mem (down:Bool):∀ (xs:List TyB4) (g:Int),worstL down g xs=g∨∃ x∈xs,worstL down g xs=x.2.1
 | [],g => .inl rfl
 | x :: xs,g=>by
  rw [worst_cons]
  rcases worst_mem down xs (if down=true then (if g<x.2.1 then x.2.1 else g) else (if x.2.1<g then x.2.1 else g)) with h | ⟨y,hy,h⟩
  ·rw [h]
   split
   ·split
    ·exact .inr ⟨x,List.mem_cons_self .., rfl⟩
    ·exact .inl rfl
   ·split
    ·exact .inr ⟨x,List.mem_cons_self .., rfl⟩
    ·exact .inl rfl
  ·exact .inr ⟨y,List.mem_cons_of_mem _ hy,h⟩
theorem worst_le:∀ (xs:List TyB4) (g:Int),(g≤worstL true g xs∧∀ x∈xs,x.2.1≤worstL true g xs)∧(worstL false g xs≤g∧∀ x∈xs,worstL false g xs≤x.2.1)
 | [],g=>⟨⟨Int.le_refl _,fun x hx=>by cases hx⟩,Int.le_refl _,fun x hx=>by cases hx⟩
 | x :: xs,g=>by
  rw [worst_cons,worst_cons]
  simp only [if_true,Bool.false_eq_true,if_false]
  obtain ⟨⟨a1,a2⟩,_⟩:=worst_le xs (if g<x.2.1 then x.2.1 else g)
  obtain ⟨_,b1,b2⟩:=worst_le xs (if x.2.1<g then x.2.1 else g)
  have c1:g≤(if g<x.2.1 then x.2.1 else g)∧x.2.1≤(if g<x.2.1 then x.2.1 else g):=by split <;> omega
  have c2:(if x.2.1<g then x.2.1 else g)≤g∧(if x.2.1<g then x.2.1 else g)≤x.2.1:=by split <;> omega
  refine ⟨⟨Int.le_trans c1.1 a1,fun y hy => ?_⟩,Int.le_trans b1 c2.1,fun y hy => ?_⟩
  ·rcases List.mem_cons.1 hy with rfl | hy
   ·exact Int.le_trans c1.2 a1
   ·exact a2 y hy
  ·rcases List.mem_cons.1 hy with rfl | hy
   ·exact Int.le_trans b1 c2.2
   ·exact b2 y hy
theorem worst_same (down:Bool) (xs:List TyB4) (g g':Int) (h:∃ x∈xs,g=x.2.1) (h':∃ x∈xs,g'=x.2.1):worstL down g xs=worstL down g' xs:=by
 obtain ⟨x,hx,rfl⟩:=h
 obtain ⟨y,hy,rfl⟩:=h'
 have w1:∃ z∈xs,worstL down x.2.1 xs=z.2.1:=by
  rcases worst_mem down xs x.2.1 with h | h
  ·exact ⟨x,hx,h⟩
  ·exact h
 have w2:∃ z∈xs,worstL down y.2.1 xs=z.2.1:=by
  rcases worst_mem down xs y.2.1 with h | h
  ·exact ⟨y,hy,h⟩
  ·exact h
 obtain ⟨z1,m1,e1⟩:=w1
 obtain ⟨z2,m2,e2⟩:=w2
 obtain ⟨⟨_,a⟩,_,b⟩:=worst_le xs x.2.1
 obtain ⟨⟨_,c⟩,_,d⟩:=worst_le xs y.2.1
 cases down with
 | true=>have:=a z2 m2;have:=c z1 m1;omega
 | false=>have:=b z2 m2;have:=d z1 m1;omega
noncomputable section
def ext130:Ext:=[(152,S152),(127,S127),(128,S128),(153,S153)]
theorem ext130Ok:ExtOk Tryz.prog ext130:=⟨⟨ca152,con152⟩,⟨ca127,con127⟩,⟨ca128,con128⟩,⟨ca153,con153⟩,trivial⟩
def b130:Code:=bodyOf Tryz.f130
theorem hb130:Tryz.f130.body=some b130:=by kernel_rfl
def sig130:List AT:=[AT.p YA2,AT.p YA9,AT.v (.int .i64),AT.v (.int .i64),AT.v (.bool)]
def tys130:List Ty:=[.int .i64]
def kds130:List RK:=[]
def oks130:List AT:=owns sig130
def E130_3 (v11:Int) (v12:Int) (x0:List TyB4×Int×Int×Unit) (x1:Int×Int×Unit) (x3:Int) (x4:Bool):Env:=[(0,.a (.ptr YA2 x0)),(1,.a (.ptr YA9 x1)),(3,.a (.val (.int .i64 x3))),(4,.a (.val (.bool x4))),(11,.a (.val (.int .i64 v11))),(12,.a (.val (.int .i64 v12)))]
def L130_3 (v11:Int) (v12:Int) (x0:List TyB4×Int×Int×Unit) (x1:Int×Int×Unit) (x3:Int) (x4:Bool):Heap:=[]
mutual
def R130:Nat→List TyB4×Int×Int×Unit→Int×Int×Unit→Int→Int→Bool→List Dyn→Prop
 | 0,_,_,_,_,_,_=>False
 | n+1,x0,x1,x2,x3,x4,ds=>((P152 x0 x2)∧(R130_3 n (g152_0 x0 x2) (0) (x0) (x1) (x3) (x4) ds))
def R130_3:Nat→Int→Int→List TyB4×Int×Int×Unit→Int×Int×Unit→Int→Bool→List Dyn→Prop
 | 0,_,_,_,_,_,_,_=>False
 | n+1,v11,v12,x0,x1,x3,x4,ds=>(if (decide (v12<(x0.1.length:Int)))=true then (if (x4)=true then ((0≤v12)∧(v12<(x0.1.length:Int))∧((InR .i64 (v12+1))∧(R130_3 n (g127_0 v11 (List.getD x0.1 (Int.toNat v12) (0,0,())).2.1) (v12+1) (x0) (x1) (x3) (x4) ds))) else ((0≤v12)∧(v12<(x0.1.length:Int))∧((InR .i64 (v12+1))∧(R130_3 n (g128_0 v11 (List.getD x0.1 (Int.toNat v12) (0,0,())).2.1) (v12+1) (x0) (x1) (x3) (x4) ds)))) else ((P153 x1 x3 v11 x4)∧(ds=[Dyn.mk (.int .i64) (g153_0 x1 x3 v11 x4)])))
end
theorem snd130:∀ n,(∀ (x0:List TyB4×Int×Int×Unit) (x1:Int×Int×Unit) (x2:Int) (x3:Int) (x4:Bool) ds,R130 n x0 x1 x2 x3 x4 ds→∀ K q,AtV Tryz.prog 130 (PostR kds130 oks130 ds [] [] q K) 51 K q [] [.code b130] (entE 0 0 sig130 (x0,x1,x2,x3,x4,())) (entL sig130 (x0,x1,x2,x3,x4,())))∧(∀ (v11:Int) (v12:Int) (x0:List TyB4×Int×Int×Unit) (x1:Int×Int×Unit) (x3:Int) (x4:Bool) ds,R130_3 n v11 v12 x0 x1 x3 x4 ds→∀ K q,AtV Tryz.prog 130 (PostR kds130 oks130 ds [] [] q K) 51 K q [] (cutAt b130 3) (E130_3 v11 v12 x0 x1 x3 x4) (L130_3 v11 v12 x0 x1 x3 x4)):=by
 intro n
 induction n with
 | zero=>exact ⟨fun _ _ _ _ _ _ h=>by simp only [R130] at h,fun _ _ _ _ _ _ _ h=>by simp only [R130_3] at h⟩
 | succ n ih =>
 obtain ⟨ih,ih3⟩:=ih
 refine ⟨?_,?_⟩
 ·intro x0 x1 x2 x3 x4 ds h K q
  rw [R130] at h
  obtain ⟨s0,h⟩:=h
  exact AtV.go tabOk ext130Ok mixed false [] [] [0,1,3,4,11,12] [] [] (a1 s0 trivial) (ih3 _ _ _ _ _ _ _ h K q) (by kernel_rfl)
 ·intro v11 v12 x0 x1 x3 x4 ds h K q
  rw [R130_3] at h
  by_cases b0:(decide (v12<(x0.1.length:Int)))=true
  ·rw [if_pos b0] at h
   by_cases b1:(x4)=true
   ·rw [if_pos b1] at h
    obtain ⟨s0,s1,h⟩:=h
    obtain ⟨s2,h⟩:=h
    exact AtV.go tabOk ext130Ok mixed false [] [] [0,1,3,4,11,12] [] [true,true] (a1 b0 (a1 b1 (a1 s0 (a1 s1 (a1 trivial (a1 s2 trivial)))))) (ih3 _ _ _ _ _ _ _ h K q) (by kernel_rfl)
   ·rw [if_neg b1] at h
    replace b1:=bf_ b1
    obtain ⟨s0,s1,h⟩:=h
    obtain ⟨s2,h⟩:=h
    exact AtV.go tabOk ext130Ok mixed false [] [] [0,1,3,4,11,12] [] [true,false] (a1 b0 (a1 b1 (a1 s0 (a1 s1 (a1 trivial (a1 s2 trivial)))))) (ih3 _ _ _ _ _ _ _ h K q) (by kernel_rfl)
  ·rw [if_neg b0] at h
   replace b0:=bf_ b0
   obtain ⟨s0,h⟩:=h
   subst h
   exact AtV.ret Tryz.func130 tabOk ext130Ok mixed false [] tys130 [false] (a1 b0 (a1 s0 trivial)) (by kernel_rfl)
def g130_0 (x0:List TyB4×Int×Int×Unit) (x1:Int×Int×Unit) (x2 x3:Int) (x4:Bool):Int:=g153_0 x1 x3 (worstL x4 (g152_0 x0 x2) x0.1) x4
def P130 (x0:List TyB4×Int×Int×Unit) (x1:Int×Int×Unit) (x2 x3:Int) (x4:Bool):Prop:=x0.1.length≤1000∧P152 x0 x2∧P153 x1 x3 (worstL x4 (g152_0 x0 x2) x0.1) x4
theorem max130 (a b:Int):g127_0 a b=if a<b then b else a:=by
 unfold g127_0
 by_cases h:a>b
 ·rw [if_pos (by simpa using h),if_neg (by omega)]
 ·rw [if_neg (by simpa using h)]
  split <;> omega
theorem min130 (a b:Int):g128_0 a b=if b<a then b else a:=by
 unfold g128_0
 by_cases h:a<b
 ·rw [if_pos (by simpa using h),if_neg (by omega)]
 ·rw [if_neg (by simpa using h)]
  split <;> omega
theorem run130 (x0:List TyB4×Int×Int×Unit) (x1:Int×Int×Unit) (x3:Int) (x4:Bool) (hl:x0.1.length≤1000):∀ (k i:Nat) (g:Int),i+k=x0.1.length→P153 x1 x3 (worstL x4 g (x0.1.drop i)) x4→R130_3 (k+1) g (i:Int) x0 x1 x3 x4 [⟨.int .i64,g153_0 x1 x3 (worstL x4 g (x0.1.drop i)) x4⟩]:=by
 intro k
 induction k with
 | zero =>
  intro i g hi hp
  rw [List.drop_eq_nil_of_le (by omega)] at hp ⊢
  rw [R130_3,if_neg (by simp only [decide_eq_true_eq];omega)]
  exact ⟨hp,rfl⟩
 | succ k ih =>
  intro i g hi hp
  have hlt:i<x0.1.length:=by omega
  have e:(i:Int)+1=((i+1:Nat):Int):=by omega
  rw [List.drop_eq_getElem_cons hlt,worst_cons] at hp ⊢
  rw [R130_3,if_pos (by simp only [decide_eq_true_eq];omega)]
  simp only [Int.toNat_natCast,getD_lt x0.1 i _ hlt,max130,min130]
  have h:=ih (i+1) _ (by omega) hp
  cases x4 with
  | true =>
   simp only [if_true] at h ⊢
   rw [e]
   exact ⟨by omega,by omega,by rw [i64_iff];omega,h⟩
  | false =>
   simp only [Bool.false_eq_true,if_false] at h ⊢
   rw [e]
   exact ⟨by omega,by omega,by rw [i64_iff];omega,h⟩
theorem top130 (x0:List TyB4×Int×Int×Unit) (x1:Int×Int×Unit) (x2 x3:Int) (x4:Bool) (h:P130 x0 x1 x2 x3 x4):R130 (x0.1.length+1+1) x0 x1 x2 x3 x4 [⟨.int .i64,g130_0 x0 x1 x2 x3 x4⟩]:=by
 rw [R130]
 exact ⟨h.2.1,run130 x0 x1 x3 x4 h.1 x0.1.length 0 _ (by omega) h.2.2⟩
def S130:Am.Spec:={ sig:=sig130,pre:=fun ⟨x0,x1,x2,x3,x4,_⟩=>P130 x0 x1 x2 x3 x4,res:=fun ⟨x0,x1,x2,x3,x4,_⟩=>[⟨.int .i64,g130_0 x0 x1 x2 x3 x4⟩] }
theorem con130:Contract Tryz.prog 130 S130:=contract_of Tryz.func130 hb130 (bl_ (by kernel_rfl)) (fun ⟨x0,x1,x2,x3,x4,_⟩ h hwf K q =>
 (snd130 _).1 x0 x1 x2 x3 x4 _ (top130 x0 x1 x2 x3 x4 h) K q)
end
noncomputable section
def ext99:Ext:=[(130,S130),(64,S64)]
theorem ext99Ok:ExtOk Tryz.prog ext99:=⟨⟨ca130,con130⟩,⟨ca64,con64⟩,trivial⟩
def b99:Code:=bodyOf Tryz.f99
theorem hb99:Tryz.f99.body=some b99:=by kernel_rfl
def sig99:List AT:=[AT.p YA2,AT.p YA9,AT.v (.int .i64),AT.v (.int .i64),AT.v (.bool)]
def tys99:List Ty:=[.bool]
def kds99:List RK:=[]
def oks99:List AT:=owns sig99
def P99 (x0:List TyB4×Int×Int×Unit) (x1:Int×Int×Unit) (x2:Int) (x3:Int) (x4:Bool):Prop:=((P130 x0 x1 x2 x3 x4)∧((P64 x0)∧((InR .i64 (g64_0 x0 - x2))∧True)))
def g99_0 (x0:List TyB4×Int×Int×Unit) (x1:Int×Int×Unit) (x2:Int) (x3:Int) (x4:Bool):Bool:=(if (x4)=true then (if (decide (g130_0 x0 x1 x2 x3 x4≥0))=true then decide (g130_0 x0 x1 x2 x3 x4≤x2) else false) else (if (decide (g130_0 x0 x1 x2 x3 x4≥0))=true then decide (g130_0 x0 x1 x2 x3 x4≤g64_0 x0 - x2) else false))
theorem at99 (x0:List TyB4×Int×Int×Unit) (x1:Int×Int×Unit) (x2:Int) (x3:Int) (x4:Bool) (h:P99 x0 x1 x2 x3 x4) (K:Ctx) (q:Nat→Value):AtV Tryz.prog 99 (PostR kds99 oks99 [⟨.bool,g99_0 x0 x1 x2 x3 x4⟩] [] [] q K) 32 K q [] [.code b99] (entE 0 0 sig99 (x0,x1,x2,x3,x4,())) (entL sig99 (x0,x1,x2,x3,x4,())):=by
 unfold P99 at h
 unfold g99_0
 obtain ⟨s0,h⟩:=h
 obtain ⟨s1,h⟩:=h
 obtain ⟨s2,h⟩:=h
 by_cases b0:(x4)=true
 ·try simp only [if_pos b0] at h ⊢
  by_cases b1:(decide (g130_0 x0 x1 x2 x3 x4≥0))=true
  ·try simp only [if_pos b1] at h ⊢
   exact AtV.ret Tryz.func99 tabOk ext99Ok mixed false [] tys99 [true,true] (a1 s0 (a1 s1 (a1 s2 (a1 b0 (a1 b1 trivial))))) (by kernel_rfl)
  ·try simp only [if_neg b1] at h ⊢
   replace b1:=bf_ b1
   exact AtV.ret Tryz.func99 tabOk ext99Ok mixed false [] tys99 [true,false] (a1 s0 (a1 s1 (a1 s2 (a1 b0 (a1 b1 trivial))))) (by kernel_rfl)
 ·try simp only [if_neg b0] at h ⊢
  replace b0:=bf_ b0
  by_cases b1:(decide (g130_0 x0 x1 x2 x3 x4≥0))=true
  ·try simp only [if_pos b1] at h ⊢
   exact AtV.ret Tryz.func99 tabOk ext99Ok mixed false [] tys99 [false,true] (a1 s0 (a1 s1 (a1 s2 (a1 b0 (a1 b1 trivial))))) (by kernel_rfl)
  ·try simp only [if_neg b1] at h ⊢
   replace b1:=bf_ b1
   exact AtV.ret Tryz.func99 tabOk ext99Ok mixed false [] tys99 [false,false] (a1 s0 (a1 s1 (a1 s2 (a1 b0 (a1 b1 trivial))))) (by kernel_rfl)
def S99:Am.Spec:={ sig:=sig99,pre:=fun ⟨x0,x1,x2,x3,x4,_⟩=>P99 x0 x1 x2 x3 x4,res:=fun ⟨x0,x1,x2,x3,x4,_⟩=>[⟨.bool,g99_0 x0 x1 x2 x3 x4⟩],kds:=kds99 }
theorem con99:Contract Tryz.prog 99 S99:=contract_of Tryz.func99 hb99 (bl_ (by kernel_rfl)) (fun ⟨x0,x1,x2,x3,x4,_⟩ h _ K q=>at99 x0 x1 x2 x3 x4 h K q)
end
def rideL (nx:Int→Int→Int) (bad:Int→Int→Bool) (n:Int):Nat→Int→Int→Int→Option Int
 | 0,_,_,_=>none
 | f+1,place,speed,k=>if place<n then (if (decide (place+nx speed (n - place)<n)&&bad (place+nx speed (n - place)) (nx speed (n - place)))=true then some (k+1) else rideL nx bad n f (place+nx speed (n - place)) (nx speed (n - place)) (k+1)) else none
theorem rideL_congr {nx nx':Int→Int→Int} {bad bad':Int→Int→Bool} {n:Int} (h1:∀ speed left,0≤speed→speed≤15000→1≤left→left≤n→nx speed left=nx' speed left∧1≤nx speed left∧nx speed left≤left∧nx speed left≤15000) (h2:∀ place speed,0≤place→place<n→0≤speed→speed≤15000→bad place speed=bad' place speed) :
  ∀ (f:Nat) (place speed k:Int),0≤place→0≤speed→speed≤15000→rideL nx bad n f place speed k=rideL nx' bad' n f place speed k
 | 0,_,_,_,_,_,_=>rfl
 | f+1,place,speed,k,hp,hs,hs2=>by
  unfold rideL
  by_cases hc:place<n
  ·obtain ⟨e,e1,e2,e3⟩:=h1 speed (n - place) hs hs2 (by omega) (by omega)
   rw [if_pos hc,if_pos hc, ← e]
   have ih:=rideL_congr h1 h2 f (place+nx speed (n - place)) (nx speed (n - place)) (k+1) (by omega) (by omega) e3
   by_cases hd:place+nx speed (n - place)<n
   ·rw [h2 _ _ (by omega) hd (by omega) e3,ih]
   ·rw [decide_eq_false hd,Bool.false_and,Bool.false_and,ih]
  ·rw [if_neg hc,if_neg hc]
noncomputable section
def ext76:Ext:=[(64,S64),(98,S98),(99,S99)]
theorem ext76Ok:ExtOk Tryz.prog ext76:=⟨⟨ca64,con64⟩,⟨ca98,con98⟩,⟨ca99,con99⟩,trivial⟩
def b76:Code:=bodyOf Tryz.f76
theorem hb76:Tryz.f76.body=some b76:=by kernel_rfl
def sig76:List AT:=[AT.p YA2,AT.p YA9,AT.p YA4,AT.v (.bool)]
def tys76:List Ty:=[.int .i64]
def kds76:List RK:=[]
def oks76:List AT:=owns sig76
def E76_5 (v10:Int) (v11:Int) (v12:Int) (x0:List TyB4×Int×Int×Unit) (x1:Int×Int×Unit) (x2:Int×Int×Int×Int×Unit) (x3:Bool):Env:=[(0,.a (.ptr YA2 x0)),(1,.a (.ptr YA9 x1)),(2,.a (.ptr YA4 x2)),(3,.a (.val (.bool x3))),(9,.a (.val (.int .i64 (g64_0 x0)))),(10,.a (.val (.int .i64 v10))),(11,.a (.val (.int .i64 v11))),(12,.a (.val (.int .i64 v12)))]
def L76_5 (v10:Int) (v11:Int) (v12:Int) (x0:List TyB4×Int×Int×Unit) (x1:Int×Int×Unit) (x2:Int×Int×Int×Int×Unit) (x3:Bool):Heap:=[]
mutual
def R76:Nat→List TyB4×Int×Int×Unit→Int×Int×Unit→Int×Int×Int×Int×Unit→Bool→List Dyn→Prop
 | 0,_,_,_,_,_=>False
 | n+1,x0,x1,x2,x3,ds=>((P64 x0)∧(R76_5 n (0) (0) (1) (x0) (x1) (x2) (x3) ds))
def R76_5:Nat→Int→Int→Int→List TyB4×Int×Int×Unit→Int×Int×Unit→Int×Int×Int×Int×Unit→Bool→List Dyn→Prop
 | 0,_,_,_,_,_,_,_,_=>False
 | n+1,v10,v11,v12,x0,x1,x2,x3,ds=>(if (decide (v11<g64_0 x0))=true then ((InR .i64 (g64_0 x0 - v11))∧((P98 x2 v10 (g64_0 x0 - v11))∧((InR .i64 (v11+g98_0 x2 v10 (g64_0 x0 - v11)))∧(if (x3)=true then ((InR .i64 (g64_0 x0 - (v11+g98_0 x2 v10 (g64_0 x0 - v11))))∧(if (decide (v11+g98_0 x2 v10 (g64_0 x0 - v11)<g64_0 x0))=true then ((P99 x0 x1 (g64_0 x0 - (v11+g98_0 x2 v10 (g64_0 x0 - v11))) (g98_0 x2 v10 (g64_0 x0 - v11)) x3)∧(if (!g99_0 x0 x1 (g64_0 x0 - (v11+g98_0 x2 v10 (g64_0 x0 - v11))) (g98_0 x2 v10 (g64_0 x0 - v11)) x3)=true then (ds=[Dyn.mk (.int .i64) v12]) else ((InR .i64 (v12+1))∧(R76_5 n (g98_0 x2 v10 (g64_0 x0 - v11)) (v11+g98_0 x2 v10 (g64_0 x0 - v11)) (v12+1) (x0) (x1) (x2) (x3) ds)))) else ((InR .i64 (v12+1))∧(R76_5 n (g98_0 x2 v10 (g64_0 x0 - v11)) (v11+g98_0 x2 v10 (g64_0 x0 - v11)) (v12+1) (x0) (x1) (x2) (x3) ds)))) else (if (decide (v11+g98_0 x2 v10 (g64_0 x0 - v11)<g64_0 x0))=true then ((P99 x0 x1 (v11+g98_0 x2 v10 (g64_0 x0 - v11)) (g98_0 x2 v10 (g64_0 x0 - v11)) x3)∧(if (!g99_0 x0 x1 (v11+g98_0 x2 v10 (g64_0 x0 - v11)) (g98_0 x2 v10 (g64_0 x0 - v11)) x3)=true then (ds=[Dyn.mk (.int .i64) v12]) else ((InR .i64 (v12+1))∧(R76_5 n (g98_0 x2 v10 (g64_0 x0 - v11)) (v11+g98_0 x2 v10 (g64_0 x0 - v11)) (v12+1) (x0) (x1) (x2) (x3) ds)))) else ((InR .i64 (v12+1))∧(R76_5 n (g98_0 x2 v10 (g64_0 x0 - v11)) (v11+g98_0 x2 v10 (g64_0 x0 - v11)) (v12+1) (x0) (x1) (x2) (x3) ds))))))) else (ds=[Dyn.mk (.int .i64) (-1)]))
end
theorem snd76:∀ n,(∀ (x0:List TyB4×Int×Int×Unit) (x1:Int×Int×Unit) (x2:Int×Int×Int×Int×Unit) (x3:Bool) ds,R76 n x0 x1 x2 x3 ds→∀ K q,AtV Tryz.prog 76 (PostR kds76 oks76 ds [] [] q K) 48 K q [] [.code b76] (entE 0 0 sig76 (x0,x1,x2,x3,())) (entL sig76 (x0,x1,x2,x3,())))∧(∀ (v10:Int) (v11:Int) (v12:Int) (x0:List TyB4×Int×Int×Unit) (x1:Int×Int×Unit) (x2:Int×Int×Int×Int×Unit) (x3:Bool) ds,R76_5 n v10 v11 v12 x0 x1 x2 x3 ds→∀ K q,AtV Tryz.prog 76 (PostR kds76 oks76 ds [] [] q K) 48 K q [] (cutAt b76 5) (E76_5 v10 v11 v12 x0 x1 x2 x3) (L76_5 v10 v11 v12 x0 x1 x2 x3)):=by
 intro n
 induction n with
 | zero=>exact ⟨fun _ _ _ _ _ h=>by simp only [R76] at h,fun _ _ _ _ _ _ _ _ h=>by simp only [R76_5] at h⟩
 | succ n ih =>
 obtain ⟨ih,ih5⟩:=ih
 refine ⟨?_,?_⟩
 ·intro x0 x1 x2 x3 ds h K q
  rw [R76] at h
  obtain ⟨s0,h⟩:=h
  exact AtV.go tabOk ext76Ok mixed false [] [] [0,1,2,3,9,10,11,12] [] [] (a1 s0 trivial) (ih5 _ _ _ _ _ _ _ _ h K q) (by kernel_rfl)
 ·intro v10 v11 v12 x0 x1 x2 x3 ds h K q
  rw [R76_5] at h
  by_cases b0:(decide (v11<g64_0 x0))=true
  ·rw [if_pos b0] at h
   obtain ⟨s0,h⟩:=h
   obtain ⟨s1,h⟩:=h
   obtain ⟨s2,h⟩:=h
   by_cases b1:(x3)=true
   ·rw [if_pos b1] at h
    obtain ⟨s3,h⟩:=h
    by_cases b2:(decide (v11+g98_0 x2 v10 (g64_0 x0 - v11)<g64_0 x0))=true
    ·rw [if_pos b2] at h
     obtain ⟨s4,h⟩:=h
     by_cases b3:(!g99_0 x0 x1 (g64_0 x0 - (v11+g98_0 x2 v10 (g64_0 x0 - v11))) (g98_0 x2 v10 (g64_0 x0 - v11)) x3)=true
     ·rw [if_pos b3] at h
      subst h
      exact AtV.ret Tryz.func76 tabOk ext76Ok mixed false [] tys76 [true,true,true,true] (a1 b0 (a1 s0 (a1 s1 (a1 s2 (a1 b1 (a1 s3 (a1 b2 (a1 s4 (a1 b3 trivial))))))))) (by kernel_rfl)
     ·rw [if_neg b3] at h
      replace b3:=bf_ b3
      obtain ⟨s5,h⟩:=h
      exact AtV.go tabOk ext76Ok mixed false [] [] [0,1,2,3,9,10,11,12] [] [true,true,true,false] (a1 b0 (a1 s0 (a1 s1 (a1 s2 (a1 b1 (a1 s3 (a1 b2 (a1 s4 (a1 b3 (a1 s5 trivial)))))))))) (ih5 _ _ _ _ _ _ _ _ h K q) (by kernel_rfl)
    ·rw [if_neg b2] at h
     replace b2:=bf_ b2
     obtain ⟨s4,h⟩:=h
     exact AtV.go tabOk ext76Ok mixed false [] [] [0,1,2,3,9,10,11,12] [] [true,true,false,false] (a1 b0 (a1 s0 (a1 s1 (a1 s2 (a1 b1 (a1 s3 (a1 b2 (a1 (rfl:false=false) (a1 s4 trivial))))))))) (ih5 _ _ _ _ _ _ _ _ h K q) (by kernel_rfl)
   ·rw [if_neg b1] at h
    replace b1:=bf_ b1
    by_cases b2:(decide (v11+g98_0 x2 v10 (g64_0 x0 - v11)<g64_0 x0))=true
    ·rw [if_pos b2] at h
     obtain ⟨s3,h⟩:=h
     by_cases b3:(!g99_0 x0 x1 (v11+g98_0 x2 v10 (g64_0 x0 - v11)) (g98_0 x2 v10 (g64_0 x0 - v11)) x3)=true
     ·rw [if_pos b3] at h
      subst h
      exact AtV.ret Tryz.func76 tabOk ext76Ok mixed false [] tys76 [true,false,true,true] (a1 b0 (a1 s0 (a1 s1 (a1 s2 (a1 b1 (a1 b2 (a1 s3 (a1 b3 trivial)))))))) (by kernel_rfl)
     ·rw [if_neg b3] at h
      replace b3:=bf_ b3
      obtain ⟨s4,h⟩:=h
      exact AtV.go tabOk ext76Ok mixed false [] [] [0,1,2,3,9,10,11,12] [] [true,false,true,false] (a1 b0 (a1 s0 (a1 s1 (a1 s2 (a1 b1 (a1 b2 (a1 s3 (a1 b3 (a1 s4 trivial))))))))) (ih5 _ _ _ _ _ _ _ _ h K q) (by kernel_rfl)
    ·rw [if_neg b2] at h
     replace b2:=bf_ b2
     obtain ⟨s3,h⟩:=h
     exact AtV.go tabOk ext76Ok mixed false [] [] [0,1,2,3,9,10,11,12] [] [true,false,false,false] (a1 b0 (a1 s0 (a1 s1 (a1 s2 (a1 b1 (a1 b2 (a1 (rfl:false=false) (a1 s3 trivial)))))))) (ih5 _ _ _ _ _ _ _ _ h K q) (by kernel_rfl)
  ·rw [if_neg b0] at h
   replace b0:=bf_ b0
   subst h
   exact AtV.ret Tryz.func76 tabOk ext76Ok mixed false [] tys76 [false] (a1 b0 trivial) (by kernel_rfl)
abbrev TR76:=List TyB4×Int×Int×Unit
abbrev BR76:=Int×Int×Unit
abbrev PR76:=Int×Int×Int×Int×Unit
def bad76 (tr:TR76) (br:BR76) (down:Bool) (way place speed:Int):Bool := !g99_0 tr br (if down=true then way - place else place) speed down
def run76 (x0:TR76) (x1:BR76) (x2:PR76) (x3:Bool):Option Int:=rideL (g98_0 x2) (bad76 x0 x1 x3 (g64_0 x0)) (g64_0 x0) (g64_0 x0).toNat 0 0 0
def g76_0 (x0:TR76) (x1:BR76) (x2:PR76) (x3:Bool):Int:=(run76 x0 x1 x2 x3).getD (-1)
def P76 (x0:TR76) (x1:BR76) (x2:PR76) (x3:Bool):Prop:=P64 x0∧(0≤g64_0 x0∧g64_0 x0≤3000000) ∧
 (∀ s l,0≤s→s≤15000→1≤l→l≤g64_0 x0→P98 x2 s l∧1≤g98_0 x2 s l∧g98_0 x2 s l≤l∧g98_0 x2 s l≤15000) ∧
 (∀ place s,0≤place→place≤g64_0 x0→0≤s→s≤15000→P99 x0 x1 (if x3=true then g64_0 x0 - place else place) s x3)
theorem go76 (x0:TR76) (x1:BR76) (x2:PR76) (x3:Bool) (h:P76 x0 x1 x2 x3):∀ (f:Nat) (place speed k:Int),(0≤place∧place≤g64_0 x0)→(0≤speed∧speed≤15000)→(0≤k∧k≤place)→g64_0 x0 - place≤(f:Int) →
  R76_5 (f+1) speed place (k+1) x0 x1 x2 x3 [⟨.int .i64,(rideL (g98_0 x2) (bad76 x0 x1 x3 (g64_0 x0)) (g64_0 x0) f place speed k).getD (-1)⟩]:=by
 obtain ⟨_,p2,p3,p4⟩:=h
 intro f
 induction f with
 | zero =>
  intro place speed k hp hs hk hf
  rw [R76_5,if_neg (by simp only [decide_eq_true_eq];omega)]
  rfl
 | succ f ih =>
  intro place speed k hp hs hk hf
  by_cases hlt:place<g64_0 x0
  ·obtain ⟨q1,q2,q3,q4⟩:=p3 speed (g64_0 x0 - place) hs.1 hs.2 (by omega) (by omega)
   rw [R76_5,if_pos (by simpa using hlt),rideL,if_pos hlt]
   generalize hs':g98_0 x2 speed (g64_0 x0 - place)=s at *
   have ih:=ih (place+s) s (k+1) (by omega) (by omega) (by omega) (by omega)
   have p5:=p4 (place+s) s (by omega) (by omega) (by omega) q4
   refine ⟨by rw [i64_iff];omega,q1,by rw [i64_iff];omega,?_⟩
   unfold bad76
   cases x3 with
   | true =>
    simp only [if_true] at p5 ⊢
    refine ⟨by rw [i64_iff];omega,?_⟩
    by_cases hd:place+s<g64_0 x0
    ·rw [if_pos (by simpa using hd),decide_eq_true hd,Bool.true_and]
     refine ⟨p5,?_⟩
     by_cases hb:(!g99_0 x0 x1 (g64_0 x0 - (place+s)) s true)=true
     ·rw [if_pos hb,if_pos hb]
      rfl
     ·rw [if_neg hb,if_neg hb]
      exact ⟨by rw [i64_iff];omega,ih⟩
    ·rw [if_neg (by simpa using hd),decide_eq_false hd,Bool.false_and,if_neg (by decide)]
     exact ⟨by rw [i64_iff];omega,ih⟩
   | false =>
    simp only [Bool.false_eq_true,if_false] at p5 ⊢
    by_cases hd:place+s<g64_0 x0
    ·rw [if_pos (by simpa using hd),decide_eq_true hd,Bool.true_and]
     refine ⟨p5,?_⟩
     by_cases hb:(!g99_0 x0 x1 (place+s) s false)=true
     ·rw [if_pos hb,if_pos hb]
      rfl
     ·rw [if_neg hb,if_neg hb]
      exact ⟨by rw [i64_iff];omega,ih⟩
    ·rw [if_neg (by simpa using hd),decide_eq_false hd,Bool.false_and,if_neg (by decide)]
     exact ⟨by rw [i64_iff];omega,ih⟩
  ·rw [R76_5,if_neg (by simpa using hlt),rideL,if_neg hlt]
   rfl
theorem top76 (x0:TR76) (x1:BR76) (x2:PR76) (x3:Bool) (h:P76 x0 x1 x2 x3):R76 ((g64_0 x0).toNat+1+1) x0 x1 x2 x3 [⟨.int .i64,g76_0 x0 x1 x2 x3⟩]:=by
 rw [R76]
 have:=h.2.1
 exact ⟨h.1,go76 x0 x1 x2 x3 h _ 0 0 0 (by omega) (by omega) (by omega) (by omega)⟩
def S76:Am.Spec:={ sig:=sig76,pre:=fun ⟨x0,x1,x2,x3,_⟩=>P76 x0 x1 x2 x3,res:=fun ⟨x0,x1,x2,x3,_⟩=>[⟨.int .i64,g76_0 x0 x1 x2 x3⟩] }
theorem con76:Contract Tryz.prog 76 S76:=contract_of Tryz.func76 hb76 (bl_ (by kernel_rfl)) (fun ⟨x0,x1,x2,x3,_⟩ h hwf K q =>
 (snd76 _).1 x0 x1 x2 x3 _ (top76 x0 x1 x2 x3 h) K q)
end
noncomputable section
def ext46:Ext:=[(73,S73),(75,S75),(74,S74),(76,S76)]
theorem ext46Ok:ExtOk Tryz.prog ext46:=⟨⟨ca73,con73⟩,⟨ca75,con75⟩,⟨ca74,con74⟩,⟨ca76,con76⟩,trivial⟩
def b46:Code:=bodyOf Tryz.f46
theorem hb46:Tryz.f46.body=some b46:=by kernel_rfl
def sig46:List AT:=[AT.p YA0]
def tys46:List Ty:=[.sl YA8]
def kds46:List RK:=[]
def oks46:List AT:=owns sig46
def P46 (x0:TyA0):Prop:=((P73 x0.1 x0.2.1)∧(if (!g73_0 x0.1 x0.2.1)=true then ((P75 x0.1)∧((P76 x0.1 x0.2.2.1 x0.2.2.2.1 false)∧(if (decide (g76_0 x0.1 x0.2.2.1 x0.2.2.2.1 false≥0))=true then (((List.length ([]++[(1,ByteArray.mk #[99,97,114,115],g74_0 (g75_0 x0.1),())])+1)*40≤140737488355328)∧((P76 x0.1 x0.2.2.1 x0.2.2.2.1 true)∧(if (decide (g76_0 x0.1 x0.2.2.1 x0.2.2.2.1 true≥0))=true then (((List.length ([]++[(1,ByteArray.mk #[99,97,114,115],g74_0 (g75_0 x0.1),())]++[(2,ByteArray.mk #[117,112],g74_0 (g76_0 x0.1 x0.2.2.1 x0.2.2.2.1 false),())])+1)*40≤140737488355328)∧True) else True))) else ((P76 x0.1 x0.2.2.1 x0.2.2.2.1 true)∧(if (decide (g76_0 x0.1 x0.2.2.1 x0.2.2.2.1 true≥0))=true then (((List.length ([]++[(1,ByteArray.mk #[99,97,114,115],g74_0 (g75_0 x0.1),())])+1)*40≤140737488355328)∧True) else True))))) else ((P76 x0.1 x0.2.2.1 x0.2.2.2.1 false)∧(if (decide (g76_0 x0.1 x0.2.2.1 x0.2.2.2.1 false≥0))=true then ((P76 x0.1 x0.2.2.1 x0.2.2.2.1 true)∧(if (decide (g76_0 x0.1 x0.2.2.1 x0.2.2.2.1 true≥0))=true then (((List.length ([]++[(2,ByteArray.mk #[117,112],g74_0 (g76_0 x0.1 x0.2.2.1 x0.2.2.2.1 false),())])+1)*40≤140737488355328)∧True) else True)) else ((P76 x0.1 x0.2.2.1 x0.2.2.2.1 true)∧True)))))
def g46_0 (x0:TyA0):List TyB3:=(if (!g73_0 x0.1 x0.2.1)=true then (if (decide (g76_0 x0.1 x0.2.2.1 x0.2.2.2.1 false≥0))=true then (if (decide (g76_0 x0.1 x0.2.2.1 x0.2.2.2.1 true≥0))=true then []++[(1,ByteArray.mk #[99,97,114,115],g74_0 (g75_0 x0.1),())]++[(2,ByteArray.mk #[117,112],g74_0 (g76_0 x0.1 x0.2.2.1 x0.2.2.2.1 false),())]++[(2,ByteArray.mk #[100,111,119,110],g74_0 (g76_0 x0.1 x0.2.2.1 x0.2.2.2.1 true),())] else []++[(1,ByteArray.mk #[99,97,114,115],g74_0 (g75_0 x0.1),())]++[(2,ByteArray.mk #[117,112],g74_0 (g76_0 x0.1 x0.2.2.1 x0.2.2.2.1 false),())]) else (if (decide (g76_0 x0.1 x0.2.2.1 x0.2.2.2.1 true≥0))=true then []++[(1,ByteArray.mk #[99,97,114,115],g74_0 (g75_0 x0.1),())]++[(2,ByteArray.mk #[100,111,119,110],g74_0 (g76_0 x0.1 x0.2.2.1 x0.2.2.2.1 true),())] else []++[(1,ByteArray.mk #[99,97,114,115],g74_0 (g75_0 x0.1),())])) else (if (decide (g76_0 x0.1 x0.2.2.1 x0.2.2.2.1 false≥0))=true then (if (decide (g76_0 x0.1 x0.2.2.1 x0.2.2.2.1 true≥0))=true then []++[(2,ByteArray.mk #[117,112],g74_0 (g76_0 x0.1 x0.2.2.1 x0.2.2.2.1 false),())]++[(2,ByteArray.mk #[100,111,119,110],g74_0 (g76_0 x0.1 x0.2.2.1 x0.2.2.2.1 true),())] else []++[(2,ByteArray.mk #[117,112],g74_0 (g76_0 x0.1 x0.2.2.1 x0.2.2.2.1 false),())]) else (if (decide (g76_0 x0.1 x0.2.2.1 x0.2.2.2.1 true≥0))=true then []++[(2,ByteArray.mk #[100,111,119,110],g74_0 (g76_0 x0.1 x0.2.2.1 x0.2.2.2.1 true),())] else [])))
theorem at46 (x0:TyA0) (h:P46 x0) (K:Ctx) (q:Nat→Value):AtV Tryz.prog 46 (PostR kds46 oks46 [⟨.sl YA8,g46_0 x0⟩] [] [] q K) 62 K q [] [.code b46] (entE 0 0 sig46 (x0,())) (entL sig46 (x0,())):=by
 unfold P46 at h
 unfold g46_0
 obtain ⟨s0,h⟩:=h
 by_cases b0:(!g73_0 x0.1 x0.2.1)=true
 ·try simp only [if_pos b0] at h ⊢
  obtain ⟨s1,h⟩:=h
  obtain ⟨s2,h⟩:=h
  by_cases b1:(decide (g76_0 x0.1 x0.2.2.1 x0.2.2.2.1 false≥0))=true
  ·try simp only [if_pos b1] at h ⊢
   obtain ⟨s3,h⟩:=h
   obtain ⟨s4,h⟩:=h
   by_cases b2:(decide (g76_0 x0.1 x0.2.2.1 x0.2.2.2.1 true≥0))=true
   ·try simp only [if_pos b2] at h ⊢
    obtain ⟨s5,h⟩:=h
    exact AtV.ret Tryz.func46 tabOk ext46Ok mixed false [] tys46 [true,true,true] (a1 s0 (a1 b0 (a1 s1 (a1 trivial (a1 ((by decide):((0:Nat)+(1:Nat))*(40:Nat)≤(140737488355328:Nat)) (a1 s2 (a1 b1 (a1 trivial (a1 s3 (a1 s4 (a1 b2 (a1 trivial (a1 s5 trivial))))))))))))) (by kernel_rfl)
   ·try simp only [if_neg b2] at h ⊢
    replace b2:=bf_ b2
    exact AtV.ret Tryz.func46 tabOk ext46Ok mixed false [] tys46 [true,true,false] (a1 s0 (a1 b0 (a1 s1 (a1 trivial (a1 ((by decide):((0:Nat)+(1:Nat))*(40:Nat)≤(140737488355328:Nat)) (a1 s2 (a1 b1 (a1 trivial (a1 s3 (a1 s4 (a1 b2 trivial))))))))))) (by kernel_rfl)
  ·try simp only [if_neg b1] at h ⊢
   replace b1:=bf_ b1
   obtain ⟨s3,h⟩:=h
   by_cases b2:(decide (g76_0 x0.1 x0.2.2.1 x0.2.2.2.1 true≥0))=true
   ·try simp only [if_pos b2] at h ⊢
    obtain ⟨s4,h⟩:=h
    exact AtV.ret Tryz.func46 tabOk ext46Ok mixed false [] tys46 [true,false,true] (a1 s0 (a1 b0 (a1 s1 (a1 trivial (a1 ((by decide):((0:Nat)+(1:Nat))*(40:Nat)≤(140737488355328:Nat)) (a1 s2 (a1 b1 (a1 s3 (a1 b2 (a1 trivial (a1 s4 trivial))))))))))) (by kernel_rfl)
   ·try simp only [if_neg b2] at h ⊢
    replace b2:=bf_ b2
    exact AtV.ret Tryz.func46 tabOk ext46Ok mixed false [] tys46 [true,false,false] (a1 s0 (a1 b0 (a1 s1 (a1 trivial (a1 ((by decide):((0:Nat)+(1:Nat))*(40:Nat)≤(140737488355328:Nat)) (a1 s2 (a1 b1 (a1 s3 (a1 b2 trivial))))))))) (by kernel_rfl)
 ·try simp only [if_neg b0] at h ⊢
  replace b0:=bf_ b0
  obtain ⟨s1,h⟩:=h
  by_cases b1:(decide (g76_0 x0.1 x0.2.2.1 x0.2.2.2.1 false≥0))=true
  ·try simp only [if_pos b1] at h ⊢
   obtain ⟨s2,h⟩:=h
   by_cases b2:(decide (g76_0 x0.1 x0.2.2.1 x0.2.2.2.1 true≥0))=true
   ·try simp only [if_pos b2] at h ⊢
    obtain ⟨s3,h⟩:=h
    exact AtV.ret Tryz.func46 tabOk ext46Ok mixed false [] tys46 [false,true,true] (a1 s0 (a1 b0 (a1 s1 (a1 b1 (a1 trivial (a1 ((by decide):((0:Nat)+(1:Nat))*(40:Nat)≤(140737488355328:Nat)) (a1 s2 (a1 b2 (a1 trivial (a1 s3 trivial)))))))))) (by kernel_rfl)
   ·try simp only [if_neg b2] at h ⊢
    replace b2:=bf_ b2
    exact AtV.ret Tryz.func46 tabOk ext46Ok mixed false [] tys46 [false,true,false] (a1 s0 (a1 b0 (a1 s1 (a1 b1 (a1 trivial (a1 ((by decide):((0:Nat)+(1:Nat))*(40:Nat)≤(140737488355328:Nat)) (a1 s2 (a1 b2 trivial)))))))) (by kernel_rfl)
  ·try simp only [if_neg b1] at h ⊢
   replace b1:=bf_ b1
   obtain ⟨s2,h⟩:=h
   by_cases b2:(decide (g76_0 x0.1 x0.2.2.1 x0.2.2.2.1 true≥0))=true
   ·try simp only [if_pos b2] at h ⊢
    exact AtV.ret Tryz.func46 tabOk ext46Ok mixed false [] tys46 [false,false,true] (a1 s0 (a1 b0 (a1 s1 (a1 b1 (a1 s2 (a1 b2 (a1 trivial (a1 ((by decide):((0:Nat)+(1:Nat))*(40:Nat)≤(140737488355328:Nat)) trivial)))))))) (by kernel_rfl)
   ·try simp only [if_neg b2] at h ⊢
    replace b2:=bf_ b2
    exact AtV.ret Tryz.func46 tabOk ext46Ok mixed false [] tys46 [false,false,false] (a1 s0 (a1 b0 (a1 s1 (a1 b1 (a1 s2 (a1 b2 trivial)))))) (by kernel_rfl)
def S46:Am.Spec:={ sig:=sig46,pre:=fun ⟨x0,_⟩=>P46 x0,res:=fun ⟨x0,_⟩=>[⟨.sl YA8,g46_0 x0⟩],kds:=kds46 }
theorem con46:Contract Tryz.prog 46 S46:=contract_of Tryz.func46 hb46 (bl_ (by kernel_rfl)) (fun ⟨x0,_⟩ h _ K q=>at46 x0 h K q)
end
noncomputable section
def ext78:Ext:=[]
theorem ext78Ok:ExtOk Tryz.prog ext78:=trivial
def b78:Code:=bodyOf Tryz.f78
theorem hb78:Tryz.f78.body=some b78:=by kernel_rfl
def sig78:List AT:=[AT.p YA5]
def tys78:List Ty:=[.int .i64]
def kds78:List RK:=[]
def oks78:List AT:=owns sig78
def P78 (x0:ByteArray×Int×Int×Int×Unit):Prop:=((InR .i64 (x0.2.1*75))∧((InR .i64 (x0.2.2.1*15))∧((InR .i64 (x0.2.1*75+x0.2.2.1*15))∧((InR .i64 (x0.2.1*75+x0.2.2.1*15+x0.2.2.2.1))∧True))))
def g78_0 (x0:ByteArray×Int×Int×Int×Unit):Int:=x0.2.1*75+x0.2.2.1*15+x0.2.2.2.1
theorem at78 (x0:ByteArray×Int×Int×Int×Unit) (h:P78 x0) (K:Ctx) (q:Nat→Value):AtV Tryz.prog 78 (PostR kds78 oks78 [⟨.int .i64,g78_0 x0⟩] [] [] q K) 19 K q [] [.code b78] (entE 0 0 sig78 (x0,())) (entL sig78 (x0,())):=by
 unfold P78 at h
 unfold g78_0
 obtain ⟨s0,h⟩:=h
 obtain ⟨s1,h⟩:=h
 obtain ⟨s2,h⟩:=h
 obtain ⟨s3,h⟩:=h
 exact AtV.ret Tryz.func78 tabOk ext78Ok mixed false [] tys78 [] (a1 s0 (a1 s1 (a1 s2 (a1 s3 trivial)))) (by kernel_rfl)
def S78:Am.Spec:={ sig:=sig78,pre:=fun ⟨x0,_⟩=>P78 x0,res:=fun ⟨x0,_⟩=>[⟨.int .i64,g78_0 x0⟩],kds:=kds78 }
theorem con78:Contract Tryz.prog 78 S78:=contract_of Tryz.func78 hb78 (bl_ (by kernel_rfl)) (fun ⟨x0,_⟩ h _ K q=>at78 x0 h K q)
end
noncomputable section
def ext77:Ext:=[(78,S78)]
theorem ext77Ok:ExtOk Tryz.prog ext77:=⟨⟨ca78,con78⟩,trivial⟩
def b77:Code:=bodyOf Tryz.f77
theorem hb77:Tryz.f77.body=some b77:=by kernel_rfl
def sig77:List AT:=[AT.v (.sl YA5),AT.v (.sl (.int .i64)),AT.p YA7]
def tys77:List Ty:=[.bool]
def kds77:List RK:=[]
def oks77:List AT:=owns sig77
def E77_5 (v7:Int) (v8:Int) (v9:Int) (v10:Int) (x0:List TyB1) (x1:List Int) (x2:Int×Int×Int×Unit):Env:=[(0,.a (.sl YA5 x0)),(1,.a (.sl (.int .i64) x1)),(2,.a (.ptr YA7 x2)),(7,.a (.val (.int .i64 v7))),(8,.a (.val (.int .i64 v8))),(9,.a (.val (.int .i64 v9))),(10,.a (.val (.int .i64 v10)))]
def L77_5 (v7:Int) (v8:Int) (v9:Int) (v10:Int) (x0:List TyB1) (x1:List Int) (x2:Int×Int×Int×Unit):Heap:=[]
mutual
def R77:Nat→List TyB1→List Int→Int×Int×Int×Unit→List Dyn→Prop
 | 0,_,_,_,_=>False
 | n+1,x0,x1,x2,ds=>(R77_5 n (0) (0) (0) (0) (x0) (x1) (x2) ds)
def R77_5:Nat→Int→Int→Int→Int→List TyB1→List Int→Int×Int×Int×Unit→List Dyn→Prop
 | 0,_,_,_,_,_,_,_,_=>False
 | n+1,v7,v8,v9,v10,x0,x1,x2,ds=>(if (decide (v10<(x1.length:Int)))=true then ((0≤v10)∧(v10<(x1.length:Int))∧((0≤List.getD x1 (Int.toNat v10) 0)∧(List.getD x1 (Int.toNat v10) 0<(x0.length:Int))∧((InR .i64 (v7+(List.getD x0 (Int.toNat (List.getD x1 (Int.toNat v10) 0)) (ByteArray.empty,0,0,0,())).2.1))∧((InR .i64 (v8+(List.getD x0 (Int.toNat (List.getD x1 (Int.toNat v10) 0)) (ByteArray.empty,0,0,0,())).2.2.1))∧((P78 (List.getD x0 (Int.toNat (List.getD x1 (Int.toNat v10) 0)) (ByteArray.empty,0,0,0,())))∧((InR .i64 (v9+g78_0 (List.getD x0 (Int.toNat (List.getD x1 (Int.toNat v10) 0)) (ByteArray.empty,0,0,0,()))))∧((InR .i64 (v10+1))∧(R77_5 n (v7+(List.getD x0 (Int.toNat (List.getD x1 (Int.toNat v10) 0)) (ByteArray.empty,0,0,0,())).2.1) (v8+(List.getD x0 (Int.toNat (List.getD x1 (Int.toNat v10) 0)) (ByteArray.empty,0,0,0,())).2.2.1) (v9+g78_0 (List.getD x0 (Int.toNat (List.getD x1 (Int.toNat v10) 0)) (ByteArray.empty,0,0,0,()))) (v10+1) (x0) (x1) (x2) ds)))))))) else (if (decide (v7≤x2.1))=true then (if (decide (v8≤x2.2.1))=true then (ds=[Dyn.mk .bool (decide (v9≤x2.2.2.1))]) else (ds=[Dyn.mk .bool false])) else (ds=[Dyn.mk .bool false])))
end
theorem snd77:∀ n,(∀ (x0:List TyB1) (x1:List Int) (x2:Int×Int×Int×Unit) ds,R77 n x0 x1 x2 ds→∀ K q,AtV Tryz.prog 77 (PostR kds77 oks77 ds [] [] q K) 58 K q [] [.code b77] (entE 0 0 sig77 (x0,x1,x2,())) (entL sig77 (x0,x1,x2,())))∧(∀ (v7:Int) (v8:Int) (v9:Int) (v10:Int) (x0:List TyB1) (x1:List Int) (x2:Int×Int×Int×Unit) ds,R77_5 n v7 v8 v9 v10 x0 x1 x2 ds→∀ K q,AtV Tryz.prog 77 (PostR kds77 oks77 ds [] [] q K) 58 K q [] (cutAt b77 5) (E77_5 v7 v8 v9 v10 x0 x1 x2) (L77_5 v7 v8 v9 v10 x0 x1 x2)):=by
 intro n
 induction n with
 | zero=>exact ⟨fun _ _ _ _ h=>by simp only [R77] at h,fun _ _ _ _ _ _ _ _ h=>by simp only [R77_5] at h⟩
 | succ n ih =>
 obtain ⟨ih,ih5⟩:=ih
 refine ⟨?_,?_⟩
 ·intro x0 x1 x2 ds h K q
  rw [R77] at h
  exact AtV.go tabOk ext77Ok mixed false [] [] [0,1,2,7,8,9,10] [] [] trivial (ih5 _ _ _ _ _ _ _ _ h K q) (by kernel_rfl)
 ·intro v7 v8 v9 v10 x0 x1 x2 ds h K q
  rw [R77_5] at h
  by_cases b0:(decide (v10<(x1.length:Int)))=true
  ·rw [if_pos b0] at h
   obtain ⟨s0,s1,h⟩:=h
   obtain ⟨s2,s3,h⟩:=h
   obtain ⟨s4,h⟩:=h
   obtain ⟨s5,h⟩:=h
   obtain ⟨s6,h⟩:=h
   obtain ⟨s7,h⟩:=h
   obtain ⟨s8,h⟩:=h
   exact AtV.go tabOk ext77Ok mixed false [] [] [0,1,2,7,8,9,10] [] [true] (a1 b0 (a1 s0 (a1 s1 (a1 s2 (a1 s3 (a1 s4 (a1 s5 (a1 s6 (a1 s7 (a1 s8 trivial)))))))))) (ih5 _ _ _ _ _ _ _ _ h K q) (by kernel_rfl)
  ·rw [if_neg b0] at h
   replace b0:=bf_ b0
   by_cases b1:(decide (v7≤x2.1))=true
   ·rw [if_pos b1] at h
    by_cases b2:(decide (v8≤x2.2.1))=true
    ·rw [if_pos b2] at h
     subst h
     exact AtV.ret Tryz.func77 tabOk ext77Ok mixed false [] tys77 [false,true,true] (a1 b0 (a1 b1 (a1 b2 trivial))) (by kernel_rfl)
    ·rw [if_neg b2] at h
     replace b2:=bf_ b2
     subst h
     exact AtV.ret Tryz.func77 tabOk ext77Ok mixed false [] tys77 [false,true,false] (a1 b0 (a1 b1 (a1 b2 trivial))) (by kernel_rfl)
   ·rw [if_neg b1] at h
    replace b1:=bf_ b1
    subst h
    exact AtV.ret Tryz.func77 tabOk ext77Ok mixed false [] tys77 [false,false,false] (a1 b0 (a1 b1 (a1 (rfl:false=false) trivial))) (by kernel_rfl)
def fit77 (x:ByteArray×Int×Int×Int×Unit) (x2:Int×Int×Int×Unit):Bool:=if decide (x.2.1≤x2.1)=true then (if decide (x.2.2.1≤x2.2.1)=true then decide (g78_0 x≤x2.2.2.1) else false) else false
def g77_0 (x0:List TyB1) (x1:List Int) (x2:Int×Int×Int×Unit):Bool:=match x1 with
 | [j]=>fit77 (x0.getD j.toNat (ByteArray.empty,(0:Int),(0:Int),(0:Int),())) x2
 | _=>false
def P77 (x0:List TyB1) (x1:List Int) (x2:Int×Int×Int×Unit):Prop:=∃ j,x1=[j]∧0≤j∧j<x0.length∧P78 (x0.getD j.toNat (ByteArray.empty,(0:Int),(0:Int),(0:Int),()))∧InR .i64 (g78_0 (x0.getD j.toNat (ByteArray.empty,(0:Int),(0:Int),(0:Int),()))) ∧
 InR .i64 (x0.getD j.toNat (ByteArray.empty,(0:Int),(0:Int),(0:Int),())).2.1∧InR .i64 (x0.getD j.toNat (ByteArray.empty,(0:Int),(0:Int),(0:Int),())).2.2.1
theorem top77 (x0:List TyB1) (x1:List Int) (x2:Int×Int×Int×Unit) (h:P77 x0 x1 x2):R77 3 x0 x1 x2 [⟨.bool,g77_0 x0 x1 x2⟩]:=by
 obtain ⟨j,rfl,h1,h2,h3,h4,h5,h6⟩:=h
 have e0:List.getD [j] (Int.toNat 0) 0=j:=rfl
 have e1:((([j]:List Int).length:Nat):Int)=1:=rfl
 rw [R77,R77_5]
 simp only [e0,e1]
 rw [if_pos (show decide ((0:Int)<1)=true by decide)]
 refine ⟨by decide,(show (0:Int)<1 by decide),h1,h2,by rw [Int.zero_add];exact h5,by rw [Int.zero_add];exact h6,h3,by rw [Int.zero_add];exact h4,by decide,?_⟩
 rw [R77_5]
 simp only [e1]
 rw [if_neg (show ¬ decide ((0:Int)+1<1)=true by decide)]
 simp only [Int.zero_add,g77_0,fit77]
 by_cases c1:(x0.getD j.toNat (ByteArray.empty,(0:Int),(0:Int),(0:Int),())).2.1≤x2.1
 ·rw [if_pos (decide_eq_true c1),if_pos (decide_eq_true c1)]
  by_cases c2:(x0.getD j.toNat (ByteArray.empty,(0:Int),(0:Int),(0:Int),())).2.2.1≤x2.2.1
  ·rw [if_pos (decide_eq_true c2),if_pos (decide_eq_true c2)]
  ·rw [if_neg (by simpa using c2),if_neg (by simpa using c2)]
 ·rw [if_neg (by simpa using c1),if_neg (by simpa using c1)]
def S77:Am.Spec:={ sig:=sig77,pre:=fun ⟨x0,x1,x2,_⟩=>P77 x0 x1 x2,res:=fun ⟨x0,x1,x2,_⟩=>[⟨.bool,g77_0 x0 x1 x2⟩] }
theorem con77:Contract Tryz.prog 77 S77:=contract_of Tryz.func77 hb77 (bl_ (by kernel_rfl)) (fun ⟨x0,x1,x2,_⟩ h hwf K q =>
 (snd77 _).1 x0 x1 x2 _ (top77 x0 x1 x2 h) K q)
end
noncomputable section
def ext131:Ext:=[]
theorem ext131Ok:ExtOk Tryz.prog ext131:=trivial
def b131:Code:=bodyOf Tryz.f131
theorem hb131:Tryz.f131.body=some b131:=by kernel_rfl
def sig131:List AT:=[AT.p YA3,AT.v (.int .i64),AT.v (.int .i64)]
def tys131:List Ty:=[.int .i64,.int .i64]
def kds131:List RK:=[]
def oks131:List AT:=owns sig131
def P131 (x0:ByteArray×Int×Int×Int×Int×Unit) (x1:Int) (x2:Int):Prop:=((InR .i64 (x0.2.2.2.1+x0.2.1))∧((InR .i64 (x0.2.2.2.1+x0.2.1 - x1))∧((InR .i64 (x0.2.2.2.2.1+x0.2.2.1))∧((InR .i64 (x0.2.2.2.2.1+x0.2.2.1 - x2))∧True))))
def g131_0 (x0:ByteArray×Int×Int×Int×Int×Unit) (x1:Int) (x2:Int):Int:=x0.2.2.2.1+x0.2.1 - x1
def g131_1 (x0:ByteArray×Int×Int×Int×Int×Unit) (x1:Int) (x2:Int):Int:=x0.2.2.2.2.1+x0.2.2.1 - x2
theorem at131 (x0:ByteArray×Int×Int×Int×Int×Unit) (x1:Int) (x2:Int) (h:P131 x0 x1 x2) (K:Ctx) (q:Nat→Value):AtV Tryz.prog 131 (PostR kds131 oks131 [⟨.int .i64,g131_0 x0 x1 x2⟩,⟨.int .i64,g131_1 x0 x1 x2⟩] [] [] q K) 30 K q [] [.code b131] (entE 0 0 sig131 (x0,x1,x2,())) (entL sig131 (x0,x1,x2,())):=by
 unfold P131 at h
 unfold g131_0 g131_1
 obtain ⟨s0,h⟩:=h
 obtain ⟨s1,h⟩:=h
 obtain ⟨s2,h⟩:=h
 obtain ⟨s3,h⟩:=h
 exact AtV.ret Tryz.func131 tabOk ext131Ok mixed false [] tys131 [] (a1 s0 (a1 s1 (a1 s2 (a1 s3 trivial)))) (by kernel_rfl)
def S131:Am.Spec:={ sig:=sig131,pre:=fun ⟨x0,x1,x2,_⟩=>P131 x0 x1 x2,res:=fun ⟨x0,x1,x2,_⟩=>[⟨.int .i64,g131_0 x0 x1 x2⟩,⟨.int .i64,g131_1 x0 x1 x2⟩],kds:=kds131 }
theorem con131:Contract Tryz.prog 131 S131:=contract_of Tryz.func131 hb131 (bl_ (by kernel_rfl)) (fun ⟨x0,x1,x2,_⟩ h _ K q=>at131 x0 x1 x2 h K q)
end
noncomputable section
def ext100:Ext:=[(131,S131)]
theorem ext100Ok:ExtOk Tryz.prog ext100:=⟨⟨ca131,con131⟩,trivial⟩
def b100:Code:=bodyOf Tryz.f100
theorem hb100:Tryz.f100.body=some b100:=by kernel_rfl
def sig100:List AT:=[AT.p YA3,AT.v (.int .i64),AT.v (.int .i64)]
def tys100:List Ty:=[.bool]
def kds100:List RK:=[]
def oks100:List AT:=owns sig100
def P100 (x0:ByteArray×Int×Int×Int×Int×Unit) (x1:Int) (x2:Int):Prop:=((P131 x0 x1 x2)∧True)
def g100_0 (x0:ByteArray×Int×Int×Int×Int×Unit) (x1:Int) (x2:Int):Bool:=(if (decide (g131_0 x0 x1 x2<0))=true then true else decide (g131_1 x0 x1 x2<0))
theorem at100 (x0:ByteArray×Int×Int×Int×Int×Unit) (x1:Int) (x2:Int) (h:P100 x0 x1 x2) (K:Ctx) (q:Nat→Value):AtV Tryz.prog 100 (PostR kds100 oks100 [⟨.bool,g100_0 x0 x1 x2⟩] [] [] q K) 22 K q [] [.code b100] (entE 0 0 sig100 (x0,x1,x2,())) (entL sig100 (x0,x1,x2,())):=by
 unfold P100 at h
 unfold g100_0
 obtain ⟨s0,h⟩:=h
 by_cases b0:(decide (g131_0 x0 x1 x2<0))=true
 ·try simp only [if_pos b0] at h ⊢
  exact AtV.ret Tryz.func100 tabOk ext100Ok mixed false [] tys100 [true] (a1 s0 (a1 b0 trivial)) (by kernel_rfl)
 ·try simp only [if_neg b0] at h ⊢
  replace b0:=bf_ b0
  exact AtV.ret Tryz.func100 tabOk ext100Ok mixed false [] tys100 [false] (a1 s0 (a1 b0 trivial)) (by kernel_rfl)
def S100:Am.Spec:={ sig:=sig100,pre:=fun ⟨x0,x1,x2,_⟩=>P100 x0 x1 x2,res:=fun ⟨x0,x1,x2,_⟩=>[⟨.bool,g100_0 x0 x1 x2⟩],kds:=kds100 }
theorem con100:Contract Tryz.prog 100 S100:=contract_of Tryz.func100 hb100 (bl_ (by kernel_rfl)) (fun ⟨x0,x1,x2,_⟩ h _ K q=>at100 x0 x1 x2 h K q)
end
noncomputable section
def ext79:Ext:=[(100,S100)]
theorem ext79Ok:ExtOk Tryz.prog ext79:=⟨⟨ca100,con100⟩,trivial⟩
def b79:Code:=bodyOf Tryz.f79
theorem hb79:Tryz.f79.body=some b79:=by kernel_rfl
def sig79:List AT:=[AT.v (.sl YA3),AT.v (.int .i64),AT.v (.int .i64)]
def tys79:List Ty:=[.sl .str]
def kds79:List RK:=[]
def oks79:List AT:=owns sig79
def E79_3 (v8:Int) (h0:List ByteArray) (x0:List TyB0) (x1:Int) (x2:Int):Env:=[(0,.a (.sl YA3 x0)),(1,.a (.val (.int .i64 x1))),(2,.a (.val (.int .i64 x2))),(7,.a (.osl 0 Option.none)),(8,.a (.val (.int .i64 v8)))]
def L79_3 (v8:Int) (h0:List ByteArray) (x0:List TyB0) (x1:Int) (x2:Int):Heap:=[Option.some (Arr.mk .str h0 false Option.none Option.none)]
mutual
def R79:Nat→List TyB0→Int→Int→List Dyn→Prop
 | 0,_,_,_,_=>False
 | n+1,x0,x1,x2,ds=>(R79_3 n (0) ([]) (x0) (x1) (x2) ds)
def R79_3:Nat→Int→List ByteArray→List TyB0→Int→Int→List Dyn→Prop
 | 0,_,_,_,_,_,_=>False
 | n+1,v8,h0,x0,x1,x2,ds=>(if (decide (v8<(x0.length:Int)))=true then ((0≤v8)∧(v8<(x0.length:Int))∧((P100 (List.getD x0 (Int.toNat v8) (ByteArray.empty,0,0,0,0,())) x1 x2)∧(if (g100_0 (List.getD x0 (Int.toNat v8) (ByteArray.empty,0,0,0,0,())) x1 x2)=true then ((0≤v8)∧(v8<(x0.length:Int))∧(((List.length h0+1)*16≤140737488355328)∧((InR .i64 (v8+1))∧(R79_3 n (v8+1) (h0++[(List.getD x0 (Int.toNat v8) (ByteArray.empty,0,0,0,0,())).1]) (x0) (x1) (x2) ds)))) else ((InR .i64 (v8+1))∧(R79_3 n (v8+1) (h0) (x0) (x1) (x2) ds))))) else (ds=[Dyn.mk (.sl .str) h0]))
end
theorem snd79:∀ n,(∀ (x0:List TyB0) (x1:Int) (x2:Int) ds,R79 n x0 x1 x2 ds→∀ K q,AtV Tryz.prog 79 (PostR kds79 oks79 ds [] [] q K) 31 K q [] [.code b79] (entE 0 0 sig79 (x0,x1,x2,())) (entL sig79 (x0,x1,x2,())))∧(∀ (v8:Int) (h0:List ByteArray) (x0:List TyB0) (x1:Int) (x2:Int) ds,R79_3 n v8 h0 x0 x1 x2 ds→∀ K q,AtV Tryz.prog 79 (PostR kds79 oks79 ds [] [] q K) 31 K q [] (cutAt b79 3) (E79_3 v8 h0 x0 x1 x2) (L79_3 v8 h0 x0 x1 x2)):=by
 intro n
 induction n with
 | zero=>exact ⟨fun _ _ _ _ h=>by simp only [R79] at h,fun _ _ _ _ _ _ h=>by simp only [R79_3] at h⟩
 | succ n ih =>
 obtain ⟨ih,ih3⟩:=ih
 refine ⟨?_,?_⟩
 ·intro x0 x1 x2 ds h K q
  rw [R79] at h
  exact AtV.go tabOk ext79Ok mixed false [] [] [0,1,2,7,8] [0] [] trivial (ih3 _ _ _ _ _ _ h K q) (by kernel_rfl)
 ·intro v8 h0 x0 x1 x2 ds h K q
  rw [R79_3] at h
  by_cases b0:(decide (v8<(x0.length:Int)))=true
  ·rw [if_pos b0] at h
   obtain ⟨s0,s1,h⟩:=h
   obtain ⟨s2,h⟩:=h
   by_cases b1:(g100_0 (List.getD x0 (Int.toNat v8) (ByteArray.empty,0,0,0,0,())) x1 x2)=true
   ·rw [if_pos b1] at h
    obtain ⟨s3,s4,h⟩:=h
    obtain ⟨s5,h⟩:=h
    obtain ⟨s6,h⟩:=h
    exact AtV.go tabOk ext79Ok mixed false [] [] [0,1,2,7,8] [0] [true,true] (a1 b0 (a1 s0 (a1 s1 (a1 s2 (a1 b1 (a1 s3 (a1 s4 (a1 s5 (a1 s6 trivial))))))))) (ih3 _ _ _ _ _ _ h K q) (by kernel_rfl)
   ·rw [if_neg b1] at h
    replace b1:=bf_ b1
    obtain ⟨s3,h⟩:=h
    exact AtV.go tabOk ext79Ok mixed false [] [] [0,1,2,7,8] [0] [true,false] (a1 b0 (a1 s0 (a1 s1 (a1 s2 (a1 b1 (a1 s3 trivial)))))) (ih3 _ _ _ _ _ _ h K q) (by kernel_rfl)
  ·rw [if_neg b0] at h
   replace b0:=bf_ b0
   subst h
   exact AtV.ret Tryz.func79 tabOk ext79Ok mixed false [] tys79 [false] (a1 b0 trivial) (by kernel_rfl)
def g79_0 (x0:List TyB0) (x1 x2:Int):List ByteArray:=(x0.filter fun x=>g100_0 x x1 x2).map fun x=>x.1
def P79 (x0:List TyB0) (x1 x2:Int):Prop:=x0.length≤1048576∧∀ x∈x0,P100 x x1 x2
theorem run79 (x0:List TyB0) (x1 x2:Int) (h:P79 x0 x1 x2):∀ (k i:Nat) (h0:List ByteArray),i+k=x0.length→h0.length≤i→R79_3 (k+1) (i:Int) h0 x0 x1 x2 [⟨.sl .str,h0++g79_0 (x0.drop i) x1 x2⟩]:=by
 obtain ⟨hl,hp⟩:=h
 intro k
 induction k with
 | zero =>
  intro i h0 hi hh
  rw [R79_3,if_neg (by simp only [decide_eq_true_eq];omega),drop_end _ _ (by omega)]
  simp [g79_0]
 | succ k ih =>
  intro i h0 hi hh
  have hlt:i<x0.length:=by omega
  have hm:x0.length≤maxLen:=Nat.le_trans hl (by decide)
  rw [R79_3,if_pos (by simp only [decide_eq_true_eq];omega),drop_get x0 i (ByteArray.empty,(0:Int),(0:Int),(0:Int),(0:Int),()) hlt]
  simp only [Int.toNat_natCast]
  refine ⟨by omega,by omega,hp _ (mem_getD x0 i (ByteArray.empty,(0:Int),(0:Int),(0:Int),(0:Int),()) hlt),?_⟩
  have ih1:=ih (i+1)
  by_cases hc:g100_0 (x0.getD i (ByteArray.empty,(0:Int),(0:Int),(0:Int),(0:Int),())) x1 x2=true
  ·have h2:=ih1 (h0++[(x0.getD i (ByteArray.empty,(0:Int),(0:Int),(0:Int),(0:Int),())).1]) (by omega) (by simp;omega)
   have e:∀ r,g79_0 (x0.getD i (ByteArray.empty,(0:Int),(0:Int),(0:Int),(0:Int),()) :: r) x1 x2=(x0.getD i (ByteArray.empty,(0:Int),(0:Int),(0:Int),(0:Int),())).1 :: g79_0 r x1 x2:=fun r=>by
    unfold g79_0;rw [List.filter_cons,if_pos hc];rfl
   rw [if_pos hc,e]
   rw [List.append_assoc] at h2
   exact ⟨by omega,by omega,by omega,inR_up hm hlt,h2⟩
  ·have h2:=ih1 h0 (by omega) (by omega)
   have e:∀ r,g79_0 (x0.getD i (ByteArray.empty,(0:Int),(0:Int),(0:Int),(0:Int),()) :: r) x1 x2=g79_0 r x1 x2:=fun r=>by
    unfold g79_0;rw [List.filter_cons,if_neg hc]
   rw [if_neg hc,e]
   exact ⟨inR_up hm hlt,h2⟩
theorem top79 (x0:List TyB0) (x1 x2:Int) (h:P79 x0 x1 x2):R79 (x0.length+1+1) x0 x1 x2 [⟨.sl .str,g79_0 x0 x1 x2⟩]:=by
 rw [R79]
 simpa using run79 x0 x1 x2 h x0.length 0 [] (by omega) (by simp)
def S79:Am.Spec:={ sig:=sig79,pre:=fun ⟨x0,x1,x2,_⟩=>P79 x0 x1 x2,res:=fun ⟨x0,x1,x2,_⟩=>[⟨.sl .str,g79_0 x0 x1 x2⟩] }
theorem con79:Contract Tryz.prog 79 S79:=contract_of Tryz.func79 hb79 (bl_ (by kernel_rfl)) (fun ⟨x0,x1,x2,_⟩ h hwf K q =>
 (snd79 _).1 x0 x1 x2 _ (top79 x0 x1 x2 h) K q)
end
def bl {α β:Type} (f:Nat→α→List β):Nat→List α→List β
 | _,[]=>[]
 | i,x :: r=>f i x++bl f (i+1) r
theorem bl_len {α β:Type} (f:Nat→α→List β) (hf:∀ i x,(f i x).length≤1):∀ (l:List α) (i:Nat),(bl f i l).length≤l.length
 | [],_=>Nat.le_refl _
 | x :: r,i=>by
  have:=bl_len f hf r (i+1)
  have:=hf i x
  simp only [bl,List.length_append,List.length_cons]
  omega
theorem bl_congr {α β:Type} {f g:Nat→α→List β}:∀ (l:List α) (i:Nat),(∀ j x,x∈l→f j x=g j x)→bl f i l=bl g i l
 | [],_,_=>rfl
 | x :: r,i,h=>by
  simp only [bl]
  rw [h i x (List.mem_cons_self ..),bl_congr r (i+1) fun j y hy=>h j y (List.mem_cons_of_mem _ hy)]
theorem loop_build {α β:Type} (xs:List α) (d:α) (f:Nat→α→List β) (hf:∀ i x,(f i x).length≤1) (c:Nat) (R:Nat→Int→List β→Prop)
  (step:∀ (n i:Nat) (h:List β),i<xs.length→h.length≤c+i→R n ((i:Int)+1) (h++f i (xs.getD i d))→R (n+1) (i:Int) h) (m:Nat) :
  ∀ (k i:Nat) (h:List β),i+k=xs.length→h.length≤c+i→R m (xs.length:Int) (h++bl f i (xs.drop i))→R (m+k) (i:Int) h:=by
 intro k
 induction k with
 | zero =>
  intro i h hi hh hr
  have:i=xs.length:=by omega
  subst this
  rw [drop_end xs _ (Nat.le_refl _)] at hr
  simpa [bl] using hr
 | succ k ih =>
  intro i h hi hh hr
  have hlt:i<xs.length:=by omega
  refine step (m+k) i h hlt hh ?_
  have h2:=ih (i+1) (h++f i (xs.getD i d)) (by omega) (by have:=hf i (xs.getD i d);simp only [List.length_append];omega) (by
   rw [drop_get xs i d hlt] at hr
   simpa [bl,List.append_assoc] using hr)
  simpa using h2
theorem loop_build0 {α β:Type} (xs:List α) (d:α) (f:Nat→α→List β) (hf:∀ i x,(f i x).length≤1) (c:Nat) (R:Nat→Int→List β→Prop)
  (step:∀ (n i:Nat) (h:List β),i<xs.length→h.length≤c+i→R n ((i:Int)+1) (h++f i (xs.getD i d))→R (n+1) (i:Int) h) (m:Nat) (h:List β) (hh:h.length≤c) (hr:R m (xs.length:Int) (h++bl f 0 xs)):R (m+xs.length) 0 h:=by
 have:=loop_build xs d f hf c R step m xs.length 0 h (by omega) (by omega) (by simpa using hr)
 simpa using this
noncomputable section
def ext47:Ext:=[(77,S77),(78,S78),(74,S74),(79,S79)]
theorem ext47Ok:ExtOk Tryz.prog ext47:=⟨⟨ca77,con77⟩,⟨ca78,con78⟩,⟨ca74,con74⟩,⟨ca79,con79⟩,trivial⟩
def b47:Code:=bodyOf Tryz.f47
theorem hb47:Tryz.f47.body=some b47:=by kernel_rfl
def sig47:List AT:=[AT.p YA0]
def tys47:List Ty:=[.sl YA8]
def kds47:List RK:=[]
def oks47:List AT:=owns sig47
def E47_3 (v4:Int) (h0:List TyB3) (x0:TyA0):Env:=[(0,.a (.ptr YA0 x0)),(3,.a (.osl 0 Option.none)),(4,.a (.val (.int .i64 v4)))]
def L47_3 (v4:Int) (h0:List TyB3) (x0:TyA0):Heap:=[Option.some (Arr.mk YA8 h0 false Option.none Option.none)]
def E47_9 (v6:Int) (h0:List TyB3) (x0:TyA0):Env:=[(0,.a (.ptr YA0 x0)),(3,.a (.osl 0 Option.none)),(5,.a (.osl 1 Option.none)),(6,.a (.val (.int .i64 v6)))]
def L47_9 (v6:Int) (h0:List TyB3) (x0:TyA0):Heap:=[Option.some (Arr.mk YA8 h0 false Option.none Option.none),Option.some (Arr.mk .str (g79_0 x0.2.2.2.2.2.2.1 x0.2.2.2.2.2.2.2.1 x0.2.2.2.2.2.2.2.2.1) false Option.none Option.none)]
def E47_13 (v7:Int) (h0:List TyB3) (x0:TyA0):Env:=[(0,.a (.ptr YA0 x0)),(3,.a (.osl 0 Option.none)),(7,.a (.val (.int .i64 v7)))]
def L47_13 (v7:Int) (h0:List TyB3) (x0:TyA0):Heap:=[Option.some (Arr.mk YA8 h0 false Option.none Option.none)]
mutual
def R47:Nat→TyA0→List Dyn→Prop
 | 0,_,_=>False
 | n+1,x0,ds=>(R47_3 n (0) ([]) (x0) ds)
def R47_3:Nat→Int→List TyB3→TyA0→List Dyn→Prop
 | 0,_,_,_,_=>False
 | n+1,v4,h0,x0,ds=>(if (decide (v4<(x0.2.2.2.2.1.length:Int)))=true then ((P77 x0.2.2.2.2.1 [v4] x0.2.2.2.2.2.1)∧(if (!g77_0 x0.2.2.2.2.1 [v4] x0.2.2.2.2.2.1)=true then ((0≤v4)∧(v4<(x0.2.2.2.2.1.length:Int))∧((0≤v4)∧(v4<(x0.2.2.2.2.1.length:Int))∧((P78 (List.getD x0.2.2.2.2.1 (Int.toNat v4) (ByteArray.empty,0,0,0,())))∧(((List.length h0+1)*40≤140737488355328)∧((InR .i64 (v4+1))∧(R47_3 n (v4+1) (h0++[(3,(List.getD x0.2.2.2.2.1 (Int.toNat v4) (ByteArray.empty,0,0,0,())).1,g74_0 (g78_0 (List.getD x0.2.2.2.2.1 (Int.toNat v4) (ByteArray.empty,0,0,0,()))),())]) (x0) ds)))))) else ((InR .i64 (v4+1))∧(R47_3 n (v4+1) (h0) (x0) ds)))) else ((P79 x0.2.2.2.2.2.2.1 x0.2.2.2.2.2.2.2.1 x0.2.2.2.2.2.2.2.2.1)∧(R47_9 n (0) (h0) (x0) ds)))
def R47_9:Nat→Int→List TyB3→TyA0→List Dyn→Prop
 | 0,_,_,_,_=>False
 | n+1,v6,h0,x0,ds=>(if (decide (v6<(↑(List.length (g79_0 x0.2.2.2.2.2.2.1 x0.2.2.2.2.2.2.2.1 x0.2.2.2.2.2.2.2.2.1)):Int)))=true then ((0≤v6)∧(v6<(↑(List.length (g79_0 x0.2.2.2.2.2.2.1 x0.2.2.2.2.2.2.2.1 x0.2.2.2.2.2.2.2.2.1)):Int))∧(((List.length h0+1)*40≤140737488355328)∧((InR .i64 (v6+1))∧(R47_9 n (v6+1) (h0++[(4,List.getD (g79_0 x0.2.2.2.2.2.2.1 x0.2.2.2.2.2.2.2.1 x0.2.2.2.2.2.2.2.2.1) (Int.toNat v6) ByteArray.empty,ByteArray.mk #[111,118,101,114,100,117,101],())]) (x0) ds)))) else (R47_13 n (1) (h0) (x0) ds))
def R47_13:Nat→Int→List TyB3→TyA0→List Dyn→Prop
 | 0,_,_,_,_=>False
 | n+1,v7,h0,x0,ds=>(if (decide (v7<(x0.2.2.2.2.2.2.2.2.2.1.length:Int)))=true then ((0≤v7)∧(v7<(x0.2.2.2.2.2.2.2.2.2.1.length:Int))∧((InR .i64 (v7 - 1))∧((0≤v7 - 1)∧(v7 - 1<(x0.2.2.2.2.2.2.2.2.2.1.length:Int))∧((InR .i64 ((List.getD x0.2.2.2.2.2.2.2.2.2.1 (Int.toNat v7) (0,0,())).1 - (List.getD x0.2.2.2.2.2.2.2.2.2.1 (Int.toNat (v7 - 1)) (0,0,())).1))∧((InR .i64 (v7 - 1))∧((0≤v7 - 1)∧(v7 - 1<(x0.2.2.2.2.2.2.2.2.2.1.length:Int))∧((InR .i64 ((List.getD x0.2.2.2.2.2.2.2.2.2.1 (Int.toNat v7) (0,0,())).1 - (List.getD x0.2.2.2.2.2.2.2.2.2.1 (Int.toNat (v7 - 1)) (0,0,())).1 - (List.getD x0.2.2.2.2.2.2.2.2.2.1 (Int.toNat (v7 - 1)) (0,0,())).2.1))∧((InR .i64 ((List.getD x0.2.2.2.2.2.2.2.2.2.1 (Int.toNat v7) (0,0,())).1 - (List.getD x0.2.2.2.2.2.2.2.2.2.1 (Int.toNat (v7 - 1)) (0,0,())).1 - (List.getD x0.2.2.2.2.2.2.2.2.2.1 (Int.toNat (v7 - 1)) (0,0,())).2.1 - x0.2.2.2.2.2.2.2.2.2.2.1))∧(if (decide ((List.getD x0.2.2.2.2.2.2.2.2.2.1 (Int.toNat v7) (0,0,())).1 - (List.getD x0.2.2.2.2.2.2.2.2.2.1 (Int.toNat (v7 - 1)) (0,0,())).1 - (List.getD x0.2.2.2.2.2.2.2.2.2.1 (Int.toNat (v7 - 1)) (0,0,())).2.1 - x0.2.2.2.2.2.2.2.2.2.2.1<0))=true then (((List.length h0+1)*40≤140737488355328)∧((InR .i64 (v7+1))∧(R47_13 n (v7+1) (h0++[(5,g74_0 v7,g74_0 ((List.getD x0.2.2.2.2.2.2.2.2.2.1 (Int.toNat v7) (0,0,())).1 - (List.getD x0.2.2.2.2.2.2.2.2.2.1 (Int.toNat (v7 - 1)) (0,0,())).1 - (List.getD x0.2.2.2.2.2.2.2.2.2.1 (Int.toNat (v7 - 1)) (0,0,())).2.1 - x0.2.2.2.2.2.2.2.2.2.2.1),())]) (x0) ds))) else ((InR .i64 (v7+1))∧(R47_13 n (v7+1) (h0) (x0) ds))))))))))) else (ds=[Dyn.mk (.sl YA8) h0]))
end
theorem snd47:∀ n,(∀ (x0:TyA0) ds,R47 n x0 ds→∀ K q,AtV Tryz.prog 47 (PostR kds47 oks47 ds [] [] q K) 130 K q [] [.code b47] (entE 0 0 sig47 (x0,())) (entL sig47 (x0,())))∧(∀ (v4:Int) (h0:List TyB3) (x0:TyA0) ds,R47_3 n v4 h0 x0 ds→∀ K q,AtV Tryz.prog 47 (PostR kds47 oks47 ds [] [] q K) 130 K q [] (cutAt b47 3) (E47_3 v4 h0 x0) (L47_3 v4 h0 x0))∧(∀ (v6:Int) (h0:List TyB3) (x0:TyA0) ds,R47_9 n v6 h0 x0 ds→∀ K q,AtV Tryz.prog 47 (PostR kds47 oks47 ds [] [] q K) 130 K q [] (cutAt b47 9) (E47_9 v6 h0 x0) (L47_9 v6 h0 x0))∧(∀ (v7:Int) (h0:List TyB3) (x0:TyA0) ds,R47_13 n v7 h0 x0 ds→∀ K q,AtV Tryz.prog 47 (PostR kds47 oks47 ds [] [] q K) 130 K q [] (cutAt b47 13) (E47_13 v7 h0 x0) (L47_13 v7 h0 x0)):=by
 intro n
 induction n with
 | zero=>exact ⟨fun _ _ h=>by simp only [R47] at h,fun _ _ _ _ h=>by simp only [R47_3] at h,fun _ _ _ _ h=>by simp only [R47_9] at h,fun _ _ _ _ h=>by simp only [R47_13] at h⟩
 | succ n ih =>
 obtain ⟨ih,ih3,ih9,ih13⟩:=ih
 refine ⟨?_,?_,?_,?_⟩
 ·intro x0 ds h K q
  rw [R47] at h
  exact AtV.go tabOk ext47Ok mixed false [] [] [0,3,4] [0] [] trivial (ih3 _ _ _ _ h K q) (by kernel_rfl)
 ·intro v4 h0 x0 ds h K q
  rw [R47_3] at h
  by_cases b0:(decide (v4<(x0.2.2.2.2.1.length:Int)))=true
  ·rw [if_pos b0] at h
   obtain ⟨s0,h⟩:=h
   by_cases b1:(!g77_0 x0.2.2.2.2.1 [v4] x0.2.2.2.2.2.1)=true
   ·rw [if_pos b1] at h
    obtain ⟨s1,s2,h⟩:=h
    obtain ⟨s3,s4,h⟩:=h
    obtain ⟨s5,h⟩:=h
    obtain ⟨s6,h⟩:=h
    obtain ⟨s7,h⟩:=h
    exact AtV.go tabOk ext47Ok mixed false [] [] [0,3,4] [0] [true,true] (a1 b0 (a1 s0 (a1 b1 (a1 s1 (a1 s2 (a1 s3 (a1 s4 (a1 s5 (a1 trivial (a1 s6 (a1 s7 trivial))))))))))) (ih3 _ _ _ _ h K q) (by kernel_rfl)
   ·rw [if_neg b1] at h
    replace b1:=bf_ b1
    obtain ⟨s1,h⟩:=h
    exact AtV.go tabOk ext47Ok mixed false [] [] [0,3,4] [0] [true,false] (a1 b0 (a1 s0 (a1 b1 (a1 s1 trivial)))) (ih3 _ _ _ _ h K q) (by kernel_rfl)
  ·rw [if_neg b0] at h
   replace b0:=bf_ b0
   obtain ⟨s0,h⟩:=h
   exact AtV.go tabOk ext47Ok mixed false [] [] [0,3,5,6] [0,1] [false] (a1 b0 (a1 s0 trivial)) (ih9 _ _ _ _ h K q) (by kernel_rfl)
 ·intro v6 h0 x0 ds h K q
  rw [R47_9] at h
  by_cases b0:(decide (v6<(↑(List.length (g79_0 x0.2.2.2.2.2.2.1 x0.2.2.2.2.2.2.2.1 x0.2.2.2.2.2.2.2.2.1)):Int)))=true
  ·rw [if_pos b0] at h
   obtain ⟨s0,s1,h⟩:=h
   obtain ⟨s2,h⟩:=h
   obtain ⟨s3,h⟩:=h
   exact AtV.go tabOk ext47Ok mixed false [] [] [0,3,5,6] [0,1] [true] (a1 b0 (a1 s0 (a1 s1 (a1 s2 (a1 s3 trivial))))) (ih9 _ _ _ _ h K q) (by kernel_rfl)
  ·rw [if_neg b0] at h
   replace b0:=bf_ b0
   exact AtV.go tabOk ext47Ok mixed false [] [] [0,3,7] [0] [false] (a1 b0 trivial) (ih13 _ _ _ _ h K q) (by kernel_rfl)
 ·intro v7 h0 x0 ds h K q
  rw [R47_13] at h
  by_cases b0:(decide (v7<(x0.2.2.2.2.2.2.2.2.2.1.length:Int)))=true
  ·rw [if_pos b0] at h
   obtain ⟨s0,s1,h⟩:=h
   obtain ⟨s2,h⟩:=h
   obtain ⟨s3,s4,h⟩:=h
   obtain ⟨s5,h⟩:=h
   obtain ⟨s6,h⟩:=h
   obtain ⟨s7,s8,h⟩:=h
   obtain ⟨s9,h⟩:=h
   obtain ⟨s10,h⟩:=h
   by_cases b1:(decide ((List.getD x0.2.2.2.2.2.2.2.2.2.1 (Int.toNat v7) (0,0,())).1 - (List.getD x0.2.2.2.2.2.2.2.2.2.1 (Int.toNat (v7 - 1)) (0,0,())).1 - (List.getD x0.2.2.2.2.2.2.2.2.2.1 (Int.toNat (v7 - 1)) (0,0,())).2.1 - x0.2.2.2.2.2.2.2.2.2.2.1<0))=true
   ·rw [if_pos b1] at h
    obtain ⟨s11,h⟩:=h
    obtain ⟨s12,h⟩:=h
    exact AtV.go tabOk ext47Ok mixed false [] [] [0,3,7] [0] [true,true] (a1 b0 (a1 s0 (a1 s1 (a1 s2 (a1 s3 (a1 s4 (a1 s5 (a1 s6 (a1 s7 (a1 s8 (a1 s9 (a1 s10 (a1 b1 (a1 trivial (a1 trivial (a1 s11 (a1 s12 trivial))))))))))))))))) (ih13 _ _ _ _ h K q) (by kernel_rfl)
   ·rw [if_neg b1] at h
    replace b1:=bf_ b1
    obtain ⟨s11,h⟩:=h
    exact AtV.go tabOk ext47Ok mixed false [] [] [0,3,7] [0] [true,false] (a1 b0 (a1 s0 (a1 s1 (a1 s2 (a1 s3 (a1 s4 (a1 s5 (a1 s6 (a1 s7 (a1 s8 (a1 s9 (a1 s10 (a1 b1 (a1 s11 trivial)))))))))))))) (ih13 _ _ _ _ h K q) (by kernel_rfl)
  ·rw [if_neg b0] at h
   replace b0:=bf_ b0
   subst h
   exact AtV.ret Tryz.func47 tabOk ext47Ok mixed false [] tys47 [false] (a1 b0 trivial) (by kernel_rfl)
def fG47 (r:Int×Int×Int×Unit) (_:Nat) (x:ByteArray×Int×Int×Int×Unit):List TyB3 :=
 if (!fit77 x r)=true then [(3,x.1,g74_0 (g78_0 x),())] else []
def fC47 (_:Nat) (x:ByteArray):List TyB3:=[(4,x,ByteArray.mk #[111,118,101,114,100,117,101],())]
def fS47 (i:Nat) (n:Int):List TyB3:=if decide (n<0)=true then [(5,g74_0 ((i:Int)+1),g74_0 n,())] else []
def sk47 (x1:Int):List TyB4→List Int
 | x :: y :: r=>(y.1 - x.1 - x.2.1 - x1) :: sk47 x1 (y :: r)
 | _=>[]
theorem sk47_len (x1:Int):∀ l,(sk47 x1 l).length=l.length - 1
 | []=>rfl
 | [_]=>rfl
 | x :: y :: r=>by
  simp only [sk47,List.length_cons,sk47_len x1 (y :: r)]
  omega
theorem sk47_get (x1:Int):∀ (l:List TyB4) (i:Nat),i<l.length - 1→(sk47 x1 l).getD i 0=(l.getD (i+1) ((0:Int),(0:Int),())).1 - (l.getD i ((0:Int),(0:Int),())).1 - (l.getD i ((0:Int),(0:Int),())).2.1 - x1
 | [],i,h=>by simp at h
 | [_],i,h=>by simp at h
 | x :: y :: r,0,h=>rfl
 | x :: y :: r,i+1,h=>by
  have:=sk47_get x1 (y :: r) i (by simp only [List.length_cons] at h ⊢;omega)
  simpa [sk47] using this
def g47_0 (x0:(TyA0)):List TyB3 :=
 bl (fG47 x0.2.2.2.2.2.1) 0 x0.2.2.2.2.1++bl fC47 0 (g79_0 x0.2.2.2.2.2.2.1 x0.2.2.2.2.2.2.2.1 x0.2.2.2.2.2.2.2.2.1)++bl fS47 0 (sk47 x0.2.2.2.2.2.2.2.2.2.2.1 x0.2.2.2.2.2.2.2.2.2.1)
def P47 (x0:(TyA0)):Prop:=x0.2.2.2.2.1.length≤1048576∧(g79_0 x0.2.2.2.2.2.2.1 x0.2.2.2.2.2.2.2.1 x0.2.2.2.2.2.2.2.2.1).length≤1048576∧x0.2.2.2.2.2.2.2.2.2.1.length≤1048576 ∧
 (∀ x∈x0.2.2.2.2.1,P78 x∧InR .i64 (g78_0 x)∧InR .i64 x.2.1∧InR .i64 x.2.2.1)∧P79 x0.2.2.2.2.2.2.1 x0.2.2.2.2.2.2.2.1 x0.2.2.2.2.2.2.2.2.1 ∧
 0≤x0.2.2.2.2.2.2.2.2.2.2.1∧x0.2.2.2.2.2.2.2.2.2.2.1≤100000∧∀ x∈x0.2.2.2.2.2.2.2.2.2.1,0≤x.1∧x.1≤100000∧0≤x.2.1∧x.2.1≤100000
theorem top47 (x0:(TyA0)) (h:P47 x0):∃ n,R47 n x0 [⟨.sl (.cons (.int .i64) (.cons .str (.cons .str .unit))),g47_0 x0⟩]:=by
 obtain ⟨h1,h2,h3,h4,h5,h6,h7,h8⟩:=h
 have hm:1048576≤maxLen:=by decide
 have hmx:maxLen≤9223372036854775807:=by decide
 have l1:∀ i x,(fG47 x0.2.2.2.2.2.1 i x).length≤1:=fun i x=>by unfold fG47;split <;> simp
 have l2:∀ i x,(fC47 i x).length≤1:=fun i x=>by simp [fC47]
 have l3:∀ i x,(fS47 i x).length≤1:=fun i x=>by unfold fS47;split <;> simp
 have b1:=bl_len _ l1 x0.2.2.2.2.1 0
 have b2:=bl_len _ l2 (g79_0 x0.2.2.2.2.2.2.1 x0.2.2.2.2.2.2.2.1 x0.2.2.2.2.2.2.2.2.1) 0
 have sl:=sk47_len x0.2.2.2.2.2.2.2.2.2.2.1 x0.2.2.2.2.2.2.2.2.2.1
 have sg:=sk47_get x0.2.2.2.2.2.2.2.2.2.2.1 x0.2.2.2.2.2.2.2.2.2.1
 have k3:=loop_build0 (sk47 x0.2.2.2.2.2.2.2.2.2.2.1 x0.2.2.2.2.2.2.2.2.2.1) 0 fS47 l3 2097152 (fun n i h=>R47_13 n (i+1) h x0 [⟨.sl (.cons (.int .i64) (.cons .str (.cons .str .unit))),g47_0 x0⟩]) (fun n i h hi hh hr=>by
  have hlt:i+1<x0.2.2.2.2.2.2.2.2.2.1.length:=by omega
  have e1:((i:Int)+1).toNat=i+1:=by omega
  have e2:((i:Int)+1 - 1).toNat=i:=by omega
  obtain ⟨a1,a2,a3,a4⟩:=h8 _ (mem_getD _ i ((0:Int),(0:Int),()) (by omega))
  obtain ⟨c1,c2,c3,c4⟩:=h8 _ (mem_getD _ (i+1) ((0:Int),(0:Int),()) hlt)
  unfold fS47 at hr
  rw [sg i (by omega)] at hr
  show R47_13 (n+1) ((i:Int)+1) h x0 _
  rw [R47_13,if_pos (by simp only [decide_eq_true_eq];omega)]
  simp only [e1,e2]
  generalize x0.2.2.2.2.2.2.2.2.2.1.getD i ((0:Int),(0:Int),())=p at a1 a2 a3 a4 hr ⊢
  generalize x0.2.2.2.2.2.2.2.2.2.1.getD (i+1) ((0:Int),(0:Int),())=q at c1 c2 c3 c4 hr ⊢
  have i1:InR .i64 ((i:Int)+1 - 1):=by rw [i64_iff];omega
  refine ⟨by omega,by omega,i1,by omega,by omega,by rw [i64_iff];omega,i1,by omega,by omega,by rw [i64_iff];omega,by rw [i64_iff];omega,?_⟩
  by_cases hc:decide (q.1 - p.1 - p.2.1 - x0.2.2.2.2.2.2.2.2.2.2.1<0)=true
  ·rw [if_pos hc] at hr ⊢
   exact ⟨by omega,by rw [i64_iff];omega,hr⟩
  ·rw [if_neg hc] at hr ⊢
   rw [List.append_nil] at hr
   exact ⟨by rw [i64_iff];omega,hr⟩) 1 (bl (fG47 x0.2.2.2.2.2.1) 0 x0.2.2.2.2.1++bl fC47 0 (g79_0 x0.2.2.2.2.2.2.1 x0.2.2.2.2.2.2.2.1 x0.2.2.2.2.2.2.2.2.1)) (by simp only [List.length_append];omega) (by
  show R47_13 1 _ _ x0 _
  rw [R47_13,if_neg (by simp only [decide_eq_true_eq];omega)]
  rfl)
 have k2:=loop_build0 (g79_0 x0.2.2.2.2.2.2.1 x0.2.2.2.2.2.2.2.1 x0.2.2.2.2.2.2.2.2.1) ByteArray.empty fC47 l2 1048576 (fun n i h=>R47_9 n i h x0 [⟨.sl (.cons (.int .i64) (.cons .str (.cons .str .unit))),g47_0 x0⟩]) (fun n i h hi hh hr=>by
  rw [R47_9,if_pos (by simp only [decide_eq_true_eq];omega)]
  simp only [Int.toNat_natCast]
  exact ⟨by omega,by omega,by omega,by rw [i64_iff];omega,hr⟩) (1+(sk47 x0.2.2.2.2.2.2.2.2.2.2.1 x0.2.2.2.2.2.2.2.2.2.1).length+1) (bl (fG47 x0.2.2.2.2.2.1) 0 x0.2.2.2.2.1) (by omega) (by
  rw [R47_9,if_neg (by simp)]
  exact k3)
 have k1:=loop_build0 x0.2.2.2.2.1 (ByteArray.empty,(0:Int),(0:Int),(0:Int),()) (fG47 x0.2.2.2.2.2.1) l1 0 (fun n i h=>R47_3 n i h x0 [⟨.sl (.cons (.int .i64) (.cons .str (.cons .str .unit))),g47_0 x0⟩]) (fun n i h hi hh hr=>by
  have hy:=h4 _ (mem_getD _ i (ByteArray.empty,(0:Int),(0:Int),(0:Int),()) hi)
  have hp:P77 x0.2.2.2.2.1 [(i:Int)] x0.2.2.2.2.2.1:=⟨i,rfl,by omega,by omega,hy⟩
  have hg:g77_0 x0.2.2.2.2.1 [(i:Int)] x0.2.2.2.2.2.1=fit77 (x0.2.2.2.2.1.getD i (ByteArray.empty,(0:Int),(0:Int),(0:Int),())) x0.2.2.2.2.2.1:=rfl
  rw [R47_3,if_pos (by simp only [decide_eq_true_eq];omega),hg]
  simp only [Int.toNat_natCast]
  refine ⟨hp,?_⟩
  unfold fG47 at hr
  generalize x0.2.2.2.2.1.getD i (ByteArray.empty,(0:Int),(0:Int),(0:Int),())=y at hy hr ⊢
  by_cases hc:(!fit77 y x0.2.2.2.2.2.1)=true
  ·rw [if_pos hc] at hr ⊢
   exact ⟨by omega,by omega,by omega,by omega,hy.1,by omega,by rw [i64_iff];omega,hr⟩
  ·rw [if_neg hc] at hr ⊢
   rw [List.append_nil] at hr
   exact ⟨by rw [i64_iff];omega,hr⟩) (1+(sk47 x0.2.2.2.2.2.2.2.2.2.2.1 x0.2.2.2.2.2.2.2.2.2.1).length+1+(g79_0 x0.2.2.2.2.2.2.1 x0.2.2.2.2.2.2.2.1 x0.2.2.2.2.2.2.2.2.1).length+1) [] (by simp) (by
  rw [R47_3,if_neg (by simp)]
  exact ⟨h5,k2⟩)
 exact ⟨1+(sk47 x0.2.2.2.2.2.2.2.2.2.2.1 x0.2.2.2.2.2.2.2.2.2.1).length+1+(g79_0 x0.2.2.2.2.2.2.1 x0.2.2.2.2.2.2.2.1 x0.2.2.2.2.2.2.2.2.1).length+1+x0.2.2.2.2.1.length+1,by rw [R47];exact k1⟩
def S47:Am.Spec:={ sig:=sig47,pre:=fun ⟨x0,_⟩=>P47 x0,res:=fun ⟨x0,_⟩=>[⟨.sl (.cons (.int .i64) (.cons .str (.cons .str .unit))),g47_0 x0⟩] }
theorem con47:Contract Tryz.prog 47 S47:=contract_of Tryz.func47 hb47 (bl_ (by kernel_rfl)) (fun ⟨x0,_⟩ h hwf K q =>
 let ⟨_,hn⟩:=top47 x0 h
 (snd47 _).1 x0 _ hn K q)
end
noncomputable section
def ext133:Ext:=[(74,S74)]
theorem ext133Ok:ExtOk Tryz.prog ext133:=⟨⟨ca74,con74⟩,trivial⟩
def b133:Code:=bodyOf Tryz.f133
theorem hb133:Tryz.f133.body=some b133:=by kernel_rfl
def sig133:List AT:=[AT.v (.int .i64),AT.v (.int .i64),AT.v (.str)]
def tys133:List Ty:=[.str]
def kds133:List RK:=[]
def oks133:List AT:=owns sig133
def P133 (x0:Int) (x1:Int) (x2:ByteArray):Prop:=((ByteArray.size (g74_0 x0)+1≤9223372036854775807)∧((ByteArray.size (g74_0 x0++ByteArray.mk #[32])+ByteArray.size (g74_0 x1)≤9223372036854775807)∧((ByteArray.size (g74_0 x0++ByteArray.mk #[32]++g74_0 x1)+1≤9223372036854775807)∧((ByteArray.size (g74_0 x0++ByteArray.mk #[32]++g74_0 x1++ByteArray.mk #[32])+ByteArray.size x2≤9223372036854775807)∧True))))
def g133_0 (x0:Int) (x1:Int) (x2:ByteArray):ByteArray:=g74_0 x0++ByteArray.mk #[32]++g74_0 x1++ByteArray.mk #[32]++x2
theorem at133 (x0:Int) (x1:Int) (x2:ByteArray) (h:P133 x0 x1 x2) (K:Ctx) (q:Nat→Value):AtV Tryz.prog 133 (PostR kds133 oks133 [⟨.str,g133_0 x0 x1 x2⟩] [] [] q K) 16 K q [] [.code b133] (entE 0 0 sig133 (x0,x1,x2,())) (entL sig133 (x0,x1,x2,())):=by
 unfold P133 at h
 unfold g133_0
 obtain ⟨s0,h⟩:=h
 obtain ⟨s1,h⟩:=h
 obtain ⟨s2,h⟩:=h
 obtain ⟨s3,h⟩:=h
 exact AtV.ret Tryz.func133 tabOk ext133Ok mixed false [] tys133 [] (a1 trivial (a1 s0 (a1 trivial (a1 s1 (a1 s2 (a1 s3 trivial)))))) (by kernel_rfl)
def S133:Am.Spec:={ sig:=sig133,pre:=fun ⟨x0,x1,x2,_⟩=>P133 x0 x1 x2,res:=fun ⟨x0,x1,x2,_⟩=>[⟨.str,g133_0 x0 x1 x2⟩],kds:=kds133 }
theorem con133:Contract Tryz.prog 133 S133:=contract_of Tryz.func133 hb133 (bl_ (by kernel_rfl)) (fun ⟨x0,x1,x2,_⟩ h _ K q=>at133 x0 x1 x2 h K q)
end
noncomputable section
def ext132:Ext:=[]
theorem ext132Ok:ExtOk Tryz.prog ext132:=trivial
def b132:Code:=bodyOf Tryz.f132
theorem hb132:Tryz.f132.body=some b132:=by kernel_rfl
def sig132:List AT:=[AT.v (.str),AT.v (.int .i64)]
def tys132:List Ty:=[.int .i64]
def kds132:List RK:=[]
def oks132:List AT:=owns sig132
def E132_2 (v5:Int) (x0:ByteArray) (x1:Int):Env:=[(0,.a (.val (.string x0))),(1,.a (.val (.int .i64 x1))),(5,.a (.val (.int .i64 v5)))]
def L132_2 (v5:Int) (x0:ByteArray) (x1:Int):Heap:=[]
def E132_6 (v1:Int) (v6:Int) (x0:ByteArray) (v5:Int):Env:=[(0,.a (.val (.string x0))),(1,.a (.val (.int .i64 v1))),(5,.a (.val (.int .i64 v5))),(6,.a (.val (.int .i64 v6)))]
def L132_6 (v1:Int) (v6:Int) (x0:ByteArray) (v5:Int):Heap:=[]
mutual
def R132:Nat→ByteArray→Int→List Dyn→Prop
 | 0,_,_,_=>False
 | n+1,x0,x1,ds=>(R132_2 n (0) (x0) (x1) ds)
def R132_2:Nat→Int→ByteArray→Int→List Dyn→Prop
 | 0,_,_,_,_=>False
 | n+1,v5,x0,x1,ds=>(if (decide (v5<(↑(ByteArray.size x0):Int)))=true then ((0≤v5)∧(v5<(↑(ByteArray.size x0):Int))∧((InR .i64 (↑(UInt8.toNat (List.getD (Array.toList (ByteArray.data x0)) (Int.toNat v5) 0)):Int))∧(R132_6 n (IntKind.wrap IntKind.i64 (↑(BitVec.toNat (BitVec.ofInt 64 x1 ^^^ BitVec.ofInt 64 (IntKind.wrap IntKind.i64 ((↑(UInt8.toNat (List.getD (Array.toList (ByteArray.data x0)) (Int.toNat v5) 0)):Int)*256)))):Int)) (0) (x0) (v5) ds))) else (ds=[Dyn.mk (.int .i64) x1]))
def R132_6:Nat→Int→Int→ByteArray→Int→List Dyn→Prop
 | 0,_,_,_,_,_=>False
 | n+1,v1,v6,x0,v5,ds=>(if (decide (v6<8))=true then (if (decide (IntKind.wrap IntKind.i64 (v1*2)>65535))=true then ((InR .i64 (v6+1))∧(R132_6 n (IntKind.wrap IntKind.i64 (↑(BitVec.toNat (BitVec.ofInt 64 (IntKind.wrap IntKind.i64 (↑(BitVec.toNat (BitVec.ofInt 64 (IntKind.wrap IntKind.i64 (v1*2)) &&& BitVec.ofInt 64 65535)):Int)) ^^^ BitVec.ofInt 64 4129)):Int)) (v6+1) (x0) (v5) ds)) else ((InR .i64 (v6+1))∧(R132_6 n (IntKind.wrap IntKind.i64 (v1*2)) (v6+1) (x0) (v5) ds))) else ((InR .i64 (v5+1))∧(R132_2 n (v5+1) (x0) (v1) ds)))
end
theorem snd132:∀ n,(∀ (x0:ByteArray) (x1:Int) ds,R132 n x0 x1 ds→∀ K q,AtV Tryz.prog 132 (PostR kds132 oks132 ds [] [] q K) 32 K q [] [.code b132] (entE 0 0 sig132 (x0,x1,())) (entL sig132 (x0,x1,())))∧(∀ (v5:Int) (x0:ByteArray) (x1:Int) ds,R132_2 n v5 x0 x1 ds→∀ K q,AtV Tryz.prog 132 (PostR kds132 oks132 ds [] [] q K) 32 K q [] (cutAt b132 2) (E132_2 v5 x0 x1) (L132_2 v5 x0 x1))∧(∀ (v1:Int) (v6:Int) (x0:ByteArray) (v5:Int) ds,R132_6 n v1 v6 x0 v5 ds→∀ K q,AtV Tryz.prog 132 (PostR kds132 oks132 ds [] [] q K) 32 K q [] (cutAt b132 6) (E132_6 v1 v6 x0 v5) (L132_6 v1 v6 x0 v5)):=by
 intro n
 induction n with
 | zero=>exact ⟨fun _ _ _ h=>by simp only [R132] at h,fun _ _ _ _ h=>by simp only [R132_2] at h,fun _ _ _ _ _ h=>by simp only [R132_6] at h⟩
 | succ n ih =>
 obtain ⟨ih,ih2,ih6⟩:=ih
 refine ⟨?_,?_,?_⟩
 ·intro x0 x1 ds h K q
  rw [R132] at h
  exact AtV.go tabOk ext132Ok mixed false [] [] [0,1,5] [] [] trivial (ih2 _ _ _ _ h K q) (by kernel_rfl)
 ·intro v5 x0 x1 ds h K q
  rw [R132_2] at h
  by_cases b0:(decide (v5<(↑(ByteArray.size x0):Int)))=true
  ·rw [if_pos b0] at h
   obtain ⟨s0,s1,h⟩:=h
   obtain ⟨s2,h⟩:=h
   exact AtV.go tabOk ext132Ok mixed false [] [] [0,1,5,6] [] [true] (a1 b0 (a1 s0 (a1 s1 (a1 s2 (a1 ((by decide):(0:Int)≤(8:Int)) trivial))))) (ih6 _ _ _ _ _ h K q) (by kernel_rfl)
  ·rw [if_neg b0] at h
   replace b0:=bf_ b0
   subst h
   exact AtV.ret Tryz.func132 tabOk ext132Ok mixed false [] tys132 [false] (a1 b0 trivial) (by kernel_rfl)
 ·intro v1 v6 x0 v5 ds h K q
  rw [R132_6] at h
  by_cases b0:(decide (v6<8))=true
  ·rw [if_pos b0] at h
   by_cases b1:(decide (IntKind.wrap IntKind.i64 (v1*2)>65535))=true
   ·rw [if_pos b1] at h
    obtain ⟨s0,h⟩:=h
    exact AtV.go tabOk ext132Ok mixed false [] [] [0,1,5,6] [] [true,true] (a1 b0 (a1 ((by decide):(0:Int)≤(1:Int)) (a1 b1 (a1 s0 trivial)))) (ih6 _ _ _ _ _ h K q) (by kernel_rfl)
   ·rw [if_neg b1] at h
    replace b1:=bf_ b1
    obtain ⟨s0,h⟩:=h
    exact AtV.go tabOk ext132Ok mixed false [] [] [0,1,5,6] [] [true,false] (a1 b0 (a1 ((by decide):(0:Int)≤(1:Int)) (a1 b1 (a1 s0 trivial)))) (ih6 _ _ _ _ _ h K q) (by kernel_rfl)
  ·rw [if_neg b0] at h
   replace b0:=bf_ b0
   obtain ⟨s0,h⟩:=h
   exact AtV.go tabOk ext132Ok mixed false [] [] [0,1,5] [] [false] (a1 b0 (a1 s0 trivial)) (ih2 _ _ _ _ h K q) (by kernel_rfl)
def bit132 (s:Int):Int:=if (decide (IntKind.wrap IntKind.i64 (s*2)>65535))=true then (IntKind.wrap IntKind.i64 (↑(BitVec.toNat (BitVec.ofInt 64 (IntKind.wrap IntKind.i64 (↑(BitVec.toNat (BitVec.ofInt 64 (IntKind.wrap IntKind.i64 (s*2)) &&& BitVec.ofInt 64 65535)):Int)) ^^^ BitVec.ofInt 64 4129)):Int)) else (IntKind.wrap IntKind.i64 (s*2))
def bits132:Nat→Int→Int
 | 0,s=>s
 | k+1,s=>bits132 k (bit132 s)
def byte132 (s c:Int):Int:=bits132 8 (IntKind.wrap IntKind.i64 (↑(BitVec.toNat (BitVec.ofInt 64 s ^^^ BitVec.ofInt 64 (IntKind.wrap IntKind.i64 (c*256)))):Int))
def g132_0 (x0:ByteArray) (x1:Int):Int:=(bytesOf x0).foldl byte132 x1
def P132 (x0:ByteArray) (x1:Int):Prop:=True
theorem inner132 (x0:ByteArray) (hm:(bytesOf x0).length≤maxLen) (i n:Nat) (hi:i<(bytesOf x0).length) (ds:List Dyn):∀ (k j:Nat) (s:Int),j+k=8→R132_2 n ((i:Int)+1) x0 (bits132 k s) ds→R132_6 (n+1+k) s (j:Int) x0 (i:Int) ds:=by
 intro k
 induction k with
 | zero =>
  intro j s hj hr
  rw [R132_6,if_neg (by simp;omega)]
  exact ⟨inR_up hm hi,hr⟩
 | succ k ih =>
  intro j s hj hr
  have e2:(j:Int)+1=((j+1:Nat):Int):=by omega
  rw [show n+1+(k+1)=(n+1+k)+1 by omega,R132_6,if_pos (by simp;omega)]
  unfold bits132 bit132 at hr
  by_cases hc:(decide (IntKind.wrap IntKind.i64 (s*2)>65535))=true
  ·rw [if_pos hc] at hr ⊢
   rw [e2]
   exact ⟨by rw [i64_iff];omega,ih (j+1) _ (by omega) hr⟩
  ·rw [if_neg hc] at hr ⊢
   rw [e2]
   exact ⟨by rw [i64_iff];omega,ih (j+1) _ (by omega) hr⟩
theorem run132 (x0:ByteArray) (hm:x0.size≤maxLen):∀ (k i:Nat) (s:Int),i+k=x0.size→∃ n,R132_2 n (i:Int) x0 s [⟨.int .i64,((bytesOf x0).drop i).foldl byte132 s⟩]:=by
 intro k
 have hl:=bytesOf_length x0
 induction k with
 | zero =>
  intro i s hi
  refine ⟨1,?_⟩
  rw [R132_2,if_neg (by simp;omega),List.drop_of_length_le (by omega)]
  rfl
 | succ k ih =>
  intro i s hi
  have hlt:i<(bytesOf x0).length:=by omega
  have hcons:=drop_get (bytesOf x0) i 0 hlt
  obtain ⟨n,hn⟩:=ih (i+1) (byte132 s ((bytesOf x0).getD i 0)) (by omega)
  refine ⟨n+1+8+1,?_⟩
  have hb:=bytesOf_range x0 _ (mem_getD (bytesOf x0) i 0 hlt)
  rw [R132_2,if_pos (by simp;omega)]
  simp only [Int.toNat_natCast,byte_get]
  rw [hcons,List.foldl_cons]
  exact ⟨by omega,by omega,by rw [i64_iff];omega,inner132 x0 (by rw [hl];exact hm) i n hlt _ 8 0 _ (by omega) hn⟩
theorem top132 (x0:ByteArray) (x1:Int) (hm:x0.size≤maxLen):∃ n,R132 n x0 x1 [⟨.int .i64,g132_0 x0 x1⟩]:=by
 obtain ⟨n,hn⟩:=run132 x0 hm x0.size 0 x1 (by omega)
 refine ⟨n+1,?_⟩
 rw [R132]
 exact hn
def S132:Am.Spec:={ sig:=sig132,pre:=fun ⟨x0,x1,_⟩=>P132 x0 x1,res:=fun ⟨x0,x1,_⟩=>[⟨.int .i64,g132_0 x0 x1⟩] }
theorem con132:Contract Tryz.prog 132 S132:=contract_of Tryz.func132 hb132 (bl_ (by kernel_rfl)) (fun ⟨x0,x1,_⟩ h hwf K q =>
 let ⟨n,hn⟩:=top132 x0 x1 hwf.1
 (snd132 n).1 x0 x1 _ hn K q)
end
noncomputable section
def ext101:Ext:=[(133,S133),(132,S132)]
theorem ext101Ok:ExtOk Tryz.prog ext101:=⟨⟨ca133,con133⟩,⟨ca132,con132⟩,trivial⟩
def b101:Code:=bodyOf Tryz.f101
theorem hb101:Tryz.f101.body=some b101:=by kernel_rfl
def sig101:List AT:=[AT.v (.int .i64),AT.v (.int .i64),AT.v (.int .i64),AT.v (.str)]
def tys101:List Ty:=[.int .i64]
def kds101:List RK:=[]
def oks101:List AT:=owns sig101
def P101 (x0:Int) (x1:Int) (x2:Int) (x3:ByteArray):Prop:=((P133 x1 x2 x3)∧True)
def g101_0 (x0:Int) (x1:Int) (x2:Int) (x3:ByteArray):Int:=g132_0 (g133_0 x1 x2 x3) x0
theorem at101 (x0:Int) (x1:Int) (x2:Int) (x3:ByteArray) (h:P101 x0 x1 x2 x3) (K:Ctx) (q:Nat→Value):AtV Tryz.prog 101 (PostR kds101 oks101 [⟨.int .i64,g101_0 x0 x1 x2 x3⟩] [] [] q K) 15 K q [] [.code b101] (entE 0 0 sig101 (x0,x1,x2,x3,())) (entL sig101 (x0,x1,x2,x3,())):=by
 unfold P101 at h
 unfold g101_0
 obtain ⟨s0,h⟩:=h
 exact AtV.ret Tryz.func101 tabOk ext101Ok mixed false [] tys101 [] (a1 s0 (a1 trivial trivial)) (by kernel_rfl)
def S101:Am.Spec:={ sig:=sig101,pre:=fun ⟨x0,x1,x2,x3,_⟩=>P101 x0 x1 x2 x3,res:=fun ⟨x0,x1,x2,x3,_⟩=>[⟨.int .i64,g101_0 x0 x1 x2 x3⟩],kds:=kds101 }
theorem con101:Contract Tryz.prog 101 S101:=contract_of Tryz.func101 hb101 (bl_ (by kernel_rfl)) (fun ⟨x0,x1,x2,x3,_⟩ h _ K q=>at101 x0 x1 x2 x3 h K q)
end
noncomputable section
def ext80:Ext:=[(101,S101)]
theorem ext80Ok:ExtOk Tryz.prog ext80:=⟨⟨ca101,con101⟩,trivial⟩
def b80:Code:=bodyOf Tryz.f80
theorem hb80:Tryz.f80.body=some b80:=by kernel_rfl
def sig80:List AT:=[AT.v (.sl YA6)]
def tys80:List Ty:=[.int .i64]
def kds80:List RK:=[]
def oks80:List AT:=owns sig80
def E80_3 (v3:Int) (v4:Int) (x0:List TyB2):Env:=[(0,.a (.sl YA6 x0)),(3,.a (.val (.int .i64 v3))),(4,.a (.val (.int .i64 v4)))]
def L80_3 (v3:Int) (v4:Int) (x0:List TyB2):Heap:=[]
mutual
def R80:Nat→List TyB2→List Dyn→Prop
 | 0,_,_=>False
 | n+1,x0,ds=>(R80_3 n (65535) (0) (x0) ds)
def R80_3:Nat→Int→Int→List TyB2→List Dyn→Prop
 | 0,_,_,_,_=>False
 | n+1,v3,v4,x0,ds=>(if (decide (v4<(x0.length:Int)))=true then ((0≤v4)∧(v4<(x0.length:Int))∧((P101 v3 (List.getD x0 (Int.toNat v4) (0,0,ByteArray.empty,0,())).1 (List.getD x0 (Int.toNat v4) (0,0,ByteArray.empty,0,())).2.1 (List.getD x0 (Int.toNat v4) (0,0,ByteArray.empty,0,())).2.2.1)∧(if (g101_0 v3 (List.getD x0 (Int.toNat v4) (0,0,ByteArray.empty,0,())).1 (List.getD x0 (Int.toNat v4) (0,0,ByteArray.empty,0,())).2.1 (List.getD x0 (Int.toNat v4) (0,0,ByteArray.empty,0,())).2.2.1 != (List.getD x0 (Int.toNat v4) (0,0,ByteArray.empty,0,())).2.2.2.1)=true then (ds=[Dyn.mk (.int .i64) v4]) else ((InR .i64 (v4+1))∧(R80_3 n (g101_0 v3 (List.getD x0 (Int.toNat v4) (0,0,ByteArray.empty,0,())).1 (List.getD x0 (Int.toNat v4) (0,0,ByteArray.empty,0,())).2.1 (List.getD x0 (Int.toNat v4) (0,0,ByteArray.empty,0,())).2.2.1) (v4+1) (x0) ds))))) else (ds=[Dyn.mk (.int .i64) (-1)]))
end
theorem snd80:∀ n,(∀ (x0:List TyB2) ds,R80 n x0 ds→∀ K q,AtV Tryz.prog 80 (PostR kds80 oks80 ds [] [] q K) 29 K q [] [.code b80] (entE 0 0 sig80 (x0,())) (entL sig80 (x0,())))∧(∀ (v3:Int) (v4:Int) (x0:List TyB2) ds,R80_3 n v3 v4 x0 ds→∀ K q,AtV Tryz.prog 80 (PostR kds80 oks80 ds [] [] q K) 29 K q [] (cutAt b80 3) (E80_3 v3 v4 x0) (L80_3 v3 v4 x0)):=by
 intro n
 induction n with
 | zero=>exact ⟨fun _ _ h=>by simp only [R80] at h,fun _ _ _ _ h=>by simp only [R80_3] at h⟩
 | succ n ih =>
 obtain ⟨ih,ih3⟩:=ih
 refine ⟨?_,?_⟩
 ·intro x0 ds h K q
  rw [R80] at h
  exact AtV.go tabOk ext80Ok mixed false [] [] [0,3,4] [] [] trivial (ih3 _ _ _ _ h K q) (by kernel_rfl)
 ·intro v3 v4 x0 ds h K q
  rw [R80_3] at h
  by_cases b0:(decide (v4<(x0.length:Int)))=true
  ·rw [if_pos b0] at h
   obtain ⟨s0,s1,h⟩:=h
   obtain ⟨s2,h⟩:=h
   by_cases b1:(g101_0 v3 (List.getD x0 (Int.toNat v4) (0,0,ByteArray.empty,0,())).1 (List.getD x0 (Int.toNat v4) (0,0,ByteArray.empty,0,())).2.1 (List.getD x0 (Int.toNat v4) (0,0,ByteArray.empty,0,())).2.2.1 != (List.getD x0 (Int.toNat v4) (0,0,ByteArray.empty,0,())).2.2.2.1)=true
   ·rw [if_pos b1] at h
    subst h
    exact AtV.ret Tryz.func80 tabOk ext80Ok mixed false [] tys80 [true,true] (a1 b0 (a1 s0 (a1 s1 (a1 s2 (a1 b1 trivial))))) (by kernel_rfl)
   ·rw [if_neg b1] at h
    replace b1:=bf_ b1
    obtain ⟨s3,h⟩:=h
    exact AtV.go tabOk ext80Ok mixed false [] [] [0,3,4] [] [true,false] (a1 b0 (a1 s0 (a1 s1 (a1 s2 (a1 b1 (a1 s3 trivial)))))) (ih3 _ _ _ _ h K q) (by kernel_rfl)
  ·rw [if_neg b0] at h
   replace b0:=bf_ b0
   subst h
   exact AtV.ret Tryz.func80 tabOk ext80Ok mixed false [] tys80 [false] (a1 b0 trivial) (by kernel_rfl)
def br80 (c i:Int):List TyB2→Int
 | [] => -1
 | x :: r=>if (g101_0 c x.1 x.2.1 x.2.2.1 != x.2.2.2.1)=true then i else br80 (g101_0 c x.1 x.2.1 x.2.2.1) (i+1) r
def g80_0 (x0:List TyB2):Int:=br80 65535 0 x0
def P80 (x0:List TyB2):Prop:=∀ x∈x0,∀ c,P101 c x.1 x.2.1 x.2.2.1
theorem run80 (x0:List TyB2) (hm:x0.length≤maxLen) (hx:P80 x0):∀ (k i:Nat) (c:Int),i+k=x0.length→R80_3 (k+1) c (i:Int) x0 [⟨.int .i64,br80 c i (x0.drop i)⟩]:=by
 intro k
 induction k with
 | zero =>
  intro i c hi
  rw [R80_3,if_neg (by simp only [decide_eq_true_eq];omega),drop_end _ _ (by omega)]
  rfl
 | succ k ih =>
  intro i c hi
  have hlt:i<x0.length:=by omega
  have hp:=hx _ (mem_getD x0 i ((0:Int),(0:Int),ByteArray.empty,(0:Int),()) hlt) c
  have hd:=drop_get x0 i ((0:Int),(0:Int),ByteArray.empty,(0:Int),()) hlt
  rw [R80_3,if_pos (by simp only [decide_eq_true_eq];omega),hd]
  simp only [Int.toNat_natCast]
  refine ⟨by omega,by omega,hp,?_⟩
  generalize x0.getD i ((0:Int),(0:Int),ByteArray.empty,(0:Int),())=y
  simp only [br80]
  by_cases hc:(g101_0 c y.1 y.2.1 y.2.2.1 != y.2.2.2.1)=true
  ·rw [if_pos hc,if_pos hc]
  ·rw [if_neg hc,if_neg hc]
   exact ⟨inR_up hm hlt,by simpa using ih (i+1) _ (by omega)⟩
theorem top80 (x0:List TyB2) (hm:x0.length≤maxLen) (hx:P80 x0):R80 (x0.length+1+1) x0 [⟨.int .i64,g80_0 x0⟩]:=by
 rw [R80]
 simpa [g80_0] using run80 x0 hm hx x0.length 0 65535 (by omega)
def S80:Am.Spec:={ sig:=sig80,pre:=fun ⟨x0,_⟩=>P80 x0,res:=fun ⟨x0,_⟩=>[⟨.int .i64,g80_0 x0⟩] }
theorem con80:Contract Tryz.prog 80 S80:=contract_of Tryz.func80 hb80 (bl_ (by kernel_rfl)) (fun ⟨x0,_⟩ h hwf K q =>
 (snd80 _).1 x0 _ (top80 x0 hwf.1.1 h) K q)
end
noncomputable section
def ext48:Ext:=[(80,S80),(74,S74)]
theorem ext48Ok:ExtOk Tryz.prog ext48:=⟨⟨ca80,con80⟩,⟨ca74,con74⟩,trivial⟩
def b48:Code:=bodyOf Tryz.f48
theorem hb48:Tryz.f48.body=some b48:=by kernel_rfl
def sig48:List AT:=[AT.p YA0]
def tys48:List Ty:=[.sl YA8]
def kds48:List RK:=[]
def oks48:List AT:=owns sig48
def P48 (x0:TyA0):Prop:=((P80 x0.2.2.2.2.2.2.2.2.2.2.2.1)∧(if (decide (g80_0 x0.2.2.2.2.2.2.2.2.2.2.2.1<0))=true then True else ((0≤g80_0 x0.2.2.2.2.2.2.2.2.2.2.2.1)∧(g80_0 x0.2.2.2.2.2.2.2.2.2.2.2.1<(x0.2.2.2.2.2.2.2.2.2.2.2.1.length:Int))∧True)))
def g48_0 (x0:TyA0):List TyB3:=(if (decide (g80_0 x0.2.2.2.2.2.2.2.2.2.2.2.1<0))=true then [] else [(6,g74_0 (g80_0 x0.2.2.2.2.2.2.2.2.2.2.2.1),g74_0 (List.getD x0.2.2.2.2.2.2.2.2.2.2.2.1 (Int.toNat (g80_0 x0.2.2.2.2.2.2.2.2.2.2.2.1)) (0,0,ByteArray.empty,0,())).2.2.2.1,())])
theorem at48 (x0:TyA0) (h:P48 x0) (K:Ctx) (q:Nat→Value):AtV Tryz.prog 48 (PostR kds48 oks48 [⟨.sl YA8,g48_0 x0⟩] [] [] q K) 25 K q [] [.code b48] (entE 0 0 sig48 (x0,())) (entL sig48 (x0,())):=by
 unfold P48 at h
 unfold g48_0
 obtain ⟨s0,h⟩:=h
 by_cases b0:(decide (g80_0 x0.2.2.2.2.2.2.2.2.2.2.2.1<0))=true
 ·try simp only [if_pos b0] at h ⊢
  exact AtV.ret Tryz.func48 tabOk ext48Ok mixed false [] tys48 [true] (a1 s0 (a1 b0 trivial)) (by kernel_rfl)
 ·try simp only [if_neg b0] at h ⊢
  replace b0:=bf_ b0
  obtain ⟨s1,s2,h⟩:=h
  exact AtV.ret Tryz.func48 tabOk ext48Ok mixed false [] tys48 [false] (a1 s0 (a1 b0 (a1 trivial (a1 s1 (a1 s2 (a1 trivial trivial)))))) (by kernel_rfl)
def S48:Am.Spec:={ sig:=sig48,pre:=fun ⟨x0,_⟩=>P48 x0,res:=fun ⟨x0,_⟩=>[⟨.sl YA8,g48_0 x0⟩],kds:=kds48 }
theorem con48:Contract Tryz.prog 48 S48:=contract_of Tryz.func48 hb48 (bl_ (by kernel_rfl)) (fun ⟨x0,_⟩ h _ K q=>at48 x0 h K q)
end
noncomputable section
def ext15:Ext:=[(46,S46),(47,S47),(48,S48)]
theorem ext15Ok:ExtOk Tryz.prog ext15:=⟨⟨ca46,con46⟩,⟨ca47,con47⟩,⟨ca48,con48⟩,trivial⟩
def b15:Code:=bodyOf Tryz.f15
theorem hb15:Tryz.f15.body=some b15:=by kernel_rfl
def sig15:List AT:=[AT.p YA0]
def tys15:List Ty:=[.sl YA8]
def kds15:List RK:=[]
def oks15:List AT:=owns sig15
def P15 (x0:TyA0):Prop:=((P46 x0)∧(((0+List.length (g46_0 x0))*40≤140737488355328)∧((P47 x0)∧(((List.length ([]++g46_0 x0)+List.length (g47_0 x0))*40≤140737488355328)∧((P48 x0)∧(((List.length ([]++g46_0 x0++g47_0 x0)+List.length (g48_0 x0))*40≤140737488355328)∧True))))))
def g15_0 (x0:TyA0):List TyB3:=[]++g46_0 x0++g47_0 x0++g48_0 x0
theorem at15 (x0:TyA0) (h:P15 x0) (K:Ctx) (q:Nat→Value):AtV Tryz.prog 15 (PostR kds15 oks15 [⟨.sl YA8,g15_0 x0⟩] [] [] q K) 16 K q [] [.code b15] (entE 0 0 sig15 (x0,())) (entL sig15 (x0,())):=by
 unfold P15 at h
 unfold g15_0
 obtain ⟨s0,h⟩:=h
 obtain ⟨s1,h⟩:=h
 obtain ⟨s2,h⟩:=h
 obtain ⟨s3,h⟩:=h
 obtain ⟨s4,h⟩:=h
 obtain ⟨s5,h⟩:=h
 exact AtV.ret Tryz.func15 tabOk ext15Ok mixed false [] tys15 [] (a1 s0 (a1 s1 (a1 s2 (a1 s3 (a1 s4 (a1 s5 trivial)))))) (by kernel_rfl)
def S15:Am.Spec:={ sig:=sig15,pre:=fun ⟨x0,_⟩=>P15 x0,res:=fun ⟨x0,_⟩=>[⟨.sl YA8,g15_0 x0⟩],kds:=kds15 }
theorem con15:Contract Tryz.prog 15 S15:=contract_of Tryz.func15 hb15 (bl_ (by kernel_rfl)) (fun ⟨x0,_⟩ h _ K q=>at15 x0 h K q)
end
noncomputable section
def ext5:Ext:=[(14,S14),(15,S15)]
theorem ext5Ok:ExtOk Tryz.prog ext5:=⟨⟨ca14,con14⟩,⟨ca15,con15⟩,trivial⟩
def b5:Code:=bodyOf Tryz.f5
theorem hb5:Tryz.f5.body=some b5:=by kernel_rfl
def sig5:List AT:=[AT.v YA0]
def tys5:List Ty:=[.bool]
def kds5:List RK:=[]
def oks5:List AT:=owns sig5
def P5 (x0:TyA0):Prop:=(if (g14_0 x0)=true then ((P15 x0)∧True) else True)
def g5_0 (x0:TyA0):Bool:=(if (g14_0 x0)=true then (↑(List.length (g15_0 x0)):Int)==0 else false)
theorem at5 (x0:TyA0) (h:P5 x0) (K:Ctx) (q:Nat→Value):AtV Tryz.prog 5 (PostR kds5 oks5 [⟨.bool,g5_0 x0⟩] [] [] q K) 9 K q [] [.code b5] (entE 0 0 sig5 (x0,())) (entL sig5 (x0,())):=by
 unfold P5 at h
 unfold g5_0
 by_cases b0:(g14_0 x0)=true
 ·try simp only [if_pos b0] at h ⊢
  obtain ⟨s0,h⟩:=h
  exact AtV.ret Tryz.func5 tabOk ext5Ok mixed false [] tys5 [true] (a1 trivial (a1 b0 (a1 s0 trivial))) (by kernel_rfl)
 ·try simp only [if_neg b0] at h ⊢
  replace b0:=bf_ b0
  exact AtV.ret Tryz.func5 tabOk ext5Ok mixed false [] tys5 [false] (a1 trivial (a1 b0 trivial)) (by kernel_rfl)
def S5:Am.Spec:={ sig:=sig5,pre:=fun ⟨x0,_⟩=>P5 x0,res:=fun ⟨x0,_⟩=>[⟨.bool,g5_0 x0⟩],kds:=kds5 }
theorem con5:Contract Tryz.prog 5 S5:=contract_of Tryz.func5 hb5 (bl_ (by kernel_rfl)) (fun ⟨x0,_⟩ h _ K q=>at5 x0 h K q)
end
noncomputable section
def ext134:Ext:=[]
theorem ext134Ok:ExtOk Tryz.prog ext134:=trivial
def b134:Code:=bodyOf Tryz.f134
theorem hb134:Tryz.f134.body=some b134:=by kernel_rfl
def sig134:List AT:=[AT.v (.int .i64),AT.v (.int .i64),AT.v (.int .i64)]
def tys134:List Ty:=[.bool]
def kds134:List RK:=[]
def oks134:List AT:=owns sig134
def P134 (x0:Int) (x1:Int) (x2:Int):Prop:=True
def g134_0 (x0:Int) (x1:Int) (x2:Int):Bool:=(if (decide (x0≥x1))=true then decide (x0≤x2) else false)
theorem at134 (x0:Int) (x1:Int) (x2:Int) (h:P134 x0 x1 x2) (K:Ctx) (q:Nat→Value):AtV Tryz.prog 134 (PostR kds134 oks134 [⟨.bool,g134_0 x0 x1 x2⟩] [] [] q K) 15 K q [] [.code b134] (entE 0 0 sig134 (x0,x1,x2,())) (entL sig134 (x0,x1,x2,())):=by
 unfold P134 at h
 unfold g134_0
 by_cases b0:(decide (x0≥x1))=true
 ·try simp only [if_pos b0] at h ⊢
  exact AtV.ret Tryz.func134 tabOk ext134Ok mixed false [] tys134 [true] (a1 b0 trivial) (by kernel_rfl)
 ·try simp only [if_neg b0] at h ⊢
  replace b0:=bf_ b0
  exact AtV.ret Tryz.func134 tabOk ext134Ok mixed false [] tys134 [false] (a1 b0 trivial) (by kernel_rfl)
def S134:Am.Spec:={ sig:=sig134,pre:=fun ⟨x0,x1,x2,_⟩=>P134 x0 x1 x2,res:=fun ⟨x0,x1,x2,_⟩=>[⟨.bool,g134_0 x0 x1 x2⟩],kds:=kds134 }
theorem con134:Contract Tryz.prog 134 S134:=contract_of Tryz.func134 hb134 (bl_ (by kernel_rfl)) (fun ⟨x0,x1,x2,_⟩ h _ K q=>at134 x0 x1 x2 h K q)
end
noncomputable section
def ext113:Ext:=[]
theorem ext113Ok:ExtOk Tryz.prog ext113:=trivial
def b113:Code:=bodyOf Tryz.f113
theorem hb113:Tryz.f113.body=some b113:=by kernel_rfl
def sig113:List AT:=[AT.v YA2]
def tys113:List Ty:=[.int .i64]
def kds113:List RK:=[]
def oks113:List AT:=owns sig113
def E113_3 (v3:Int) (v9:Int) (x0:List TyB4×Int×Int×Unit):Env:=[(3,.a (.val (.int .i64 v3))),(7,.a (.sl YA9 x0.1)),(8,.a (.val (.int .i64 (x0.1.length:Int)))),(9,.a (.val (.int .i64 v9)))]
def L113_3 (v3:Int) (v9:Int) (x0:List TyB4×Int×Int×Unit):Heap:=[]
mutual
def R113:Nat→List TyB4×Int×Int×Unit→List Dyn→Prop
 | 0,_,_=>False
 | n+1,x0,ds=>(R113_3 n (0) (0) (x0) ds)
def R113_3:Nat→Int→Int→List TyB4×Int×Int×Unit→List Dyn→Prop
 | 0,_,_,_,_=>False
 | n+1,v3,v9,x0,ds=>(if (decide (v9<(x0.1.length:Int)))=true then ((0≤v9)∧(v9<(x0.1.length:Int))∧((InR .i64 (v3+(List.getD x0.1 (Int.toNat v9) (0,0,())).1))∧((InR .i64 (v9+1))∧(R113_3 n (v3+(List.getD x0.1 (Int.toNat v9) (0,0,())).1) (v9+1) (x0) ds)))) else (ds=[Dyn.mk (.int .i64) v3]))
end
theorem snd113:∀ n,(∀ (x0:List TyB4×Int×Int×Unit) ds,R113 n x0 ds→∀ K q,AtV Tryz.prog 113 (PostR kds113 oks113 ds [] [] q K) 19 K q [] [.code b113] (entE 0 0 sig113 (x0,())) (entL sig113 (x0,())))∧(∀ (v3:Int) (v9:Int) (x0:List TyB4×Int×Int×Unit) ds,R113_3 n v3 v9 x0 ds→∀ K q,AtV Tryz.prog 113 (PostR kds113 oks113 ds [] [] q K) 19 K q [] (cutAt b113 3) (E113_3 v3 v9 x0) (L113_3 v3 v9 x0)):=by
 intro n
 induction n with
 | zero=>exact ⟨fun _ _ h=>by simp only [R113] at h,fun _ _ _ _ h=>by simp only [R113_3] at h⟩
 | succ n ih =>
 obtain ⟨ih,ih3⟩:=ih
 refine ⟨?_,?_⟩
 ·intro x0 ds h K q
  rw [R113] at h
  exact AtV.go tabOk ext113Ok mixed false [] [] [3,7,8,9] [] [] trivial (ih3 _ _ _ _ h K q) (by kernel_rfl)
 ·intro v3 v9 x0 ds h K q
  rw [R113_3] at h
  by_cases b0:(decide (v9<(x0.1.length:Int)))=true
  ·rw [if_pos b0] at h
   obtain ⟨s0,s1,h⟩:=h
   obtain ⟨s2,h⟩:=h
   obtain ⟨s3,h⟩:=h
   exact AtV.go tabOk ext113Ok mixed false [] [] [3,7,8,9] [] [true] (a1 b0 (a1 s0 (a1 s1 (a1 s2 (a1 s3 trivial))))) (ih3 _ _ _ _ h K q) (by kernel_rfl)
  ·rw [if_neg b0] at h
   replace b0:=bf_ b0
   subst h
   exact AtV.ret Tryz.func113 tabOk ext113Ok mixed false [] tys113 [false] (a1 b0 trivial) (by kernel_rfl)
def sum113 (xs:List TyB4):Int:=xs.foldr (fun x n=>x.1+n) 0
def g113_0 (x0:List TyB4×Int×Int×Unit):Int:=sum113 x0.1
def P113 (x0:List TyB4×Int×Int×Unit):Prop:=x0.1.length≤1000000∧∀ x∈x0.1,0≤x.1∧x.1≤1000000000
theorem run113 (x0:List TyB4×Int×Int×Unit) (hl:x0.1.length≤1000000) (hx:∀ x∈x0.1,0≤x.1∧x.1≤1000000000):∀ (k i:Nat) (v:Int),i+k=x0.1.length→0≤v→v≤1000000000*(i:Int) →
  R113_3 (k+1) v (i:Int) x0 [⟨.int .i64,v+sum113 (x0.1.drop i)⟩]:=by
 intro k
 induction k with
 | zero =>
  intro i v hi h0 h1
  rw [R113_3,if_neg (by simp only [decide_eq_true_eq];omega),drop_end _ _ (by omega)]
  simp [sum113]
 | succ k ih =>
  intro i v hi h0 h1
  have hlt:i<x0.1.length:=by omega
  have hm:=hx _ (mem_getD x0.1 i ((0:Int),(0:Int),()) hlt)
  have h:=ih (i+1) (v+(x0.1.getD i ((0:Int),(0:Int),())).1) (by omega) (by omega) (by omega)
  rw [R113_3,if_pos (by simp only [decide_eq_true_eq];omega)]
  simp only [Int.toNat_natCast]
  refine ⟨by omega,by omega,by rw [i64_iff];omega,by rw [i64_iff];omega,?_⟩
  rw [drop_get x0.1 i ((0:Int),(0:Int),()) hlt]
  have e:∀ (y:Int×Int×Unit) l,v+sum113 (y :: l)=v+y.1+sum113 l:=fun y l=>by
   show v+(y.1+sum113 l)=_;omega
  rw [e]
  exact h
theorem top113 (x0:List TyB4×Int×Int×Unit) (h:P113 x0):R113 (x0.1.length+1+1) x0 [⟨.int .i64,g113_0 x0⟩]:=by
 rw [R113]
 have:=run113 x0 h.1 h.2 x0.1.length 0 0 (by omega) (by omega) (by omega)
 simpa [g113_0] using this
def S113:Am.Spec:={ sig:=sig113,pre:=fun ⟨x0,_⟩=>P113 x0,res:=fun ⟨x0,_⟩=>[⟨.int .i64,g113_0 x0⟩] }
theorem con113:Contract Tryz.prog 113 S113:=contract_of Tryz.func113 hb113 (bl_ (by kernel_rfl)) (fun ⟨x0,_⟩ h hwf K q =>
 (snd113 _).1 x0 _ (top113 x0 h) K q)
theorem sum113_le (xs:List TyB4) (h:∀ x∈xs,0≤x.1∧x.1≤3000000):0≤sum113 xs∧sum113 xs≤3000000*(xs.length:Int):=by
 induction xs with
 | nil=>exact ⟨Int.le_refl _,Int.le_refl _⟩
 | cons x r ih =>
  obtain ⟨i1,i2⟩:=ih fun y hy=>h y (List.mem_cons_of_mem _ hy)
  obtain ⟨x1,x2⟩:=h x (List.mem_cons_self ..)
  show 0≤x.1+sum113 r∧x.1+sum113 r≤_
  simp only [List.length_cons]
  omega
end
noncomputable section
def ext102:Ext:=[(134,S134),(113,S113)]
theorem ext102Ok:ExtOk Tryz.prog ext102:=⟨⟨ca134,con134⟩,⟨ca113,con113⟩,trivial⟩
def b102:Code:=bodyOf Tryz.f102
theorem hb102:Tryz.f102.body=some b102:=by kernel_rfl
def sig102:List AT:=[AT.v YA2]
def tys102:List Ty:=[.bool]
def kds102:List RK:=[]
def oks102:List AT:=owns sig102
def E102_4 (v18:Int) (x0:List TyB4×Int×Int×Unit):Env:=[(1,.a (.optr 0 0 [])),(16,.a (.sl YA9 x0.1)),(17,.a (.val (.int .i64 (x0.1.length:Int)))),(18,.a (.val (.int .i64 v18)))]
def L102_4 (v18:Int) (x0:List TyB4×Int×Int×Unit):Heap:=[Option.some (Arr.mk YA2 [x0] true Option.none (Option.some false))]
mutual
def R102:Nat→List TyB4×Int×Int×Unit→List Dyn→Prop
 | 0,_,_=>False
 | n+1,x0,ds=>(if (decide ((x0.1.length:Int)<1))=true then (ds=[Dyn.mk .bool false]) else (if (decide ((x0.1.length:Int)>12))=true then (ds=[Dyn.mk .bool false]) else (R102_4 n (0) (x0) ds)))
def R102_4:Nat→Int→List TyB4×Int×Int×Unit→List Dyn→Prop
 | 0,_,_,_=>False
 | n+1,v18,x0,ds=>(if (decide (v18<(x0.1.length:Int)))=true then ((0≤v18)∧(v18<(x0.1.length:Int))∧(if (!g134_0 (List.getD x0.1 (Int.toNat v18) (0,0,())).1 1 3000000)=true then (ds=[Dyn.mk .bool false]) else (if (!g134_0 (List.getD x0.1 (Int.toNat v18) (0,0,())).2.1 0 900)=true then (ds=[Dyn.mk .bool false]) else ((InR .i64 (v18+1))∧(R102_4 n (v18+1) (x0) ds))))) else ((P113 x0)∧(if (decide (g113_0 x0≤3000000))=true then ((P113 x0)∧(if (g134_0 x0.2.1 0 (g113_0 x0))=true then ((P113 x0)∧(ds=[Dyn.mk .bool (g134_0 x0.2.2.1 x0.2.1 (g113_0 x0))])) else (ds=[Dyn.mk .bool false]))) else (ds=[Dyn.mk .bool false]))))
end
theorem snd102:∀ n,(∀ (x0:List TyB4×Int×Int×Unit) ds,R102 n x0 ds→∀ K q,AtV Tryz.prog 102 (PostR kds102 oks102 ds [] [] q K) 52 K q [] [.code b102] (entE 0 0 sig102 (x0,())) (entL sig102 (x0,())))∧(∀ (v18:Int) (x0:List TyB4×Int×Int×Unit) ds,R102_4 n v18 x0 ds→∀ K q,AtV Tryz.prog 102 (PostR kds102 oks102 ds [] [] q K) 52 K q [] (cutAt b102 4) (E102_4 v18 x0) (L102_4 v18 x0)):=by
 intro n
 induction n with
 | zero=>exact ⟨fun _ _ h=>by simp only [R102] at h,fun _ _ _ h=>by simp only [R102_4] at h⟩
 | succ n ih =>
 obtain ⟨ih,ih4⟩:=ih
 refine ⟨?_,?_⟩
 ·intro x0 ds h K q
  rw [R102] at h
  by_cases b0:(decide ((x0.1.length:Int)<1))=true
  ·rw [if_pos b0] at h
   subst h
   exact AtV.ret Tryz.func102 tabOk ext102Ok mixed false [] tys102 [true,true] (a1 b0 (a1 (rfl:true=true) trivial)) (by kernel_rfl)
  ·rw [if_neg b0] at h
   replace b0:=bf_ b0
   by_cases b1:(decide ((x0.1.length:Int)>12))=true
   ·rw [if_pos b1] at h
    subst h
    exact AtV.ret Tryz.func102 tabOk ext102Ok mixed false [] tys102 [false,true] (a1 b0 (a1 b1 trivial)) (by kernel_rfl)
   ·rw [if_neg b1] at h
    replace b1:=bf_ b1
    exact AtV.go tabOk ext102Ok mixed false [] [] [1,16,17,18] [0] [false,false] (a1 b0 (a1 b1 trivial)) (ih4 _ _ _ h K q) (by kernel_rfl)
 ·intro v18 x0 ds h K q
  rw [R102_4] at h
  by_cases b0:(decide (v18<(x0.1.length:Int)))=true
  ·rw [if_pos b0] at h
   obtain ⟨s0,s1,h⟩:=h
   by_cases b1:(!g134_0 (List.getD x0.1 (Int.toNat v18) (0,0,())).1 1 3000000)=true
   ·rw [if_pos b1] at h
    subst h
    exact AtV.ret Tryz.func102 tabOk ext102Ok mixed false [] tys102 [true,true,true] (a1 b0 (a1 s0 (a1 s1 (a1 trivial (a1 b1 (a1 (rfl:true=true) trivial)))))) (by kernel_rfl)
   ·rw [if_neg b1] at h
    replace b1:=bf_ b1
    by_cases b2:(!g134_0 (List.getD x0.1 (Int.toNat v18) (0,0,())).2.1 0 900)=true
    ·rw [if_pos b2] at h
     subst h
     exact AtV.ret Tryz.func102 tabOk ext102Ok mixed false [] tys102 [true,false,true] (a1 b0 (a1 s0 (a1 s1 (a1 trivial (a1 b1 (a1 trivial (a1 b2 trivial))))))) (by kernel_rfl)
    ·rw [if_neg b2] at h
     replace b2:=bf_ b2
     obtain ⟨s2,h⟩:=h
     exact AtV.go tabOk ext102Ok mixed false [] [] [1,16,17,18] [0] [true,false,false] (a1 b0 (a1 s0 (a1 s1 (a1 trivial (a1 b1 (a1 trivial (a1 b2 (a1 s2 trivial)))))))) (ih4 _ _ _ h K q) (by kernel_rfl)
  ·rw [if_neg b0] at h
   replace b0:=bf_ b0
   obtain ⟨s0,h⟩:=h
   by_cases b1:(decide (g113_0 x0≤3000000))=true
   ·rw [if_pos b1] at h
    obtain ⟨s1,h⟩:=h
    by_cases b2:(g134_0 x0.2.1 0 (g113_0 x0))=true
    ·rw [if_pos b2] at h
     obtain ⟨s2,h⟩:=h
     subst h
     exact AtV.ret Tryz.func102 tabOk ext102Ok mixed false [] tys102 [false,true,true] (a1 b0 (a1 s0 (a1 b1 (a1 s1 (a1 trivial (a1 b2 (a1 s2 (a1 trivial trivial)))))))) (by kernel_rfl)
    ·rw [if_neg b2] at h
     replace b2:=bf_ b2
     subst h
     exact AtV.ret Tryz.func102 tabOk ext102Ok mixed false [] tys102 [false,true,false] (a1 b0 (a1 s0 (a1 b1 (a1 s1 (a1 trivial (a1 b2 trivial)))))) (by kernel_rfl)
   ·rw [if_neg b1] at h
    replace b1:=bf_ b1
    subst h
    exact AtV.ret Tryz.func102 tabOk ext102Ok mixed false [] tys102 [false,false,false] (a1 b0 (a1 s0 (a1 b1 (a1 (rfl:false=false) trivial)))) (by kernel_rfl)
def ok102 (x:TyB4):Bool:=g134_0 x.1 1 3000000&&g134_0 x.2.1 0 900
def fine102 (x0:(List TyB4×Int×Int×Unit)):Bool:=if decide (g113_0 x0≤3000000)=true then (if g134_0 x0.2.1 0 (g113_0 x0)=true then g134_0 x0.2.2.1 x0.2.1 (g113_0 x0) else false) else false
def g102_0 (x0:(List TyB4×Int×Int×Unit)):Bool:=x0.1.all ok102&&(decide (1≤x0.1.length)&&decide (x0.1.length≤12))&&fine102 x0
def P102 (x0:(List TyB4×Int×Int×Unit)):Prop:=True
theorem in102 {x a b:Int}:g134_0 x a b=true↔a≤x∧x≤b:=by
 unfold g134_0
 by_cases c1:x≥a
 ·by_cases c2:x≤b
  ·simp [c1,c2]
  ·simp [c1,c2]
 ·have:¬ a≤x:=c1
  simp [c1,this]
theorem lenp102 {x0:(List TyB4×Int×Int×Unit)} (h:x0.1.all ok102=true) (hl:x0.1.length≤12):P113 x0∧0≤g113_0 x0∧g113_0 x0≤36000000:=by
 have hx:∀ x∈x0.1,0≤x.1∧x.1≤3000000:=fun x hx=>by
  have:=List.all_eq_true.1 h x hx
  unfold ok102 at this
  rw [Bool.and_eq_true] at this
  have:=in102.1 this.1
  omega
 obtain ⟨s1,s2⟩:=sum113_le x0.1 hx
 refine ⟨⟨by omega,fun x h=>by have:=hx x h;omega⟩,s1,?_⟩
 show sum113 x0.1≤_
 omega
theorem run102 (x0:(List TyB4×Int×Int×Unit)) (hm:x0.1.length≤maxLen) (yes:List Dyn) (hend:∀ n,x0.1.all ok102=true→R102_4 (n+1) (x0.1.length:Int) x0 yes):∀ (k i:Nat) (B:Bool),i+k=x0.1.length→(x0.1.drop i).all ok102=B→(∀ j,j<i→ok102 (x0.1.getD j ((0:Int),(0:Int),()))=true) →
  R102_4 (k+1) (i:Int) x0 (if B=true then yes else [⟨.bool,false⟩]):=by
 intro k
 induction k with
 | zero =>
  intro i B hi hB hp
  have:i=x0.1.length:=by omega
  subst this
  rw [drop_end _ _ (by omega)] at hB
  subst hB
  refine hend 0 (List.all_eq_true.2 fun x hx => ?_)
  obtain ⟨j,hj,rfl⟩:=List.getElem_of_mem hx
  have:=hp j (by omega)
  rwa [getD_lt _ _ _ hj] at this
 | succ k ih =>
  intro i B hi hB hp
  have hlt:i<x0.1.length:=by omega
  have hu:=inR_up hm hlt
  rw [R102_4,if_pos (by simp only [decide_eq_true_eq];omega)]
  rw [drop_get x0.1 i ((0:Int),(0:Int),()) hlt,List.all_cons] at hB
  simp only [Int.toNat_natCast]
  refine ⟨by omega,by omega,?_⟩
  by_cases h1:ok102 (x0.1.getD i ((0:Int),(0:Int),()))=true
  case neg =>
   have h1:=bf_ h1
   rw [h1,Bool.false_and] at hB
   subst hB
   by_cases c1:g134_0 (x0.1.getD i ((0:Int),(0:Int),())).1 1 3000000=true
   ·rw [if_neg (by rw [c1];simp)]
    have c2:g134_0 (x0.1.getD i ((0:Int),(0:Int),())).2.1 0 900=false:=by
     unfold ok102 at h1;rw [c1] at h1;simpa using h1
    rw [if_pos (by rw [c2];rfl)] <;> rfl
   ·rw [if_pos (by rw [bf_ c1];rfl)] <;> rfl
  case pos =>
   have hb:=h1
   rw [h1,Bool.true_and] at hB
   unfold ok102 at hb
   rw [Bool.and_eq_true] at hb
   rw [if_neg (by rw [hb.1];simp)]
   have e1:(((i+1:Nat)):Int)=(i:Int)+1:=by omega
   have hnext:=ih (i+1) B (by omega) hB (fun j hj=>by
    rcases Nat.lt_or_ge j i with h | h
    ·exact hp j h
    ·have:j=i:=by omega
     subst this;exact h1)
   rw [e1] at hnext
   rw [if_neg (by rw [hb.2];simp)]
   exact ⟨hu,hnext⟩
theorem end102 (x0:(List TyB4×Int×Int×Unit)) (d1:1≤x0.1.length) (d2:x0.1.length≤12) (n:Nat) (h:x0.1.all ok102=true):R102_4 (n+1) (x0.1.length:Int) x0 [⟨.bool,(decide (1≤x0.1.length)&&decide (x0.1.length≤12))&&fine102 x0⟩]:=by
 have hp:=(lenp102 h d2).1
 rw [R102_4,if_neg (by simp),decide_eq_true d1,decide_eq_true d2]
 refine ⟨hp,?_⟩
 unfold fine102
 split
 ·refine ⟨hp,?_⟩
  split
  ·exact ⟨hp,rfl⟩
  ·rfl
 ·rfl
theorem top102 (x0:(List TyB4×Int×Int×Unit)) (hm:x0.1.length≤maxLen):∃ n,R102 n x0 [⟨.bool,g102_0 x0⟩]:=by
 refine ⟨x0.1.length+1+1,?_⟩
 rw [R102]
 unfold g102_0
 by_cases c1:(x0.1.length:Int)<1
 ·rw [if_pos (decide_eq_true c1)]
  have:¬ 1≤x0.1.length:=by omega
  rw [decide_eq_false this,Bool.false_and,Bool.and_false,Bool.false_and]
 rw [if_neg (by simpa using c1)]
 by_cases c2:(x0.1.length:Int)>12
 ·rw [if_pos (decide_eq_true c2)]
  have:¬ x0.1.length≤12:=by omega
  rw [decide_eq_false this,Bool.and_false,Bool.and_false,Bool.false_and]
 rw [if_neg (by simpa using c2)]
 have key:=run102 x0 hm _ (end102 x0 (by omega) (by omega)) x0.1.length 0 _ (by omega) rfl (fun j hj=>by omega)
 rw [List.drop_zero] at key
 cases h:x0.1.all ok102 with
 | true=>rw [if_pos h] at key;rw [Bool.true_and];exact key
 | false=>rw [if_neg (by rw [h];simp)] at key;exact key
def S102:Am.Spec:={ sig:=sig102,pre:=fun ⟨x0,_⟩=>P102 x0,res:=fun ⟨x0,_⟩=>[⟨.bool,g102_0 x0⟩] }
theorem con102:Contract Tryz.prog 102 S102:=contract_of Tryz.func102 hb102 (bl_ (by kernel_rfl)) (fun ⟨x0,_⟩ h hwf K q =>
 let ⟨n,hn⟩:=top102 x0 hwf.1.1.1
 (snd102 n).1 x0 _ hn K q)
end
noncomputable section
def ext103:Ext:=[(134,S134)]
theorem ext103Ok:ExtOk Tryz.prog ext103:=⟨⟨ca134,con134⟩,trivial⟩
def b103:Code:=bodyOf Tryz.f103
theorem hb103:Tryz.f103.body=some b103:=by kernel_rfl
def sig103:List AT:=[AT.v (.int .i64)]
def tys103:List Ty:=[.bool]
def kds103:List RK:=[]
def oks103:List AT:=owns sig103
def P103 (x0:Int):Prop:=True
def g103_0 (x0:Int):Bool:=g134_0 x0 0 3000000
theorem at103 (x0:Int) (h:P103 x0) (K:Ctx) (q:Nat→Value):AtV Tryz.prog 103 (PostR kds103 oks103 [⟨.bool,g103_0 x0⟩] [] [] q K) 5 K q [] [.code b103] (entE 0 0 sig103 (x0,())) (entL sig103 (x0,())):=by
 unfold P103 at h
 unfold g103_0
 exact AtV.ret Tryz.func103 tabOk ext103Ok mixed false [] tys103 [] (a1 trivial trivial) (by kernel_rfl)
def S103:Am.Spec:={ sig:=sig103,pre:=fun ⟨x0,_⟩=>P103 x0,res:=fun ⟨x0,_⟩=>[⟨.bool,g103_0 x0⟩],kds:=kds103 }
theorem con103:Contract Tryz.prog 103 S103:=contract_of Tryz.func103 hb103 (bl_ (by kernel_rfl)) (fun ⟨x0,_⟩ h _ K q=>at103 x0 h K q)
end
noncomputable section
def ext104:Ext:=[(134,S134)]
theorem ext104Ok:ExtOk Tryz.prog ext104:=⟨⟨ca134,con134⟩,trivial⟩
def b104:Code:=bodyOf Tryz.f104
theorem hb104:Tryz.f104.body=some b104:=by kernel_rfl
def sig104:List AT:=[AT.v YA9]
def tys104:List Ty:=[.bool]
def kds104:List RK:=[]
def oks104:List AT:=owns sig104
def P104 (x0:Int×Int×Unit):Prop:=True
def g104_0 (x0:Int×Int×Unit):Bool:=(if (g134_0 x0.1 0 100)=true then g134_0 x0.2.1 1 10000 else false)
theorem at104 (x0:Int×Int×Unit) (h:P104 x0) (K:Ctx) (q:Nat→Value):AtV Tryz.prog 104 (PostR kds104 oks104 [⟨.bool,g104_0 x0⟩] [] [] q K) 11 K q [] [.code b104] (entE 0 0 sig104 (x0,())) (entL sig104 (x0,())):=by
 unfold P104 at h
 unfold g104_0
 by_cases b0:(g134_0 x0.1 0 100)=true
 ·try simp only [if_pos b0] at h ⊢
  exact AtV.ret Tryz.func104 tabOk ext104Ok mixed false [] tys104 [true] (a1 trivial (a1 b0 (a1 trivial trivial))) (by kernel_rfl)
 ·try simp only [if_neg b0] at h ⊢
  replace b0:=bf_ b0
  exact AtV.ret Tryz.func104 tabOk ext104Ok mixed false [] tys104 [false] (a1 trivial (a1 b0 trivial)) (by kernel_rfl)
def S104:Am.Spec:={ sig:=sig104,pre:=fun ⟨x0,_⟩=>P104 x0,res:=fun ⟨x0,_⟩=>[⟨.bool,g104_0 x0⟩],kds:=kds104 }
theorem con104:Contract Tryz.prog 104 S104:=contract_of Tryz.func104 hb104 (bl_ (by kernel_rfl)) (fun ⟨x0,_⟩ h _ K q=>at104 x0 h K q)
end
noncomputable section
def ext105:Ext:=[(134,S134),(103,S103)]
theorem ext105Ok:ExtOk Tryz.prog ext105:=⟨⟨ca134,con134⟩,⟨ca103,con103⟩,trivial⟩
def b105:Code:=bodyOf Tryz.f105
theorem hb105:Tryz.f105.body=some b105:=by kernel_rfl
def sig105:List AT:=[AT.v YA4]
def tys105:List Ty:=[.bool]
def kds105:List RK:=[]
def oks105:List AT:=owns sig105
def P105 (x0:Int×Int×Int×Int×Unit):Prop:=True
def g105_0 (x0:Int×Int×Int×Int×Unit):Bool:=(if (g134_0 x0.1 1 2000)=true then (if (g134_0 x0.2.1 100 15000)=true then (if (g134_0 x0.2.2.1 100 x0.2.1)=true then g103_0 x0.2.2.2.1 else false) else false) else false)
theorem at105 (x0:Int×Int×Int×Int×Unit) (h:P105 x0) (K:Ctx) (q:Nat→Value):AtV Tryz.prog 105 (PostR kds105 oks105 [⟨.bool,g105_0 x0⟩] [] [] q K) 23 K q [] [.code b105] (entE 0 0 sig105 (x0,())) (entL sig105 (x0,())):=by
 unfold P105 at h
 unfold g105_0
 by_cases b0:(g134_0 x0.1 1 2000)=true
 ·try simp only [if_pos b0] at h ⊢
  by_cases b1:(g134_0 x0.2.1 100 15000)=true
  ·try simp only [if_pos b1] at h ⊢
   by_cases b2:(g134_0 x0.2.2.1 100 x0.2.1)=true
   ·try simp only [if_pos b2] at h ⊢
    exact AtV.ret Tryz.func105 tabOk ext105Ok mixed false [] tys105 [true,true,true] (a1 trivial (a1 b0 (a1 trivial (a1 b1 (a1 trivial (a1 b2 (a1 trivial trivial))))))) (by kernel_rfl)
   ·try simp only [if_neg b2] at h ⊢
    replace b2:=bf_ b2
    exact AtV.ret Tryz.func105 tabOk ext105Ok mixed false [] tys105 [true,true,false] (a1 trivial (a1 b0 (a1 trivial (a1 b1 (a1 trivial (a1 b2 trivial)))))) (by kernel_rfl)
  ·try simp only [if_neg b1] at h ⊢
   replace b1:=bf_ b1
   exact AtV.ret Tryz.func105 tabOk ext105Ok mixed false [] tys105 [true,false,false] (a1 trivial (a1 b0 (a1 trivial (a1 b1 (a1 (rfl:false=false) trivial))))) (by kernel_rfl)
 ·try simp only [if_neg b0] at h ⊢
  replace b0:=bf_ b0
  exact AtV.ret Tryz.func105 tabOk ext105Ok mixed false [] tys105 [false,false,false] (a1 trivial (a1 b0 (a1 (rfl:false=false) (a1 (rfl:false=false) trivial)))) (by kernel_rfl)
def S105:Am.Spec:={ sig:=sig105,pre:=fun ⟨x0,_⟩=>P105 x0,res:=fun ⟨x0,_⟩=>[⟨.bool,g105_0 x0⟩],kds:=kds105 }
theorem con105:Contract Tryz.prog 105 S105:=contract_of Tryz.func105 hb105 (bl_ (by kernel_rfl)) (fun ⟨x0,_⟩ h _ K q=>at105 x0 h K q)
end
noncomputable section
def ext154:Ext:=[]
theorem ext154Ok:ExtOk Tryz.prog ext154:=trivial
def b154:Code:=bodyOf Tryz.f154
theorem hb154:Tryz.f154.body=some b154:=by kernel_rfl
def sig154:List AT:=[AT.v (.str)]
def tys154:List Ty:=[.bool]
def kds154:List RK:=[]
def oks154:List AT:=owns sig154
def E154_4 (v18:Int) (x0:ByteArray):Env:=[(16,.a (.osl 0 Option.none)),(17,.a (.val (.int .i64 (↑(List.length (bytesOf x0)):Int)))),(18,.a (.val (.int .i64 v18)))]
def L154_4 (v18:Int) (x0:ByteArray):Heap:=[Option.some (Arr.mk (.int .u8) (bytesOf x0) false Option.none Option.none)]
mutual
def R154:Nat→ByteArray→List Dyn→Prop
 | 0,_,_=>False
 | n+1,x0,ds=>(if (decide ((↑(ByteArray.size x0):Int)<1))=true then (ds=[Dyn.mk .bool false]) else (if (decide ((↑(ByteArray.size x0):Int)>10))=true then (ds=[Dyn.mk .bool false]) else (R154_4 n (0) (x0) ds)))
def R154_4:Nat→Int→ByteArray→List Dyn→Prop
 | 0,_,_,_=>False
 | n+1,v18,x0,ds=>(if (decide (v18<(↑(List.length (bytesOf x0)):Int)))=true then ((0≤v18)∧(v18<(↑(List.length (bytesOf x0)):Int))∧(if (decide (List.getD (bytesOf x0) (Int.toNat v18) 0≥97))=true then (if (decide (List.getD (bytesOf x0) (Int.toNat v18) 0≥48))=true then (if (!decide (List.getD (bytesOf x0) (Int.toNat v18) 0≤122))=true then (if (v18==0)=true then (ds=[Dyn.mk .bool false]) else (if (!decide (List.getD (bytesOf x0) (Int.toNat v18) 0≤57))=true then (ds=[Dyn.mk .bool false]) else ((InR .i64 (v18+1))∧(R154_4 n (v18+1) (x0) ds)))) else ((InR .i64 (v18+1))∧(R154_4 n (v18+1) (x0) ds))) else (if (!decide (List.getD (bytesOf x0) (Int.toNat v18) 0≤122))=true then (if (v18==0)=true then (ds=[Dyn.mk .bool false]) else (ds=[Dyn.mk .bool false])) else ((InR .i64 (v18+1))∧(R154_4 n (v18+1) (x0) ds)))) else (if (decide (List.getD (bytesOf x0) (Int.toNat v18) 0≥48))=true then (if (v18==0)=true then (ds=[Dyn.mk .bool false]) else (if (!decide (List.getD (bytesOf x0) (Int.toNat v18) 0≤57))=true then (ds=[Dyn.mk .bool false]) else ((InR .i64 (v18+1))∧(R154_4 n (v18+1) (x0) ds)))) else (if (v18==0)=true then (ds=[Dyn.mk .bool false]) else (ds=[Dyn.mk .bool false]))))) else (ds=[Dyn.mk .bool true]))
end
theorem snd154:∀ n,(∀ (x0:ByteArray) ds,R154 n x0 ds→∀ K q,AtV Tryz.prog 154 (PostR kds154 oks154 ds [] [] q K) 46 K q [] [.code b154] (entE 0 0 sig154 (x0,())) (entL sig154 (x0,())))∧(∀ (v18:Int) (x0:ByteArray) ds,R154_4 n v18 x0 ds→∀ K q,AtV Tryz.prog 154 (PostR kds154 oks154 ds [] [] q K) 46 K q [] (cutAt b154 4) (E154_4 v18 x0) (L154_4 v18 x0)):=by
 intro n
 induction n with
 | zero=>exact ⟨fun _ _ h=>by simp only [R154] at h,fun _ _ _ h=>by simp only [R154_4] at h⟩
 | succ n ih =>
 obtain ⟨ih,ih4⟩:=ih
 refine ⟨?_,?_⟩
 ·intro x0 ds h K q
  rw [R154] at h
  by_cases b0:(decide ((↑(ByteArray.size x0):Int)<1))=true
  ·rw [if_pos b0] at h
   subst h
   exact AtV.ret Tryz.func154 tabOk ext154Ok mixed false [] tys154 [true,true] (a1 b0 (a1 (rfl:true=true) trivial)) (by kernel_rfl)
  ·rw [if_neg b0] at h
   replace b0:=bf_ b0
   by_cases b1:(decide ((↑(ByteArray.size x0):Int)>10))=true
   ·rw [if_pos b1] at h
    subst h
    exact AtV.ret Tryz.func154 tabOk ext154Ok mixed false [] tys154 [false,true] (a1 b0 (a1 b1 trivial)) (by kernel_rfl)
   ·rw [if_neg b1] at h
    replace b1:=bf_ b1
    exact AtV.go tabOk ext154Ok mixed false [] [] [16,17,18] [0] [false,false] (a1 b0 (a1 b1 trivial)) (ih4 _ _ _ h K q) (by kernel_rfl)
 ·intro v18 x0 ds h K q
  rw [R154_4] at h
  by_cases b0:(decide (v18<(↑(List.length (bytesOf x0)):Int)))=true
  ·rw [if_pos b0] at h
   obtain ⟨s0,s1,h⟩:=h
   by_cases b1:(decide (List.getD (bytesOf x0) (Int.toNat v18) 0≥97))=true
   ·rw [if_pos b1] at h
    by_cases b2:(decide (List.getD (bytesOf x0) (Int.toNat v18) 0≥48))=true
    ·rw [if_pos b2] at h
     by_cases b3:(!decide (List.getD (bytesOf x0) (Int.toNat v18) 0≤122))=true
     ·rw [if_pos b3] at h
      by_cases b4:(v18==0)=true
      ·rw [if_pos b4] at h
       subst h
       exact AtV.ret Tryz.func154 tabOk ext154Ok mixed false [] tys154 [true,true,true,true,true,true] (a1 b0 (a1 s0 (a1 s1 (a1 b1 (a1 b2 (a1 b3 (a1 b4 (a1 (rfl:true=true) trivial)))))))) (by kernel_rfl)
      ·rw [if_neg b4] at h
       replace b4:=bf_ b4
       by_cases b5:(!decide (List.getD (bytesOf x0) (Int.toNat v18) 0≤57))=true
       ·rw [if_pos b5] at h
        subst h
        exact AtV.ret Tryz.func154 tabOk ext154Ok mixed false [] tys154 [true,true,true,true,false,true] (a1 b0 (a1 s0 (a1 s1 (a1 b1 (a1 b2 (a1 b3 (a1 b4 (a1 b5 trivial)))))))) (by kernel_rfl)
       ·rw [if_neg b5] at h
        replace b5:=bf_ b5
        obtain ⟨s2,h⟩:=h
        exact AtV.go tabOk ext154Ok mixed false [] [] [16,17,18] [0] [true,true,true,true,false,false] (a1 b0 (a1 s0 (a1 s1 (a1 b1 (a1 b2 (a1 b3 (a1 b4 (a1 b5 (a1 s2 trivial))))))))) (ih4 _ _ _ h K q) (by kernel_rfl)
     ·rw [if_neg b3] at h
      replace b3:=bf_ b3
      obtain ⟨s2,h⟩:=h
      exact AtV.go tabOk ext154Ok mixed false [] [] [16,17,18] [0] [true,true,true,false,false] (a1 b0 (a1 s0 (a1 s1 (a1 b1 (a1 b2 (a1 b3 (a1 (rfl:false=false) (a1 s2 trivial)))))))) (ih4 _ _ _ h K q) (by kernel_rfl)
    ·rw [if_neg b2] at h
     replace b2:=bf_ b2
     by_cases b3:(!decide (List.getD (bytesOf x0) (Int.toNat v18) 0≤122))=true
     ·rw [if_pos b3] at h
      by_cases b4:(v18==0)=true
      ·rw [if_pos b4] at h
       subst h
       exact AtV.ret Tryz.func154 tabOk ext154Ok mixed false [] tys154 [true,true,false,true,true,true] (a1 b0 (a1 s0 (a1 s1 (a1 b1 (a1 b2 (a1 b3 (a1 b4 (a1 (rfl:true=true) trivial)))))))) (by kernel_rfl)
      ·rw [if_neg b4] at h
       replace b4:=bf_ b4
       subst h
       exact AtV.ret Tryz.func154 tabOk ext154Ok mixed false [] tys154 [true,true,false,true,false,true] (a1 b0 (a1 s0 (a1 s1 (a1 b1 (a1 b2 (a1 b3 (a1 b4 (a1 (rfl:true=true) trivial)))))))) (by kernel_rfl)
     ·rw [if_neg b3] at h
      replace b3:=bf_ b3
      obtain ⟨s2,h⟩:=h
      exact AtV.go tabOk ext154Ok mixed false [] [] [16,17,18] [0] [true,true,false,false,false] (a1 b0 (a1 s0 (a1 s1 (a1 b1 (a1 b2 (a1 b3 (a1 (rfl:false=false) (a1 s2 trivial)))))))) (ih4 _ _ _ h K q) (by kernel_rfl)
   ·rw [if_neg b1] at h
    replace b1:=bf_ b1
    by_cases b2:(decide (List.getD (bytesOf x0) (Int.toNat v18) 0≥48))=true
    ·rw [if_pos b2] at h
     by_cases b3:(v18==0)=true
     ·rw [if_pos b3] at h
      subst h
      exact AtV.ret Tryz.func154 tabOk ext154Ok mixed false [] tys154 [true,false,true,true,true,true] (a1 b0 (a1 s0 (a1 s1 (a1 b1 (a1 b2 (a1 (rfl:true=true) (a1 b3 (a1 (rfl:true=true) trivial)))))))) (by kernel_rfl)
     ·rw [if_neg b3] at h
      replace b3:=bf_ b3
      by_cases b4:(!decide (List.getD (bytesOf x0) (Int.toNat v18) 0≤57))=true
      ·rw [if_pos b4] at h
       subst h
       exact AtV.ret Tryz.func154 tabOk ext154Ok mixed false [] tys154 [true,false,true,true,false,true] (a1 b0 (a1 s0 (a1 s1 (a1 b1 (a1 b2 (a1 (rfl:true=true) (a1 b3 (a1 b4 trivial)))))))) (by kernel_rfl)
      ·rw [if_neg b4] at h
       replace b4:=bf_ b4
       obtain ⟨s2,h⟩:=h
       exact AtV.go tabOk ext154Ok mixed false [] [] [16,17,18] [0] [true,false,true,true,false,false] (a1 b0 (a1 s0 (a1 s1 (a1 b1 (a1 b2 (a1 (rfl:true=true) (a1 b3 (a1 b4 (a1 s2 trivial))))))))) (ih4 _ _ _ h K q) (by kernel_rfl)
    ·rw [if_neg b2] at h
     replace b2:=bf_ b2
     by_cases b3:(v18==0)=true
     ·rw [if_pos b3] at h
      subst h
      exact AtV.ret Tryz.func154 tabOk ext154Ok mixed false [] tys154 [true,false,false,true,true,true] (a1 b0 (a1 s0 (a1 s1 (a1 b1 (a1 b2 (a1 (rfl:true=true) (a1 b3 (a1 (rfl:true=true) trivial)))))))) (by kernel_rfl)
     ·rw [if_neg b3] at h
      replace b3:=bf_ b3
      subst h
      exact AtV.ret Tryz.func154 tabOk ext154Ok mixed false [] tys154 [true,false,false,true,false,true] (a1 b0 (a1 s0 (a1 s1 (a1 b1 (a1 b2 (a1 (rfl:true=true) (a1 b3 (a1 (rfl:true=true) trivial)))))))) (by kernel_rfl)
  ·rw [if_neg b0] at h
   replace b0:=bf_ b0
   subst h
   exact AtV.ret Tryz.func154 tabOk ext154Ok mixed false [] tys154 [false] (a1 b0 trivial) (by kernel_rfl)
def ok154 (i:Nat) (b:Int):Bool:=(decide (97≤b)&&decide (b≤122))||(!(i==0)&&(decide (48≤b)&&decide (b≤57)))
def g154_0 (x0:ByteArray):Bool:=decide (1≤x0.size)&&decide (x0.size≤10)&&allI ok154 0 (bytesOf x0)
def P154 (x0:ByteArray):Prop:=True
theorem step154 (n i:Nat) (x0:ByteArray) (hw:Wf .str x0) (hi:i<(bytesOf x0).length) (ds:List Dyn) :
  R154_4 (n+1) (i:Int) x0 ds↔(if ok154 i ((bytesOf x0).getD i 0)=true then R154_4 n ((i:Int)+1) x0 ds else ds=[⟨.bool,false⟩]):=by
 have hu:=inR_up (xs:=bytesOf x0) (by rw [bytesOf_length];exact hw) hi
 rw [R154_4,if_pos (by simp;omega)]
 simp only [Int.toNat_natCast]
 have hb:(0:Int)≤(i:Int)∧(i:Int)<((bytesOf x0).length:Int):=by omega
 have hz:((i:Int)==0)=(i==0):=by
  cases i with
  | zero=>rfl
  | succ k=>simp;omega
 simp only [hz,ok154,hu,true_and,hb.1,hb.2,ge_iff_le]
 by_cases h1:(97:Int)≤(bytesOf x0).getD i 0 <;> by_cases h2:(bytesOf x0).getD i 0≤122 <;> by_cases h3:(48:Int)≤(bytesOf x0).getD i 0 <;> by_cases h4:(bytesOf x0).getD i 0≤57 <;> rcases Bool.eq_false_or_eq_true (i==0) with e0 | e0 <;> first | (exfalso;omega) | simp only [h1,h2,h3,h4,e0,decide_true,decide_false,Bool.not_true,Bool.not_false,Bool.true_and,Bool.false_and,Bool.and_true,Bool.and_false,Bool.true_or,Bool.or_true,Bool.or_false,Bool.false_or,if_true,if_false,Bool.false_eq_true]
theorem top154 (x0:ByteArray) (hw:Wf .str x0):R154 (x0.size+1+1) x0 [⟨.bool,g154_0 x0⟩]:=by
 have hl:=bytesOf_length x0
 rw [R154]
 by_cases h0:(x0.size:Int)<1
 ·rw [if_pos (by simpa using h0)]
  have:¬ 1≤x0.size:=by omega
  simp [g154_0,this]
 ·rw [if_neg (by simpa using h0)]
  by_cases h1:(x0.size:Int)>10
  ·rw [if_pos (by simpa using h1)]
   have:¬ x0.size≤10:=by omega
   simp [g154_0,this]
  ·rw [if_neg (by simpa using h1)]
   have key:=loop_testI (bytesOf x0) 0 ok154 [(⟨.bool,false⟩:Dyn)] [⟨.bool,true⟩] (fun n i ds=>R154_4 n i x0 ds) (fun n => ?_) (fun n i hi hok ds hr => ?_) (fun n i hi hok => ?_)
   ·rw [hl] at key
    have e:g154_0 x0=allI ok154 0 (bytesOf x0):=by
     have a:1≤x0.size:=by omega
     have b:x0.size≤10:=by omega
     simp [g154_0,a,b]
    rw [e]
    cases h:allI ok154 0 (bytesOf x0) with
    | true=>rw [if_pos h] at key;exact key
    | false=>rw [if_neg (by rw [h];simp)] at key;exact key
   ·show R154_4 (n+1) ((bytesOf x0).length:Int) x0 _
    rw [R154_4,if_neg (by simp)]
   ·exact (step154 n i x0 hw hi ds).2 (by rw [if_pos hok];exact hr)
   ·exact (step154 n i x0 hw hi _).2 (by rw [if_neg (by rw [hok];simp)])
def S154:Am.Spec:={ sig:=sig154,pre:=fun ⟨x0,_⟩=>P154 x0,res:=fun ⟨x0,_⟩=>[⟨.bool,g154_0 x0⟩] }
theorem con154:Contract Tryz.prog 154 S154:=contract_of Tryz.func154 hb154 (bl_ (by kernel_rfl)) (fun ⟨x0,_⟩ h hwf K q =>
 (snd154 _).1 x0 _ (top154 x0 hwf.1) K q)
end
noncomputable section
def ext136:Ext:=[(134,S134)]
theorem ext136Ok:ExtOk Tryz.prog ext136:=⟨⟨ca134,con134⟩,trivial⟩
def b136:Code:=bodyOf Tryz.f136
theorem hb136:Tryz.f136.body=some b136:=by kernel_rfl
def sig136:List AT:=[AT.v (.int .i64)]
def tys136:List Ty:=[.bool]
def kds136:List RK:=[]
def oks136:List AT:=owns sig136
def P136 (x0:Int):Prop:=True
def g136_0 (x0:Int):Bool:=g134_0 x0 0 100000
theorem at136 (x0:Int) (h:P136 x0) (K:Ctx) (q:Nat→Value):AtV Tryz.prog 136 (PostR kds136 oks136 [⟨.bool,g136_0 x0⟩] [] [] q K) 5 K q [] [.code b136] (entE 0 0 sig136 (x0,())) (entL sig136 (x0,())):=by
 unfold P136 at h
 unfold g136_0
 exact AtV.ret Tryz.func136 tabOk ext136Ok mixed false [] tys136 [] (a1 trivial trivial) (by kernel_rfl)
def S136:Am.Spec:={ sig:=sig136,pre:=fun ⟨x0,_⟩=>P136 x0,res:=fun ⟨x0,_⟩=>[⟨.bool,g136_0 x0⟩],kds:=kds136 }
theorem con136:Contract Tryz.prog 136 S136:=contract_of Tryz.func136 hb136 (bl_ (by kernel_rfl)) (fun ⟨x0,_⟩ h _ K q=>at136 x0 h K q)
end
noncomputable section
def ext135:Ext:=[(154,S154),(134,S134),(136,S136)]
theorem ext135Ok:ExtOk Tryz.prog ext135:=⟨⟨ca154,con154⟩,⟨ca134,con134⟩,⟨ca136,con136⟩,trivial⟩
def b135:Code:=bodyOf Tryz.f135
theorem hb135:Tryz.f135.body=some b135:=by kernel_rfl
def sig135:List AT:=[AT.v YA5]
def tys135:List Ty:=[.bool]
def kds135:List RK:=[]
def oks135:List AT:=owns sig135
def P135 (x0:ByteArray×Int×Int×Int×Unit):Prop:=True
def g135_0 (x0:ByteArray×Int×Int×Int×Unit):Bool:=(if (g154_0 x0.1)=true then (if (g134_0 x0.2.1 1 200)=true then (if (g134_0 x0.2.2.1 0 40)=true then g136_0 x0.2.2.2.1 else false) else false) else false)
theorem at135 (x0:ByteArray×Int×Int×Int×Unit) (h:P135 x0) (K:Ctx) (q:Nat→Value):AtV Tryz.prog 135 (PostR kds135 oks135 [⟨.bool,g135_0 x0⟩] [] [] q K) 21 K q [] [.code b135] (entE 0 0 sig135 (x0,())) (entL sig135 (x0,())):=by
 unfold P135 at h
 unfold g135_0
 by_cases b0:(g154_0 x0.1)=true
 ·try simp only [if_pos b0] at h ⊢
  by_cases b1:(g134_0 x0.2.1 1 200)=true
  ·try simp only [if_pos b1] at h ⊢
   by_cases b2:(g134_0 x0.2.2.1 0 40)=true
   ·try simp only [if_pos b2] at h ⊢
    exact AtV.ret Tryz.func135 tabOk ext135Ok mixed false [] tys135 [true,true,true] (a1 trivial (a1 b0 (a1 trivial (a1 b1 (a1 trivial (a1 b2 (a1 trivial trivial))))))) (by kernel_rfl)
   ·try simp only [if_neg b2] at h ⊢
    replace b2:=bf_ b2
    exact AtV.ret Tryz.func135 tabOk ext135Ok mixed false [] tys135 [true,true,false] (a1 trivial (a1 b0 (a1 trivial (a1 b1 (a1 trivial (a1 b2 trivial)))))) (by kernel_rfl)
  ·try simp only [if_neg b1] at h ⊢
   replace b1:=bf_ b1
   exact AtV.ret Tryz.func135 tabOk ext135Ok mixed false [] tys135 [true,false,false] (a1 trivial (a1 b0 (a1 trivial (a1 b1 (a1 (rfl:false=false) trivial))))) (by kernel_rfl)
 ·try simp only [if_neg b0] at h ⊢
  replace b0:=bf_ b0
  exact AtV.ret Tryz.func135 tabOk ext135Ok mixed false [] tys135 [false,false,false] (a1 trivial (a1 b0 (a1 (rfl:false=false) (a1 (rfl:false=false) trivial)))) (by kernel_rfl)
def S135:Am.Spec:={ sig:=sig135,pre:=fun ⟨x0,_⟩=>P135 x0,res:=fun ⟨x0,_⟩=>[⟨.bool,g135_0 x0⟩],kds:=kds135 }
theorem con135:Contract Tryz.prog 135 S135:=contract_of Tryz.func135 hb135 (bl_ (by kernel_rfl)) (fun ⟨x0,_⟩ h _ K q=>at135 x0 h K q)
end
noncomputable section
def ext106:Ext:=[(135,S135)]
theorem ext106Ok:ExtOk Tryz.prog ext106:=⟨⟨ca135,con135⟩,trivial⟩
def b106:Code:=bodyOf Tryz.f106
theorem hb106:Tryz.f106.body=some b106:=by kernel_rfl
def sig106:List AT:=[AT.v (.sl YA5)]
def tys106:List Ty:=[.bool]
def kds106:List RK:=[]
def oks106:List AT:=owns sig106
def E106_2 (v7:Int) (x0:List TyB1):Env:=[(0,.a (.sl YA5 x0)),(5,.a (.sl YA5 x0)),(6,.a (.val (.int .i64 (x0.length:Int)))),(7,.a (.val (.int .i64 v7)))]
def L106_2 (v7:Int) (x0:List TyB1):Heap:=[]
mutual
def R106:Nat→List TyB1→List Dyn→Prop
 | 0,_,_=>False
 | n+1,x0,ds=>(R106_2 n (0) (x0) ds)
def R106_2:Nat→Int→List TyB1→List Dyn→Prop
 | 0,_,_,_=>False
 | n+1,v7,x0,ds=>(if (decide (v7<(x0.length:Int)))=true then ((0≤v7)∧(v7<(x0.length:Int))∧(if (!g135_0 (List.getD x0 (Int.toNat v7) (ByteArray.empty,0,0,0,())))=true then (ds=[Dyn.mk .bool false]) else (if (decide (v7>0))=true then ((InR .i64 (v7 - 1))∧((0≤v7 - 1)∧(v7 - 1<(x0.length:Int))∧(if (Op.bytesLess (ByteArray.toList (List.getD x0 (Int.toNat v7) (ByteArray.empty,0,0,0,())).1) (ByteArray.toList (List.getD x0 (Int.toNat (v7 - 1)) (ByteArray.empty,0,0,0,())).1)||ByteArray.toList (List.getD x0 (Int.toNat v7) (ByteArray.empty,0,0,0,())).1==ByteArray.toList (List.getD x0 (Int.toNat (v7 - 1)) (ByteArray.empty,0,0,0,())).1)=true then (ds=[Dyn.mk .bool false]) else ((InR .i64 (v7+1))∧(R106_2 n (v7+1) (x0) ds))))) else ((InR .i64 (v7+1))∧(R106_2 n (v7+1) (x0) ds))))) else (ds=[Dyn.mk .bool (decide ((x0.length:Int)≤12))]))
end
theorem snd106:∀ n,(∀ (x0:List TyB1) ds,R106 n x0 ds→∀ K q,AtV Tryz.prog 106 (PostR kds106 oks106 ds [] [] q K) 34 K q [] [.code b106] (entE 0 0 sig106 (x0,())) (entL sig106 (x0,())))∧(∀ (v7:Int) (x0:List TyB1) ds,R106_2 n v7 x0 ds→∀ K q,AtV Tryz.prog 106 (PostR kds106 oks106 ds [] [] q K) 34 K q [] (cutAt b106 2) (E106_2 v7 x0) (L106_2 v7 x0)):=by
 intro n
 induction n with
 | zero=>exact ⟨fun _ _ h=>by simp only [R106] at h,fun _ _ _ h=>by simp only [R106_2] at h⟩
 | succ n ih =>
 obtain ⟨ih,ih2⟩:=ih
 refine ⟨?_,?_⟩
 ·intro x0 ds h K q
  rw [R106] at h
  exact AtV.go tabOk ext106Ok mixed false [] [] [0,5,6,7] [] [] trivial (ih2 _ _ _ h K q) (by kernel_rfl)
 ·intro v7 x0 ds h K q
  rw [R106_2] at h
  by_cases b0:(decide (v7<(x0.length:Int)))=true
  ·rw [if_pos b0] at h
   obtain ⟨s0,s1,h⟩:=h
   by_cases b1:(!g135_0 (List.getD x0 (Int.toNat v7) (ByteArray.empty,0,0,0,())))=true
   ·rw [if_pos b1] at h
    subst h
    exact AtV.ret Tryz.func106 tabOk ext106Ok mixed false [] tys106 [true,true,true] (a1 b0 (a1 s0 (a1 s1 (a1 trivial (a1 b1 (a1 (rfl:true=true) trivial)))))) (by kernel_rfl)
   ·rw [if_neg b1] at h
    replace b1:=bf_ b1
    by_cases b2:(decide (v7>0))=true
    ·rw [if_pos b2] at h
     obtain ⟨s2,h⟩:=h
     obtain ⟨s3,s4,h⟩:=h
     by_cases b3:(Op.bytesLess (ByteArray.toList (List.getD x0 (Int.toNat v7) (ByteArray.empty,0,0,0,())).1) (ByteArray.toList (List.getD x0 (Int.toNat (v7 - 1)) (ByteArray.empty,0,0,0,())).1)||ByteArray.toList (List.getD x0 (Int.toNat v7) (ByteArray.empty,0,0,0,())).1==ByteArray.toList (List.getD x0 (Int.toNat (v7 - 1)) (ByteArray.empty,0,0,0,())).1)=true
     ·rw [if_pos b3] at h
      subst h
      exact AtV.ret Tryz.func106 tabOk ext106Ok mixed false [] tys106 [true,false,true,true] (a1 b0 (a1 s0 (a1 s1 (a1 trivial (a1 b1 (a1 b2 (a1 s2 (a1 s3 (a1 s4 (a1 b3 trivial)))))))))) (by kernel_rfl)
     ·rw [if_neg b3] at h
      replace b3:=bf_ b3
      obtain ⟨s5,h⟩:=h
      exact AtV.go tabOk ext106Ok mixed false [] [] [0,5,6,7] [] [true,false,true,false] (a1 b0 (a1 s0 (a1 s1 (a1 trivial (a1 b1 (a1 b2 (a1 s2 (a1 s3 (a1 s4 (a1 b3 (a1 s5 trivial))))))))))) (ih2 _ _ _ h K q) (by kernel_rfl)
    ·rw [if_neg b2] at h
     replace b2:=bf_ b2
     obtain ⟨s2,h⟩:=h
     exact AtV.go tabOk ext106Ok mixed false [] [] [0,5,6,7] [] [true,false,false,false] (a1 b0 (a1 s0 (a1 s1 (a1 trivial (a1 b1 (a1 b2 (a1 (rfl:false=false) (a1 s2 trivial)))))))) (ih2 _ _ _ h K q) (by kernel_rfl)
  ·rw [if_neg b0] at h
   replace b0:=bf_ b0
   subst h
   exact AtV.ret Tryz.func106 tabOk ext106Ok mixed false [] tys106 [false] (a1 b0 trivial) (by kernel_rfl)
def ok106 (x0:List TyB1) (i:Nat) (x:TyB1):Bool :=
 g135_0 x&&(i==0 || !(Op.bytesLess (ByteArray.toList x.1) (ByteArray.toList (x0.getD (i - 1) (ByteArray.empty,(0:Int),(0:Int),(0:Int),())).1)||ByteArray.toList x.1==ByteArray.toList (x0.getD (i - 1) (ByteArray.empty,(0:Int),(0:Int),(0:Int),())).1))
def g106_0 (x0:List TyB1):Bool:=allI (ok106 x0) 0 x0&&decide (x0.length≤12)
def P106 (x0:List TyB1):Prop:=True
theorem step106 (n i : Nat) (x0 : List TyB1) (hm : x0.length ≤ maxLen) (hi : i < x0.length) (ds : List Dyn) :
    (if ok106 x0 i (x0.getD i (ByteArray.empty, (0 : Int), (0 : Int), (0 : Int), ())) = true then R106_2 n ((i : Int) + 1) x0 ds else ds = [⟨.bool, false⟩]) → R106_2 (n + 1) (i : Int) x0 ds := by
  intro h
  have hu := inR_up hm hi
  rw [R106_2, if_pos (by simp; omega)]
  refine ⟨by omega, by omega, ?_⟩
  simp only [Int.toNat_natCast]
  unfold ok106 at h
  by_cases h1 : g135_0 (x0.getD i (ByteArray.empty, (0 : Int), (0 : Int), (0 : Int), ())) = true
  case neg =>
    have h1 := bf_ h1
    rw [h1] at h
    rw [if_pos (by rw [h1]; rfl)]
    simpa using h
  case pos =>
    rw [h1] at h
    rw [if_neg (by rw [h1]; simp)]
    by_cases h0 : (i : Int) > 0
    · rw [if_pos (by simpa using h0)]
      have hi0 : (i == 0) = false := by simp; omega
      have e : ((i : Int) - 1).toNat = i - 1 := by omega
      refine ⟨by rw [i64_iff]; have : maxLen ≤ 9223372036854775807 := by decide
                 omega, by omega, by omega, ?_⟩
      rw [e]
      by_cases h2 : (Op.bytesLess (ByteArray.toList (x0.getD i (ByteArray.empty, (0 : Int), (0 : Int), (0 : Int), ())).1) (ByteArray.toList (x0.getD (i - 1) (ByteArray.empty, (0 : Int), (0 : Int), (0 : Int), ())).1) || ByteArray.toList (x0.getD i (ByteArray.empty, (0 : Int), (0 : Int), (0 : Int), ())).1 == ByteArray.toList (x0.getD (i - 1) (ByteArray.empty, (0 : Int), (0 : Int), (0 : Int), ())).1) = true
      · rw [if_pos h2]
        rw [hi0, h2] at h
        simpa using h
      · rw [if_neg h2]
        rw [hi0, bf_ h2] at h
        exact ⟨hu, by simpa using h⟩
    · rw [if_neg (by simpa using h0)]
      have hi0 : (i == 0) = true := by simp; omega
      rw [hi0] at h
      exact ⟨hu, by simpa using h⟩
theorem top106 (x0:List TyB1) (hw:x0.length≤maxLen):R106 (x0.length+1+1) x0 [⟨.bool,g106_0 x0⟩]:=by
 rw [R106]
 have key:=loop_testI x0 (ByteArray.empty,(0:Int),(0:Int),(0:Int),()) (ok106 x0) [(⟨.bool,false⟩:Dyn)] [⟨.bool,decide (x0.length≤12)⟩] (fun n i ds=>R106_2 n i x0 ds) (fun n => ?_) (fun n i hi hok ds hr => ?_) (fun n i hi hok => ?_)
 ·unfold g106_0
  cases h:allI (ok106 x0) 0 x0 with
  | true=>rw [if_pos h] at key;simpa using key
  | false=>rw [if_neg (by rw [h];simp)] at key;simpa using key
 ·rw [R106_2,if_neg (by simp)]
  have hc:decide ((x0.length:Int)≤12)=decide (x0.length≤12):=by
   congr 1;exact propext ⟨fun h=>by omega,fun h=>by omega⟩
  rw [hc]
 ·exact step106 n i x0 hw hi ds (by rw [if_pos hok];exact hr)
 ·exact step106 n i x0 hw hi _ (by rw [if_neg (by rw [hok];simp)])
def S106:Am.Spec:={ sig:=sig106,pre:=fun ⟨x0,_⟩=>P106 x0,res:=fun ⟨x0,_⟩=>[⟨.bool,g106_0 x0⟩] }
theorem con106:Contract Tryz.prog 106 S106:=contract_of Tryz.func106 hb106 (bl_ (by kernel_rfl)) (fun ⟨x0,_⟩ h hwf K q =>
 (snd106 _).1 x0 _ (top106 x0 hwf.1.1) K q)
end
noncomputable section
def ext107:Ext:=[(134,S134),(136,S136)]
theorem ext107Ok:ExtOk Tryz.prog ext107:=⟨⟨ca134,con134⟩,⟨ca136,con136⟩,trivial⟩
def b107:Code:=bodyOf Tryz.f107
theorem hb107:Tryz.f107.body=some b107:=by kernel_rfl
def sig107:List AT:=[AT.v YA7]
def tys107:List Ty:=[.bool]
def kds107:List RK:=[]
def oks107:List AT:=owns sig107
def P107 (x0:Int×Int×Int×Unit):Prop:=True
def g107_0 (x0:Int×Int×Int×Unit):Bool:=(if (g134_0 x0.1 0 200)=true then (if (g134_0 x0.2.1 0 40)=true then g136_0 x0.2.2.1 else false) else false)
theorem at107 (x0:Int×Int×Int×Unit) (h:P107 x0) (K:Ctx) (q:Nat→Value):AtV Tryz.prog 107 (PostR kds107 oks107 [⟨.bool,g107_0 x0⟩] [] [] q K) 16 K q [] [.code b107] (entE 0 0 sig107 (x0,())) (entL sig107 (x0,())):=by
 unfold P107 at h
 unfold g107_0
 by_cases b0:(g134_0 x0.1 0 200)=true
 ·try simp only [if_pos b0] at h ⊢
  by_cases b1:(g134_0 x0.2.1 0 40)=true
  ·try simp only [if_pos b1] at h ⊢
   exact AtV.ret Tryz.func107 tabOk ext107Ok mixed false [] tys107 [true,true] (a1 trivial (a1 b0 (a1 trivial (a1 b1 (a1 trivial trivial))))) (by kernel_rfl)
  ·try simp only [if_neg b1] at h ⊢
   replace b1:=bf_ b1
   exact AtV.ret Tryz.func107 tabOk ext107Ok mixed false [] tys107 [true,false] (a1 trivial (a1 b0 (a1 trivial (a1 b1 trivial)))) (by kernel_rfl)
 ·try simp only [if_neg b0] at h ⊢
  replace b0:=bf_ b0
  exact AtV.ret Tryz.func107 tabOk ext107Ok mixed false [] tys107 [false,false] (a1 trivial (a1 b0 (a1 (rfl:false=false) trivial))) (by kernel_rfl)
def S107:Am.Spec:={ sig:=sig107,pre:=fun ⟨x0,_⟩=>P107 x0,res:=fun ⟨x0,_⟩=>[⟨.bool,g107_0 x0⟩],kds:=kds107 }
theorem con107:Contract Tryz.prog 107 S107:=contract_of Tryz.func107 hb107 (bl_ (by kernel_rfl)) (fun ⟨x0,_⟩ h _ K q=>at107 x0 h K q)
end
noncomputable section
def ext139:Ext:=[(134,S134)]
theorem ext139Ok:ExtOk Tryz.prog ext139:=⟨⟨ca134,con134⟩,trivial⟩
def b139:Code:=bodyOf Tryz.f139
theorem hb139:Tryz.f139.body=some b139:=by kernel_rfl
def sig139:List AT:=[AT.v (.int .i64)]
def tys139:List Ty:=[.bool]
def kds139:List RK:=[]
def oks139:List AT:=owns sig139
def P139 (x0:Int):Prop:=True
def g139_0 (x0:Int):Bool:=g134_0 x0 0 100000
theorem at139 (x0:Int) (h:P139 x0) (K:Ctx) (q:Nat→Value):AtV Tryz.prog 139 (PostR kds139 oks139 [⟨.bool,g139_0 x0⟩] [] [] q K) 5 K q [] [.code b139] (entE 0 0 sig139 (x0,())) (entL sig139 (x0,())):=by
 unfold P139 at h
 unfold g139_0
 exact AtV.ret Tryz.func139 tabOk ext139Ok mixed false [] tys139 [] (a1 trivial trivial) (by kernel_rfl)
def S139:Am.Spec:={ sig:=sig139,pre:=fun ⟨x0,_⟩=>P139 x0,res:=fun ⟨x0,_⟩=>[⟨.bool,g139_0 x0⟩],kds:=kds139 }
theorem con139:Contract Tryz.prog 139 S139:=contract_of Tryz.func139 hb139 (bl_ (by kernel_rfl)) (fun ⟨x0,_⟩ h _ K q=>at139 x0 h K q)
end
noncomputable section
def ext138:Ext:=[(134,S134)]
theorem ext138Ok:ExtOk Tryz.prog ext138:=⟨⟨ca134,con134⟩,trivial⟩
def b138:Code:=bodyOf Tryz.f138
theorem hb138:Tryz.f138.body=some b138:=by kernel_rfl
def sig138:List AT:=[AT.v (.int .i64)]
def tys138:List Ty:=[.bool]
def kds138:List RK:=[]
def oks138:List AT:=owns sig138
def P138 (x0:Int):Prop:=True
def g138_0 (x0:Int):Bool:=g134_0 x0 0 1000000
theorem at138 (x0:Int) (h:P138 x0) (K:Ctx) (q:Nat→Value):AtV Tryz.prog 138 (PostR kds138 oks138 [⟨.bool,g138_0 x0⟩] [] [] q K) 5 K q [] [.code b138] (entE 0 0 sig138 (x0,())) (entL sig138 (x0,())):=by
 unfold P138 at h
 unfold g138_0
 exact AtV.ret Tryz.func138 tabOk ext138Ok mixed false [] tys138 [] (a1 trivial trivial) (by kernel_rfl)
def S138:Am.Spec:={ sig:=sig138,pre:=fun ⟨x0,_⟩=>P138 x0,res:=fun ⟨x0,_⟩=>[⟨.bool,g138_0 x0⟩],kds:=kds138 }
theorem con138:Contract Tryz.prog 138 S138:=contract_of Tryz.func138 hb138 (bl_ (by kernel_rfl)) (fun ⟨x0,_⟩ h _ K q=>at138 x0 h K q)
end
end Go.Proofs.YtfobhngpafbfdaaGreatDoor
