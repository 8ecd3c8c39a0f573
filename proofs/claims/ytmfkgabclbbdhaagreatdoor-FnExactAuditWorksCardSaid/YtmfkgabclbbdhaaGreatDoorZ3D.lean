/- Several texts in one: the functions that this law reaches, and their laws. -/
import Derived.Test.YtmfkgabclbbdhaaGreatDoorZ3A
import Derived.Test.YtmfkgabclbbdhaaGreatDoorZ3B
import Derived.Test.YtmfkgabclbbdhaaGreatDoorZ3C
import Derived.Lib.TrimByte
import Derived.Lib.ItoaNum
set_option linter.unusedVariables false
set_option linter.unusedSimpArgs false
set_option maxRecDepth 100000
namespace Go.Proofs.YtmfkgabclbbdhaaGreatDoor
open Go Go.Am Go.Proofs
noncomputable section
def ext87:Ext:=[(126,S126)]
theorem ext87Ok:ExtOk Tryz.prog ext87:=⟨⟨ca126,con126⟩,trivial⟩
def b87:Code:=bodyOf Tryz.f87
theorem hb87:Tryz.f87.body=some b87:=by kernel_rfl
def sig87:List AT:=[AT.v (.sl YA3)]
def tys87:List Ty:=[.bool]
def kds87:List RK:=[]
def oks87:List AT:=owns sig87
def E87_2 (v3:Int) (x0:List TyB0):Env:=[(0,.a (.sl YA3 x0)),(3,.a (.val (.int .i64 v3)))]
def L87_2 (v3:Int) (x0:List TyB0):Heap:=[]
mutual
def R87:Nat→List TyB0→List Dyn→Prop
 | 0,_,_=>False
 | n+1,x0,ds=>(R87_2 n (0) (x0) ds)
def R87_2:Nat→Int→List TyB0→List Dyn→Prop
 | 0,_,_,_=>False
 | n+1,v3,x0,ds=>(if (decide (v3<(x0.length:Int)))=true then ((0≤v3)∧(v3<(x0.length:Int))∧(if (!g126_0 (List.getD x0 (Int.toNat v3) (ByteArray.empty,0,0,0,0,())))=true then (ds=[Dyn.mk .bool false]) else (if (decide (v3>0))=true then ((InR .i64 (v3 - 1))∧((0≤v3 - 1)∧(v3 - 1<(x0.length:Int))∧((0≤v3)∧(v3<(x0.length:Int))∧(if (!Op.bytesLess (ByteArray.toList (List.getD x0 (Int.toNat (v3 - 1)) (ByteArray.empty,0,0,0,0,())).1) (ByteArray.toList (List.getD x0 (Int.toNat v3) (ByteArray.empty,0,0,0,0,())).1))=true then (ds=[Dyn.mk .bool false]) else ((InR .i64 (v3+1))∧(R87_2 n (v3+1) (x0) ds)))))) else ((InR .i64 (v3+1))∧(R87_2 n (v3+1) (x0) ds))))) else (ds=[Dyn.mk .bool (decide ((x0.length:Int)≤16))]))
end
theorem snd87:∀ n,(∀ (x0:List TyB0) ds,R87 n x0 ds→∀ K q,AtV Tryz.prog 87 (PostR kds87 oks87 ds [] [] q K) 36 K q [] [.code b87] (entE 0 0 sig87 (x0,())) (entL sig87 (x0,())))∧(∀ (v3:Int) (x0:List TyB0) ds,R87_2 n v3 x0 ds→∀ K q,AtV Tryz.prog 87 (PostR kds87 oks87 ds [] [] q K) 36 K q [] (cutAt b87 2) (E87_2 v3 x0) (L87_2 v3 x0)):=by
 intro n
 induction n with
 | zero=>exact ⟨fun _ _ h=>by simp only [R87] at h,fun _ _ _ h=>by simp only [R87_2] at h⟩
 | succ n ih =>
 obtain ⟨ih,ih2⟩:=ih
 refine ⟨?_,?_⟩
 ·intro x0 ds h K q
  rw [R87] at h
  exact AtV.go tabOk ext87Ok mixed false [] [] [0,3] [] [] trivial (ih2 _ _ _ h K q) (by kernel_rfl)
 ·intro v3 x0 ds h K q
  rw [R87_2] at h
  by_cases b0:(decide (v3<(x0.length:Int)))=true
  ·rw [if_pos b0] at h
   obtain ⟨s0,s1,h⟩:=h
   by_cases b1:(!g126_0 (List.getD x0 (Int.toNat v3) (ByteArray.empty,0,0,0,0,())))=true
   ·rw [if_pos b1] at h
    subst h
    exact AtV.ret Tryz.func87 tabOk ext87Ok mixed false [] tys87 [true,true,true] (a1 b0 (a1 s0 (a1 s1 (a1 trivial (a1 b1 (a1 (rfl:true=true) trivial)))))) (by kernel_rfl)
   ·rw [if_neg b1] at h
    replace b1:=bf_ b1
    by_cases b2:(decide (v3>0))=true
    ·rw [if_pos b2] at h
     obtain ⟨s2,h⟩:=h
     obtain ⟨s3,s4,h⟩:=h
     obtain ⟨s5,s6,h⟩:=h
     by_cases b3:(!Op.bytesLess (ByteArray.toList (List.getD x0 (Int.toNat (v3 - 1)) (ByteArray.empty,0,0,0,0,())).1) (ByteArray.toList (List.getD x0 (Int.toNat v3) (ByteArray.empty,0,0,0,0,())).1))=true
     ·rw [if_pos b3] at h
      subst h
      exact AtV.ret Tryz.func87 tabOk ext87Ok mixed false [] tys87 [true,false,true,true] (a1 b0 (a1 s0 (a1 s1 (a1 trivial (a1 b1 (a1 b2 (a1 s2 (a1 s3 (a1 s4 (a1 s5 (a1 s6 (a1 b3 trivial)))))))))))) (by kernel_rfl)
     ·rw [if_neg b3] at h
      replace b3:=bf_ b3
      obtain ⟨s7,h⟩:=h
      exact AtV.go tabOk ext87Ok mixed false [] [] [0,3] [] [true,false,true,false] (a1 b0 (a1 s0 (a1 s1 (a1 trivial (a1 b1 (a1 b2 (a1 s2 (a1 s3 (a1 s4 (a1 s5 (a1 s6 (a1 b3 (a1 s7 trivial))))))))))))) (ih2 _ _ _ h K q) (by kernel_rfl)
    ·rw [if_neg b2] at h
     replace b2:=bf_ b2
     obtain ⟨s2,h⟩:=h
     exact AtV.go tabOk ext87Ok mixed false [] [] [0,3] [] [true,false,false,false] (a1 b0 (a1 s0 (a1 s1 (a1 trivial (a1 b1 (a1 b2 (a1 (rfl:false=false) (a1 s2 trivial)))))))) (ih2 _ _ _ h K q) (by kernel_rfl)
  ·rw [if_neg b0] at h
   replace b0:=bf_ b0
   subst h
   exact AtV.ret Tryz.func87 tabOk ext87Ok mixed false [] tys87 [false] (a1 b0 trivial) (by kernel_rfl)
def ok87 (x0:List TyB0) (i:Nat) (x:TyB0):Bool :=
 g126_0 x&&(i==0||Op.bytesLess (ByteArray.toList (x0.getD (i - 1) (ByteArray.empty,(0:Int),(0:Int),(0:Int),(0:Int),())).1) (ByteArray.toList x.1))
def g87_0 (x0:List TyB0):Bool:=allI (ok87 x0) 0 x0&&decide (x0.length≤16)
def P87 (x0:List TyB0):Prop:=True
theorem step87 (n i : Nat) (x0 : List TyB0) (hm : x0.length ≤ maxLen) (hi : i < x0.length) (ds : List Dyn) :
    (if ok87 x0 i (x0.getD i (ByteArray.empty, (0 : Int), (0 : Int), (0 : Int), (0 : Int), ())) = true then R87_2 n ((i : Int) + 1) x0 ds else ds = [⟨.bool, false⟩]) → R87_2 (n + 1) (i : Int) x0 ds := by
  intro h
  have hu := inR_up hm hi
  rw [R87_2, if_pos (by simp; omega)]
  refine ⟨by omega, by omega, ?_⟩
  simp only [Int.toNat_natCast]
  unfold ok87 at h
  cases h1 : g126_0 (x0.getD i (ByteArray.empty, (0 : Int), (0 : Int), (0 : Int), (0 : Int), ())) with
  | false =>
    rw [h1] at h
    rw [if_pos (by rfl)]
    simpa using h
  | true =>
    rw [h1] at h
    rw [if_neg (by simp)]
    by_cases h0 : (i : Int) > 0
    · rw [if_pos (by simpa using h0)]
      have hi0 : (i == 0) = false := by simp; omega
      have e : ((i : Int) - 1).toNat = i - 1 := by omega
      refine ⟨by rw [i64_iff]; have : maxLen ≤ 9223372036854775807 := by decide
                 omega, by omega, by omega, by omega, by omega, ?_⟩
      rw [e]
      by_cases h2 : Op.bytesLess (ByteArray.toList (x0.getD (i - 1) (ByteArray.empty, (0 : Int), (0 : Int), (0 : Int), (0 : Int), ())).1) (ByteArray.toList (x0.getD i (ByteArray.empty, (0 : Int), (0 : Int), (0 : Int), (0 : Int), ())).1) = true
      · rw [h2, hi0] at h
        rw [if_neg (by rw [h2]; simp)]
        exact ⟨hu, by simpa using h⟩
      · have h2 := bf_ h2
        rw [h2, hi0] at h
        rw [if_pos (by rw [h2]; rfl)]
        simpa using h
    · rw [if_neg (by simpa using h0)]
      have hi0 : (i == 0) = true := by simp; omega
      rw [hi0] at h
      exact ⟨hu, by simpa using h⟩
theorem top87 (x0:List TyB0) (hw:x0.length≤maxLen):R87 (x0.length+1+1) x0 [⟨.bool,g87_0 x0⟩]:=by
 rw [R87]
 have key:=loop_testI x0 (ByteArray.empty,(0:Int),(0:Int),(0:Int),(0:Int),()) (ok87 x0) [(⟨.bool,false⟩:Dyn)] [⟨.bool,decide (x0.length≤16)⟩] (fun n i ds=>R87_2 n i x0 ds) (fun n => ?_) (fun n i hi hok ds hr => ?_) (fun n i hi hok => ?_)
 ·unfold g87_0
  cases h:allI (ok87 x0) 0 x0 with
  | true=>rw [if_pos h] at key;simpa using key
  | false=>rw [if_neg (by rw [h];simp)] at key;simpa using key
 ·rw [R87_2,if_neg (by simp)]
  have hc:decide ((x0.length:Int)≤16)=decide (x0.length≤16):=by
   congr 1;exact propext ⟨fun h=>by omega,fun h=>by omega⟩
  rw [hc]
 ·exact step87 n i x0 hw hi ds (by rw [if_pos hok];exact hr)
 ·exact step87 n i x0 hw hi _ (by rw [if_neg (by rw [hok];simp)])
def S87:Am.Spec:={ sig:=sig87,pre:=fun ⟨x0,_⟩=>P87 x0,res:=fun ⟨x0,_⟩=>[⟨.bool,g87_0 x0⟩] }
theorem con87:Contract Tryz.prog 87 S87:=contract_of Tryz.func87 hb87 (bl_ (by kernel_rfl)) (fun ⟨x0,_⟩ h hwf K q =>
 (snd87 _).1 x0 _ (top87 x0 hwf.1.1) K q)
end
noncomputable section
def ext90:Ext:=[]
theorem ext90Ok:ExtOk Tryz.prog ext90:=trivial
def b90:Code:=bodyOf Tryz.f90
theorem hb90:Tryz.f90.body=some b90:=by kernel_rfl
def sig90:List AT:=[AT.p YA3,AT.v (.int .i64),AT.v (.int .i64)]
def tys90:List Ty:=[.bool]
def kds90:List RK:=[]
def oks90:List AT:=owns sig90
def P90 (x0:ByteArray×Int×Int×Int×Int×Unit) (x1:Int) (x2:Int):Prop:=True
def g90_0 (x0:ByteArray×Int×Int×Int×Int×Unit) (x1:Int) (x2:Int):Bool:=(if (decide (x0.2.2.2.1≤x1))=true then decide (x0.2.2.2.2.1≤x2) else false)
theorem at90 (x0:ByteArray×Int×Int×Int×Int×Unit) (x1:Int) (x2:Int) (h:P90 x0 x1 x2) (K:Ctx) (q:Nat→Value):AtV Tryz.prog 90 (PostR kds90 oks90 [⟨.bool,g90_0 x0 x1 x2⟩] [] [] q K) 21 K q [] [.code b90] (entE 0 0 sig90 (x0,x1,x2,())) (entL sig90 (x0,x1,x2,())):=by
 unfold P90 at h
 unfold g90_0
 by_cases b0:(decide (x0.2.2.2.1≤x1))=true
 ·try simp only [if_pos b0] at h ⊢
  exact AtV.ret Tryz.func90 tabOk ext90Ok mixed false [] tys90 [true] (a1 b0 trivial) (by kernel_rfl)
 ·try simp only [if_neg b0] at h ⊢
  replace b0:=bf_ b0
  exact AtV.ret Tryz.func90 tabOk ext90Ok mixed false [] tys90 [false] (a1 b0 trivial) (by kernel_rfl)
def S90:Am.Spec:={ sig:=sig90,pre:=fun ⟨x0,x1,x2,_⟩=>P90 x0 x1 x2,res:=fun ⟨x0,x1,x2,_⟩=>[⟨.bool,g90_0 x0 x1 x2⟩],kds:=kds90 }
theorem con90:Contract Tryz.prog 90 S90:=contract_of Tryz.func90 hb90 (bl_ (by kernel_rfl)) (fun ⟨x0,x1,x2,_⟩ h _ K q=>at90 x0 x1 x2 h K q)
end
noncomputable section
def ext57:Ext:=[(87,S87),(88,S88),(89,S89),(90,S90)]
theorem ext57Ok:ExtOk Tryz.prog ext57:=⟨⟨ca87,con87⟩,⟨ca88,con88⟩,⟨ca89,con89⟩,⟨ca90,con90⟩,trivial⟩
def b57:Code:=bodyOf Tryz.f57
theorem hb57:Tryz.f57.body=some b57:=by kernel_rfl
def sig57:List AT:=[AT.v (.sl YA3),AT.v (.int .i64),AT.v (.int .i64)]
def tys57:List Ty:=[.int .i64]
def kds57:List RK:=[]
def oks57:List AT:=owns sig57
def E57_6 (v7:Int) (x0:List TyB0) (x1:Int) (x2:Int):Env:=[(0,.a (.sl YA3 x0)),(1,.a (.val (.int .i64 x1))),(2,.a (.val (.int .i64 x2))),(7,.a (.val (.int .i64 v7)))]
def L57_6 (v7:Int) (x0:List TyB0) (x1:Int) (x2:Int):Heap:=[]
mutual
def R57:Nat→List TyB0→Int→Int→List Dyn→Prop
 | 0,_,_,_,_=>False
 | n+1,x0,x1,x2,ds=>(if (!g87_0 x0)=true then (ds=[Dyn.mk (.int .i64) 1]) else (if (!g88_0 x1)=true then (ds=[Dyn.mk (.int .i64) 2]) else (if (!g89_0 x2)=true then (ds=[Dyn.mk (.int .i64) 2]) else (R57_6 n (0) (x0) (x1) (x2) ds))))
def R57_6:Nat→Int→List TyB0→Int→Int→List Dyn→Prop
 | 0,_,_,_,_,_=>False
 | n+1,v7,x0,x1,x2,ds=>(if (decide (v7<(x0.length:Int)))=true then ((0≤v7)∧(v7<(x0.length:Int))∧(if (!g90_0 (List.getD x0 (Int.toNat v7) (ByteArray.empty,0,0,0,0,())) x1 x2)=true then (ds=[Dyn.mk (.int .i64) 6]) else ((InR .i64 (v7+1))∧(R57_6 n (v7+1) (x0) (x1) (x2) ds)))) else (ds=[Dyn.mk (.int .i64) 0]))
end
theorem snd57:∀ n,(∀ (x0:List TyB0) (x1:Int) (x2:Int) ds,R57 n x0 x1 x2 ds→∀ K q,AtV Tryz.prog 57 (PostR kds57 oks57 ds [] [] q K) 32 K q [] [.code b57] (entE 0 0 sig57 (x0,x1,x2,())) (entL sig57 (x0,x1,x2,())))∧(∀ (v7:Int) (x0:List TyB0) (x1:Int) (x2:Int) ds,R57_6 n v7 x0 x1 x2 ds→∀ K q,AtV Tryz.prog 57 (PostR kds57 oks57 ds [] [] q K) 32 K q [] (cutAt b57 6) (E57_6 v7 x0 x1 x2) (L57_6 v7 x0 x1 x2)):=by
 intro n
 induction n with
 | zero=>exact ⟨fun _ _ _ _ h=>by simp only [R57] at h,fun _ _ _ _ _ h=>by simp only [R57_6] at h⟩
 | succ n ih =>
 obtain ⟨ih,ih6⟩:=ih
 refine ⟨?_,?_⟩
 ·intro x0 x1 x2 ds h K q
  rw [R57] at h
  by_cases b0:(!g87_0 x0)=true
  ·rw [if_pos b0] at h
   subst h
   exact AtV.ret Tryz.func57 tabOk ext57Ok mixed false [] tys57 [true] (a1 trivial (a1 b0 trivial)) (by kernel_rfl)
  ·rw [if_neg b0] at h
   replace b0:=bf_ b0
   by_cases b1:(!g88_0 x1)=true
   ·rw [if_pos b1] at h
    subst h
    exact AtV.ret Tryz.func57 tabOk ext57Ok mixed false [] tys57 [false,true,true] (a1 trivial (a1 b0 (a1 trivial (a1 b1 (a1 (rfl:true=true) trivial))))) (by kernel_rfl)
   ·rw [if_neg b1] at h
    replace b1:=bf_ b1
    by_cases b2:(!g89_0 x2)=true
    ·rw [if_pos b2] at h
     subst h
     exact AtV.ret Tryz.func57 tabOk ext57Ok mixed false [] tys57 [false,false,true] (a1 trivial (a1 b0 (a1 trivial (a1 b1 (a1 trivial (a1 b2 trivial)))))) (by kernel_rfl)
    ·rw [if_neg b2] at h
     replace b2:=bf_ b2
     exact AtV.go tabOk ext57Ok mixed false [] [] [0,1,2,7] [] [false,false,false] (a1 trivial (a1 b0 (a1 trivial (a1 b1 (a1 trivial (a1 b2 trivial)))))) (ih6 _ _ _ _ _ h K q) (by kernel_rfl)
 ·intro v7 x0 x1 x2 ds h K q
  rw [R57_6] at h
  by_cases b0:(decide (v7<(x0.length:Int)))=true
  ·rw [if_pos b0] at h
   obtain ⟨s0,s1,h⟩:=h
   by_cases b1:(!g90_0 (List.getD x0 (Int.toNat v7) (ByteArray.empty,0,0,0,0,())) x1 x2)=true
   ·rw [if_pos b1] at h
    subst h
    exact AtV.ret Tryz.func57 tabOk ext57Ok mixed false [] tys57 [true,true] (a1 b0 (a1 s0 (a1 s1 (a1 trivial (a1 b1 trivial))))) (by kernel_rfl)
   ·rw [if_neg b1] at h
    replace b1:=bf_ b1
    obtain ⟨s2,h⟩:=h
    exact AtV.go tabOk ext57Ok mixed false [] [] [0,1,2,7] [] [true,false] (a1 b0 (a1 s0 (a1 s1 (a1 trivial (a1 b1 (a1 s2 trivial)))))) (ih6 _ _ _ _ _ h K q) (by kernel_rfl)
  ·rw [if_neg b0] at h
   replace b0:=bf_ b0
   subst h
   exact AtV.ret Tryz.func57 tabOk ext57Ok mixed false [] tys57 [false] (a1 b0 trivial) (by kernel_rfl)
def q57 (x1 x2:Int) (x:TyB0):Bool:=g90_0 x x1 x2
def g57_0 (x0:List TyB0) (x1 x2:Int):Int:=if g87_0 x0=true then (if g88_0 x1=true then (if g89_0 x2=true then (if x0.all (q57 x1 x2)=true then 0 else 6) else 2) else 2) else 1
def P57 (x0:List TyB0) (x1 x2:Int):Prop:=True
theorem top57 (x0:List TyB0) (x1 x2:Int) (hm:x0.length≤maxLen):R57 (x0.length+1+1) x0 x1 x2 [⟨.int .i64,g57_0 x0 x1 x2⟩]:=by
 rw [R57]
 unfold g57_0
 cases h0:g87_0 x0 with
 | false=>rw [if_pos (show (!false)=true from rfl),if_neg (by simp)]
 | true =>
 cases h1:g88_0 x1 with
 | false=>rw [if_neg (show ¬ (!true)=true by decide),if_pos (show (!false)=true from rfl),if_pos rfl,if_neg (by simp)]
 | true =>
 cases h2:g89_0 x2 with
 | false=>rw [if_neg (show ¬ (!true)=true by decide),if_neg (show ¬ (!true)=true by decide),if_pos (show (!false)=true from rfl),if_pos rfl,if_pos rfl,if_neg (by simp)]
 | true =>
 rw [if_neg (show ¬ (!true)=true by decide),if_neg (show ¬ (!true)=true by decide),if_neg (show ¬ (!true)=true by decide),if_pos rfl,if_pos rfl,if_pos rfl]
 have key:=loop_test x0 (ByteArray.empty,(0:Int),(0:Int),(0:Int),(0:Int),()) (q57 x1 x2) [(⟨.int .i64,6⟩:Dyn)] [⟨.int .i64,0⟩] (fun n i ds=>R57_6 n i x0 x1 x2 ds) (fun n => ?_) (fun n i hi hok ds hr => ?_) (fun n i hi hok => ?_)
 ·cases h:x0.all (q57 x1 x2) <;> rw [h] at key <;> simpa using key
 ·rw [R57_6,if_neg (by simp)]
 ·rw [R57_6,if_pos (by simp;omega)]
  simp only [Int.toNat_natCast]
  unfold q57 at hok
  refine ⟨by omega,by omega,?_⟩
  rw [if_neg (by rw [hok];simp)]
  exact ⟨inR_up hm hi,hr⟩
 ·rw [R57_6,if_pos (by simp;omega)]
  simp only [Int.toNat_natCast]
  unfold q57 at hok
  refine ⟨by omega,by omega,?_⟩
  rw [if_pos (by rw [hok];rfl)] <;> trivial
def S57:Am.Spec:={ sig:=sig57,pre:=fun ⟨x0,x1,x2,_⟩=>P57 x0 x1 x2,res:=fun ⟨x0,x1,x2,_⟩=>[⟨.int .i64,g57_0 x0 x1 x2⟩] }
theorem con57:Contract Tryz.prog 57 S57:=contract_of Tryz.func57 hb57 (bl_ (by kernel_rfl)) (fun ⟨x0,x1,x2,_⟩ h hwf K q =>
 (snd57 _).1 x0 x1 x2 _ (top57 x0 x1 x2 hwf.1.1) K q)
end
noncomputable section
def ext92:Ext:=[(84,S84)]
theorem ext92Ok:ExtOk Tryz.prog ext92:=⟨⟨ca84,con84⟩,trivial⟩
def b92:Code:=bodyOf Tryz.f92
theorem hb92:Tryz.f92.body=some b92:=by kernel_rfl
def sig92:List AT:=[AT.v (.int .i64)]
def tys92:List Ty:=[.bool]
def kds92:List RK:=[]
def oks92:List AT:=owns sig92
def P92 (x0:Int):Prop:=True
def g92_0 (x0:Int):Bool:=g84_0 x0 0 1440
theorem at92 (x0:Int) (h:P92 x0) (K:Ctx) (q:Nat→Value):AtV Tryz.prog 92 (PostR kds92 oks92 [⟨.bool,g92_0 x0⟩] [] [] q K) 5 K q [] [.code b92] (entE 0 0 sig92 (x0,())) (entL sig92 (x0,())):=by
 unfold P92 at h
 unfold g92_0
 exact AtV.ret Tryz.func92 tabOk ext92Ok mixed false [] tys92 [] (a1 trivial trivial) (by kernel_rfl)
def S92:Am.Spec:={ sig:=sig92,pre:=fun ⟨x0,_⟩=>P92 x0,res:=fun ⟨x0,_⟩=>[⟨.bool,g92_0 x0⟩],kds:=kds92 }
theorem con92:Contract Tryz.prog 92 S92:=contract_of Tryz.func92 hb92 (bl_ (by kernel_rfl)) (fun ⟨x0,_⟩ h _ K q=>at92 x0 h K q)
end
noncomputable section
def ext127:Ext:=[(92,S92),(84,S84)]
theorem ext127Ok:ExtOk Tryz.prog ext127:=⟨⟨ca92,con92⟩,⟨ca84,con84⟩,trivial⟩
def b127:Code:=bodyOf Tryz.f127
theorem hb127:Tryz.f127.body=some b127:=by kernel_rfl
def sig127:List AT:=[AT.p YA9]
def tys127:List Ty:=[.bool]
def kds127:List RK:=[]
def oks127:List AT:=owns sig127
def P127 (x0:Int×Int×Unit):Prop:=(if (g92_0 x0.1)=true then (if (g84_0 x0.2.1 1 1440)=true then ((InR .i64 (x0.1+x0.2.1))∧True) else True) else True)
def g127_0 (x0:Int×Int×Unit):Bool:=(if (g92_0 x0.1)=true then (if (g84_0 x0.2.1 1 1440)=true then decide (x0.1+x0.2.1≤1440) else false) else false)
theorem at127 (x0:Int×Int×Unit) (h:P127 x0) (K:Ctx) (q:Nat→Value):AtV Tryz.prog 127 (PostR kds127 oks127 [⟨.bool,g127_0 x0⟩] [] [] q K) 27 K q [] [.code b127] (entE 0 0 sig127 (x0,())) (entL sig127 (x0,())):=by
 unfold P127 at h
 unfold g127_0
 by_cases b0:(g92_0 x0.1)=true
 ·try simp only [if_pos b0] at h ⊢
  by_cases b1:(g84_0 x0.2.1 1 1440)=true
  ·try simp only [if_pos b1] at h ⊢
   obtain ⟨s0,h⟩:=h
   exact AtV.ret Tryz.func127 tabOk ext127Ok mixed false [] tys127 [true,true] (a1 trivial (a1 b0 (a1 trivial (a1 b1 (a1 s0 trivial))))) (by kernel_rfl)
  ·try simp only [if_neg b1] at h ⊢
   replace b1:=bf_ b1
   exact AtV.ret Tryz.func127 tabOk ext127Ok mixed false [] tys127 [true,false] (a1 trivial (a1 b0 (a1 trivial (a1 b1 trivial)))) (by kernel_rfl)
 ·try simp only [if_neg b0] at h ⊢
  replace b0:=bf_ b0
  exact AtV.ret Tryz.func127 tabOk ext127Ok mixed false [] tys127 [false,false] (a1 trivial (a1 b0 (a1 (rfl:false=false) trivial))) (by kernel_rfl)
def S127:Am.Spec:={ sig:=sig127,pre:=fun ⟨x0,_⟩=>P127 x0,res:=fun ⟨x0,_⟩=>[⟨.bool,g127_0 x0⟩],kds:=kds127 }
theorem con127:Contract Tryz.prog 127 S127:=contract_of Tryz.func127 hb127 (bl_ (by kernel_rfl)) (fun ⟨x0,_⟩ h _ K q=>at127 x0 h K q)
end
noncomputable section
def ext91:Ext:=[(127,S127)]
theorem ext91Ok:ExtOk Tryz.prog ext91:=⟨⟨ca127,con127⟩,trivial⟩
def b91:Code:=bodyOf Tryz.f91
theorem hb91:Tryz.f91.body=some b91:=by kernel_rfl
def sig91:List AT:=[AT.v (.sl YA9)]
def tys91:List Ty:=[.bool]
def kds91:List RK:=[]
def oks91:List AT:=owns sig91
def E91_2 (v3:Int) (x0:List TyB4):Env:=[(0,.a (.sl YA9 x0)),(3,.a (.val (.int .i64 v3)))]
def L91_2 (v3:Int) (x0:List TyB4):Heap:=[]
mutual
def R91:Nat→List TyB4→List Dyn→Prop
 | 0,_,_=>False
 | n+1,x0,ds=>(R91_2 n (0) (x0) ds)
def R91_2:Nat→Int→List TyB4→List Dyn→Prop
 | 0,_,_,_=>False
 | n+1,v3,x0,ds=>(if (decide (v3<(x0.length:Int)))=true then ((0≤v3)∧(v3<(x0.length:Int))∧((P127 (List.getD x0 (Int.toNat v3) (0,0,())))∧(if (!g127_0 (List.getD x0 (Int.toNat v3) (0,0,())))=true then (ds=[Dyn.mk .bool false]) else (if (decide (v3>0))=true then ((InR .i64 (v3 - 1))∧((0≤v3 - 1)∧(v3 - 1<(x0.length:Int))∧((InR .i64 (v3 - 1))∧((0≤v3 - 1)∧(v3 - 1<(x0.length:Int))∧((InR .i64 ((List.getD x0 (Int.toNat (v3 - 1)) (0,0,())).1+(List.getD x0 (Int.toNat (v3 - 1)) (0,0,())).2.1))∧((0≤v3)∧(v3<(x0.length:Int))∧(if (decide ((List.getD x0 (Int.toNat (v3 - 1)) (0,0,())).1+(List.getD x0 (Int.toNat (v3 - 1)) (0,0,())).2.1>(List.getD x0 (Int.toNat v3) (0,0,())).1))=true then (ds=[Dyn.mk .bool false]) else ((InR .i64 (v3+1))∧(R91_2 n (v3+1) (x0) ds))))))))) else ((InR .i64 (v3+1))∧(R91_2 n (v3+1) (x0) ds)))))) else (ds=[Dyn.mk .bool (decide ((x0.length:Int)≤24))]))
end
theorem snd91:∀ n,(∀ (x0:List TyB4) ds,R91 n x0 ds→∀ K q,AtV Tryz.prog 91 (PostR kds91 oks91 ds [] [] q K) 43 K q [] [.code b91] (entE 0 0 sig91 (x0,())) (entL sig91 (x0,())))∧(∀ (v3:Int) (x0:List TyB4) ds,R91_2 n v3 x0 ds→∀ K q,AtV Tryz.prog 91 (PostR kds91 oks91 ds [] [] q K) 43 K q [] (cutAt b91 2) (E91_2 v3 x0) (L91_2 v3 x0)):=by
 intro n
 induction n with
 | zero=>exact ⟨fun _ _ h=>by simp only [R91] at h,fun _ _ _ h=>by simp only [R91_2] at h⟩
 | succ n ih =>
 obtain ⟨ih,ih2⟩:=ih
 refine ⟨?_,?_⟩
 ·intro x0 ds h K q
  rw [R91] at h
  exact AtV.go tabOk ext91Ok mixed false [] [] [0,3] [] [] trivial (ih2 _ _ _ h K q) (by kernel_rfl)
 ·intro v3 x0 ds h K q
  rw [R91_2] at h
  by_cases b0:(decide (v3<(x0.length:Int)))=true
  ·rw [if_pos b0] at h
   obtain ⟨s0,s1,h⟩:=h
   obtain ⟨s2,h⟩:=h
   by_cases b1:(!g127_0 (List.getD x0 (Int.toNat v3) (0,0,())))=true
   ·rw [if_pos b1] at h
    subst h
    exact AtV.ret Tryz.func91 tabOk ext91Ok mixed false [] tys91 [true,true,true] (a1 b0 (a1 s0 (a1 s1 (a1 s2 (a1 b1 (a1 (rfl:true=true) trivial)))))) (by kernel_rfl)
   ·rw [if_neg b1] at h
    replace b1:=bf_ b1
    by_cases b2:(decide (v3>0))=true
    ·rw [if_pos b2] at h
     obtain ⟨s3,h⟩:=h
     obtain ⟨s4,s5,h⟩:=h
     obtain ⟨s6,h⟩:=h
     obtain ⟨s7,s8,h⟩:=h
     obtain ⟨s9,h⟩:=h
     obtain ⟨s10,s11,h⟩:=h
     by_cases b3:(decide ((List.getD x0 (Int.toNat (v3 - 1)) (0,0,())).1+(List.getD x0 (Int.toNat (v3 - 1)) (0,0,())).2.1>(List.getD x0 (Int.toNat v3) (0,0,())).1))=true
     ·rw [if_pos b3] at h
      subst h
      exact AtV.ret Tryz.func91 tabOk ext91Ok mixed false [] tys91 [true,false,true,true] (a1 b0 (a1 s0 (a1 s1 (a1 s2 (a1 b1 (a1 b2 (a1 s3 (a1 s4 (a1 s5 (a1 s6 (a1 s7 (a1 s8 (a1 s9 (a1 s10 (a1 s11 (a1 b3 trivial)))))))))))))))) (by kernel_rfl)
     ·rw [if_neg b3] at h
      replace b3:=bf_ b3
      obtain ⟨s12,h⟩:=h
      exact AtV.go tabOk ext91Ok mixed false [] [] [0,3] [] [true,false,true,false] (a1 b0 (a1 s0 (a1 s1 (a1 s2 (a1 b1 (a1 b2 (a1 s3 (a1 s4 (a1 s5 (a1 s6 (a1 s7 (a1 s8 (a1 s9 (a1 s10 (a1 s11 (a1 b3 (a1 s12 trivial))))))))))))))))) (ih2 _ _ _ h K q) (by kernel_rfl)
    ·rw [if_neg b2] at h
     replace b2:=bf_ b2
     obtain ⟨s3,h⟩:=h
     exact AtV.go tabOk ext91Ok mixed false [] [] [0,3] [] [true,false,false,false] (a1 b0 (a1 s0 (a1 s1 (a1 s2 (a1 b1 (a1 b2 (a1 (rfl:false=false) (a1 s3 trivial)))))))) (ih2 _ _ _ h K q) (by kernel_rfl)
  ·rw [if_neg b0] at h
   replace b0:=bf_ b0
   subst h
   exact AtV.ret Tryz.func91 tabOk ext91Ok mixed false [] tys91 [false] (a1 b0 trivial) (by kernel_rfl)
def one91 (x:TyB4):Bool:=g127_0 x
def ok91 (x0:List TyB4) (i:Nat) (x:TyB4):Bool:=one91 x&&(i==0||decide ((x0.getD (i - 1) ((0:Int),(0:Int),())).1+(x0.getD (i - 1) ((0:Int),(0:Int),())).2.1≤x.1))
def g91_0 (x0:List TyB4):Bool:=allI (ok91 x0) 0 x0&&decide ((x0.length:Int)≤24)
def P91 (x0:List TyB4):Prop:=True
theorem in91 {x a b:Int}:g84_0 x a b=true↔a≤x∧x≤b:=by
 unfold g84_0
 by_cases c1:x≥a
 ·by_cases c2:x≤b
  ·simp [c1,c2]
  ·simp [c1,c2]
 ·have:¬ a≤x:=c1
  simp [c1,this]
theorem one91_pre (x:TyB4):P127 x:=by
 unfold P127
 split
 ·rename_i h1
  split
  ·rename_i h2
   have h1:=in91.1 (show g84_0 x.1 0 1440=true from h1)
   have h2:=in91.1 (show g84_0 x.2.1 1 1440=true from h2)
   exact ⟨by rw [i64_iff];omega,trivial⟩
  ·trivial
 ·trivial
theorem one91_b {x:TyB4} (h:one91 x=true):(0≤x.1∧x.1≤1440)∧(1≤x.2.1∧x.2.1≤1440):=by
 unfold one91 g127_0 at h
 split at h
 ·rename_i h0
  split at h
  ·rename_i h1
   exact ⟨in91.1 h0,in91.1 h1⟩
  ·cases h
 ·cases h
theorem run91 (x0:List TyB4) (hm:x0.length≤maxLen):∀ (k i:Nat),i+k=x0.length→(∀ j,j<i→one91 (x0.getD j ((0:Int),(0:Int),()))=true) →
  R91_2 (k+1) (i:Int) x0 [⟨.bool,allI (ok91 x0) i (x0.drop i)&&decide ((x0.length:Int)≤24)⟩]:=by
 intro k
 induction k with
 | zero =>
  intro i hi _
  rw [R91_2,if_neg (by simp only [decide_eq_true_eq];omega),drop_end _ _ (by omega)]
  rfl
 | succ k ih =>
  intro i hi hp
  have hlt:i<x0.length:=by omega
  have hu:=inR_up hm hlt
  have hmx:maxLen≤9223372036854775807:=by decide
  rw [R91_2,if_pos (by simp only [decide_eq_true_eq];omega),drop_get x0 i ((0:Int),(0:Int),()) hlt]
  simp only [Int.toNat_natCast,allI]
  refine ⟨by omega,by omega,one91_pre _,?_⟩
  cases h1:one91 (x0.getD i ((0:Int),(0:Int),())) with
  | false =>
   unfold one91 at h1
   rw [if_pos (by rw [h1];rfl)]
   have:ok91 x0 i (x0.getD i ((0:Int),(0:Int),()))=false:=by unfold ok91 one91;rw [h1];rfl
   rw [this];rfl
  | true =>
   have h1':=h1
   unfold one91 at h1
   rw [if_neg (by rw [h1];simp)]
   have hnext:=ih (i+1) (by omega) (fun j hj=>by
    rcases Nat.lt_or_ge j i with h | h
    ·exact hp j h
    ·have:j=i:=by omega
     subst this;exact h1')
   have e1:(((i+1:Nat)):Int)=(i:Int)+1:=by omega
   rw [e1] at hnext
   by_cases h0:(i:Int)>0
   ·rw [if_pos (by simpa using h0)]
    have hi0:(i==0)=false:=by simp;omega
    have e:((i:Int) - 1).toNat=i - 1:=by omega
    obtain ⟨b1,b2⟩:=one91_b (hp (i - 1) (by omega))
    have hd:InR .i64 ((i:Int) - 1):=by rw [i64_iff];omega
    simp only [e]
    refine ⟨hd,by omega,by omega,hd,by omega,by omega,by rw [i64_iff];omega,by omega,by omega,?_⟩
    by_cases hc:(x0.getD (i - 1) ((0:Int),(0:Int),())).1+(x0.getD (i - 1) ((0:Int),(0:Int),())).2.1≤(x0.getD i ((0:Int),(0:Int),())).1
    ·rw [if_neg (by show ¬ decide ((x0.getD (i - 1) ((0:Int),(0:Int),())).1+(x0.getD (i - 1) ((0:Int),(0:Int),())).2.1>(x0.getD i ((0:Int),(0:Int),())).1)=true;rw [decide_eq_true_eq];omega)]
     have:ok91 x0 i (x0.getD i ((0:Int),(0:Int),()))=true:=by unfold ok91;rw [h1',hi0,decide_eq_true hc];rfl
     rw [this,Bool.true_and]
     exact ⟨hu,hnext⟩
    ·rw [if_pos (by show decide ((x0.getD (i - 1) ((0:Int),(0:Int),())).1+(x0.getD (i - 1) ((0:Int),(0:Int),())).2.1>(x0.getD i ((0:Int),(0:Int),())).1)=true;rw [decide_eq_true_eq];omega)]
     have:ok91 x0 i (x0.getD i ((0:Int),(0:Int),()))=false:=by unfold ok91;rw [hi0,decide_eq_false hc,Bool.or_false,Bool.and_false]
     rw [this,Bool.false_and,Bool.false_and]
   ·rw [if_neg (by simpa using h0)]
    have hi0:(i==0)=true:=by simp;omega
    have:ok91 x0 i (x0.getD i ((0:Int),(0:Int),()))=true:=by unfold ok91;rw [h1',hi0];rfl
    rw [this,Bool.true_and]
    exact ⟨hu,hnext⟩
theorem top91 (x0:List TyB4) (hw:x0.length≤maxLen):R91 (x0.length+1+1) x0 [⟨.bool,g91_0 x0⟩]:=by
 rw [R91]
 exact run91 x0 hw x0.length 0 (by omega) (fun j hj=>by omega)
def S91:Am.Spec:={ sig:=sig91,pre:=fun ⟨x0,_⟩=>P91 x0,res:=fun ⟨x0,_⟩=>[⟨.bool,g91_0 x0⟩] }
theorem con91:Contract Tryz.prog 91 S91:=contract_of Tryz.func91 hb91 (bl_ (by kernel_rfl)) (fun ⟨x0,_⟩ h hwf K q =>
 (snd91 _).1 x0 _ (top91 x0 hwf.1.1) K q)
end
noncomputable section
def ext58:Ext:=[(91,S91),(92,S92)]
theorem ext58Ok:ExtOk Tryz.prog ext58:=⟨⟨ca91,con91⟩,⟨ca92,con92⟩,trivial⟩
def b58:Code:=bodyOf Tryz.f58
theorem hb58:Tryz.f58.body=some b58:=by kernel_rfl
def sig58:List AT:=[AT.v (.sl YA9),AT.v (.int .i64)]
def tys58:List Ty:=[.int .i64]
def kds58:List RK:=[]
def oks58:List AT:=owns sig58
def P58 (x0:List TyB4) (x1:Int):Prop:=True
def g58_0 (x0:List TyB4) (x1:Int):Int:=(if (!g91_0 x0)=true then 1 else (if (!g92_0 x1)=true then 2 else 0))
theorem at58 (x0:List TyB4) (x1:Int) (h:P58 x0 x1) (K:Ctx) (q:Nat→Value):AtV Tryz.prog 58 (PostR kds58 oks58 [⟨.int .i64,g58_0 x0 x1⟩] [] [] q K) 11 K q [] [.code b58] (entE 0 0 sig58 (x0,x1,())) (entL sig58 (x0,x1,())):=by
 unfold P58 at h
 unfold g58_0
 by_cases b0:(!g91_0 x0)=true
 ·try simp only [if_pos b0] at h ⊢
  exact AtV.ret Tryz.func58 tabOk ext58Ok mixed false [] tys58 [true] (a1 trivial (a1 b0 trivial)) (by kernel_rfl)
 ·try simp only [if_neg b0] at h ⊢
  replace b0:=bf_ b0
  by_cases b1:(!g92_0 x1)=true
  ·try simp only [if_pos b1] at h ⊢
   exact AtV.ret Tryz.func58 tabOk ext58Ok mixed false [] tys58 [false,true] (a1 trivial (a1 b0 (a1 trivial (a1 b1 trivial)))) (by kernel_rfl)
  ·try simp only [if_neg b1] at h ⊢
   replace b1:=bf_ b1
   exact AtV.ret Tryz.func58 tabOk ext58Ok mixed false [] tys58 [false,false] (a1 trivial (a1 b0 (a1 trivial (a1 b1 trivial)))) (by kernel_rfl)
def S58:Am.Spec:={ sig:=sig58,pre:=fun ⟨x0,x1,_⟩=>P58 x0 x1,res:=fun ⟨x0,x1,_⟩=>[⟨.int .i64,g58_0 x0 x1⟩],kds:=kds58 }
theorem con58:Contract Tryz.prog 58 S58:=contract_of Tryz.func58 hb58 (bl_ (by kernel_rfl)) (fun ⟨x0,x1,_⟩ h _ K q=>at58 x0 x1 h K q)
end
noncomputable section
def ext154:Ext:=[]
theorem ext154Ok:ExtOk Tryz.prog ext154:=trivial
def b154:Code:=bodyOf Tryz.f154
theorem hb154:Tryz.f154.body=some b154:=by kernel_rfl
def sig154:List AT:=[AT.v (.str),AT.v (.int .u8)]
def tys154:List Ty:=[.sl .str]
def kds154:List RK:=[]
def oks154:List AT:=owns sig154
def E154_4 (v6:Int) (v7:Int) (h0:List ByteArray) (x0:ByteArray) (x1:Int):Env:=[(0,.a (.val (.string x0))),(1,.a (.val (.int .u8 x1))),(5,.a (.osl 0 Option.none)),(6,.a (.val (.int .i64 v6))),(7,.a (.val (.int .i64 v7)))]
def L154_4 (v6:Int) (v7:Int) (h0:List ByteArray) (x0:ByteArray) (x1:Int):Heap:=[Option.some (Arr.mk .str h0 false Option.none Option.none)]
mutual
def R154:Nat→ByteArray→Int→List Dyn→Prop
 | 0,_,_,_=>False
 | n+1,x0,x1,ds=>(R154_4 n (0) (0) ([]) (x0) (x1) ds)
def R154_4:Nat→Int→Int→List ByteArray→ByteArray→Int→List Dyn→Prop
 | 0,_,_,_,_,_,_=>False
 | n+1,v6,v7,h0,x0,x1,ds=>(if (decide (v7<(↑(ByteArray.size x0):Int)))=true then ((0≤v7)∧(v7<(↑(ByteArray.size x0):Int))∧(if ((↑(UInt8.toNat (List.getD (Array.toList (ByteArray.data x0)) (Int.toNat v7) 0)):Int)==x1)=true then ((0≤v6)∧(v6≤v7)∧(v7≤(↑(ByteArray.size x0):Int))∧(((List.length h0+1)*16≤140737488355328)∧((InR .i64 (v7+1))∧((InR .i64 (v7+1))∧(R154_4 n (v7+1) (v7+1) (h0++[ByteArray.extract x0 (Int.toNat v6) (Int.toNat v7)]) (x0) (x1) ds))))) else ((InR .i64 (v7+1))∧(R154_4 n (v6) (v7+1) (h0) (x0) (x1) ds)))) else ((0≤v6)∧(v6≤(↑(ByteArray.size x0):Int))∧(((List.length h0+1)*16≤140737488355328)∧(ds=[Dyn.mk (.sl .str) (h0++[ByteArray.extract x0 (Int.toNat v6) (Int.toNat (↑(ByteArray.size x0):Int))])]))))
end
theorem snd154:∀ n,(∀ (x0:ByteArray) (x1:Int) ds,R154 n x0 x1 ds→∀ K q,AtV Tryz.prog 154 (PostR kds154 oks154 ds [] [] q K) 35 K q [] [.code b154] (entE 0 0 sig154 (x0,x1,())) (entL sig154 (x0,x1,())))∧(∀ (v6:Int) (v7:Int) (h0:List ByteArray) (x0:ByteArray) (x1:Int) ds,R154_4 n v6 v7 h0 x0 x1 ds→∀ K q,AtV Tryz.prog 154 (PostR kds154 oks154 ds [] [] q K) 35 K q [] (cutAt b154 4) (E154_4 v6 v7 h0 x0 x1) (L154_4 v6 v7 h0 x0 x1)):=by
 intro n
 induction n with
 | zero=>exact ⟨fun _ _ _ h=>by simp only [R154] at h,fun _ _ _ _ _ _ h=>by simp only [R154_4] at h⟩
 | succ n ih =>
 obtain ⟨ih,ih4⟩:=ih
 refine ⟨?_,?_⟩
 ·intro x0 x1 ds h K q
  rw [R154] at h
  exact AtV.go tabOk ext154Ok mixed false [] [] [0,1,5,6,7] [0] [] trivial (ih4 _ _ _ _ _ _ h K q) (by kernel_rfl)
 ·intro v6 v7 h0 x0 x1 ds h K q
  rw [R154_4] at h
  by_cases b0:(decide (v7<(↑(ByteArray.size x0):Int)))=true
  ·rw [if_pos b0] at h
   obtain ⟨s0,s1,h⟩:=h
   by_cases b1:((↑(UInt8.toNat (List.getD (Array.toList (ByteArray.data x0)) (Int.toNat v7) 0)):Int)==x1)=true
   ·rw [if_pos b1] at h
    obtain ⟨s2,s3,s4,h⟩:=h
    obtain ⟨s5,h⟩:=h
    obtain ⟨s6,h⟩:=h
    obtain ⟨s7,h⟩:=h
    exact AtV.go tabOk ext154Ok mixed false [] [] [0,1,5,6,7] [0] [true,true] (a1 b0 (a1 s0 (a1 s1 (a1 b1 (a1 s2 (a1 s3 (a1 s4 (a1 s5 (a1 s6 (a1 s7 trivial)))))))))) (ih4 _ _ _ _ _ _ h K q) (by kernel_rfl)
   ·rw [if_neg b1] at h
    replace b1:=bf_ b1
    obtain ⟨s2,h⟩:=h
    exact AtV.go tabOk ext154Ok mixed false [] [] [0,1,5,6,7] [0] [true,false] (a1 b0 (a1 s0 (a1 s1 (a1 b1 (a1 s2 trivial))))) (ih4 _ _ _ _ _ _ h K q) (by kernel_rfl)
  ·rw [if_neg b0] at h
   replace b0:=bf_ b0
   obtain ⟨s0,s1,h⟩:=h
   obtain ⟨s2,h⟩:=h
   subst h
   exact AtV.ret Tryz.func154 tabOk ext154Ok mixed false [] tys154 [false] (a1 b0 (a1 s0 (a1 s1 (a1 s2 trivial)))) (by kernel_rfl)
def c154 (x1:Int):UInt8:=UInt8.ofNat x1.toNat
def g154_0 (x0:ByteArray) (x1:Int):List ByteArray:=bss (splitC (c154 x1) x0.data.toList)
def P154 (x0:ByteArray) (x1:Int):Prop:=x0.size<4294967281∧0≤x1∧x1≤255
theorem run154 (x0:ByteArray) (x1:Int) (hs:x0.size<4294967281) (h0:0≤x1) (h1:x1≤255):∀ (k i frm:Nat) (h:List ByteArray),i+k=x0.size→frm≤i→c154 x1 ∉ (x0.data.toList.drop frm).take (i - frm)→h.length≤i →
  R154_4 (k+1) (frm:Int) (i:Int) h x0 x1 [⟨.sl .str,h++bss (splitC (c154 x1) (x0.data.toList.drop frm))⟩]:=by
 intro k
 have hll:x0.data.toList.length=x0.size:=rfl
 induction k with
 | zero =>
  intro i frm h hi hf hc hl
  rw [R154_4,if_neg (by simp;omega)]
  refine ⟨by omega,by omega,by omega,?_⟩
  have e:(x0.data.toList.drop frm).take (i - frm)=x0.data.toList.drop frm:=List.take_of_length_le (by rw [List.length_drop];omega)
  rw [e] at hc
  rw [splitC_free _ hc,Int.toNat_natCast,Int.toNat_natCast,Lib.extract_from]
  rfl
 | succ k ih =>
  intro i frm h hi hf hc hl
  have hup:InR .i64 ((i:Int)+1):=by rw [i64_iff];omega
  have hlt:i<x0.data.toList.length:=by rw [hll];omega
  have hcons:x0.data.toList.drop i=x0.data.toList.getD i 0 :: x0.data.toList.drop (i+1):=drop_get _ i 0 hlt
  have hsplit:x0.data.toList.drop frm=(x0.data.toList.drop frm).take (i - frm)++x0.data.toList.drop i:=by
   conv=>lhs;rw [← List.take_append_drop (i - frm) (x0.data.toList.drop frm)]
   rw [List.drop_drop,show frm+(i - frm)=i by omega]
  rw [R154_4,if_pos (by simp;omega)]
  simp only [Int.toNat_natCast]
  refine ⟨by omega,by omega,?_⟩
  have hb:(((x0.data.toList.getD i 0).toNat:Int)==x1)=true↔x0.data.toList.getD i 0=c154 x1:=by
   have hlt':=(x0.data.toList.getD i 0).toNat_lt
   rw [beq_iff_eq, ← UInt8.toNat_inj]
   unfold c154
   have:(UInt8.ofNat x1.toNat).toNat=x1.toNat:=by rw [UInt8.toNat_ofNat'];omega
   rw [this]
   omega
  by_cases he:x0.data.toList.getD i 0=c154 x1
  ·rw [if_pos (hb.2 he)]
   refine ⟨by omega,by omega,by omega,by omega,hup,hup,?_⟩
   have:=ih (i+1) (i+1) (h++[x0.extract frm i]) (by omega) (Nat.le_refl _) (by simp) (by simp;omega)
   have e2:x0.extract frm i=⟨((x0.data.toList.drop frm).take (i - frm)).toArray⟩:=Lib.extract_mk x0.data.toList frm i
   have e3:splitC (c154 x1) (x0.data.toList.drop frm)=(x0.data.toList.drop frm).take (i - frm) :: splitC (c154 x1) (x0.data.toList.drop (i+1)):=by
    conv=>lhs;rw [hsplit,hcons,he]
    exact splitC_hit _ _ hc
   rw [e3,e2]
   rw [List.append_assoc,e2] at this
   exact this
  ·rw [if_neg (fun hh=>he (hb.1 hh))]
   refine ⟨hup,?_⟩
   refine ih (i+1) frm h (by omega) (by omega) (fun hm => ?_) (by omega)
   have e4:(x0.data.toList.drop frm).take (i+1 - frm)=(x0.data.toList.drop frm).take (i - frm)++[x0.data.toList.getD i 0]:=by
    conv=>lhs;rw [hsplit,hcons]
    rw [List.take_append,List.take_of_length_le (by rw [List.length_take,List.length_drop];omega)]
    have:i+1 - frm - ((x0.data.toList.drop frm).take (i - frm)).length=1:=by rw [List.length_take,List.length_drop];omega
    rw [this]
    rfl
   rw [e4] at hm
   rcases List.mem_append.1 hm with hm | hm
   ·exact hc hm
   ·exact he (List.mem_singleton.1 hm).symm
theorem top154 (x0:ByteArray) (x1:Int) (h:P154 x0 x1):R154 (x0.size+1+1) x0 x1 [⟨.sl .str,g154_0 x0 x1⟩]:=by
 rw [R154]
 have:=run154 x0 x1 h.1 h.2.1 h.2.2 x0.size 0 0 [] (by omega) (Nat.le_refl _) (by simp) (by simp)
 simpa [g154_0] using this
def S154:Am.Spec:={ sig:=sig154,pre:=fun ⟨x0,x1,_⟩=>P154 x0 x1,res:=fun ⟨x0,x1,_⟩=>[⟨.sl .str,g154_0 x0 x1⟩] }
theorem con154:Contract Tryz.prog 154 S154:=contract_of Tryz.func154 hb154 (bl_ (by kernel_rfl)) (fun ⟨x0,x1,_⟩ h hwf K q =>
 (snd154 _).1 x0 x1 _ (top154 x0 x1 h) K q)
end
noncomputable section
def ext155:Ext:=[(153,S153)]
theorem ext155Ok:ExtOk Tryz.prog ext155:=⟨⟨ca153,con153⟩,trivial⟩
def b155:Code:=bodyOf Tryz.f155
theorem hb155:Tryz.f155.body=some b155:=by kernel_rfl
def sig155:List AT:=[AT.v (.str)]
def tys155:List Ty:=[.bool]
def kds155:List RK:=[]
def oks155:List AT:=owns sig155
def E155_2 (v3:Int) (x0:ByteArray):Env:=[(0,.a (.val (.string x0))),(3,.a (.val (.int .i64 v3)))]
def L155_2 (v3:Int) (x0:ByteArray):Heap:=[]
mutual
def R155:Nat→ByteArray→List Dyn→Prop
 | 0,_,_=>False
 | n+1,x0,ds=>(R155_2 n (0) (x0) ds)
def R155_2:Nat→Int→ByteArray→List Dyn→Prop
 | 0,_,_,_=>False
 | n+1,v3,x0,ds=>(if (decide (v3<(↑(ByteArray.size x0):Int)))=true then ((0≤v3)∧(v3<(↑(ByteArray.size x0):Int))∧(if (!g153_0 (↑(UInt8.toNat (List.getD (Array.toList (ByteArray.data x0)) (Int.toNat v3) 0)):Int))=true then ((0≤v3)∧(v3<(↑(ByteArray.size x0):Int))∧(if (decide ((↑(UInt8.toNat (List.getD (Array.toList (ByteArray.data x0)) (Int.toNat v3) 0)):Int)<97))=true then (ds=[Dyn.mk .bool false]) else ((0≤v3)∧(v3<(↑(ByteArray.size x0):Int))∧(if (decide ((↑(UInt8.toNat (List.getD (Array.toList (ByteArray.data x0)) (Int.toNat v3) 0)):Int)>122))=true then (ds=[Dyn.mk .bool false]) else ((InR .i64 (v3+1))∧(R155_2 n (v3+1) (x0) ds)))))) else ((InR .i64 (v3+1))∧(R155_2 n (v3+1) (x0) ds)))) else (ds=[Dyn.mk .bool (decide ((↑(ByteArray.size x0):Int)>0))]))
end
theorem snd155:∀ n,(∀ (x0:ByteArray) ds,R155 n x0 ds→∀ K q,AtV Tryz.prog 155 (PostR kds155 oks155 ds [] [] q K) 30 K q [] [.code b155] (entE 0 0 sig155 (x0,())) (entL sig155 (x0,())))∧(∀ (v3:Int) (x0:ByteArray) ds,R155_2 n v3 x0 ds→∀ K q,AtV Tryz.prog 155 (PostR kds155 oks155 ds [] [] q K) 30 K q [] (cutAt b155 2) (E155_2 v3 x0) (L155_2 v3 x0)):=by
 intro n
 induction n with
 | zero=>exact ⟨fun _ _ h=>by simp only [R155] at h,fun _ _ _ h=>by simp only [R155_2] at h⟩
 | succ n ih =>
 obtain ⟨ih,ih2⟩:=ih
 refine ⟨?_,?_⟩
 ·intro x0 ds h K q
  rw [R155] at h
  exact AtV.go tabOk ext155Ok mixed false [] [] [0,3] [] [] trivial (ih2 _ _ _ h K q) (by kernel_rfl)
 ·intro v3 x0 ds h K q
  rw [R155_2] at h
  by_cases b0:(decide (v3<(↑(ByteArray.size x0):Int)))=true
  ·rw [if_pos b0] at h
   obtain ⟨s0,s1,h⟩:=h
   by_cases b1:(!g153_0 (↑(UInt8.toNat (List.getD (Array.toList (ByteArray.data x0)) (Int.toNat v3) 0)):Int))=true
   ·rw [if_pos b1] at h
    obtain ⟨s2,s3,h⟩:=h
    by_cases b2:(decide ((↑(UInt8.toNat (List.getD (Array.toList (ByteArray.data x0)) (Int.toNat v3) 0)):Int)<97))=true
    ·rw [if_pos b2] at h
     subst h
     exact AtV.ret Tryz.func155 tabOk ext155Ok mixed false [] tys155 [true,true,true,true] (a1 b0 (a1 s0 (a1 s1 (a1 trivial (a1 b1 (a1 s2 (a1 s3 (a1 b2 (a1 (rfl:true=true) trivial))))))))) (by kernel_rfl)
    ·rw [if_neg b2] at h
     replace b2:=bf_ b2
     obtain ⟨s4,s5,h⟩:=h
     by_cases b3:(decide ((↑(UInt8.toNat (List.getD (Array.toList (ByteArray.data x0)) (Int.toNat v3) 0)):Int)>122))=true
     ·rw [if_pos b3] at h
      subst h
      exact AtV.ret Tryz.func155 tabOk ext155Ok mixed false [] tys155 [true,true,false,true] (a1 b0 (a1 s0 (a1 s1 (a1 trivial (a1 b1 (a1 s2 (a1 s3 (a1 b2 (a1 s4 (a1 s5 (a1 b3 trivial))))))))))) (by kernel_rfl)
     ·rw [if_neg b3] at h
      replace b3:=bf_ b3
      obtain ⟨s6,h⟩:=h
      exact AtV.go tabOk ext155Ok mixed false [] [] [0,3] [] [true,true,false,false] (a1 b0 (a1 s0 (a1 s1 (a1 trivial (a1 b1 (a1 s2 (a1 s3 (a1 b2 (a1 s4 (a1 s5 (a1 b3 (a1 s6 trivial)))))))))))) (ih2 _ _ _ h K q) (by kernel_rfl)
   ·rw [if_neg b1] at h
    replace b1:=bf_ b1
    obtain ⟨s2,h⟩:=h
    exact AtV.go tabOk ext155Ok mixed false [] [] [0,3] [] [true,false,false] (a1 b0 (a1 s0 (a1 s1 (a1 trivial (a1 b1 (a1 (rfl:false=false) (a1 s2 trivial))))))) (ih2 _ _ _ h K q) (by kernel_rfl)
  ·rw [if_neg b0] at h
   replace b0:=bf_ b0
   subst h
   exact AtV.ret Tryz.func155 tabOk ext155Ok mixed false [] tys155 [false] (a1 b0 trivial) (by kernel_rfl)
def ok155 (b:Int):Bool:=g153_0 b||(decide (97≤b)&&decide (b≤122))
def g155_0 (x0:ByteArray):Bool:=(bytesOf x0).all ok155&&decide ((x0.size:Int)>0)
def P155 (x0:ByteArray):Prop:=True
theorem top155 (x0:ByteArray) (hw:Wf .str x0):R155 (x0.size+1+1) x0 [⟨.bool,g155_0 x0⟩]:=by
 have hl:=bytesOf_length x0
 rw [R155]
 have key:=loop_test (bytesOf x0) 0 ok155 [(⟨.bool,false⟩:Dyn)] [⟨.bool,decide ((x0.size:Int)>0)⟩] (fun n i ds=>R155_2 n i x0 ds) (fun n => ?_) (fun n i hi hok ds hr => ?_) (fun n i hi hok => ?_)
 ·rw [hl] at key
  unfold g155_0
  cases h:(bytesOf x0).all ok155 <;> rw [h] at key <;> simpa using key
 ·show R155_2 (n+1) ((bytesOf x0).length:Int) x0 _
  rw [R155_2,hl,if_neg (by simp)]
 ·have hu:=inR_up (xs:=bytesOf x0) (by rw [hl];exact hw) hi
  rw [R155_2,if_pos (by simp;omega)]
  simp only [Int.toNat_natCast,byte_get]
  generalize (bytesOf x0).getD i 0=c at *
  unfold ok155 at hok
  refine ⟨by omega,by omega,?_⟩
  by_cases hd:g153_0 c=true
  ·rw [if_neg (by rw [hd];simp)]
   exact ⟨hu,hr⟩
  ·rw [bf_ hd] at hok
   simp only [Bool.false_or,Bool.and_eq_true,decide_eq_true_eq] at hok
   rw [if_pos (by rw [bf_ hd];rfl)]
   refine ⟨by omega,by omega,?_⟩
   rw [if_neg (by simp only [decide_eq_true_eq];omega)]
   refine ⟨by omega,by omega,?_⟩
   rw [if_neg (by simp only [decide_eq_true_eq];omega)]
   exact ⟨hu,hr⟩
 ·rw [R155_2,if_pos (by simp;omega)]
  simp only [Int.toNat_natCast,byte_get]
  generalize (bytesOf x0).getD i 0=c at *
  unfold ok155 at hok
  refine ⟨by omega,by omega,?_⟩
  simp only [Bool.or_eq_false_iff] at hok
  obtain ⟨hd,h2⟩:=hok
  rw [if_pos (by rw [hd];rfl)]
  refine ⟨by omega,by omega,?_⟩
  by_cases h1:c<97
  ·rw [if_pos (by simpa using h1)] <;> trivial
  ·rw [if_neg (by simpa using h1)]
   refine ⟨by omega,by omega,?_⟩
   rw [if_pos (by
    simp only [Bool.and_eq_false_iff,decide_eq_false_iff_not] at h2
    simp only [decide_eq_true_eq];omega)] <;> trivial
def S155:Am.Spec:={ sig:=sig155,pre:=fun ⟨x0,_⟩=>P155 x0,res:=fun ⟨x0,_⟩=>[⟨.bool,g155_0 x0⟩] }
theorem con155:Contract Tryz.prog 155 S155:=contract_of Tryz.func155 hb155 (bl_ (by kernel_rfl)) (fun ⟨x0,_⟩ h hwf K q =>
 (snd155 _).1 x0 _ (top155 x0 hwf.1) K q)
end
noncomputable section
def ext128:Ext:=[(154,S154),(155,S155)]
theorem ext128Ok:ExtOk Tryz.prog ext128:=⟨⟨ca154,con154⟩,⟨ca155,con155⟩,trivial⟩
def b128:Code:=bodyOf Tryz.f128
theorem hb128:Tryz.f128.body=some b128:=by kernel_rfl
def sig128:List AT:=[AT.v (.str)]
def tys128:List Ty:=[.bool]
def kds128:List RK:=[]
def oks128:List AT:=owns sig128
def E128_5 (v4:Int) (x0:ByteArray):Env:=[(3,.a (.osl 0 Option.none)),(4,.a (.val (.int .i64 v4)))]
def L128_5 (v4:Int) (x0:ByteArray):Heap:=[Option.some (Arr.mk .str (g154_0 x0 32) false Option.none Option.none)]
mutual
def R128:Nat→ByteArray→List Dyn→Prop
 | 0,_,_=>False
 | n+1,x0,ds=>(if ((↑(ByteArray.size x0):Int)==0)=true then (ds=[Dyn.mk .bool false]) else (if (decide ((↑(ByteArray.size x0):Int)>40))=true then (ds=[Dyn.mk .bool false]) else ((P154 x0 32)∧(R128_5 n (0) (x0) ds))))
def R128_5:Nat→Int→ByteArray→List Dyn→Prop
 | 0,_,_,_=>False
 | n+1,v4,x0,ds=>(if (decide (v4<(↑(List.length (g154_0 x0 32)):Int)))=true then ((0≤v4)∧(v4<(↑(List.length (g154_0 x0 32)):Int))∧(if (!g155_0 (List.getD (g154_0 x0 32) (Int.toNat v4) ByteArray.empty))=true then (ds=[Dyn.mk .bool false]) else ((InR .i64 (v4+1))∧(R128_5 n (v4+1) (x0) ds)))) else (ds=[Dyn.mk .bool true]))
end
theorem snd128:∀ n,(∀ (x0:ByteArray) ds,R128 n x0 ds→∀ K q,AtV Tryz.prog 128 (PostR kds128 oks128 ds [] [] q K) 27 K q [] [.code b128] (entE 0 0 sig128 (x0,())) (entL sig128 (x0,())))∧(∀ (v4:Int) (x0:ByteArray) ds,R128_5 n v4 x0 ds→∀ K q,AtV Tryz.prog 128 (PostR kds128 oks128 ds [] [] q K) 27 K q [] (cutAt b128 5) (E128_5 v4 x0) (L128_5 v4 x0)):=by
 intro n
 induction n with
 | zero=>exact ⟨fun _ _ h=>by simp only [R128] at h,fun _ _ _ h=>by simp only [R128_5] at h⟩
 | succ n ih =>
 obtain ⟨ih,ih5⟩:=ih
 refine ⟨?_,?_⟩
 ·intro x0 ds h K q
  rw [R128] at h
  by_cases b0:((↑(ByteArray.size x0):Int)==0)=true
  ·rw [if_pos b0] at h
   subst h
   exact AtV.ret Tryz.func128 tabOk ext128Ok mixed false [] tys128 [true,true] (a1 b0 (a1 (rfl:true=true) trivial)) (by kernel_rfl)
  ·rw [if_neg b0] at h
   replace b0:=bf_ b0
   by_cases b1:(decide ((↑(ByteArray.size x0):Int)>40))=true
   ·rw [if_pos b1] at h
    subst h
    exact AtV.ret Tryz.func128 tabOk ext128Ok mixed false [] tys128 [false,true] (a1 b0 (a1 b1 trivial)) (by kernel_rfl)
   ·rw [if_neg b1] at h
    replace b1:=bf_ b1
    obtain ⟨s0,h⟩:=h
    exact AtV.go tabOk ext128Ok mixed false [] [] [3,4] [0] [false,false] (a1 b0 (a1 b1 (a1 s0 trivial))) (ih5 _ _ _ h K q) (by kernel_rfl)
 ·intro v4 x0 ds h K q
  rw [R128_5] at h
  by_cases b0:(decide (v4<(↑(List.length (g154_0 x0 32)):Int)))=true
  ·rw [if_pos b0] at h
   obtain ⟨s0,s1,h⟩:=h
   by_cases b1:(!g155_0 (List.getD (g154_0 x0 32) (Int.toNat v4) ByteArray.empty))=true
   ·rw [if_pos b1] at h
    subst h
    exact AtV.ret Tryz.func128 tabOk ext128Ok mixed false [] tys128 [true,true] (a1 b0 (a1 s0 (a1 s1 (a1 trivial (a1 b1 trivial))))) (by kernel_rfl)
   ·rw [if_neg b1] at h
    replace b1:=bf_ b1
    obtain ⟨s2,h⟩:=h
    exact AtV.go tabOk ext128Ok mixed false [] [] [3,4] [0] [true,false] (a1 b0 (a1 s0 (a1 s1 (a1 trivial (a1 b1 (a1 s2 trivial)))))) (ih5 _ _ _ h K q) (by kernel_rfl)
  ·rw [if_neg b0] at h
   replace b0:=bf_ b0
   subst h
   exact AtV.ret Tryz.func128 tabOk ext128Ok mixed false [] tys128 [false] (a1 b0 trivial) (by kernel_rfl)
def g128_0 (x0:ByteArray):Bool := !(((x0.size:Nat):Int)==0) && !decide (((x0.size:Nat):Int)>40)&&(g154_0 x0 32).all g155_0
def P128 (x0:ByteArray):Prop:=True
theorem top128 (x0:ByteArray):∃ n,R128 n x0 [⟨.bool,g128_0 x0⟩]:=by
 unfold g128_0
 by_cases h0:(((x0.size:Nat):Int)==0)=true
 ·refine ⟨1,?_⟩
  rw [R128,if_pos h0,h0];rfl
 by_cases h1:((x0.size:Nat):Int)>40
 ·refine ⟨1,?_⟩
  rw [R128,if_neg h0,if_pos (decide_eq_true h1),bf_ h0,decide_eq_true h1];rfl
 ·have hl:(g154_0 x0 32).length=x0.data.toList.count 32+1:=by
   show (bss (splitC (32:UInt8) x0.data.toList)).length=_
   unfold bss
   rw [List.length_map,splitC_length]
  have hc:x0.data.toList.count (32:UInt8)≤x0.size:=List.count_le_length
  have hmx:1000≤maxLen:=by decide
  have key:=loop_test (g154_0 x0 32) ByteArray.empty g155_0 [(⟨.bool,false⟩:Dyn)] [⟨.bool,true⟩] (fun n i ds=>R128_5 n i x0 ds) (fun n => ?_) (fun n i hi hok ds hr => ?_) (fun n i hi hok => ?_)
  ·refine ⟨(g154_0 x0 32).length+1+1,?_⟩
   rw [R128,if_neg h0,if_neg (by simpa using h1),bf_ h0,decide_eq_false h1]
   refine ⟨⟨by omega,by omega,by omega⟩,?_⟩
   ·cases h:(g154_0 x0 32).all g155_0 <;> rw [h] at key <;> exact key
  ·rw [R128_5,if_neg (by simp)]
  ·rw [R128_5,if_pos (by simp;omega)]
   simp only [Int.toNat_natCast]
   refine ⟨by omega,by omega,?_⟩
   rw [if_neg (by rw [hok];simp)]
   exact ⟨by rw [i64_iff];omega,hr⟩
  ·rw [R128_5,if_pos (by simp;omega)]
   simp only [Int.toNat_natCast]
   refine ⟨by omega,by omega,?_⟩
   rw [if_pos (by rw [hok];rfl)] <;> trivial
def S128:Am.Spec:={ sig:=sig128,pre:=fun ⟨x0,_⟩=>P128 x0,res:=fun ⟨x0,_⟩=>[⟨.bool,g128_0 x0⟩] }
theorem con128:Contract Tryz.prog 128 S128:=contract_of Tryz.func128 hb128 (bl_ (by kernel_rfl)) (fun ⟨x0,_⟩ h hwf K q =>
 let ⟨n,hn⟩:=top128 x0
 (snd128 n).1 x0 _ hn K q)
end
noncomputable section
def ext93:Ext:=[(88,S88),(84,S84),(128,S128)]
theorem ext93Ok:ExtOk Tryz.prog ext93:=⟨⟨ca88,con88⟩,⟨ca84,con84⟩,⟨ca128,con128⟩,trivial⟩
def b93:Code:=bodyOf Tryz.f93
theorem hb93:Tryz.f93.body=some b93:=by kernel_rfl
def sig93:List AT:=[AT.p YA6]
def tys93:List Ty:=[.bool]
def kds93:List RK:=[]
def oks93:List AT:=owns sig93
def P93 (x0:Int×Int×ByteArray×Int×Unit):Prop:=True
def g93_0 (x0:Int×Int×ByteArray×Int×Unit):Bool:=(if (g88_0 x0.1)=true then (if (g84_0 x0.2.1 0 1439)=true then (if (g128_0 x0.2.2.1)=true then g84_0 x0.2.2.2.1 0 65535 else false) else false) else false)
theorem at93 (x0:Int×Int×ByteArray×Int×Unit) (h:P93 x0) (K:Ctx) (q:Nat→Value):AtV Tryz.prog 93 (PostR kds93 oks93 [⟨.bool,g93_0 x0⟩] [] [] q K) 29 K q [] [.code b93] (entE 0 0 sig93 (x0,())) (entL sig93 (x0,())):=by
 unfold P93 at h
 unfold g93_0
 by_cases b0:(g88_0 x0.1)=true
 ·try simp only [if_pos b0] at h ⊢
  by_cases b1:(g84_0 x0.2.1 0 1439)=true
  ·try simp only [if_pos b1] at h ⊢
   by_cases b2:(g128_0 x0.2.2.1)=true
   ·try simp only [if_pos b2] at h ⊢
    exact AtV.ret Tryz.func93 tabOk ext93Ok mixed false [] tys93 [true,true,true] (a1 trivial (a1 b0 (a1 trivial (a1 b1 (a1 trivial (a1 b2 (a1 trivial trivial))))))) (by kernel_rfl)
   ·try simp only [if_neg b2] at h ⊢
    replace b2:=bf_ b2
    exact AtV.ret Tryz.func93 tabOk ext93Ok mixed false [] tys93 [true,true,false] (a1 trivial (a1 b0 (a1 trivial (a1 b1 (a1 trivial (a1 b2 trivial)))))) (by kernel_rfl)
  ·try simp only [if_neg b1] at h ⊢
   replace b1:=bf_ b1
   exact AtV.ret Tryz.func93 tabOk ext93Ok mixed false [] tys93 [true,false,false] (a1 trivial (a1 b0 (a1 trivial (a1 b1 (a1 (rfl:false=false) trivial))))) (by kernel_rfl)
 ·try simp only [if_neg b0] at h ⊢
  replace b0:=bf_ b0
  exact AtV.ret Tryz.func93 tabOk ext93Ok mixed false [] tys93 [false,false,false] (a1 trivial (a1 b0 (a1 (rfl:false=false) (a1 (rfl:false=false) trivial)))) (by kernel_rfl)
def S93:Am.Spec:={ sig:=sig93,pre:=fun ⟨x0,_⟩=>P93 x0,res:=fun ⟨x0,_⟩=>[⟨.bool,g93_0 x0⟩],kds:=kds93 }
theorem con93:Contract Tryz.prog 93 S93:=contract_of Tryz.func93 hb93 (bl_ (by kernel_rfl)) (fun ⟨x0,_⟩ h _ K q=>at93 x0 h K q)
end
noncomputable section
def ext59:Ext:=[(93,S93)]
theorem ext59Ok:ExtOk Tryz.prog ext59:=⟨⟨ca93,con93⟩,trivial⟩
def b59:Code:=bodyOf Tryz.f59
theorem hb59:Tryz.f59.body=some b59:=by kernel_rfl
def sig59:List AT:=[AT.v (.sl YA6)]
def tys59:List Ty:=[.bool]
def kds59:List RK:=[]
def oks59:List AT:=owns sig59
def E59_2 (v3:Int) (x0:List TyB2):Env:=[(0,.a (.sl YA6 x0)),(3,.a (.val (.int .i64 v3)))]
def L59_2 (v3:Int) (x0:List TyB2):Heap:=[]
mutual
def R59:Nat→List TyB2→List Dyn→Prop
 | 0,_,_=>False
 | n+1,x0,ds=>(R59_2 n (0) (x0) ds)
def R59_2:Nat→Int→List TyB2→List Dyn→Prop
 | 0,_,_,_=>False
 | n+1,v3,x0,ds=>(if (decide (v3<(x0.length:Int)))=true then ((0≤v3)∧(v3<(x0.length:Int))∧(if (!g93_0 (List.getD x0 (Int.toNat v3) (0,0,ByteArray.empty,0,())))=true then (ds=[Dyn.mk .bool false]) else (if (decide (v3>0))=true then ((InR .i64 (v3 - 1))∧((0≤v3 - 1)∧(v3 - 1<(x0.length:Int))∧(if (decide ((List.getD x0 (Int.toNat (v3 - 1)) (0,0,ByteArray.empty,0,())).1>(List.getD x0 (Int.toNat v3) (0,0,ByteArray.empty,0,())).1))=true then (ds=[Dyn.mk .bool false]) else ((InR .i64 (v3 - 1))∧((0≤v3 - 1)∧(v3 - 1<(x0.length:Int))∧(if ((List.getD x0 (Int.toNat (v3 - 1)) (0,0,ByteArray.empty,0,())).1==(List.getD x0 (Int.toNat v3) (0,0,ByteArray.empty,0,())).1)=true then ((InR .i64 (v3 - 1))∧((0≤v3 - 1)∧(v3 - 1<(x0.length:Int))∧(if (decide ((List.getD x0 (Int.toNat (v3 - 1)) (0,0,ByteArray.empty,0,())).2.1>(List.getD x0 (Int.toNat v3) (0,0,ByteArray.empty,0,())).2.1))=true then (ds=[Dyn.mk .bool false]) else ((InR .i64 (v3+1))∧(R59_2 n (v3+1) (x0) ds))))) else ((InR .i64 (v3+1))∧(R59_2 n (v3+1) (x0) ds)))))))) else ((InR .i64 (v3+1))∧(R59_2 n (v3+1) (x0) ds))))) else (ds=[Dyn.mk .bool (decide ((x0.length:Int)≤40))]))
end
theorem snd59:∀ n,(∀ (x0:List TyB2) ds,R59 n x0 ds→∀ K q,AtV Tryz.prog 59 (PostR kds59 oks59 ds [] [] q K) 61 K q [] [.code b59] (entE 0 0 sig59 (x0,())) (entL sig59 (x0,())))∧(∀ (v3:Int) (x0:List TyB2) ds,R59_2 n v3 x0 ds→∀ K q,AtV Tryz.prog 59 (PostR kds59 oks59 ds [] [] q K) 61 K q [] (cutAt b59 2) (E59_2 v3 x0) (L59_2 v3 x0)):=by
 intro n
 induction n with
 | zero=>exact ⟨fun _ _ h=>by simp only [R59] at h,fun _ _ _ h=>by simp only [R59_2] at h⟩
 | succ n ih =>
 obtain ⟨ih,ih2⟩:=ih
 refine ⟨?_,?_⟩
 ·intro x0 ds h K q
  rw [R59] at h
  exact AtV.go tabOk ext59Ok mixed false [] [] [0,3] [] [] trivial (ih2 _ _ _ h K q) (by kernel_rfl)
 ·intro v3 x0 ds h K q
  rw [R59_2] at h
  by_cases b0:(decide (v3<(x0.length:Int)))=true
  ·rw [if_pos b0] at h
   obtain ⟨s0,s1,h⟩:=h
   by_cases b1:(!g93_0 (List.getD x0 (Int.toNat v3) (0,0,ByteArray.empty,0,())))=true
   ·rw [if_pos b1] at h
    subst h
    exact AtV.ret Tryz.func59 tabOk ext59Ok mixed false [] tys59 [true,true] (a1 b0 (a1 s0 (a1 s1 (a1 trivial (a1 b1 trivial))))) (by kernel_rfl)
   ·rw [if_neg b1] at h
    replace b1:=bf_ b1
    by_cases b2:(decide (v3>0))=true
    ·rw [if_pos b2] at h
     obtain ⟨s2,h⟩:=h
     obtain ⟨s3,s4,h⟩:=h
     by_cases b3:(decide ((List.getD x0 (Int.toNat (v3 - 1)) (0,0,ByteArray.empty,0,())).1>(List.getD x0 (Int.toNat v3) (0,0,ByteArray.empty,0,())).1))=true
     ·rw [if_pos b3] at h
      subst h
      exact AtV.ret Tryz.func59 tabOk ext59Ok mixed false [] tys59 [true,false,true,true,true] (a1 b0 (a1 s0 (a1 s1 (a1 trivial (a1 b1 (a1 b2 (a1 s2 (a1 s3 (a1 s4 (a1 b3 (a1 (rfl:true=true) trivial))))))))))) (by kernel_rfl)
     ·rw [if_neg b3] at h
      replace b3:=bf_ b3
      obtain ⟨s5,h⟩:=h
      obtain ⟨s6,s7,h⟩:=h
      by_cases b4:((List.getD x0 (Int.toNat (v3 - 1)) (0,0,ByteArray.empty,0,())).1==(List.getD x0 (Int.toNat v3) (0,0,ByteArray.empty,0,())).1)=true
      ·rw [if_pos b4] at h
       obtain ⟨s8,h⟩:=h
       obtain ⟨s9,s10,h⟩:=h
       by_cases b5:(decide ((List.getD x0 (Int.toNat (v3 - 1)) (0,0,ByteArray.empty,0,())).2.1>(List.getD x0 (Int.toNat v3) (0,0,ByteArray.empty,0,())).2.1))=true
       ·rw [if_pos b5] at h
        subst h
        exact AtV.ret Tryz.func59 tabOk ext59Ok mixed false [] tys59 [true,false,true,false,true,true] (a1 b0 (a1 s0 (a1 s1 (a1 trivial (a1 b1 (a1 b2 (a1 s2 (a1 s3 (a1 s4 (a1 b3 (a1 s5 (a1 s6 (a1 s7 (a1 b4 (a1 s8 (a1 s9 (a1 s10 (a1 b5 trivial)))))))))))))))))) (by kernel_rfl)
       ·rw [if_neg b5] at h
        replace b5:=bf_ b5
        obtain ⟨s11,h⟩:=h
        exact AtV.go tabOk ext59Ok mixed false [] [] [0,3] [] [true,false,true,false,true,false] (a1 b0 (a1 s0 (a1 s1 (a1 trivial (a1 b1 (a1 b2 (a1 s2 (a1 s3 (a1 s4 (a1 b3 (a1 s5 (a1 s6 (a1 s7 (a1 b4 (a1 s8 (a1 s9 (a1 s10 (a1 b5 (a1 s11 trivial))))))))))))))))))) (ih2 _ _ _ h K q) (by kernel_rfl)
      ·rw [if_neg b4] at h
       replace b4:=bf_ b4
       obtain ⟨s8,h⟩:=h
       exact AtV.go tabOk ext59Ok mixed false [] [] [0,3] [] [true,false,true,false,false,false] (a1 b0 (a1 s0 (a1 s1 (a1 trivial (a1 b1 (a1 b2 (a1 s2 (a1 s3 (a1 s4 (a1 b3 (a1 s5 (a1 s6 (a1 s7 (a1 b4 (a1 (rfl:false=false) (a1 s8 trivial)))))))))))))))) (ih2 _ _ _ h K q) (by kernel_rfl)
    ·rw [if_neg b2] at h
     replace b2:=bf_ b2
     obtain ⟨s2,h⟩:=h
     exact AtV.go tabOk ext59Ok mixed false [] [] [0,3] [] [true,false,false,false] (a1 b0 (a1 s0 (a1 s1 (a1 trivial (a1 b1 (a1 b2 (a1 (rfl:false=false) (a1 s2 trivial)))))))) (ih2 _ _ _ h K q) (by kernel_rfl)
  ·rw [if_neg b0] at h
   replace b0:=bf_ b0
   subst h
   exact AtV.ret Tryz.func59 tabOk ext59Ok mixed false [] tys59 [false] (a1 b0 trivial) (by kernel_rfl)
def bad59 (y x:TyB2):Bool:=if decide (y.1>x.1)=true then true else (if (y.1==x.1)=true then decide (y.2.1>x.2.1) else false)
def ok59 (x0:List TyB2) (i:Nat) (x:TyB2):Bool:=g93_0 x&&(i==0 || !bad59 (x0.getD (i - 1) ((0:Int),(0:Int),ByteArray.empty,(0:Int),())) x)
def g59_0 (x0:List TyB2):Bool:=allI (ok59 x0) 0 x0&&decide ((x0.length:Int)≤40)
def P59 (x0:List TyB2):Prop:=True
theorem step59 (n i:Nat) (x0:List TyB2) (hm:x0.length≤maxLen) (hi:i<x0.length) (ds:List Dyn)
  (h:if ok59 x0 i (x0.getD i ((0:Int),(0:Int),ByteArray.empty,(0:Int),()))=true then R59_2 n ((i:Int)+1) x0 ds else ds=[⟨.bool,false⟩]):R59_2 (n+1) (i:Int) x0 ds:=by
 have hu:=inR_up hm hi
 have hmx:maxLen≤9223372036854775807:=by decide
 rw [R59_2,if_pos (by simp only [decide_eq_true_eq];omega)]
 simp only [Int.toNat_natCast]
 refine ⟨by omega,by omega,?_⟩
 unfold ok59 at h
 by_cases hv:g93_0 (x0.getD i ((0:Int),(0:Int),ByteArray.empty,(0:Int),()))=true
 case neg=>rw [bf_ hv] at h;rw [if_pos (by rw [bf_ hv];rfl)];simpa using h
 rw [if_neg (by rw [hv];simp)]
 rw [hv] at h
 by_cases h0:(i:Int)>0
 case neg =>
  rw [if_neg (by simpa using h0)]
  have hi0:(i==0)=true:=by simp;omega
  rw [hi0] at h
  exact ⟨hu,by simpa using h⟩
 rw [if_pos (by simpa using h0)]
 have hi0:(i==0)=false:=by simp;omega
 have e:((i:Int) - 1).toNat=i - 1:=by omega
 have hd:InR .i64 ((i:Int) - 1):=by rw [i64_iff];omega
 rw [hi0] at h
 simp only [e]
 refine ⟨hd,by omega,by omega,?_⟩
 by_cases c0:(x0.getD (i - 1) ((0:Int),(0:Int),ByteArray.empty,(0:Int),())).1>(x0.getD i ((0:Int),(0:Int),ByteArray.empty,(0:Int),())).1
 ·rw [if_pos (decide_eq_true c0)]
  have:bad59 (x0.getD (i - 1) ((0:Int),(0:Int),ByteArray.empty,(0:Int),())) (x0.getD i ((0:Int),(0:Int),ByteArray.empty,(0:Int),()))=true:=by unfold bad59;rw [if_pos (decide_eq_true c0)]
  rw [this] at h
  simpa using h
 ·rw [if_neg (by simpa using c0)]
  refine ⟨hd,by omega,by omega,?_⟩
  by_cases c1:((x0.getD (i - 1) ((0:Int),(0:Int),ByteArray.empty,(0:Int),())).1==(x0.getD i ((0:Int),(0:Int),ByteArray.empty,(0:Int),())).1)=true
  ·rw [if_pos c1]
   refine ⟨hd,by omega,by omega,?_⟩
   have eb:bad59 (x0.getD (i - 1) ((0:Int),(0:Int),ByteArray.empty,(0:Int),())) (x0.getD i ((0:Int),(0:Int),ByteArray.empty,(0:Int),()))=decide ((x0.getD (i - 1) ((0:Int),(0:Int),ByteArray.empty,(0:Int),())).2.1>(x0.getD i ((0:Int),(0:Int),ByteArray.empty,(0:Int),())).2.1):=by unfold bad59;rw [if_neg (by simpa using c0),if_pos c1]
   rw [eb] at h
   by_cases c2:(x0.getD (i - 1) ((0:Int),(0:Int),ByteArray.empty,(0:Int),())).2.1>(x0.getD i ((0:Int),(0:Int),ByteArray.empty,(0:Int),())).2.1
   ·rw [if_pos (decide_eq_true c2)]
    rw [decide_eq_true c2] at h
    simpa using h
   ·rw [if_neg (by simpa using c2)]
    rw [decide_eq_false c2] at h
    exact ⟨hu,by simpa using h⟩
  ·rw [if_neg c1]
   have eb:bad59 (x0.getD (i - 1) ((0:Int),(0:Int),ByteArray.empty,(0:Int),())) (x0.getD i ((0:Int),(0:Int),ByteArray.empty,(0:Int),()))=false:=by unfold bad59;rw [if_neg (by simpa using c0),if_neg c1]
   rw [eb] at h
   exact ⟨hu,by simpa using h⟩
theorem top59 (x0:List TyB2) (hw:x0.length≤maxLen):R59 (x0.length+1+1) x0 [⟨.bool,g59_0 x0⟩]:=by
 rw [R59]
 have key:=loop_testI x0 ((0:Int),(0:Int),ByteArray.empty,(0:Int),()) (ok59 x0) [(⟨.bool,false⟩:Dyn)] [⟨.bool,decide ((x0.length:Int)≤40)⟩] (fun n i ds=>R59_2 n i x0 ds) (fun n => ?_) (fun n i hi hok ds hr => ?_) (fun n i hi hok => ?_)
 ·unfold g59_0
  cases h:allI (ok59 x0) 0 x0 with
  | true=>rw [if_pos h] at key;simpa using key
  | false=>rw [if_neg (by rw [h];simp)] at key;simpa using key
 ·rw [R59_2,if_neg (by simp)]
 ·exact step59 n i x0 hw hi ds (by rw [if_pos hok];exact hr)
 ·exact step59 n i x0 hw hi _ (by rw [if_neg (by rw [hok];simp)])
def S59:Am.Spec:={ sig:=sig59,pre:=fun ⟨x0,_⟩=>P59 x0,res:=fun ⟨x0,_⟩=>[⟨.bool,g59_0 x0⟩] }
theorem con59:Contract Tryz.prog 59 S59:=contract_of Tryz.func59 hb59 (bl_ (by kernel_rfl)) (fun ⟨x0,_⟩ h hwf K q =>
 (snd59 _).1 x0 _ (top59 x0 hwf.1.1) K q)
end
noncomputable section
def ext18:Ext:=[(51,S51),(52,S52),(53,S53),(54,S54),(55,S55),(56,S56),(57,S57),(58,S58),(59,S59)]
theorem ext18Ok:ExtOk Tryz.prog ext18:=⟨⟨ca51,con51⟩,⟨ca52,con52⟩,⟨ca53,con53⟩,⟨ca54,con54⟩,⟨ca55,con55⟩,⟨ca56,con56⟩,⟨ca57,con57⟩,⟨ca58,con58⟩,⟨ca59,con59⟩,trivial⟩
def b18:Code:=bodyOf Tryz.f18
theorem hb18:Tryz.f18.body=some b18:=by kernel_rfl
def sig18:List AT:=[AT.p YA0]
def tys18:List Ty:=[.bool]
def kds18:List RK:=[]
def oks18:List AT:=owns sig18
def P18 (x0:TyA0):Prop:=True
def g18_0 (x0:TyA0):Bool:=(if (!g51_0 x0.1)=true then false else (if (!g52_0 x0.2.1)=true then false else (if (!g53_0 x0.2.2.1)=true then false else (if (!g54_0 x0.2.2.2.1)=true then false else (if (!g55_0 x0.2.2.2.2.1)=true then false else (if (!g56_0 x0.2.2.2.2.2.1)=true then false else (if (g57_0 x0.2.2.2.2.2.2.1 x0.2.2.2.2.2.2.2.1 x0.2.2.2.2.2.2.2.2.1 != 0)=true then false else (if (g58_0 x0.2.2.2.2.2.2.2.2.2.1 x0.2.2.2.2.2.2.2.2.2.2.1==0)=true then g59_0 x0.2.2.2.2.2.2.2.2.2.2.2.1 else false))))))))
theorem at18 (x0:TyA0) (h:P18 x0) (K:Ctx) (q:Nat→Value):AtV Tryz.prog 18 (PostR kds18 oks18 [⟨.bool,g18_0 x0⟩] [] [] q K) 76 K q [] [.code b18] (entE 0 0 sig18 (x0,())) (entL sig18 (x0,())):=by
 unfold P18 at h
 unfold g18_0
 by_cases b0:(!g51_0 x0.1)=true
 ·try simp only [if_pos b0] at h ⊢
  exact AtV.ret Tryz.func18 tabOk ext18Ok mixed false [] tys18 [true,true,true,true] (a1 trivial (a1 b0 (a1 (rfl:true=true) (a1 (rfl:true=true) (a1 (rfl:true=true) trivial))))) (by kernel_rfl)
 ·try simp only [if_neg b0] at h ⊢
  replace b0:=bf_ b0
  by_cases b1:(!g52_0 x0.2.1)=true
  ·try simp only [if_pos b1] at h ⊢
   exact AtV.ret Tryz.func18 tabOk ext18Ok mixed false [] tys18 [false,true,true,true] (a1 trivial (a1 b0 (a1 trivial (a1 b1 (a1 (rfl:true=true) (a1 (rfl:true=true) trivial)))))) (by kernel_rfl)
  ·try simp only [if_neg b1] at h ⊢
   replace b1:=bf_ b1
   by_cases b2:(!g53_0 x0.2.2.1)=true
   ·try simp only [if_pos b2] at h ⊢
    exact AtV.ret Tryz.func18 tabOk ext18Ok mixed false [] tys18 [false,false,true,true] (a1 trivial (a1 b0 (a1 trivial (a1 b1 (a1 trivial (a1 b2 (a1 (rfl:true=true) trivial))))))) (by kernel_rfl)
   ·try simp only [if_neg b2] at h ⊢
    replace b2:=bf_ b2
    by_cases b3:(!g54_0 x0.2.2.2.1)=true
    ·try simp only [if_pos b3] at h ⊢
     exact AtV.ret Tryz.func18 tabOk ext18Ok mixed false [] tys18 [false,false,false,true] (a1 trivial (a1 b0 (a1 trivial (a1 b1 (a1 trivial (a1 b2 (a1 trivial (a1 b3 trivial)))))))) (by kernel_rfl)
    ·try simp only [if_neg b3] at h ⊢
     replace b3:=bf_ b3
     by_cases b4:(!g55_0 x0.2.2.2.2.1)=true
     ·try simp only [if_pos b4] at h ⊢
      exact AtV.ret Tryz.func18 tabOk ext18Ok mixed false [] tys18 [false,false,false,false,true,true,true] (a1 trivial (a1 b0 (a1 trivial (a1 b1 (a1 trivial (a1 b2 (a1 trivial (a1 b3 (a1 trivial (a1 b4 (a1 (rfl:true=true) (a1 (rfl:true=true) trivial)))))))))))) (by kernel_rfl)
     ·try simp only [if_neg b4] at h ⊢
      replace b4:=bf_ b4
      by_cases b5:(!g56_0 x0.2.2.2.2.2.1)=true
      ·try simp only [if_pos b5] at h ⊢
       exact AtV.ret Tryz.func18 tabOk ext18Ok mixed false [] tys18 [false,false,false,false,false,true,true] (a1 trivial (a1 b0 (a1 trivial (a1 b1 (a1 trivial (a1 b2 (a1 trivial (a1 b3 (a1 trivial (a1 b4 (a1 trivial (a1 b5 (a1 (rfl:true=true) trivial))))))))))))) (by kernel_rfl)
      ·try simp only [if_neg b5] at h ⊢
       replace b5:=bf_ b5
       by_cases b6:(g57_0 x0.2.2.2.2.2.2.1 x0.2.2.2.2.2.2.2.1 x0.2.2.2.2.2.2.2.2.1 != 0)=true
       ·try simp only [if_pos b6] at h ⊢
        exact AtV.ret Tryz.func18 tabOk ext18Ok mixed false [] tys18 [false,false,false,false,false,false,true] (a1 trivial (a1 b0 (a1 trivial (a1 b1 (a1 trivial (a1 b2 (a1 trivial (a1 b3 (a1 trivial (a1 b4 (a1 trivial (a1 b5 (a1 trivial (a1 b6 trivial)))))))))))))) (by kernel_rfl)
       ·try simp only [if_neg b6] at h ⊢
        replace b6:=bf_ b6
        by_cases b7:(g58_0 x0.2.2.2.2.2.2.2.2.2.1 x0.2.2.2.2.2.2.2.2.2.2.1==0)=true
        ·try simp only [if_pos b7] at h ⊢
         exact AtV.ret Tryz.func18 tabOk ext18Ok mixed false [] tys18 [false,false,false,false,false,false,false,true] (a1 trivial (a1 b0 (a1 trivial (a1 b1 (a1 trivial (a1 b2 (a1 trivial (a1 b3 (a1 trivial (a1 b4 (a1 trivial (a1 b5 (a1 trivial (a1 b6 (a1 trivial (a1 b7 (a1 trivial trivial))))))))))))))))) (by kernel_rfl)
        ·try simp only [if_neg b7] at h ⊢
         replace b7:=bf_ b7
         exact AtV.ret Tryz.func18 tabOk ext18Ok mixed false [] tys18 [false,false,false,false,false,false,false,false] (a1 trivial (a1 b0 (a1 trivial (a1 b1 (a1 trivial (a1 b2 (a1 trivial (a1 b3 (a1 trivial (a1 b4 (a1 trivial (a1 b5 (a1 trivial (a1 b6 (a1 trivial (a1 b7 trivial)))))))))))))))) (by kernel_rfl)
def S18:Am.Spec:={ sig:=sig18,pre:=fun ⟨x0,_⟩=>P18 x0,res:=fun ⟨x0,_⟩=>[⟨.bool,g18_0 x0⟩],kds:=kds18 }
theorem con18:Contract Tryz.prog 18 S18:=contract_of Tryz.func18 hb18 (bl_ (by kernel_rfl)) (fun ⟨x0,_⟩ h _ K q=>at18 x0 h K q)
end
noncomputable section
def ext156:Ext:=[]
theorem ext156Ok:ExtOk Tryz.prog ext156:=trivial
def b156:Code:=bodyOf Tryz.f156
theorem hb156:Tryz.f156.body=some b156:=by kernel_rfl
def sig156:List AT:=[AT.v (.int .i64),AT.v (.int .i64)]
def tys156:List Ty:=[.int .i64]
def kds156:List RK:=[]
def oks156:List AT:=owns sig156
def P156 (x0:Int) (x1:Int):Prop:=True
def g156_0 (x0:Int) (x1:Int):Int:=(if (decide (x0>x1))=true then x0 else x1)
theorem at156 (x0:Int) (x1:Int) (h:P156 x0 x1) (K:Ctx) (q:Nat→Value):AtV Tryz.prog 156 (PostR kds156 oks156 [⟨.int .i64,g156_0 x0 x1⟩] [] [] q K) 10 K q [] [.code b156] (entE 0 0 sig156 (x0,x1,())) (entL sig156 (x0,x1,())):=by
 unfold P156 at h
 unfold g156_0
 by_cases b0:(decide (x0>x1))=true
 ·try simp only [if_pos b0] at h ⊢
  exact AtV.ret Tryz.func156 tabOk ext156Ok mixed false [] tys156 [true] (a1 b0 trivial) (by kernel_rfl)
 ·try simp only [if_neg b0] at h ⊢
  replace b0:=bf_ b0
  exact AtV.ret Tryz.func156 tabOk ext156Ok mixed false [] tys156 [false] (a1 b0 trivial) (by kernel_rfl)
def S156:Am.Spec:={ sig:=sig156,pre:=fun ⟨x0,x1,_⟩=>P156 x0 x1,res:=fun ⟨x0,x1,_⟩=>[⟨.int .i64,g156_0 x0 x1⟩],kds:=kds156 }
theorem con156:Contract Tryz.prog 156 S156:=contract_of Tryz.func156 hb156 (bl_ (by kernel_rfl)) (fun ⟨x0,x1,_⟩ h _ K q=>at156 x0 x1 h K q)
end
noncomputable section
def ext157:Ext:=[]
theorem ext157Ok:ExtOk Tryz.prog ext157:=trivial
def b157:Code:=bodyOf Tryz.f157
theorem hb157:Tryz.f157.body=some b157:=by kernel_rfl
def sig157:List AT:=[AT.v (.int .i64),AT.v (.int .i64)]
def tys157:List Ty:=[.int .i64]
def kds157:List RK:=[]
def oks157:List AT:=owns sig157
def P157 (x0:Int) (x1:Int):Prop:=True
def g157_0 (x0:Int) (x1:Int):Int:=(if (decide (x0<x1))=true then x0 else x1)
theorem at157 (x0:Int) (x1:Int) (h:P157 x0 x1) (K:Ctx) (q:Nat→Value):AtV Tryz.prog 157 (PostR kds157 oks157 [⟨.int .i64,g157_0 x0 x1⟩] [] [] q K) 10 K q [] [.code b157] (entE 0 0 sig157 (x0,x1,())) (entL sig157 (x0,x1,())):=by
 unfold P157 at h
 unfold g157_0
 by_cases b0:(decide (x0<x1))=true
 ·try simp only [if_pos b0] at h ⊢
  exact AtV.ret Tryz.func157 tabOk ext157Ok mixed false [] tys157 [true] (a1 b0 trivial) (by kernel_rfl)
 ·try simp only [if_neg b0] at h ⊢
  replace b0:=bf_ b0
  exact AtV.ret Tryz.func157 tabOk ext157Ok mixed false [] tys157 [false] (a1 b0 trivial) (by kernel_rfl)
def S157:Am.Spec:={ sig:=sig157,pre:=fun ⟨x0,x1,_⟩=>P157 x0 x1,res:=fun ⟨x0,x1,_⟩=>[⟨.int .i64,g157_0 x0 x1⟩],kds:=kds157 }
theorem con157:Contract Tryz.prog 157 S157:=contract_of Tryz.func157 hb157 (bl_ (by kernel_rfl)) (fun ⟨x0,x1,_⟩ h _ K q=>at157 x0 x1 h K q)
end
noncomputable section
def ext129:Ext:=[(85,S85),(156,S156),(157,S157)]
theorem ext129Ok:ExtOk Tryz.prog ext129:=⟨⟨ca85,con85⟩,⟨ca156,con156⟩,⟨ca157,con157⟩,trivial⟩
def b129:Code:=bodyOf Tryz.f129
theorem hb129:Tryz.f129.body=some b129:=by kernel_rfl
def sig129:List AT:=[AT.p YA2]
def tys129:List Ty:=[.int .i64,.int .i64]
def kds129:List RK:=[]
def oks129:List AT:=owns sig129
def P129 (x0:List TyB4×Int×Int×Unit):Prop:=((P85 x0)∧((InR .i64 (g85_0 x0 - x0.2.2.1))∧((InR .i64 (g85_0 x0 - x0.2.1))∧True)))
def g129_0 (x0:List TyB4×Int×Int×Unit):Int:=g156_0 x0.2.1 (g85_0 x0 - x0.2.2.1)
def g129_1 (x0:List TyB4×Int×Int×Unit):Int:=g157_0 x0.2.2.1 (g85_0 x0 - x0.2.1)
theorem at129 (x0:List TyB4×Int×Int×Unit) (h:P129 x0) (K:Ctx) (q:Nat→Value):AtV Tryz.prog 129 (PostR kds129 oks129 [⟨.int .i64,g129_0 x0⟩,⟨.int .i64,g129_1 x0⟩] [] [] q K) 29 K q [] [.code b129] (entE 0 0 sig129 (x0,())) (entL sig129 (x0,())):=by
 unfold P129 at h
 unfold g129_0 g129_1
 obtain ⟨s0,h⟩:=h
 obtain ⟨s1,h⟩:=h
 obtain ⟨s2,h⟩:=h
 exact AtV.ret Tryz.func129 tabOk ext129Ok mixed false [] tys129 [] (a1 s0 (a1 s1 (a1 trivial (a1 s2 (a1 trivial trivial))))) (by kernel_rfl)
def S129:Am.Spec:={ sig:=sig129,pre:=fun ⟨x0,_⟩=>P129 x0,res:=fun ⟨x0,_⟩=>[⟨.int .i64,g129_0 x0⟩,⟨.int .i64,g129_1 x0⟩],kds:=kds129 }
theorem con129:Contract Tryz.prog 129 S129:=contract_of Tryz.func129 hb129 (bl_ (by kernel_rfl)) (fun ⟨x0,_⟩ h _ K q=>at129 x0 h K q)
end
noncomputable section
def ext96:Ext:=[(129,S129),(85,S85)]
theorem ext96Ok:ExtOk Tryz.prog ext96:=⟨⟨ca129,con129⟩,⟨ca85,con85⟩,trivial⟩
def b96:Code:=bodyOf Tryz.f96
theorem hb96:Tryz.f96.body=some b96:=by kernel_rfl
def sig96:List AT:=[AT.p YA2]
def tys96:List Ty:=[.int .i64]
def kds96:List RK:=[]
def oks96:List AT:=owns sig96
def P96 (x0:List TyB4×Int×Int×Unit):Prop:=((P129 x0)∧((P85 x0)∧(if (decide (g129_0 x0>g129_1 x0))=true then ((InR .i64 (Int.tmod (g85_0 x0) 2))∧True) else (if (g129_0 x0==0)=true then True else ((InR .i64 (g129_0 x0 - 1))∧((InR .i64 (2*(g129_0 x0 - 1)))∧((InR .i64 (g85_0 x0 - 2*(g129_0 x0 - 1)))∧True)))))))
def g96_0 (x0:List TyB4×Int×Int×Unit):Int:=(if (decide (g129_0 x0>g129_1 x0))=true then Int.tmod (g85_0 x0) 2 else (if (g129_0 x0==0)=true then -1 else g85_0 x0 - 2*(g129_0 x0 - 1)))
theorem at96 (x0:List TyB4×Int×Int×Unit) (h:P96 x0) (K:Ctx) (q:Nat→Value):AtV Tryz.prog 96 (PostR kds96 oks96 [⟨.int .i64,g96_0 x0⟩] [] [] q K) 25 K q [] [.code b96] (entE 0 0 sig96 (x0,())) (entL sig96 (x0,())):=by
 unfold P96 at h
 unfold g96_0
 obtain ⟨s0,h⟩:=h
 obtain ⟨s1,h⟩:=h
 by_cases b0:(decide (g129_0 x0>g129_1 x0))=true
 ·try simp only [if_pos b0] at h ⊢
  obtain ⟨s2,h⟩:=h
  exact AtV.ret Tryz.func96 tabOk ext96Ok mixed false [] tys96 [true] (a1 s0 (a1 s1 (a1 b0 (a1 ((by decide):(2:Int)≠(0:Int)) (a1 s2 trivial))))) (by kernel_rfl)
 ·try simp only [if_neg b0] at h ⊢
  replace b0:=bf_ b0
  by_cases b1:(g129_0 x0==0)=true
  ·try simp only [if_pos b1] at h ⊢
   exact AtV.ret Tryz.func96 tabOk ext96Ok mixed false [] tys96 [false,true] (a1 s0 (a1 s1 (a1 b0 (a1 b1 trivial)))) (by kernel_rfl)
  ·try simp only [if_neg b1] at h ⊢
   replace b1:=bf_ b1
   obtain ⟨s2,h⟩:=h
   obtain ⟨s3,h⟩:=h
   obtain ⟨s4,h⟩:=h
   exact AtV.ret Tryz.func96 tabOk ext96Ok mixed false [] tys96 [false,false] (a1 s0 (a1 s1 (a1 b0 (a1 b1 (a1 s2 (a1 s3 (a1 s4 trivial))))))) (by kernel_rfl)
def S96:Am.Spec:={ sig:=sig96,pre:=fun ⟨x0,_⟩=>P96 x0,res:=fun ⟨x0,_⟩=>[⟨.int .i64,g96_0 x0⟩],kds:=kds96 }
theorem con96:Contract Tryz.prog 96 S96:=contract_of Tryz.func96 hb96 (bl_ (by kernel_rfl)) (fun ⟨x0,_⟩ h _ K q=>at96 x0 h K q)
end
noncomputable section
def ext94:Ext:=[(129,S129),(96,S96)]
theorem ext94Ok:ExtOk Tryz.prog ext94:=⟨⟨ca129,con129⟩,⟨ca96,con96⟩,trivial⟩
def b94:Code:=bodyOf Tryz.f94
theorem hb94:Tryz.f94.body=some b94:=by kernel_rfl
def sig94:List AT:=[AT.p YA2,AT.v (.int .i64)]
def tys94:List Ty:=[.bool]
def kds94:List RK:=[]
def oks94:List AT:=owns sig94
def P94 (x0:List TyB4×Int×Int×Unit) (x1:Int):Prop:=((P129 x0)∧((P96 x0)∧True))
def g94_0 (x0:List TyB4×Int×Int×Unit) (x1:Int):Bool:=(if (decide (g129_0 x0≤g129_1 x0))=true then (if (decide (g96_0 x0<0))=true then true else decide (g96_0 x0≥x1)) else false)
theorem at94 (x0:List TyB4×Int×Int×Unit) (x1:Int) (h:P94 x0 x1) (K:Ctx) (q:Nat→Value):AtV Tryz.prog 94 (PostR kds94 oks94 [⟨.bool,g94_0 x0 x1⟩] [] [] q K) 27 K q [] [.code b94] (entE 0 0 sig94 (x0,x1,())) (entL sig94 (x0,x1,())):=by
 unfold P94 at h
 unfold g94_0
 obtain ⟨s0,h⟩:=h
 obtain ⟨s1,h⟩:=h
 by_cases b0:(decide (g129_0 x0≤g129_1 x0))=true
 ·try simp only [if_pos b0] at h ⊢
  by_cases b1:(decide (g96_0 x0<0))=true
  ·try simp only [if_pos b1] at h ⊢
   exact AtV.ret Tryz.func94 tabOk ext94Ok mixed false [] tys94 [true,true] (a1 s0 (a1 s1 (a1 b0 (a1 b1 trivial)))) (by kernel_rfl)
  ·try simp only [if_neg b1] at h ⊢
   replace b1:=bf_ b1
   exact AtV.ret Tryz.func94 tabOk ext94Ok mixed false [] tys94 [true,false] (a1 s0 (a1 s1 (a1 b0 (a1 b1 trivial)))) (by kernel_rfl)
 ·try simp only [if_neg b0] at h ⊢
  replace b0:=bf_ b0
  exact AtV.ret Tryz.func94 tabOk ext94Ok mixed false [] tys94 [false] (a1 s0 (a1 s1 (a1 b0 trivial))) (by kernel_rfl)
def S94:Am.Spec:={ sig:=sig94,pre:=fun ⟨x0,x1,_⟩=>P94 x0 x1,res:=fun ⟨x0,x1,_⟩=>[⟨.bool,g94_0 x0 x1⟩],kds:=kds94 }
theorem con94:Contract Tryz.prog 94 S94:=contract_of Tryz.func94 hb94 (bl_ (by kernel_rfl)) (fun ⟨x0,x1,_⟩ h _ K q=>at94 x0 x1 h K q)
end
noncomputable section
def ext95:Ext:=[]
theorem ext95Ok:ExtOk Tryz.prog ext95:=trivial
def b95:Code:=bodyOf Tryz.f95
theorem hb95:Tryz.f95.body=some b95:=by kernel_rfl
def sig95:List AT:=[AT.v (.int .i64)]
def tys95:List Ty:=[.str]
def kds95:List RK:=[]
def oks95:List AT:=owns sig95
def E95_5 (v4:Int) (h0:List Int) (x0:Int):Env:=[(0,.a (.val (.int .i64 x0))),(3,.a (.osl 0 Option.none)),(4,.a (.val (.int .i64 v4)))]
def L95_5 (v4:Int) (h0:List Int) (x0:Int):Heap:=[Option.some (Arr.mk (.int .u8) h0 false Option.none Option.none)]
def E95_15 (v7:Int) (h0:List Int) (h1:List Int):Env:=[(3,.a (.osl 0 Option.none)),(6,.a (.osl 1 Option.none)),(7,.a (.val (.int .i64 v7)))]
def L95_15 (v7:Int) (h0:List Int) (h1:List Int):Heap:=[Option.some (Arr.mk (.int .u8) h0 false Option.none Option.none),Option.some (Arr.mk (.int .u8) h1 false Option.none Option.none)]
mutual
def R95:Nat→Int→List Dyn→Prop
 | 0,_,_=>False
 | n+1,x0,ds=>(if (x0==0)=true then (ds=[Dyn.mk .str (ByteArray.mk #[48])]) else (R95_5 n (x0) ([]) (x0) ds))
def R95_5:Nat→Int→List Int→Int→List Dyn→Prop
 | 0,_,_,_,_=>False
 | n+1,v4,h0,x0,ds=>(if (v4 != 0)=true then ((InR .i64 (Int.tmod v4 10))∧(if (decide (Int.tmod v4 10<0))=true then ((InR .i64 (0 - Int.tmod v4 10))∧((InR .i64 (48+(0 - Int.tmod v4 10)))∧((InR .u8 (48+(0 - Int.tmod v4 10)))∧(((List.length h0+1)*1≤140737488355328)∧((InR .i64 (Int.tdiv v4 10))∧(R95_5 n (Int.tdiv v4 10) (h0++[48+(0 - Int.tmod v4 10)]) (x0) ds)))))) else ((InR .i64 (48+Int.tmod v4 10))∧((InR .u8 (48+Int.tmod v4 10))∧(((List.length h0+1)*1≤140737488355328)∧((InR .i64 (Int.tdiv v4 10))∧(R95_5 n (Int.tdiv v4 10) (h0++[48+Int.tmod v4 10]) (x0) ds))))))) else (if (decide (x0<0))=true then (((List.length h0+1)*1≤140737488355328)∧((InR .i64 ((↑(List.length (h0++[45])):Int) - 1))∧(R95_15 n ((↑(List.length (h0++[45])):Int) - 1) (h0++[45]) ([]) ds))) else ((InR .i64 ((h0.length:Int) - 1))∧(R95_15 n ((h0.length:Int) - 1) (h0) ([]) ds))))
def R95_15:Nat→Int→List Int→List Int→List Dyn→Prop
 | 0,_,_,_,_=>False
 | n+1,v7,h0,h1,ds=>(if (decide (v7≥0))=true then ((0≤v7)∧(v7<(h0.length:Int))∧(((List.length h1+1)*1≤140737488355328)∧((InR .i64 (v7 - 1))∧(R95_15 n (v7 - 1) (h0) (h1++[List.getD h0 (Int.toNat v7) 0]) ds)))) else (ds=[Dyn.mk .str (bytesStr h1)]))
end
theorem snd95:∀ n,(∀ (x0:Int) ds,R95 n x0 ds→∀ K q,AtV Tryz.prog 95 (PostR kds95 oks95 ds [] [] q K) 50 K q [] [.code b95] (entE 0 0 sig95 (x0,())) (entL sig95 (x0,())))∧(∀ (v4:Int) (h0:List Int) (x0:Int) ds,R95_5 n v4 h0 x0 ds→∀ K q,AtV Tryz.prog 95 (PostR kds95 oks95 ds [] [] q K) 50 K q [] (cutAt b95 5) (E95_5 v4 h0 x0) (L95_5 v4 h0 x0))∧(∀ (v7:Int) (h0:List Int) (h1:List Int) ds,R95_15 n v7 h0 h1 ds→∀ K q,AtV Tryz.prog 95 (PostR kds95 oks95 ds [] [] q K) 50 K q [] (cutAt b95 15) (E95_15 v7 h0 h1) (L95_15 v7 h0 h1)):=by
 intro n
 induction n with
 | zero=>exact ⟨fun _ _ h=>by simp only [R95] at h,fun _ _ _ _ h=>by simp only [R95_5] at h,fun _ _ _ _ h=>by simp only [R95_15] at h⟩
 | succ n ih =>
 obtain ⟨ih,ih5,ih15⟩:=ih
 refine ⟨?_,?_,?_⟩
 ·intro x0 ds h K q
  rw [R95] at h
  by_cases b0:(x0==0)=true
  ·rw [if_pos b0] at h
   subst h
   exact AtV.ret Tryz.func95 tabOk ext95Ok mixed false [] tys95 [true] (a1 b0 trivial) (by kernel_rfl)
  ·rw [if_neg b0] at h
   replace b0:=bf_ b0
   exact AtV.go tabOk ext95Ok mixed false [] [] [0,3,4] [0] [false] (a1 b0 trivial) (ih5 _ _ _ _ h K q) (by kernel_rfl)
 ·intro v4 h0 x0 ds h K q
  rw [R95_5] at h
  by_cases b0:(v4 != 0)=true
  ·rw [if_pos b0] at h
   obtain ⟨s0,h⟩:=h
   by_cases b1:(decide (Int.tmod v4 10<0))=true
   ·rw [if_pos b1] at h
    obtain ⟨s1,h⟩:=h
    obtain ⟨s2,h⟩:=h
    obtain ⟨s3,h⟩:=h
    obtain ⟨s4,h⟩:=h
    obtain ⟨s5,h⟩:=h
    exact AtV.go tabOk ext95Ok mixed false [] [] [0,3,4] [0] [true,true] (a1 b0 (a1 ((by decide):(10:Int)≠(0:Int)) (a1 s0 (a1 b1 (a1 s1 (a1 s2 (a1 s3 (a1 s4 (a1 ((by decide):(10:Int)≠(0:Int)) (a1 s5 trivial)))))))))) (ih5 _ _ _ _ h K q) (by kernel_rfl)
   ·rw [if_neg b1] at h
    replace b1:=bf_ b1
    obtain ⟨s1,h⟩:=h
    obtain ⟨s2,h⟩:=h
    obtain ⟨s3,h⟩:=h
    obtain ⟨s4,h⟩:=h
    exact AtV.go tabOk ext95Ok mixed false [] [] [0,3,4] [0] [true,false] (a1 b0 (a1 ((by decide):(10:Int)≠(0:Int)) (a1 s0 (a1 b1 (a1 s1 (a1 s2 (a1 s3 (a1 ((by decide):(10:Int)≠(0:Int)) (a1 s4 trivial))))))))) (ih5 _ _ _ _ h K q) (by kernel_rfl)
  ·rw [if_neg b0] at h
   replace b0:=bf_ b0
   by_cases b1:(decide (x0<0))=true
   ·rw [if_pos b1] at h
    obtain ⟨s0,h⟩:=h
    obtain ⟨s1,h⟩:=h
    exact AtV.go tabOk ext95Ok mixed false [] [] [3,6,7] [0,2] [false,true] (a1 b0 (a1 b1 (a1 s0 (a1 s1 trivial)))) (ih15 _ _ _ _ h K q) (by kernel_rfl)
   ·rw [if_neg b1] at h
    replace b1:=bf_ b1
    obtain ⟨s0,h⟩:=h
    exact AtV.go tabOk ext95Ok mixed false [] [] [3,6,7] [0,1] [false,false] (a1 b0 (a1 b1 (a1 s0 trivial))) (ih15 _ _ _ _ h K q) (by kernel_rfl)
 ·intro v7 h0 h1 ds h K q
  rw [R95_15] at h
  by_cases b0:(decide (v7≥0))=true
  ·rw [if_pos b0] at h
   obtain ⟨s0,s1,h⟩:=h
   obtain ⟨s2,h⟩:=h
   obtain ⟨s3,h⟩:=h
   exact AtV.go tabOk ext95Ok mixed false [] [] [3,6,7] [0,1] [true] (a1 b0 (a1 s0 (a1 s1 (a1 s2 (a1 s3 trivial))))) (ih15 _ _ _ _ h K q) (by kernel_rfl)
  ·rw [if_neg b0] at h
   replace b0:=bf_ b0
   subst h
   exact AtV.ret Tryz.func95 tabOk ext95Ok mixed false [] tys95 [false] (a1 b0 trivial) (by kernel_rfl)
def g95_0 (x0:Int):ByteArray:=numB x0
def P95 (x0:Int):Prop:=True
theorem bstr95 (xs:List Int):bytesStr xs=⟨⟨xs.map fun n=>UInt8.ofNat n.toNat⟩⟩:=by
 have key:∀ (xs:List Int) (s:ByteArray),(xs.foldl (fun r n=>r.push (UInt8.ofNat n.toNat)) s).data.toList=s.data.toList++xs.map fun n=>UInt8.ofNat n.toNat:=by
  intro xs
  induction xs with
  | nil=>intro s;simp
  | cons a r ih =>
   intro s
   rw [List.foldl_cons,ih]
   show (s.data.push _).toList++_=_
   rw [Array.toList_push]
   simp
 apply ByteArray.ext
 apply Array.ext'
 have:=key xs ByteArray.empty
 unfold bytesStr
 rw [this]
 rfl
theorem bstrB95 (l:List UInt8):bytesStr (l.map fun b=>(b.toNat:Int))=⟨⟨l⟩⟩:=by
 rw [bstr95,List.map_map]
 congr 2
 conv=>rhs;rw [← List.map_id l]
 refine List.map_congr_left fun b _ => ?_
 show UInt8.ofNat ((b.toNat:Int)).toNat=b
 rw [Int.toNat_natCast,UInt8.ofNat_toNat]
def rd95 (m:Nat):List Int:=if h:m=0 then [] else ((48+m % 10:Nat):Int) :: rd95 (m / 10)
termination_by m
decreasing_by omega
theorem rd095:rd95 0=[]:=by rw [rd95,dif_pos rfl]
theorem rds95 {m:Nat} (h:m≠0):rd95 m=((48+m % 10:Nat):Int) :: rd95 (m / 10):=by rw [rd95,dif_neg h]
theorem rdl95 : ∀ (k m : Nat), m < 10 ^ k → (rd95 m).length ≤ k
  | 0, m, h => by obtain rfl : m = 0 := by simpa using h
                  rw [rd095]; exact Nat.le_refl _
  | k + 1, m, h => by
    by_cases h0 : m = 0
    · rw [h0, rd095]; exact Nat.zero_le _
    · rw [rds95 h0, List.length_cons]
      have := rdl95 k (m / 10) (by rw [Nat.pow_succ] at h; omega)
      omega
theorem rdd95 (m:Nat) (h:m≠0):bytesStr (rd95 m).reverse=⟨⟨Lib.decDigits m⟩⟩:=by
 have key:∀ m:Nat,m≠0→(rd95 m).reverse=(Lib.decDigits m).map fun b=>(b.toNat:Int):=by
  intro m
  induction m using Nat.strongRecOn with
  | _ m ih =>
   intro h
   rw [rds95 h,List.reverse_cons,Lib.decDigits]
   have e:(UInt8.ofNat (48+m % 10)).toNat=48+m % 10:=by rw [UInt8.toNat_ofNat'];omega
   split
   ·rename_i hs
    rw [show m / 10=0 by omega,rd095]
    have e':(UInt8.ofNat (48+m)).toNat=48+m % 10:=by rw [UInt8.toNat_ofNat'];omega
    rw [List.map_singleton,e']
    rfl
   ·rw [ih (m / 10) (by omega) (by omega),List.map_append,List.map_singleton,e]
 rw [key m h]
 exact bstrB95 _
theorem back95 (h0:List Int):∀ (j:Nat) (h1:List Int),j≤h0.length→h1.length+j≤64→R95_15 (j+1) ((j:Int) - 1) h0 h1 [⟨.str,bytesStr (h1++(h0.take j).reverse)⟩]
 | 0,h1,_,_=>by
  rw [R95_15,if_neg (by decide)]
  simp
 | j+1,h1,hj,hl=>by
  have ih:=back95 h0 j (h1++[h0.getD j 0]) (by omega) (by rw [List.length_append,List.length_singleton];omega)
  have e:((j+1:Nat):Int) - 1=(j:Int):=by omega
  rw [R95_15,e,if_pos (by simp only [decide_eq_true_eq];omega),Int.toNat_natCast]
  refine ⟨by omega,by omega,by omega,by rw [i64_iff];omega,?_⟩
  have et:(h0.take (j+1)).reverse=h0.getD j 0 :: (h0.take j).reverse:=by
   have hlt:j<h0.length:=by omega
   rw [List.take_add_one,List.getElem?_eq_getElem hlt,List.reverse_append,List.getD_eq_getElem?_getD,List.getElem?_eq_getElem hlt]
   rfl
  rw [et]
  rw [List.append_assoc] at ih
  exact ih
theorem last95 (x0:Int) (h0:List Int) (hl:h0.length≤20):R95_5 ((if x0<0 then h0.length+1 else h0.length)+1+1) 0 h0 x0 [⟨.str,bytesStr ((if x0<0 then h0++[45] else h0)).reverse⟩]:=by
 rw [R95_5,if_neg (by decide)]
 by_cases hx:x0<0
 ·have b:=back95 (h0++[45]) (h0.length+1) [] (by rw [List.length_append,List.length_singleton];omega) (by simp;omega)
  have e:(h0++[(45:Int)]).length=h0.length+1:=by rw [List.length_append,List.length_singleton]
  rw [List.take_of_length_le (by omega)] at b
  simp only [hx,decide_true,if_true]
  rw [e]
  exact ⟨by omega,by rw [i64_iff];omega,b⟩
 ·have b:=back95 h0 h0.length [] (Nat.le_refl _) (by simp;omega)
  rw [List.take_of_length_le (Nat.le_refl _)] at b
  simp only [hx,decide_false,Bool.false_eq_true,if_false]
  exact ⟨by rw [i64_iff];omega,b⟩
theorem run95 (x0:Int) (ds:List Dyn) (F:List Int) (K:Nat) (hF:R95_5 K 0 F x0 ds):∀ (m:Nat) (v:Int) (h0:List Int),(v=(m:Int)∨v = -(m:Int))→m≤9223372036854775808→InR .i64 v→h0.length+(rd95 m).length≤20→h0++rd95 m=F→R95_5 ((rd95 m).length+K) v h0 x0 ds:=by
 intro m
 induction m using Nat.strongRecOn with
 | _ m ih =>
  intro v h0 hv hm hi hl he
  by_cases h:m=0
  ·subst h
   obtain rfl:v=0:=by omega
   rw [rd095] at he ⊢
   rw [List.append_nil] at he
   rw [he,List.length_nil,Nat.zero_add]
   exact hF
  ·have hr:=rds95 h
   rw [hr] at he hl ⊢
   rw [List.length_cons] at hl ⊢
   have hne:(v != 0)=true:=by
    have:v≠0:=by omega
    simpa using this
   rw [i64_iff] at hi
   have e1:(rd95 (m / 10)).length+1+K=((rd95 (m / 10)).length+K)+1:=by omega
   have next:∀ v',(v'=((m / 10:Nat):Int)∨v' = -((m / 10:Nat):Int))→R95_5 ((rd95 (m / 10)).length+K) v' (h0++[((48+m % 10:Nat):Int)]) x0 ds:=fun v' hv' =>
    ih (m / 10) (by omega) v' _ hv' (by omega) (by rw [i64_iff];omega) (by rw [List.length_append,List.length_singleton];omega) (by rw [List.append_assoc];exact he)
   rw [e1,R95_5,if_pos hne]
   rcases hv with rfl | rfl
   ·have t1:Int.tmod (m:Int) 10=((m % 10:Nat):Int):=rfl
    have t2:Int.tdiv (m:Int) 10=((m / 10:Nat):Int):=rfl
    rw [t1,t2]
    refine ⟨by rw [i64_iff];omega,?_⟩
    rw [if_neg (by simp only [decide_eq_true_eq];omega)]
    have e2:48+((m % 10:Nat):Int)=((48+m % 10:Nat):Int):=by omega
    rw [e2]
    exact ⟨by rw [i64_iff];omega,by rw [u8_iff];omega,by omega,by rw [i64_iff];omega,next _ (.inl rfl)⟩
   ·have t1:Int.tmod (-(m:Int)) 10 = -((m % 10:Nat):Int):=by rw [Int.neg_tmod];rfl
    have t2:Int.tdiv (-(m:Int)) 10 = -((m / 10:Nat):Int):=by rw [Int.neg_tdiv];rfl
    rw [t1,t2]
    refine ⟨by rw [i64_iff];omega,?_⟩
    by_cases hz:m % 10=0
    ·rw [if_neg (by simp only [decide_eq_true_eq];omega)]
     have e2:48 + -((m % 10:Nat):Int)=((48+m % 10:Nat):Int):=by omega
     rw [e2]
     exact ⟨by rw [i64_iff];omega,by rw [u8_iff];omega,by omega,by rw [i64_iff];omega,next _ (.inr rfl)⟩
    ·rw [if_pos (by simp only [decide_eq_true_eq];omega)]
     have e2:48+(0 - -((m % 10:Nat):Int))=((48+m % 10:Nat):Int):=by omega
     rw [e2]
     exact ⟨by rw [i64_iff];omega,by rw [i64_iff];omega,by rw [u8_iff];omega,by omega,by rw [i64_iff];omega,next _ (.inr rfl)⟩
theorem top95 (x0:Int) (hi:InR .i64 x0):∃ n,R95 n x0 [⟨.str,g95_0 x0⟩]:=by
 unfold g95_0 numB Lib.itoa
 by_cases h:x0=0
 ·subst h
  refine ⟨1,?_⟩
  rw [R95,if_pos (by rfl),if_neg (by decide)]
  have e:Lib.decDigits (Int.toNat 0)=[48]:=by rw [Lib.decDigits,dif_pos (by decide)];rfl
  rw [e]
 ·have hi':=hi
  rw [i64_iff] at hi'
  have hn:x0.natAbs≠0:=by omega
  have hl:=rdl95 19 x0.natAbs (by omega)
  refine ⟨(rd95 x0.natAbs).length+((if x0<0 then (rd95 x0.natAbs).length+1 else (rd95 x0.natAbs).length)+1+1)+1,?_⟩
  rw [R95,if_neg (by simpa using h)]
  have hlast:=last95 x0 (rd95 x0.natAbs) (by omega)
  have hrun:=run95 x0 _ (rd95 x0.natAbs) _ hlast x0.natAbs x0 [] (by omega) (by omega) hi (by simp;omega) rfl
  have e:bytesStr (if x0<0 then rd95 x0.natAbs++[45] else rd95 x0.natAbs).reverse=⟨(if x0<0 then 45 :: Lib.decDigits x0.natAbs else Lib.decDigits x0.toNat).toArray⟩:=by
   by_cases hx:x0<0
   ·rw [if_pos hx,if_pos hx,List.reverse_append]
    show bytesStr ((45:Int) :: (rd95 x0.natAbs).reverse)=_
    have:=rdd95 x0.natAbs hn
    have e0:bytesStr ((45:Int) :: (rd95 x0.natAbs).reverse)=⟨⟨45 :: (bytesStr (rd95 x0.natAbs).reverse).data.toList⟩⟩:=by rw [bstr95,bstr95];rfl
    rw [e0,this]
   ·rw [if_neg hx,if_neg hx,rdd95 x0.natAbs hn,show x0.natAbs=x0.toNat by omega]
  rw [e] at hrun
  exact hrun
def S95:Am.Spec:={ sig:=sig95,pre:=fun ⟨x0,_⟩=>P95 x0,res:=fun ⟨x0,_⟩=>[⟨.str,g95_0 x0⟩] }
theorem con95:Contract Tryz.prog 95 S95:=contract_of Tryz.func95 hb95 (bl_ (by kernel_rfl)) (fun ⟨x0,_⟩ h hwf K q=>by
 obtain ⟨n,hn⟩:=top95 x0 hwf.1
 exact (snd95 n).1 x0 _ hn K q)
end
noncomputable section
def ext158:Ext:=[(156,S156)]
theorem ext158Ok:ExtOk Tryz.prog ext158:=⟨⟨ca156,con156⟩,trivial⟩
def b158:Code:=bodyOf Tryz.f158
theorem hb158:Tryz.f158.body=some b158:=by kernel_rfl
def sig158:List AT:=[AT.p YA4,AT.v (.int .i64),AT.v (.int .i64)]
def tys158:List Ty:=[.bool]
def kds158:List RK:=[]
def oks158:List AT:=owns sig158
def P158 (x0:Int×Int×Int×Int×Unit) (x1:Int) (x2:Int):Prop:=((InR .i64 (x1*x1))∧((InR .i64 (x0.2.2.1*x0.2.2.1))∧((InR .i64 (2*x0.1))∧((InR .i64 (x2 - x1))∧((InR .i64 (x2 - x1 - x0.2.2.2.1))∧((InR .i64 (2*x0.1*g156_0 0 (x2 - x1 - x0.2.2.2.1)))∧((InR .i64 (x0.2.2.1*x0.2.2.1+2*x0.1*g156_0 0 (x2 - x1 - x0.2.2.2.1)))∧True)))))))
def g158_0 (x0:Int×Int×Int×Int×Unit) (x1:Int) (x2:Int):Bool:=decide (x1*x1≤x0.2.2.1*x0.2.2.1+2*x0.1*g156_0 0 (x2 - x1 - x0.2.2.2.1))
theorem at158 (x0:Int×Int×Int×Int×Unit) (x1:Int) (x2:Int) (h:P158 x0 x1 x2) (K:Ctx) (q:Nat→Value):AtV Tryz.prog 158 (PostR kds158 oks158 [⟨.bool,g158_0 x0 x1 x2⟩] [] [] q K) 36 K q [] [.code b158] (entE 0 0 sig158 (x0,x1,x2,())) (entL sig158 (x0,x1,x2,())):=by
 unfold P158 at h
 unfold g158_0
 obtain ⟨s0,h⟩:=h
 obtain ⟨s1,h⟩:=h
 obtain ⟨s2,h⟩:=h
 obtain ⟨s3,h⟩:=h
 obtain ⟨s4,h⟩:=h
 obtain ⟨s5,h⟩:=h
 obtain ⟨s6,h⟩:=h
 exact AtV.ret Tryz.func158 tabOk ext158Ok mixed false [] tys158 [] (a1 s0 (a1 s1 (a1 s2 (a1 s3 (a1 s4 (a1 trivial (a1 s5 (a1 s6 trivial)))))))) (by kernel_rfl)
def S158:Am.Spec:={ sig:=sig158,pre:=fun ⟨x0,x1,x2,_⟩=>P158 x0 x1 x2,res:=fun ⟨x0,x1,x2,_⟩=>[⟨.bool,g158_0 x0 x1 x2⟩],kds:=kds158 }
theorem con158:Contract Tryz.prog 158 S158:=contract_of Tryz.func158 hb158 (bl_ (by kernel_rfl)) (fun ⟨x0,x1,x2,_⟩ h _ K q=>at158 x0 x1 x2 h K q)
end
def bsI (C:Int→Bool):Nat→Int→Int→Int
 | 0,lo,_=>lo
 | n+1,lo,e=>if lo<e then (if C (Int.tdiv (lo+e) 2)=true then bsI C n lo (Int.tdiv (lo+e) 2) else bsI C n (Int.tdiv (lo+e) 2+1) e) else lo
theorem half_in {lo e:Int} (h0:0≤lo) (h:lo<e):lo≤Int.tdiv (lo+e) 2∧Int.tdiv (lo+e) 2<e:=by
 rw [Int.tdiv_eq_ediv_of_nonneg (by omega)]
 omega
theorem bsI_ok (C:Int→Bool) (l0 e0:Int):∀ (n:Nat) (lo e:Int),0≤lo→lo≤e→e - lo≤(n:Int)→(e=e0∨C e=true)→(lo=l0∨C (lo - 1)=false)→l0≤lo→e≤e0 →
  l0≤bsI C n lo e∧bsI C n lo e≤e0∧(bsI C n lo e=e0∨C (bsI C n lo e)=true)∧(bsI C n lo e=l0∨C (bsI C n lo e - 1)=false)
 | 0,lo,e,h0,h1,h2,h3,h4,h5,h6=>by
  obtain rfl:e=lo:=by omega
  exact ⟨h5,h6,h3,h4⟩
 | n+1,lo,e,h0,h1,h2,h3,h4,h5,h6=>by
  unfold bsI
  by_cases h:lo<e
  ·obtain ⟨m1,m2⟩:=half_in h0 h
   rw [if_pos h]
   by_cases hc:C (Int.tdiv (lo+e) 2)=true
   ·rw [if_pos hc]
    exact bsI_ok C l0 e0 n lo _ h0 m1 (by omega) (.inr hc) h4 h5 (by omega)
   ·rw [if_neg hc]
    refine bsI_ok C l0 e0 n _ e (by omega) (by omega) (by omega) h3 (.inr ?_) (by omega) h6
    rw [Int.add_sub_cancel]
    exact Bool.eq_false_iff.2 hc
  ·rw [if_neg h]
   obtain rfl:e=lo:=by omega
   exact ⟨h5,h6,h3,h4⟩
def bsS (M:Int→Bool):Nat→Int→Int→Int
 | 0,lo,_=>lo
 | n+1,lo,hi=>if lo<hi then (if M (Int.tdiv (lo+hi+1) 2)=true then bsS M n (Int.tdiv (lo+hi+1) 2) hi else bsS M n lo (Int.tdiv (lo+hi+1) 2 - 1)) else lo
theorem half_up {lo hi:Int} (h0:0≤lo) (h:lo<hi):lo<Int.tdiv (lo+hi+1) 2∧Int.tdiv (lo+hi+1) 2≤hi:=by
 rw [Int.tdiv_eq_ediv_of_nonneg (by omega)]
 omega
theorem bsS_ok (M:Int→Bool) (l0 h9:Int):∀ (n:Nat) (lo hi:Int),0≤lo→lo≤hi→hi - lo≤(n:Int)→(lo=l0∨M lo=true)→(hi=h9∨M (hi+1)=false)→l0≤lo→hi≤h9 →
  l0≤bsS M n lo hi∧bsS M n lo hi≤h9∧(bsS M n lo hi=l0∨M (bsS M n lo hi)=true)∧(bsS M n lo hi=h9∨M (bsS M n lo hi+1)=false)
 | 0,lo,hi,h0,h1,h2,h3,h4,h5,h6=>by
  obtain rfl:hi=lo:=by omega
  exact ⟨h5,h6,h3,h4⟩
 | n+1,lo,hi,h0,h1,h2,h3,h4,h5,h6=>by
  unfold bsS
  by_cases h:lo<hi
  ·obtain ⟨m1,m2⟩:=half_up h0 h
   rw [if_pos h]
   by_cases hc:M (Int.tdiv (lo+hi+1) 2)=true
   ·rw [if_pos hc]
    exact bsS_ok M l0 h9 n _ hi (by omega) m2 (by omega) (.inr hc) h4 (by omega) h6
   ·rw [if_neg hc]
    refine bsS_ok M l0 h9 n lo _ h0 (by omega) (by omega) h3 (.inr ?_) h5 (by omega)
    rw [Int.sub_add_cancel]
    exact Bool.eq_false_iff.2 hc
  ·rw [if_neg h]
   obtain rfl:hi=lo:=by omega
   exact ⟨h5,h6,h3,h4⟩
theorem bs_same (M C:Int→Bool) (c h:Int) (n m:Nat) (hc:0≤c) (hh:c<h) (hn:h+1 - c≤(n:Int)) (hm:h - c≤(m:Int)) (hCM:∀ v,c≤v→v≤h→C v = !M v) (h0:M c=true) (hmono:∀ v v',c≤v→v≤v'→v'≤h→M v'=true→M v=true) :
  bsI C n c (h+1) - 1=bsS M m c h:=by
 obtain ⟨a1,a2,a3,a4⟩:=bsI_ok C c (h+1) n c (h+1) hc (by omega) hn (.inl rfl) (.inl rfl) (Int.le_refl _) (Int.le_refl _)
 obtain ⟨b1,b2,b3,b4⟩:=bsS_ok M c h m c h hc (by omega) hm (.inl rfl) (.inl rfl) (Int.le_refl _) (Int.le_refl _)
 generalize bsI C n c (h+1)=r at *
 generalize bsS M m c h=s at *
 have hs:M s=true:=by
  rcases b3 with rfl | b3
  ·exact h0
  ·exact b3
 have hr:r≠c:=by
  rintro rfl
  rcases a3 with a3 | a3
  ·omega
  ·rw [hCM r (Int.le_refl _) (by omega),h0] at a3
   cases a3
 have hr1:M (r - 1)=true:=by
  rcases a4 with a4 | a4
  ·exact absurd a4 hr
  ·rw [hCM (r - 1) (by omega) (by omega)] at a4
   simpa using a4
 rcases Int.lt_trichotomy (r - 1) s with hlt | heq | hgt
 ·rcases a3 with a3 | a3
  ·omega
  ·rw [hCM r (by omega) (by omega)] at a3
   rw [hmono r s (by omega) (by omega) b2 hs] at a3
   cases a3
 ·exact heq
 ·rcases b4 with b4 | b4
  ·omega
  ·rw [hmono (s+1) (r - 1) (by omega) (by omega) (by omega) hr1] at b4
   cases b4
noncomputable section
def ext130:Ext:=[(157,S157),(156,S156),(158,S158)]
theorem ext130Ok:ExtOk Tryz.prog ext130:=⟨⟨ca157,con157⟩,⟨ca156,con156⟩,⟨ca158,con158⟩,trivial⟩
def b130:Code:=bodyOf Tryz.f130
theorem hb130:Tryz.f130.body=some b130:=by kernel_rfl
def sig130:List AT:=[AT.p YA4,AT.v (.int .i64),AT.v (.int .i64)]
def tys130:List Ty:=[.int .i64]
def kds130:List RK:=[]
def oks130:List AT:=owns sig130
def E130_3 (v7:Int) (v8:Int) (x0:Int×Int×Int×Int×Unit) (x2:Int):Env:=[(0,.a (.ptr YA4 x0)),(2,.a (.val (.int .i64 x2))),(7,.a (.val (.int .i64 v7))),(8,.a (.val (.int .i64 v8)))]
def L130_3 (v7:Int) (v8:Int) (x0:Int×Int×Int×Int×Unit) (x2:Int):Heap:=[]
mutual
def R130:Nat→Int×Int×Int×Int×Unit→Int→Int→List Dyn→Prop
 | 0,_,_,_,_=>False
 | n+1,x0,x1,x2,ds=>((InR .i64 (x1+x0.1))∧(R130_3 n x0.2.2.1 (g156_0 x0.2.2.1 (g157_0 x0.2.1 (x1+x0.1))) (x0) (x2) ds))
def R130_3:Nat→Int→Int→Int×Int×Int×Int×Unit→Int→List Dyn→Prop
 | 0,_,_,_,_,_=>False
 | n+1,v7,v8,x0,x2,ds=>(if (decide (v7<v8))=true then ((InR .i64 (v7+v8))∧((InR .i64 (v7+v8+1))∧((InR .i64 (Int.tdiv (v7+v8+1) 2))∧((P158 x0 (Int.tdiv (v7+v8+1) 2) x2)∧(if (g158_0 x0 (Int.tdiv (v7+v8+1) 2) x2)=true then (R130_3 n (Int.tdiv (v7+v8+1) 2) (v8) (x0) (x2) ds) else ((InR .i64 (Int.tdiv (v7+v8+1) 2 - 1))∧(R130_3 n (v7) (Int.tdiv (v7+v8+1) 2 - 1) (x0) (x2) ds))))))) else (ds=[Dyn.mk (.int .i64) (g157_0 v7 x2)]))
end
theorem snd130:∀ n,(∀ (x0:Int×Int×Int×Int×Unit) (x1:Int) (x2:Int) ds,R130 n x0 x1 x2 ds→∀ K q,AtV Tryz.prog 130 (PostR kds130 oks130 ds [] [] q K) 48 K q [] [.code b130] (entE 0 0 sig130 (x0,x1,x2,())) (entL sig130 (x0,x1,x2,())))∧(∀ (v7:Int) (v8:Int) (x0:Int×Int×Int×Int×Unit) (x2:Int) ds,R130_3 n v7 v8 x0 x2 ds→∀ K q,AtV Tryz.prog 130 (PostR kds130 oks130 ds [] [] q K) 48 K q [] (cutAt b130 3) (E130_3 v7 v8 x0 x2) (L130_3 v7 v8 x0 x2)):=by
 intro n
 induction n with
 | zero=>exact ⟨fun _ _ _ _ h=>by simp only [R130] at h,fun _ _ _ _ _ h=>by simp only [R130_3] at h⟩
 | succ n ih =>
 obtain ⟨ih,ih3⟩:=ih
 refine ⟨?_,?_⟩
 ·intro x0 x1 x2 ds h K q
  rw [R130] at h
  obtain ⟨s0,h⟩:=h
  exact AtV.go tabOk ext130Ok mixed false [] [] [0,2,7,8] [] [] (a1 s0 (a1 trivial (a1 trivial trivial))) (ih3 _ _ _ _ _ h K q) (by kernel_rfl)
 ·intro v7 v8 x0 x2 ds h K q
  rw [R130_3] at h
  by_cases b0:(decide (v7<v8))=true
  ·rw [if_pos b0] at h
   obtain ⟨s0,h⟩:=h
   obtain ⟨s1,h⟩:=h
   obtain ⟨s2,h⟩:=h
   obtain ⟨s3,h⟩:=h
   by_cases b1:(g158_0 x0 (Int.tdiv (v7+v8+1) 2) x2)=true
   ·rw [if_pos b1] at h
    exact AtV.go tabOk ext130Ok mixed false [] [] [0,2,7,8] [] [true,true] (a1 b0 (a1 s0 (a1 s1 (a1 ((by decide):(2:Int)≠(0:Int)) (a1 s2 (a1 s3 (a1 b1 trivial))))))) (ih3 _ _ _ _ _ h K q) (by kernel_rfl)
   ·rw [if_neg b1] at h
    replace b1:=bf_ b1
    obtain ⟨s4,h⟩:=h
    exact AtV.go tabOk ext130Ok mixed false [] [] [0,2,7,8] [] [true,false] (a1 b0 (a1 s0 (a1 s1 (a1 ((by decide):(2:Int)≠(0:Int)) (a1 s2 (a1 s3 (a1 b1 (a1 s4 trivial)))))))) (ih3 _ _ _ _ _ h K q) (by kernel_rfl)
  ·rw [if_neg b0] at h
   replace b0:=bf_ b0
   subst h
   exact AtV.ret Tryz.func130 tabOk ext130Ok mixed false [] tys130 [false] (a1 b0 (a1 trivial trivial)) (by kernel_rfl)
def top130 (x0:Int×Int×Int×Int×Unit) (x1:Int):Int:=g156_0 x0.2.2.1 (g157_0 x0.2.1 (x1+x0.1))
def g130_0 (x0:Int×Int×Int×Int×Unit) (x1 x2:Int):Int:=g157_0 (bsS (fun v=>g158_0 x0 v x2) (top130 x0 x1 - x0.2.2.1).toNat x0.2.2.1 (top130 x0 x1)) x2
def P130 (x0:Int×Int×Int×Int×Unit) (x1 x2:Int):Prop:=(0≤x0.1∧x0.1≤2000)∧(0≤x0.2.1∧x0.2.1≤15000)∧(0≤x0.2.2.1∧x0.2.2.1≤15000)∧(0≤x1∧x1≤15000)∧∀ v,0≤v→v≤20000→P158 x0 v x2
theorem top130_le (x0:Int×Int×Int×Int×Unit) (x1 x2:Int) (h:P130 x0 x1 x2):x0.2.2.1≤top130 x0 x1∧top130 x0 x1≤15000:=by
 obtain ⟨h1,h2,h3,h4,_⟩:=h
 unfold top130 g156_0 g157_0
 simp only [decide_eq_true_eq,gt_iff_lt]
 split <;> split <;> omega
theorem run130 (x0:Int×Int×Int×Int×Unit) (x2:Int) (hp:∀ v,0≤v→v≤20000→P158 x0 v x2):∀ (k:Nat) (lo hi:Int),0≤lo→lo≤hi→hi≤15000→hi - lo≤(k:Int) →
  R130_3 (k+1) lo hi x0 x2 [⟨.int .i64,g157_0 (bsS (fun v=>g158_0 x0 v x2) k lo hi) x2⟩]:=by
 intro k
 induction k with
 | zero =>
  intro lo hi h0 h1 h2 h3
  rw [R130_3,if_neg (by simp only [decide_eq_true_eq];omega)]
  rfl
 | succ k ih =>
  intro lo hi h0 h1 h2 h3
  unfold bsS
  by_cases hlt:lo<hi
  ·obtain ⟨m1,m2⟩:=half_up h0 hlt
   rw [R130_3,if_pos (by simpa using hlt),if_pos hlt]
   refine ⟨by rw [i64_iff];omega,by rw [i64_iff];omega,by rw [i64_iff];omega,hp _ (by omega) (by omega),?_⟩
   by_cases hc:g158_0 x0 (Int.tdiv (lo+hi+1) 2) x2=true
   ·rw [if_pos hc,if_pos hc]
    exact ih _ hi (by omega) m2 h2 (by omega)
   ·rw [if_neg hc,if_neg hc]
    exact ⟨by rw [i64_iff];omega,ih lo _ h0 (by omega) (by omega) (by omega)⟩
  ·rw [R130_3,if_neg (by simpa using hlt),if_neg hlt]
theorem all130 (x0:Int×Int×Int×Int×Unit) (x1 x2:Int) (h:P130 x0 x1 x2):R130 ((top130 x0 x1 - x0.2.2.1).toNat+1+1) x0 x1 x2 [⟨.int .i64,g130_0 x0 x1 x2⟩]:=by
 obtain ⟨t1,t2⟩:=top130_le x0 x1 x2 h
 obtain ⟨h1,h2,h3,h4,h5⟩:=h
 rw [R130]
 exact ⟨by rw [i64_iff];omega,run130 x0 x2 h5 _ _ (top130 x0 x1) h3.1 t1 t2 (by omega)⟩
def S130:Am.Spec:={ sig:=sig130,pre:=fun ⟨x0,x1,x2,_⟩=>P130 x0 x1 x2,res:=fun ⟨x0,x1,x2,_⟩=>[⟨.int .i64,g130_0 x0 x1 x2⟩] }
theorem con130:Contract Tryz.prog 130 S130:=contract_of Tryz.func130 hb130 (bl_ (by kernel_rfl)) (fun ⟨x0,x1,x2,_⟩ h hwf K q =>
 (snd130 _).1 x0 x1 x2 _ (all130 x0 x1 x2 h) K q)
end
noncomputable section
def ext191:Ext:=[]
theorem ext191Ok:ExtOk Tryz.prog ext191:=trivial
def b191:Code:=bodyOf Tryz.f191
theorem hb191:Tryz.f191.body=some b191:=by kernel_rfl
def sig191:List AT:=[AT.p YA2,AT.v (.int .i64)]
def tys191:List Ty:=[.int .i64]
def kds191:List RK:=[]
def oks191:List AT:=owns sig191
def E191_2 (v5:Int) (x0:List TyB4×Int×Int×Unit) (x1:Int):Env:=[(0,.a (.ptr YA2 x0)),(1,.a (.val (.int .i64 x1))),(5,.a (.val (.int .i64 v5)))]
def L191_2 (v5:Int) (x0:List TyB4×Int×Int×Unit) (x1:Int):Heap:=[]
mutual
def R191:Nat→List TyB4×Int×Int×Unit→Int→List Dyn→Prop
 | 0,_,_,_=>False
 | n+1,x0,x1,ds=>(R191_2 n (0) (x0) (x1) ds)
def R191_2:Nat→Int→List TyB4×Int×Int×Unit→Int→List Dyn→Prop
 | 0,_,_,_,_=>False
 | n+1,v5,x0,x1,ds=>((InR .i64 ((x0.1.length:Int) - 1))∧(if (decide (v5<(x0.1.length:Int) - 1))=true then ((0≤v5)∧(v5<(x0.1.length:Int))∧(if (decide (x1≥(List.getD x0.1 (Int.toNat v5) (0,0,())).1))=true then ((0≤v5)∧(v5<(x0.1.length:Int))∧((InR .i64 (x1 - (List.getD x0.1 (Int.toNat v5) (0,0,())).1))∧((InR .i64 (v5+1))∧(R191_2 n (v5+1) (x0) (x1 - (List.getD x0.1 (Int.toNat v5) (0,0,())).1) ds)))) else (ds=[Dyn.mk (.int .i64) v5]))) else (ds=[Dyn.mk (.int .i64) v5])))
end
theorem snd191:∀ n,(∀ (x0:List TyB4×Int×Int×Unit) (x1:Int) ds,R191 n x0 x1 ds→∀ K q,AtV Tryz.prog 191 (PostR kds191 oks191 ds [] [] q K) 39 K q [] [.code b191] (entE 0 0 sig191 (x0,x1,())) (entL sig191 (x0,x1,())))∧(∀ (v5:Int) (x0:List TyB4×Int×Int×Unit) (x1:Int) ds,R191_2 n v5 x0 x1 ds→∀ K q,AtV Tryz.prog 191 (PostR kds191 oks191 ds [] [] q K) 39 K q [] (cutAt b191 2) (E191_2 v5 x0 x1) (L191_2 v5 x0 x1)):=by
 intro n
 induction n with
 | zero=>exact ⟨fun _ _ _ h=>by simp only [R191] at h,fun _ _ _ _ h=>by simp only [R191_2] at h⟩
 | succ n ih =>
 obtain ⟨ih,ih2⟩:=ih
 refine ⟨?_,?_⟩
 ·intro x0 x1 ds h K q
  rw [R191] at h
  exact AtV.go tabOk ext191Ok mixed false [] [] [0,1,5] [] [] trivial (ih2 _ _ _ _ h K q) (by kernel_rfl)
 ·intro v5 x0 x1 ds h K q
  rw [R191_2] at h
  obtain ⟨s0,h⟩:=h
  by_cases b0:(decide (v5<(x0.1.length:Int) - 1))=true
  ·rw [if_pos b0] at h
   obtain ⟨s1,s2,h⟩:=h
   by_cases b1:(decide (x1≥(List.getD x0.1 (Int.toNat v5) (0,0,())).1))=true
   ·rw [if_pos b1] at h
    obtain ⟨s3,s4,h⟩:=h
    obtain ⟨s5,h⟩:=h
    obtain ⟨s6,h⟩:=h
    exact AtV.go tabOk ext191Ok mixed false [] [] [0,1,5] [] [true,true] (a1 s0 (a1 b0 (a1 s1 (a1 s2 (a1 b1 (a1 s3 (a1 s4 (a1 s5 (a1 s6 trivial))))))))) (ih2 _ _ _ _ h K q) (by kernel_rfl)
   ·rw [if_neg b1] at h
    replace b1:=bf_ b1
    subst h
    exact AtV.ret Tryz.func191 tabOk ext191Ok mixed false [] tys191 [true,false] (a1 s0 (a1 b0 (a1 s1 (a1 s2 (a1 b1 trivial))))) (by kernel_rfl)
  ·rw [if_neg b0] at h
   replace b0:=bf_ b0
   subst h
   exact AtV.ret Tryz.func191 tabOk ext191Ok mixed false [] tys191 [false,false] (a1 s0 (a1 b0 (a1 (rfl:false=false) trivial))) (by kernel_rfl)
def at191 (xs:List TyB4):Nat→Nat→Int→Int
 | 0,i,_=>(i:Int)
 | k+1,i,x=>if (i:Int)<(xs.length:Int) - 1 then (if x≥(xs.getD i ((0:Int),(0:Int),())).1 then at191 xs k (i+1) (x - (xs.getD i ((0:Int),(0:Int),())).1) else (i:Int)) else (i:Int)
def g191_0 (x0:List TyB4×Int×Int×Unit) (x1:Int):Int:=at191 x0.1 x0.1.length 0 x1
def P191 (x0:List TyB4×Int×Int×Unit) (x1:Int):Prop:=(1≤x0.1.length∧x0.1.length≤1000)∧(∀ x∈x0.1,0≤x.1∧x.1≤3000000)∧(0≤x1∧x1≤1000000000)
theorem run191 (x0:List TyB4×Int×Int×Unit) (hl:1≤x0.1.length∧x0.1.length≤1000) (hx:∀ x∈x0.1,0≤x.1∧x.1≤3000000):∀ (k i:Nat) (x:Int),i+k=x0.1.length→(0≤x∧x≤1000000000)→i<x0.1.length →
  (0≤at191 x0.1 k i x∧at191 x0.1 k i x<(x0.1.length:Int))∧R191_2 (k+1) (i:Int) x0 x [⟨.int .i64,at191 x0.1 k i x⟩]:=by
 intro k
 induction k with
 | zero =>
  intro i x hi _ hl
  omega
 | succ k ih =>
  intro i x hi hb hlt
  have hm:=hx _ (mem_getD x0.1 i ((0:Int),(0:Int),()) hlt)
  unfold at191
  by_cases h1:(i:Int)<(x0.1.length:Int) - 1
  ·rw [if_pos h1]
   by_cases h2:x≥(x0.1.getD i ((0:Int),(0:Int),())).1
   ·rw [if_pos h2]
    obtain ⟨a1,a2⟩:=ih (i+1) (x - (x0.1.getD i ((0:Int),(0:Int),())).1) (by omega) (by omega) (by omega)
    refine ⟨a1,?_⟩
    rw [R191_2]
    refine ⟨by rw [i64_iff];omega,?_⟩
    rw [if_pos (by simpa using h1)]
    simp only [Int.toNat_natCast]
    refine ⟨by omega,by omega,?_⟩
    rw [if_pos (by simpa using h2)]
    exact ⟨by omega,by omega,by rw [i64_iff];omega,by rw [i64_iff];omega,a2⟩
   ·rw [if_neg h2]
    refine ⟨by omega,?_⟩
    rw [R191_2]
    refine ⟨by rw [i64_iff];omega,?_⟩
    rw [if_pos (by simpa using h1)]
    simp only [Int.toNat_natCast]
    refine ⟨by omega,by omega,?_⟩
    rw [if_neg (by simpa using h2)] <;> trivial
  ·rw [if_neg h1]
   refine ⟨by omega,?_⟩
   rw [R191_2]
   refine ⟨by rw [i64_iff];omega,?_⟩
   rw [if_neg (by simpa using h1)] <;> trivial
theorem in191 (x0:List TyB4×Int×Int×Unit) (x1:Int) (h:P191 x0 x1):0≤g191_0 x0 x1∧g191_0 x0 x1<(x0.1.length:Int) :=
 (run191 x0 h.1 h.2.1 x0.1.length 0 x1 (by omega) h.2.2 (by have:=h.1;omega)).1
theorem top191 (x0:List TyB4×Int×Int×Unit) (x1:Int) (h:P191 x0 x1):R191 (x0.1.length+1+1) x0 x1 [⟨.int .i64,g191_0 x0 x1⟩]:=by
 rw [R191]
 exact (run191 x0 h.1 h.2.1 x0.1.length 0 x1 (by omega) h.2.2 (by have:=h.1;omega)).2
def S191:Am.Spec:={ sig:=sig191,pre:=fun ⟨x0,x1,_⟩=>P191 x0 x1,res:=fun ⟨x0,x1,_⟩=>[⟨.int .i64,g191_0 x0 x1⟩] }
theorem con191:Contract Tryz.prog 191 S191:=contract_of Tryz.func191 hb191 (bl_ (by kernel_rfl)) (fun ⟨x0,x1,_⟩ h hwf K q =>
 (snd191 _).1 x0 x1 _ (top191 x0 x1 h) K q)
end
noncomputable section
def ext178:Ext:=[(191,S191)]
theorem ext178Ok:ExtOk Tryz.prog ext178:=⟨⟨ca191,con191⟩,trivial⟩
def b178:Code:=bodyOf Tryz.f178
theorem hb178:Tryz.f178.body=some b178:=by kernel_rfl
def sig178:List AT:=[AT.p YA2,AT.v (.int .i64)]
def tys178:List Ty:=[.int .i64]
def kds178:List RK:=[]
def oks178:List AT:=owns sig178
def P178 (x0:List TyB4×Int×Int×Unit) (x1:Int):Prop:=((P191 x0 x1)∧((0≤g191_0 x0 x1)∧(g191_0 x0 x1<(x0.1.length:Int))∧True))
def g178_0 (x0:List TyB4×Int×Int×Unit) (x1:Int):Int:=(List.getD x0.1 (Int.toNat (g191_0 x0 x1)) (0,0,())).2.1
theorem at178 (x0:List TyB4×Int×Int×Unit) (x1:Int) (h:P178 x0 x1) (K:Ctx) (q:Nat→Value):AtV Tryz.prog 178 (PostR kds178 oks178 [⟨.int .i64,g178_0 x0 x1⟩] [] [] q K) 15 K q [] [.code b178] (entE 0 0 sig178 (x0,x1,())) (entL sig178 (x0,x1,())):=by
 unfold P178 at h
 unfold g178_0
 obtain ⟨s0,h⟩:=h
 obtain ⟨s1,s2,h⟩:=h
 exact AtV.ret Tryz.func178 tabOk ext178Ok mixed false [] tys178 [] (a1 s0 (a1 s1 (a1 s2 trivial))) (by kernel_rfl)
def S178:Am.Spec:={ sig:=sig178,pre:=fun ⟨x0,x1,_⟩=>P178 x0 x1,res:=fun ⟨x0,x1,_⟩=>[⟨.int .i64,g178_0 x0 x1⟩],kds:=kds178 }
theorem con178:Contract Tryz.prog 178 S178:=contract_of Tryz.func178 hb178 (bl_ (by kernel_rfl)) (fun ⟨x0,x1,_⟩ h _ K q=>at178 x0 x1 h K q)
end
noncomputable section
def ext201:Ext:=[]
theorem ext201Ok:ExtOk Tryz.prog ext201:=trivial
def b201:Code:=bodyOf Tryz.f201
theorem hb201:Tryz.f201.body=some b201:=by kernel_rfl
def sig201:List AT:=[AT.v (.int .i64),AT.v (.int .i64)]
def tys201:List Ty:=[.int .i64]
def kds201:List RK:=[]
def oks201:List AT:=owns sig201
def P201 (x0:Int) (x1:Int):Prop:=(if (decide (x1<0))=true then ((InR .i64 (0 - x0))∧((InR .i64 (0 - x1))∧(if (decide (0 - x0<0))=true then ((InR .i64 (2*(0 - x0)))∧((InR .i64 (0 - x1 - 2*(0 - x0)))∧((InR .i64 (2*(0 - x1)))∧((2*(0 - x1)≠0)∧(InR .i64 (Int.tdiv (0 - x1 - 2*(0 - x0)) (2*(0 - x1))))∧((InR .i64 (0 - Int.tdiv (0 - x1 - 2*(0 - x0)) (2*(0 - x1))))∧True))))) else ((InR .i64 (2*(0 - x0)))∧((InR .i64 (2*(0 - x0)+(0 - x1)))∧((InR .i64 (2*(0 - x1)))∧((2*(0 - x1)≠0)∧(InR .i64 (Int.tdiv (2*(0 - x0)+(0 - x1)) (2*(0 - x1))))∧True))))))) else (if (decide (x0<0))=true then ((InR .i64 (2*x0))∧((InR .i64 (x1 - 2*x0))∧((InR .i64 (2*x1))∧((2*x1≠0)∧(InR .i64 (Int.tdiv (x1 - 2*x0) (2*x1)))∧((InR .i64 (0 - Int.tdiv (x1 - 2*x0) (2*x1)))∧True))))) else ((InR .i64 (2*x0))∧((InR .i64 (2*x0+x1))∧((InR .i64 (2*x1))∧((2*x1≠0)∧(InR .i64 (Int.tdiv (2*x0+x1) (2*x1)))∧True))))))
def g201_0 (x0:Int) (x1:Int):Int:=(if (decide (x1<0))=true then (if (decide (0 - x0<0))=true then 0 - Int.tdiv (0 - x1 - 2*(0 - x0)) (2*(0 - x1)) else Int.tdiv (2*(0 - x0)+(0 - x1)) (2*(0 - x1))) else (if (decide (x0<0))=true then 0 - Int.tdiv (x1 - 2*x0) (2*x1) else Int.tdiv (2*x0+x1) (2*x1)))
theorem at201 (x0:Int) (x1:Int) (h:P201 x0 x1) (K:Ctx) (q:Nat→Value):AtV Tryz.prog 201 (PostR kds201 oks201 [⟨.int .i64,g201_0 x0 x1⟩] [] [] q K) 28 K q [] [.code b201] (entE 0 0 sig201 (x0,x1,())) (entL sig201 (x0,x1,())):=by
 unfold P201 at h
 unfold g201_0
 by_cases b0:(decide (x1<0))=true
 ·try simp only [if_pos b0] at h ⊢
  obtain ⟨s0,h⟩:=h
  obtain ⟨s1,h⟩:=h
  by_cases b1:(decide (0 - x0<0))=true
  ·try simp only [if_pos b1] at h ⊢
   obtain ⟨s2,h⟩:=h
   obtain ⟨s3,h⟩:=h
   obtain ⟨s4,h⟩:=h
   obtain ⟨s5,s6,h⟩:=h
   obtain ⟨s7,h⟩:=h
   exact AtV.ret Tryz.func201 tabOk ext201Ok mixed false [] tys201 [true,true] (a1 b0 (a1 s0 (a1 s1 (a1 b1 (a1 s2 (a1 s3 (a1 s4 (a1 s5 (a1 s6 (a1 s7 trivial)))))))))) (by kernel_rfl)
  ·try simp only [if_neg b1] at h ⊢
   replace b1:=bf_ b1
   obtain ⟨s2,h⟩:=h
   obtain ⟨s3,h⟩:=h
   obtain ⟨s4,h⟩:=h
   obtain ⟨s5,s6,h⟩:=h
   exact AtV.ret Tryz.func201 tabOk ext201Ok mixed false [] tys201 [true,false] (a1 b0 (a1 s0 (a1 s1 (a1 b1 (a1 s2 (a1 s3 (a1 s4 (a1 s5 (a1 s6 trivial))))))))) (by kernel_rfl)
 ·try simp only [if_neg b0] at h ⊢
  replace b0:=bf_ b0
  by_cases b1:(decide (x0<0))=true
  ·try simp only [if_pos b1] at h ⊢
   obtain ⟨s0,h⟩:=h
   obtain ⟨s1,h⟩:=h
   obtain ⟨s2,h⟩:=h
   obtain ⟨s3,s4,h⟩:=h
   obtain ⟨s5,h⟩:=h
   exact AtV.ret Tryz.func201 tabOk ext201Ok mixed false [] tys201 [false,true] (a1 b0 (a1 b1 (a1 s0 (a1 s1 (a1 s2 (a1 s3 (a1 s4 (a1 s5 trivial)))))))) (by kernel_rfl)
  ·try simp only [if_neg b1] at h ⊢
   replace b1:=bf_ b1
   obtain ⟨s0,h⟩:=h
   obtain ⟨s1,h⟩:=h
   obtain ⟨s2,h⟩:=h
   obtain ⟨s3,s4,h⟩:=h
   exact AtV.ret Tryz.func201 tabOk ext201Ok mixed false [] tys201 [false,false] (a1 b0 (a1 b1 (a1 s0 (a1 s1 (a1 s2 (a1 s3 (a1 s4 trivial))))))) (by kernel_rfl)
def S201:Am.Spec:={ sig:=sig201,pre:=fun ⟨x0,x1,_⟩=>P201 x0 x1,res:=fun ⟨x0,x1,_⟩=>[⟨.int .i64,g201_0 x0 x1⟩],kds:=kds201 }
theorem con201:Contract Tryz.prog 201 S201:=contract_of Tryz.func201 hb201 (bl_ (by kernel_rfl)) (fun ⟨x0,x1,_⟩ h _ K q=>at201 x0 x1 h K q)
end
noncomputable section
def ext192:Ext:=[(201,S201)]
theorem ext192Ok:ExtOk Tryz.prog ext192:=⟨⟨ca201,con201⟩,trivial⟩
def b192:Code:=bodyOf Tryz.f192
theorem hb192:Tryz.f192.body=some b192:=by kernel_rfl
def sig192:List AT:=[AT.p YA9,AT.v (.int .i64),AT.v (.bool)]
def tys192:List Ty:=[.int .i64]
def kds192:List RK:=[]
def oks192:List AT:=owns sig192
def P192 (x0:Int×Int×Unit) (x1:Int) (x2:Bool):Prop:=(if (x2)=true then ((InR .i64 (x1*981))∧((P201 (x1*981) 100)∧((InR .i64 (x0.2.1 - g201_0 (x1*981) 100))∧True))) else ((InR .i64 (x1*981))∧((P201 (x1*981) 100)∧((InR .i64 (x0.2.1+g201_0 (x1*981) 100))∧True))))
def g192_0 (x0:Int×Int×Unit) (x1:Int) (x2:Bool):Int:=(if (x2)=true then x0.2.1 - g201_0 (x1*981) 100 else x0.2.1+g201_0 (x1*981) 100)
theorem at192 (x0:Int×Int×Unit) (x1:Int) (x2:Bool) (h:P192 x0 x1 x2) (K:Ctx) (q:Nat→Value):AtV Tryz.prog 192 (PostR kds192 oks192 [⟨.int .i64,g192_0 x0 x1 x2⟩] [] [] q K) 24 K q [] [.code b192] (entE 0 0 sig192 (x0,x1,x2,())) (entL sig192 (x0,x1,x2,())):=by
 unfold P192 at h
 unfold g192_0
 by_cases b0:(x2)=true
 ·try simp only [if_pos b0] at h ⊢
  obtain ⟨s0,h⟩:=h
  obtain ⟨s1,h⟩:=h
  obtain ⟨s2,h⟩:=h
  exact AtV.ret Tryz.func192 tabOk ext192Ok mixed false [] tys192 [true] (a1 b0 (a1 s0 (a1 s1 (a1 s2 trivial)))) (by kernel_rfl)
 ·try simp only [if_neg b0] at h ⊢
  replace b0:=bf_ b0
  obtain ⟨s0,h⟩:=h
  obtain ⟨s1,h⟩:=h
  obtain ⟨s2,h⟩:=h
  exact AtV.ret Tryz.func192 tabOk ext192Ok mixed false [] tys192 [false] (a1 b0 (a1 s0 (a1 s1 (a1 s2 trivial)))) (by kernel_rfl)
def S192:Am.Spec:={ sig:=sig192,pre:=fun ⟨x0,x1,x2,_⟩=>P192 x0 x1 x2,res:=fun ⟨x0,x1,x2,_⟩=>[⟨.int .i64,g192_0 x0 x1 x2⟩],kds:=kds192 }
theorem con192:Contract Tryz.prog 192 S192:=contract_of Tryz.func192 hb192 (bl_ (by kernel_rfl)) (fun ⟨x0,x1,x2,_⟩ h _ K q=>at192 x0 x1 x2 h K q)
end
noncomputable section
def ext193:Ext:=[]
theorem ext193Ok:ExtOk Tryz.prog ext193:=trivial
def b193:Code:=bodyOf Tryz.f193
theorem hb193:Tryz.f193.body=some b193:=by kernel_rfl
def sig193:List AT:=[AT.v (.int .i64),AT.v (.int .i64)]
def tys193:List Ty:=[.int .i64]
def kds193:List RK:=[]
def oks193:List AT:=owns sig193
def P193 (x0:Int) (x1:Int):Prop:=((InR .i64 (x0+x1))∧((InR .i64 (x0+x1 - 1))∧((x1≠0)∧(InR .i64 (Int.tdiv (x0+x1 - 1) x1))∧True)))
def g193_0 (x0:Int) (x1:Int):Int:=Int.tdiv (x0+x1 - 1) x1
theorem at193 (x0:Int) (x1:Int) (h:P193 x0 x1) (K:Ctx) (q:Nat→Value):AtV Tryz.prog 193 (PostR kds193 oks193 [⟨.int .i64,g193_0 x0 x1⟩] [] [] q K) 11 K q [] [.code b193] (entE 0 0 sig193 (x0,x1,())) (entL sig193 (x0,x1,())):=by
 unfold P193 at h
 unfold g193_0
 obtain ⟨s0,h⟩:=h
 obtain ⟨s1,h⟩:=h
 obtain ⟨s2,s3,h⟩:=h
 exact AtV.ret Tryz.func193 tabOk ext193Ok mixed false [] tys193 [] (a1 s0 (a1 s1 (a1 s2 (a1 s3 trivial)))) (by kernel_rfl)
def S193:Am.Spec:={ sig:=sig193,pre:=fun ⟨x0,x1,_⟩=>P193 x0 x1,res:=fun ⟨x0,x1,_⟩=>[⟨.int .i64,g193_0 x0 x1⟩],kds:=kds193 }
theorem con193:Contract Tryz.prog 193 S193:=contract_of Tryz.func193 hb193 (bl_ (by kernel_rfl)) (fun ⟨x0,x1,_⟩ h _ K q=>at193 x0 x1 h K q)
end
noncomputable section
def ext179:Ext:=[(192,S192),(193,S193)]
theorem ext179Ok:ExtOk Tryz.prog ext179:=⟨⟨ca192,con192⟩,⟨ca193,con193⟩,trivial⟩
def b179:Code:=bodyOf Tryz.f179
theorem hb179:Tryz.f179.body=some b179:=by kernel_rfl
def sig179:List AT:=[AT.p YA9,AT.v (.int .i64),AT.v (.int .i64),AT.v (.bool)]
def tys179:List Ty:=[.int .i64]
def kds179:List RK:=[]
def oks179:List AT:=owns sig179
def P179 (x0:Int×Int×Unit) (x1:Int) (x2:Int) (x3:Bool):Prop:=((P192 x0 x2 x3)∧(if (decide (g192_0 x0 x2 x3≤0))=true then True else ((InR .i64 (x1*x0.1))∧((P193 (x1*x0.1) 10)∧((InR .i64 (x1*x1))∧((InR .i64 (2*g192_0 x0 x2 x3))∧((P193 (x1*x1) (2*g192_0 x0 x2 x3))∧((InR .i64 (g193_0 (x1*x0.1) 10+g193_0 (x1*x1) (2*g192_0 x0 x2 x3)))∧True))))))))
def g179_0 (x0:Int×Int×Unit) (x1:Int) (x2:Int) (x3:Bool):Int:=(if (decide (g192_0 x0 x2 x3≤0))=true then -1 else g193_0 (x1*x0.1) 10+g193_0 (x1*x1) (2*g192_0 x0 x2 x3))
theorem at179 (x0:Int×Int×Unit) (x1:Int) (x2:Int) (x3:Bool) (h:P179 x0 x1 x2 x3) (K:Ctx) (q:Nat→Value):AtV Tryz.prog 179 (PostR kds179 oks179 [⟨.int .i64,g179_0 x0 x1 x2 x3⟩] [] [] q K) 30 K q [] [.code b179] (entE 0 0 sig179 (x0,x1,x2,x3,())) (entL sig179 (x0,x1,x2,x3,())):=by
 unfold P179 at h
 unfold g179_0
 obtain ⟨s0,h⟩:=h
 by_cases b0:(decide (g192_0 x0 x2 x3≤0))=true
 ·try simp only [if_pos b0] at h ⊢
  exact AtV.ret Tryz.func179 tabOk ext179Ok mixed false [] tys179 [true] (a1 s0 (a1 b0 trivial)) (by kernel_rfl)
 ·try simp only [if_neg b0] at h ⊢
  replace b0:=bf_ b0
  obtain ⟨s1,h⟩:=h
  obtain ⟨s2,h⟩:=h
  obtain ⟨s3,h⟩:=h
  obtain ⟨s4,h⟩:=h
  obtain ⟨s5,h⟩:=h
  obtain ⟨s6,h⟩:=h
  exact AtV.ret Tryz.func179 tabOk ext179Ok mixed false [] tys179 [false] (a1 s0 (a1 b0 (a1 s1 (a1 s2 (a1 s3 (a1 s4 (a1 s5 (a1 s6 trivial)))))))) (by kernel_rfl)
def S179:Am.Spec:={ sig:=sig179,pre:=fun ⟨x0,x1,x2,x3,_⟩=>P179 x0 x1 x2 x3,res:=fun ⟨x0,x1,x2,x3,_⟩=>[⟨.int .i64,g179_0 x0 x1 x2 x3⟩],kds:=kds179 }
theorem con179:Contract Tryz.prog 179 S179:=contract_of Tryz.func179 hb179 (bl_ (by kernel_rfl)) (fun ⟨x0,x1,x2,x3,_⟩ h _ K q=>at179 x0 x1 x2 x3 h K q)
end
def worstL (down:Bool) (g:Int) (xs:List TyB4):Int:=xs.foldl (fun g x=>if down=true then (if g<x.2.1 then x.2.1 else g) else (if x.2.1<g then x.2.1 else g)) g
theorem worst_cons (down:Bool) (g:Int) (x:Int×Int×Unit) (xs:List TyB4):worstL down g (x :: xs)=worstL down (if down=true then (if g<x.2.1 then x.2.1 else g) else (if x.2.1<g then x.2.1 else g)) xs:=rfl
theorem worst_mem (down:Bool):∀ (xs:List TyB4) (g:Int),worstL down g xs=g∨∃ x∈xs,worstL down g xs=x.2.1
 | [],g => .inl rfl
 | x :: xs,g=>by
  rw [worst_cons]
  rcases worst_mem down xs (if down=true then (if g<x.2.1 then x.2.1 else g) else (if x.2.1<g then x.2.1 else g)) with h | ⟨y,hy,h⟩
  ·rw [h]
   split
   ·split
    ·exact .inr ⟨x,List.mem_cons_self .., rfl⟩
    ·exact .inl rfl
   ·split
    ·exact .inr ⟨x,List.mem_cons_self .., rfl⟩
    ·exact .inl rfl
  ·exact .inr ⟨y,List.mem_cons_of_mem _ hy,h⟩
theorem worst_le:∀ (xs:List TyB4) (g:Int),(g≤worstL true g xs∧∀ x∈xs,x.2.1≤worstL true g xs)∧(worstL false g xs≤g∧∀ x∈xs,worstL false g xs≤x.2.1)
 | [],g=>⟨⟨Int.le_refl _,fun x hx=>by cases hx⟩,Int.le_refl _,fun x hx=>by cases hx⟩
 | x :: xs,g=>by
  rw [worst_cons,worst_cons]
  simp only [if_true,Bool.false_eq_true,if_false]
  obtain ⟨⟨a1,a2⟩,_⟩:=worst_le xs (if g<x.2.1 then x.2.1 else g)
  obtain ⟨_,b1,b2⟩:=worst_le xs (if x.2.1<g then x.2.1 else g)
  have c1:g≤(if g<x.2.1 then x.2.1 else g)∧x.2.1≤(if g<x.2.1 then x.2.1 else g):=by split <;> omega
  have c2:(if x.2.1<g then x.2.1 else g)≤g∧(if x.2.1<g then x.2.1 else g)≤x.2.1:=by split <;> omega
  refine ⟨⟨Int.le_trans c1.1 a1,fun y hy => ?_⟩,Int.le_trans b1 c2.1,fun y hy => ?_⟩
  ·rcases List.mem_cons.1 hy with rfl | hy
   ·exact Int.le_trans c1.2 a1
   ·exact a2 y hy
  ·rcases List.mem_cons.1 hy with rfl | hy
   ·exact Int.le_trans b1 c2.2
   ·exact b2 y hy
theorem worst_same (down:Bool) (xs:List TyB4) (g g':Int) (h:∃ x∈xs,g=x.2.1) (h':∃ x∈xs,g'=x.2.1):worstL down g xs=worstL down g' xs:=by
 obtain ⟨x,hx,rfl⟩:=h
 obtain ⟨y,hy,rfl⟩:=h'
 have w1:∃ z∈xs,worstL down x.2.1 xs=z.2.1:=by
  rcases worst_mem down xs x.2.1 with h | h
  ·exact ⟨x,hx,h⟩
  ·exact h
 have w2:∃ z∈xs,worstL down y.2.1 xs=z.2.1:=by
  rcases worst_mem down xs y.2.1 with h | h
  ·exact ⟨y,hy,h⟩
  ·exact h
 obtain ⟨z1,m1,e1⟩:=w1
 obtain ⟨z2,m2,e2⟩:=w2
 obtain ⟨⟨_,a⟩,_,b⟩:=worst_le xs x.2.1
 obtain ⟨⟨_,c⟩,_,d⟩:=worst_le xs y.2.1
 cases down with
 | true=>have:=a z2 m2;have:=c z1 m1;omega
 | false=>have:=b z2 m2;have:=d z1 m1;omega
noncomputable section
def ext159:Ext:=[(178,S178),(156,S156),(157,S157),(179,S179)]
theorem ext159Ok:ExtOk Tryz.prog ext159:=⟨⟨ca178,con178⟩,⟨ca156,con156⟩,⟨ca157,con157⟩,⟨ca179,con179⟩,trivial⟩
def b159:Code:=bodyOf Tryz.f159
theorem hb159:Tryz.f159.body=some b159:=by kernel_rfl
def sig159:List AT:=[AT.p YA2,AT.p YA9,AT.v (.int .i64),AT.v (.int .i64),AT.v (.bool)]
def tys159:List Ty:=[.int .i64]
def kds159:List RK:=[]
def oks159:List AT:=owns sig159
def E159_3 (v11:Int) (v12:Int) (x0:List TyB4×Int×Int×Unit) (x1:Int×Int×Unit) (x3:Int) (x4:Bool):Env:=[(0,.a (.ptr YA2 x0)),(1,.a (.ptr YA9 x1)),(3,.a (.val (.int .i64 x3))),(4,.a (.val (.bool x4))),(11,.a (.val (.int .i64 v11))),(12,.a (.val (.int .i64 v12)))]
def L159_3 (v11:Int) (v12:Int) (x0:List TyB4×Int×Int×Unit) (x1:Int×Int×Unit) (x3:Int) (x4:Bool):Heap:=[]
mutual
def R159:Nat→List TyB4×Int×Int×Unit→Int×Int×Unit→Int→Int→Bool→List Dyn→Prop
 | 0,_,_,_,_,_,_=>False
 | n+1,x0,x1,x2,x3,x4,ds=>((P178 x0 x2)∧(R159_3 n (g178_0 x0 x2) (0) (x0) (x1) (x3) (x4) ds))
def R159_3:Nat→Int→Int→List TyB4×Int×Int×Unit→Int×Int×Unit→Int→Bool→List Dyn→Prop
 | 0,_,_,_,_,_,_,_=>False
 | n+1,v11,v12,x0,x1,x3,x4,ds=>(if (decide (v12<(x0.1.length:Int)))=true then (if (x4)=true then ((0≤v12)∧(v12<(x0.1.length:Int))∧((InR .i64 (v12+1))∧(R159_3 n (g156_0 v11 (List.getD x0.1 (Int.toNat v12) (0,0,())).2.1) (v12+1) (x0) (x1) (x3) (x4) ds))) else ((0≤v12)∧(v12<(x0.1.length:Int))∧((InR .i64 (v12+1))∧(R159_3 n (g157_0 v11 (List.getD x0.1 (Int.toNat v12) (0,0,())).2.1) (v12+1) (x0) (x1) (x3) (x4) ds)))) else ((P179 x1 x3 v11 x4)∧(ds=[Dyn.mk (.int .i64) (g179_0 x1 x3 v11 x4)])))
end
theorem snd159:∀ n,(∀ (x0:List TyB4×Int×Int×Unit) (x1:Int×Int×Unit) (x2:Int) (x3:Int) (x4:Bool) ds,R159 n x0 x1 x2 x3 x4 ds→∀ K q,AtV Tryz.prog 159 (PostR kds159 oks159 ds [] [] q K) 51 K q [] [.code b159] (entE 0 0 sig159 (x0,x1,x2,x3,x4,())) (entL sig159 (x0,x1,x2,x3,x4,())))∧(∀ (v11:Int) (v12:Int) (x0:List TyB4×Int×Int×Unit) (x1:Int×Int×Unit) (x3:Int) (x4:Bool) ds,R159_3 n v11 v12 x0 x1 x3 x4 ds→∀ K q,AtV Tryz.prog 159 (PostR kds159 oks159 ds [] [] q K) 51 K q [] (cutAt b159 3) (E159_3 v11 v12 x0 x1 x3 x4) (L159_3 v11 v12 x0 x1 x3 x4)):=by
 intro n
 induction n with
 | zero=>exact ⟨fun _ _ _ _ _ _ h=>by simp only [R159] at h,fun _ _ _ _ _ _ _ h=>by simp only [R159_3] at h⟩
 | succ n ih =>
 obtain ⟨ih,ih3⟩:=ih
 refine ⟨?_,?_⟩
 ·intro x0 x1 x2 x3 x4 ds h K q
  rw [R159] at h
  obtain ⟨s0,h⟩:=h
  exact AtV.go tabOk ext159Ok mixed false [] [] [0,1,3,4,11,12] [] [] (a1 s0 trivial) (ih3 _ _ _ _ _ _ _ h K q) (by kernel_rfl)
 ·intro v11 v12 x0 x1 x3 x4 ds h K q
  rw [R159_3] at h
  by_cases b0:(decide (v12<(x0.1.length:Int)))=true
  ·rw [if_pos b0] at h
   by_cases b1:(x4)=true
   ·rw [if_pos b1] at h
    obtain ⟨s0,s1,h⟩:=h
    obtain ⟨s2,h⟩:=h
    exact AtV.go tabOk ext159Ok mixed false [] [] [0,1,3,4,11,12] [] [true,true] (a1 b0 (a1 b1 (a1 s0 (a1 s1 (a1 trivial (a1 s2 trivial)))))) (ih3 _ _ _ _ _ _ _ h K q) (by kernel_rfl)
   ·rw [if_neg b1] at h
    replace b1:=bf_ b1
    obtain ⟨s0,s1,h⟩:=h
    obtain ⟨s2,h⟩:=h
    exact AtV.go tabOk ext159Ok mixed false [] [] [0,1,3,4,11,12] [] [true,false] (a1 b0 (a1 b1 (a1 s0 (a1 s1 (a1 trivial (a1 s2 trivial)))))) (ih3 _ _ _ _ _ _ _ h K q) (by kernel_rfl)
  ·rw [if_neg b0] at h
   replace b0:=bf_ b0
   obtain ⟨s0,h⟩:=h
   subst h
   exact AtV.ret Tryz.func159 tabOk ext159Ok mixed false [] tys159 [false] (a1 b0 (a1 s0 trivial)) (by kernel_rfl)
def g159_0 (x0:List TyB4×Int×Int×Unit) (x1:Int×Int×Unit) (x2 x3:Int) (x4:Bool):Int:=g179_0 x1 x3 (worstL x4 (g178_0 x0 x2) x0.1) x4
def P159 (x0:List TyB4×Int×Int×Unit) (x1:Int×Int×Unit) (x2 x3:Int) (x4:Bool):Prop:=x0.1.length≤1000∧P178 x0 x2∧P179 x1 x3 (worstL x4 (g178_0 x0 x2) x0.1) x4
theorem max159 (a b:Int):g156_0 a b=if a<b then b else a:=by
 unfold g156_0
 by_cases h:a>b
 ·rw [if_pos (by simpa using h),if_neg (by omega)]
 ·rw [if_neg (by simpa using h)]
  split <;> omega
theorem min159 (a b:Int):g157_0 a b=if b<a then b else a:=by
 unfold g157_0
 by_cases h:a<b
 ·rw [if_pos (by simpa using h),if_neg (by omega)]
 ·rw [if_neg (by simpa using h)]
  split <;> omega
theorem run159 (x0:List TyB4×Int×Int×Unit) (x1:Int×Int×Unit) (x3:Int) (x4:Bool) (hl:x0.1.length≤1000):∀ (k i:Nat) (g:Int),i+k=x0.1.length→P179 x1 x3 (worstL x4 g (x0.1.drop i)) x4→R159_3 (k+1) g (i:Int) x0 x1 x3 x4 [⟨.int .i64,g179_0 x1 x3 (worstL x4 g (x0.1.drop i)) x4⟩]:=by
 intro k
 induction k with
 | zero =>
  intro i g hi hp
  rw [List.drop_eq_nil_of_le (by omega)] at hp ⊢
  rw [R159_3,if_neg (by simp only [decide_eq_true_eq];omega)]
  exact ⟨hp,rfl⟩
 | succ k ih =>
  intro i g hi hp
  have hlt:i<x0.1.length:=by omega
  have e:(i:Int)+1=((i+1:Nat):Int):=by omega
  rw [List.drop_eq_getElem_cons hlt,worst_cons] at hp ⊢
  rw [R159_3,if_pos (by simp only [decide_eq_true_eq];omega)]
  simp only [Int.toNat_natCast,getD_lt x0.1 i _ hlt,max159,min159]
  have h:=ih (i+1) _ (by omega) hp
  cases x4 with
  | true =>
   simp only [if_true] at h ⊢
   rw [e]
   exact ⟨by omega,by omega,by rw [i64_iff];omega,h⟩
  | false =>
   simp only [Bool.false_eq_true,if_false] at h ⊢
   rw [e]
   exact ⟨by omega,by omega,by rw [i64_iff];omega,h⟩
theorem top159 (x0:List TyB4×Int×Int×Unit) (x1:Int×Int×Unit) (x2 x3:Int) (x4:Bool) (h:P159 x0 x1 x2 x3 x4):R159 (x0.1.length+1+1) x0 x1 x2 x3 x4 [⟨.int .i64,g159_0 x0 x1 x2 x3 x4⟩]:=by
 rw [R159]
 exact ⟨h.2.1,run159 x0 x1 x3 x4 h.1 x0.1.length 0 _ (by omega) h.2.2⟩
def S159:Am.Spec:={ sig:=sig159,pre:=fun ⟨x0,x1,x2,x3,x4,_⟩=>P159 x0 x1 x2 x3 x4,res:=fun ⟨x0,x1,x2,x3,x4,_⟩=>[⟨.int .i64,g159_0 x0 x1 x2 x3 x4⟩] }
theorem con159:Contract Tryz.prog 159 S159:=contract_of Tryz.func159 hb159 (bl_ (by kernel_rfl)) (fun ⟨x0,x1,x2,x3,x4,_⟩ h hwf K q =>
 (snd159 _).1 x0 x1 x2 x3 x4 _ (top159 x0 x1 x2 x3 x4 h) K q)
end
noncomputable section
def ext131:Ext:=[(159,S159),(85,S85)]
theorem ext131Ok:ExtOk Tryz.prog ext131:=⟨⟨ca159,con159⟩,⟨ca85,con85⟩,trivial⟩
def b131:Code:=bodyOf Tryz.f131
theorem hb131:Tryz.f131.body=some b131:=by kernel_rfl
def sig131:List AT:=[AT.p YA2,AT.p YA9,AT.v (.int .i64),AT.v (.int .i64),AT.v (.bool)]
def tys131:List Ty:=[.bool]
def kds131:List RK:=[]
def oks131:List AT:=owns sig131
def P131 (x0:List TyB4×Int×Int×Unit) (x1:Int×Int×Unit) (x2:Int) (x3:Int) (x4:Bool):Prop:=((P159 x0 x1 x2 x3 x4)∧((P85 x0)∧((InR .i64 (g85_0 x0 - x2))∧True)))
def g131_0 (x0:List TyB4×Int×Int×Unit) (x1:Int×Int×Unit) (x2:Int) (x3:Int) (x4:Bool):Bool:=(if (x4)=true then (if (decide (g159_0 x0 x1 x2 x3 x4≥0))=true then decide (g159_0 x0 x1 x2 x3 x4≤x2) else false) else (if (decide (g159_0 x0 x1 x2 x3 x4≥0))=true then decide (g159_0 x0 x1 x2 x3 x4≤g85_0 x0 - x2) else false))
theorem at131 (x0:List TyB4×Int×Int×Unit) (x1:Int×Int×Unit) (x2:Int) (x3:Int) (x4:Bool) (h:P131 x0 x1 x2 x3 x4) (K:Ctx) (q:Nat→Value):AtV Tryz.prog 131 (PostR kds131 oks131 [⟨.bool,g131_0 x0 x1 x2 x3 x4⟩] [] [] q K) 32 K q [] [.code b131] (entE 0 0 sig131 (x0,x1,x2,x3,x4,())) (entL sig131 (x0,x1,x2,x3,x4,())):=by
 unfold P131 at h
 unfold g131_0
 obtain ⟨s0,h⟩:=h
 obtain ⟨s1,h⟩:=h
 obtain ⟨s2,h⟩:=h
 by_cases b0:(x4)=true
 ·try simp only [if_pos b0] at h ⊢
  by_cases b1:(decide (g159_0 x0 x1 x2 x3 x4≥0))=true
  ·try simp only [if_pos b1] at h ⊢
   exact AtV.ret Tryz.func131 tabOk ext131Ok mixed false [] tys131 [true,true] (a1 s0 (a1 s1 (a1 s2 (a1 b0 (a1 b1 trivial))))) (by kernel_rfl)
  ·try simp only [if_neg b1] at h ⊢
   replace b1:=bf_ b1
   exact AtV.ret Tryz.func131 tabOk ext131Ok mixed false [] tys131 [true,false] (a1 s0 (a1 s1 (a1 s2 (a1 b0 (a1 b1 trivial))))) (by kernel_rfl)
 ·try simp only [if_neg b0] at h ⊢
  replace b0:=bf_ b0
  by_cases b1:(decide (g159_0 x0 x1 x2 x3 x4≥0))=true
  ·try simp only [if_pos b1] at h ⊢
   exact AtV.ret Tryz.func131 tabOk ext131Ok mixed false [] tys131 [false,true] (a1 s0 (a1 s1 (a1 s2 (a1 b0 (a1 b1 trivial))))) (by kernel_rfl)
  ·try simp only [if_neg b1] at h ⊢
   replace b1:=bf_ b1
   exact AtV.ret Tryz.func131 tabOk ext131Ok mixed false [] tys131 [false,false] (a1 s0 (a1 s1 (a1 s2 (a1 b0 (a1 b1 trivial))))) (by kernel_rfl)
def S131:Am.Spec:={ sig:=sig131,pre:=fun ⟨x0,x1,x2,x3,x4,_⟩=>P131 x0 x1 x2 x3 x4,res:=fun ⟨x0,x1,x2,x3,x4,_⟩=>[⟨.bool,g131_0 x0 x1 x2 x3 x4⟩],kds:=kds131 }
theorem con131:Contract Tryz.prog 131 S131:=contract_of Tryz.func131 hb131 (bl_ (by kernel_rfl)) (fun ⟨x0,x1,x2,x3,x4,_⟩ h _ K q=>at131 x0 x1 x2 x3 x4 h K q)
end
def rideL (nx:Int→Int→Int) (bad:Int→Int→Bool) (n:Int):Nat→Int→Int→Int→Option Int
 | 0,_,_,_=>none
 | f+1,place,speed,k=>if place<n then (if (decide (place+nx speed (n - place)<n)&&bad (place+nx speed (n - place)) (nx speed (n - place)))=true then some (k+1) else rideL nx bad n f (place+nx speed (n - place)) (nx speed (n - place)) (k+1)) else none
theorem rideL_congr {nx nx':Int→Int→Int} {bad bad':Int→Int→Bool} {n:Int} (h1:∀ speed left,0≤speed→speed≤15000→1≤left→left≤n→nx speed left=nx' speed left∧1≤nx speed left∧nx speed left≤left∧nx speed left≤15000) (h2:∀ place speed,0≤place→place<n→0≤speed→speed≤15000→bad place speed=bad' place speed) :
  ∀ (f:Nat) (place speed k:Int),0≤place→0≤speed→speed≤15000→rideL nx bad n f place speed k=rideL nx' bad' n f place speed k
 | 0,_,_,_,_,_,_=>rfl
 | f+1,place,speed,k,hp,hs,hs2=>by
  unfold rideL
  by_cases hc:place<n
  ·obtain ⟨e,e1,e2,e3⟩:=h1 speed (n - place) hs hs2 (by omega) (by omega)
   rw [if_pos hc,if_pos hc, ← e]
   have ih:=rideL_congr h1 h2 f (place+nx speed (n - place)) (nx speed (n - place)) (k+1) (by omega) (by omega) e3
   by_cases hd:place+nx speed (n - place)<n
   ·rw [h2 _ _ (by omega) hd (by omega) e3,ih]
   ·rw [decide_eq_false hd,Bool.false_and,Bool.false_and,ih]
  ·rw [if_neg hc,if_neg hc]
noncomputable section
def ext97:Ext:=[(85,S85),(130,S130),(131,S131)]
theorem ext97Ok:ExtOk Tryz.prog ext97:=⟨⟨ca85,con85⟩,⟨ca130,con130⟩,⟨ca131,con131⟩,trivial⟩
def b97:Code:=bodyOf Tryz.f97
theorem hb97:Tryz.f97.body=some b97:=by kernel_rfl
def sig97:List AT:=[AT.p YA2,AT.p YA9,AT.p YA4,AT.v (.bool)]
def tys97:List Ty:=[.int .i64]
def kds97:List RK:=[]
def oks97:List AT:=owns sig97
def E97_5 (v10:Int) (v11:Int) (v12:Int) (x0:List TyB4×Int×Int×Unit) (x1:Int×Int×Unit) (x2:Int×Int×Int×Int×Unit) (x3:Bool):Env:=[(0,.a (.ptr YA2 x0)),(1,.a (.ptr YA9 x1)),(2,.a (.ptr YA4 x2)),(3,.a (.val (.bool x3))),(9,.a (.val (.int .i64 (g85_0 x0)))),(10,.a (.val (.int .i64 v10))),(11,.a (.val (.int .i64 v11))),(12,.a (.val (.int .i64 v12)))]
def L97_5 (v10:Int) (v11:Int) (v12:Int) (x0:List TyB4×Int×Int×Unit) (x1:Int×Int×Unit) (x2:Int×Int×Int×Int×Unit) (x3:Bool):Heap:=[]
mutual
def R97:Nat→List TyB4×Int×Int×Unit→Int×Int×Unit→Int×Int×Int×Int×Unit→Bool→List Dyn→Prop
 | 0,_,_,_,_,_=>False
 | n+1,x0,x1,x2,x3,ds=>((P85 x0)∧(R97_5 n (0) (0) (1) (x0) (x1) (x2) (x3) ds))
def R97_5:Nat→Int→Int→Int→List TyB4×Int×Int×Unit→Int×Int×Unit→Int×Int×Int×Int×Unit→Bool→List Dyn→Prop
 | 0,_,_,_,_,_,_,_,_=>False
 | n+1,v10,v11,v12,x0,x1,x2,x3,ds=>(if (decide (v11<g85_0 x0))=true then ((InR .i64 (g85_0 x0 - v11))∧((P130 x2 v10 (g85_0 x0 - v11))∧((InR .i64 (v11+g130_0 x2 v10 (g85_0 x0 - v11)))∧(if (x3)=true then ((InR .i64 (g85_0 x0 - (v11+g130_0 x2 v10 (g85_0 x0 - v11))))∧(if (decide (v11+g130_0 x2 v10 (g85_0 x0 - v11)<g85_0 x0))=true then ((P131 x0 x1 (g85_0 x0 - (v11+g130_0 x2 v10 (g85_0 x0 - v11))) (g130_0 x2 v10 (g85_0 x0 - v11)) x3)∧(if (!g131_0 x0 x1 (g85_0 x0 - (v11+g130_0 x2 v10 (g85_0 x0 - v11))) (g130_0 x2 v10 (g85_0 x0 - v11)) x3)=true then (ds=[Dyn.mk (.int .i64) v12]) else ((InR .i64 (v12+1))∧(R97_5 n (g130_0 x2 v10 (g85_0 x0 - v11)) (v11+g130_0 x2 v10 (g85_0 x0 - v11)) (v12+1) (x0) (x1) (x2) (x3) ds)))) else ((InR .i64 (v12+1))∧(R97_5 n (g130_0 x2 v10 (g85_0 x0 - v11)) (v11+g130_0 x2 v10 (g85_0 x0 - v11)) (v12+1) (x0) (x1) (x2) (x3) ds)))) else (if (decide (v11+g130_0 x2 v10 (g85_0 x0 - v11)<g85_0 x0))=true then ((P131 x0 x1 (v11+g130_0 x2 v10 (g85_0 x0 - v11)) (g130_0 x2 v10 (g85_0 x0 - v11)) x3)∧(if (!g131_0 x0 x1 (v11+g130_0 x2 v10 (g85_0 x0 - v11)) (g130_0 x2 v10 (g85_0 x0 - v11)) x3)=true then (ds=[Dyn.mk (.int .i64) v12]) else ((InR .i64 (v12+1))∧(R97_5 n (g130_0 x2 v10 (g85_0 x0 - v11)) (v11+g130_0 x2 v10 (g85_0 x0 - v11)) (v12+1) (x0) (x1) (x2) (x3) ds)))) else ((InR .i64 (v12+1))∧(R97_5 n (g130_0 x2 v10 (g85_0 x0 - v11)) (v11+g130_0 x2 v10 (g85_0 x0 - v11)) (v12+1) (x0) (x1) (x2) (x3) ds))))))) else (ds=[Dyn.mk (.int .i64) (-1)]))
end
theorem snd97:∀ n,(∀ (x0:List TyB4×Int×Int×Unit) (x1:Int×Int×Unit) (x2:Int×Int×Int×Int×Unit) (x3:Bool) ds,R97 n x0 x1 x2 x3 ds→∀ K q,AtV Tryz.prog 97 (PostR kds97 oks97 ds [] [] q K) 48 K q [] [.code b97] (entE 0 0 sig97 (x0,x1,x2,x3,())) (entL sig97 (x0,x1,x2,x3,())))∧(∀ (v10:Int) (v11:Int) (v12:Int) (x0:List TyB4×Int×Int×Unit) (x1:Int×Int×Unit) (x2:Int×Int×Int×Int×Unit) (x3:Bool) ds,R97_5 n v10 v11 v12 x0 x1 x2 x3 ds→∀ K q,AtV Tryz.prog 97 (PostR kds97 oks97 ds [] [] q K) 48 K q [] (cutAt b97 5) (E97_5 v10 v11 v12 x0 x1 x2 x3) (L97_5 v10 v11 v12 x0 x1 x2 x3)):=by
 intro n
 induction n with
 | zero=>exact ⟨fun _ _ _ _ _ h=>by simp only [R97] at h,fun _ _ _ _ _ _ _ _ h=>by simp only [R97_5] at h⟩
 | succ n ih =>
 obtain ⟨ih,ih5⟩:=ih
 refine ⟨?_,?_⟩
 ·intro x0 x1 x2 x3 ds h K q
  rw [R97] at h
  obtain ⟨s0,h⟩:=h
  exact AtV.go tabOk ext97Ok mixed false [] [] [0,1,2,3,9,10,11,12] [] [] (a1 s0 trivial) (ih5 _ _ _ _ _ _ _ _ h K q) (by kernel_rfl)
 ·intro v10 v11 v12 x0 x1 x2 x3 ds h K q
  rw [R97_5] at h
  by_cases b0:(decide (v11<g85_0 x0))=true
  ·rw [if_pos b0] at h
   obtain ⟨s0,h⟩:=h
   obtain ⟨s1,h⟩:=h
   obtain ⟨s2,h⟩:=h
   by_cases b1:(x3)=true
   ·rw [if_pos b1] at h
    obtain ⟨s3,h⟩:=h
    by_cases b2:(decide (v11+g130_0 x2 v10 (g85_0 x0 - v11)<g85_0 x0))=true
    ·rw [if_pos b2] at h
     obtain ⟨s4,h⟩:=h
     by_cases b3:(!g131_0 x0 x1 (g85_0 x0 - (v11+g130_0 x2 v10 (g85_0 x0 - v11))) (g130_0 x2 v10 (g85_0 x0 - v11)) x3)=true
     ·rw [if_pos b3] at h
      subst h
      exact AtV.ret Tryz.func97 tabOk ext97Ok mixed false [] tys97 [true,true,true,true] (a1 b0 (a1 s0 (a1 s1 (a1 s2 (a1 b1 (a1 s3 (a1 b2 (a1 s4 (a1 b3 trivial))))))))) (by kernel_rfl)
     ·rw [if_neg b3] at h
      replace b3:=bf_ b3
      obtain ⟨s5,h⟩:=h
      exact AtV.go tabOk ext97Ok mixed false [] [] [0,1,2,3,9,10,11,12] [] [true,true,true,false] (a1 b0 (a1 s0 (a1 s1 (a1 s2 (a1 b1 (a1 s3 (a1 b2 (a1 s4 (a1 b3 (a1 s5 trivial)))))))))) (ih5 _ _ _ _ _ _ _ _ h K q) (by kernel_rfl)
    ·rw [if_neg b2] at h
     replace b2:=bf_ b2
     obtain ⟨s4,h⟩:=h
     exact AtV.go tabOk ext97Ok mixed false [] [] [0,1,2,3,9,10,11,12] [] [true,true,false,false] (a1 b0 (a1 s0 (a1 s1 (a1 s2 (a1 b1 (a1 s3 (a1 b2 (a1 (rfl:false=false) (a1 s4 trivial))))))))) (ih5 _ _ _ _ _ _ _ _ h K q) (by kernel_rfl)
   ·rw [if_neg b1] at h
    replace b1:=bf_ b1
    by_cases b2:(decide (v11+g130_0 x2 v10 (g85_0 x0 - v11)<g85_0 x0))=true
    ·rw [if_pos b2] at h
     obtain ⟨s3,h⟩:=h
     by_cases b3:(!g131_0 x0 x1 (v11+g130_0 x2 v10 (g85_0 x0 - v11)) (g130_0 x2 v10 (g85_0 x0 - v11)) x3)=true
     ·rw [if_pos b3] at h
      subst h
      exact AtV.ret Tryz.func97 tabOk ext97Ok mixed false [] tys97 [true,false,true,true] (a1 b0 (a1 s0 (a1 s1 (a1 s2 (a1 b1 (a1 b2 (a1 s3 (a1 b3 trivial)))))))) (by kernel_rfl)
     ·rw [if_neg b3] at h
      replace b3:=bf_ b3
      obtain ⟨s4,h⟩:=h
      exact AtV.go tabOk ext97Ok mixed false [] [] [0,1,2,3,9,10,11,12] [] [true,false,true,false] (a1 b0 (a1 s0 (a1 s1 (a1 s2 (a1 b1 (a1 b2 (a1 s3 (a1 b3 (a1 s4 trivial))))))))) (ih5 _ _ _ _ _ _ _ _ h K q) (by kernel_rfl)
    ·rw [if_neg b2] at h
     replace b2:=bf_ b2
     obtain ⟨s3,h⟩:=h
     exact AtV.go tabOk ext97Ok mixed false [] [] [0,1,2,3,9,10,11,12] [] [true,false,false,false] (a1 b0 (a1 s0 (a1 s1 (a1 s2 (a1 b1 (a1 b2 (a1 (rfl:false=false) (a1 s3 trivial)))))))) (ih5 _ _ _ _ _ _ _ _ h K q) (by kernel_rfl)
  ·rw [if_neg b0] at h
   replace b0:=bf_ b0
   subst h
   exact AtV.ret Tryz.func97 tabOk ext97Ok mixed false [] tys97 [false] (a1 b0 trivial) (by kernel_rfl)
abbrev TR97:=List TyB4×Int×Int×Unit
abbrev BR97:=Int×Int×Unit
abbrev PR97:=Int×Int×Int×Int×Unit
def bad97 (tr:TR97) (br:BR97) (down:Bool) (way place speed:Int):Bool := !g131_0 tr br (if down=true then way - place else place) speed down
def run97 (x0:TR97) (x1:BR97) (x2:PR97) (x3:Bool):Option Int:=rideL (g130_0 x2) (bad97 x0 x1 x3 (g85_0 x0)) (g85_0 x0) (g85_0 x0).toNat 0 0 0
def g97_0 (x0:TR97) (x1:BR97) (x2:PR97) (x3:Bool):Int:=(run97 x0 x1 x2 x3).getD (-1)
def P97 (x0:TR97) (x1:BR97) (x2:PR97) (x3:Bool):Prop:=P85 x0∧(0≤g85_0 x0∧g85_0 x0≤3000000) ∧
 (∀ s l,0≤s→s≤15000→1≤l→l≤g85_0 x0→P130 x2 s l∧1≤g130_0 x2 s l∧g130_0 x2 s l≤l∧g130_0 x2 s l≤15000) ∧
 (∀ place s,0≤place→place≤g85_0 x0→0≤s→s≤15000→P131 x0 x1 (if x3=true then g85_0 x0 - place else place) s x3)
theorem go97 (x0:TR97) (x1:BR97) (x2:PR97) (x3:Bool) (h:P97 x0 x1 x2 x3):∀ (f:Nat) (place speed k:Int),(0≤place∧place≤g85_0 x0)→(0≤speed∧speed≤15000)→(0≤k∧k≤place)→g85_0 x0 - place≤(f:Int) →
  R97_5 (f+1) speed place (k+1) x0 x1 x2 x3 [⟨.int .i64,(rideL (g130_0 x2) (bad97 x0 x1 x3 (g85_0 x0)) (g85_0 x0) f place speed k).getD (-1)⟩]:=by
 obtain ⟨_,p2,p3,p4⟩:=h
 intro f
 induction f with
 | zero =>
  intro place speed k hp hs hk hf
  rw [R97_5,if_neg (by simp only [decide_eq_true_eq];omega)]
  rfl
 | succ f ih =>
  intro place speed k hp hs hk hf
  by_cases hlt:place<g85_0 x0
  ·obtain ⟨q1,q2,q3,q4⟩:=p3 speed (g85_0 x0 - place) hs.1 hs.2 (by omega) (by omega)
   rw [R97_5,if_pos (by simpa using hlt),rideL,if_pos hlt]
   generalize hs':g130_0 x2 speed (g85_0 x0 - place)=s at *
   have ih:=ih (place+s) s (k+1) (by omega) (by omega) (by omega) (by omega)
   have p5:=p4 (place+s) s (by omega) (by omega) (by omega) q4
   refine ⟨by rw [i64_iff];omega,q1,by rw [i64_iff];omega,?_⟩
   unfold bad97
   cases x3 with
   | true =>
    simp only [if_true] at p5 ⊢
    refine ⟨by rw [i64_iff];omega,?_⟩
    by_cases hd:place+s<g85_0 x0
    ·rw [if_pos (by simpa using hd),decide_eq_true hd,Bool.true_and]
     refine ⟨p5,?_⟩
     by_cases hb:(!g131_0 x0 x1 (g85_0 x0 - (place+s)) s true)=true
     ·rw [if_pos hb,if_pos hb]
      rfl
     ·rw [if_neg hb,if_neg hb]
      exact ⟨by rw [i64_iff];omega,ih⟩
    ·rw [if_neg (by simpa using hd),decide_eq_false hd,Bool.false_and,if_neg (by decide)]
     exact ⟨by rw [i64_iff];omega,ih⟩
   | false =>
    simp only [Bool.false_eq_true,if_false] at p5 ⊢
    by_cases hd:place+s<g85_0 x0
    ·rw [if_pos (by simpa using hd),decide_eq_true hd,Bool.true_and]
     refine ⟨p5,?_⟩
     by_cases hb:(!g131_0 x0 x1 (place+s) s false)=true
     ·rw [if_pos hb,if_pos hb]
      rfl
     ·rw [if_neg hb,if_neg hb]
      exact ⟨by rw [i64_iff];omega,ih⟩
    ·rw [if_neg (by simpa using hd),decide_eq_false hd,Bool.false_and,if_neg (by decide)]
     exact ⟨by rw [i64_iff];omega,ih⟩
  ·rw [R97_5,if_neg (by simpa using hlt),rideL,if_neg hlt]
   rfl
theorem top97 (x0:TR97) (x1:BR97) (x2:PR97) (x3:Bool) (h:P97 x0 x1 x2 x3):R97 ((g85_0 x0).toNat+1+1) x0 x1 x2 x3 [⟨.int .i64,g97_0 x0 x1 x2 x3⟩]:=by
 rw [R97]
 have:=h.2.1
 exact ⟨h.1,go97 x0 x1 x2 x3 h _ 0 0 0 (by omega) (by omega) (by omega) (by omega)⟩
def S97:Am.Spec:={ sig:=sig97,pre:=fun ⟨x0,x1,x2,x3,_⟩=>P97 x0 x1 x2 x3,res:=fun ⟨x0,x1,x2,x3,_⟩=>[⟨.int .i64,g97_0 x0 x1 x2 x3⟩] }
theorem con97:Contract Tryz.prog 97 S97:=contract_of Tryz.func97 hb97 (bl_ (by kernel_rfl)) (fun ⟨x0,x1,x2,x3,_⟩ h hwf K q =>
 (snd97 _).1 x0 x1 x2 x3 _ (top97 x0 x1 x2 x3 h) K q)
end
noncomputable section
def ext60:Ext:=[(94,S94),(96,S96),(95,S95),(97,S97)]
theorem ext60Ok:ExtOk Tryz.prog ext60:=⟨⟨ca94,con94⟩,⟨ca96,con96⟩,⟨ca95,con95⟩,⟨ca97,con97⟩,trivial⟩
def b60:Code:=bodyOf Tryz.f60
theorem hb60:Tryz.f60.body=some b60:=by kernel_rfl
def sig60:List AT:=[AT.p YA0]
def tys60:List Ty:=[.sl YA8]
def kds60:List RK:=[]
def oks60:List AT:=owns sig60
def P60 (x0:TyA0):Prop:=((P94 x0.1 x0.2.1)∧(if (!g94_0 x0.1 x0.2.1)=true then ((P96 x0.1)∧((P97 x0.1 x0.2.2.1 x0.2.2.2.1 false)∧(if (decide (g97_0 x0.1 x0.2.2.1 x0.2.2.2.1 false≥0))=true then (((List.length ([]++[(1,ByteArray.mk #[99,97,114,115],g95_0 (g96_0 x0.1),())])+1)*40≤140737488355328)∧((P97 x0.1 x0.2.2.1 x0.2.2.2.1 true)∧(if (decide (g97_0 x0.1 x0.2.2.1 x0.2.2.2.1 true≥0))=true then (((List.length ([]++[(1,ByteArray.mk #[99,97,114,115],g95_0 (g96_0 x0.1),())]++[(2,ByteArray.mk #[117,112],g95_0 (g97_0 x0.1 x0.2.2.1 x0.2.2.2.1 false),())])+1)*40≤140737488355328)∧True) else True))) else ((P97 x0.1 x0.2.2.1 x0.2.2.2.1 true)∧(if (decide (g97_0 x0.1 x0.2.2.1 x0.2.2.2.1 true≥0))=true then (((List.length ([]++[(1,ByteArray.mk #[99,97,114,115],g95_0 (g96_0 x0.1),())])+1)*40≤140737488355328)∧True) else True))))) else ((P97 x0.1 x0.2.2.1 x0.2.2.2.1 false)∧(if (decide (g97_0 x0.1 x0.2.2.1 x0.2.2.2.1 false≥0))=true then ((P97 x0.1 x0.2.2.1 x0.2.2.2.1 true)∧(if (decide (g97_0 x0.1 x0.2.2.1 x0.2.2.2.1 true≥0))=true then (((List.length ([]++[(2,ByteArray.mk #[117,112],g95_0 (g97_0 x0.1 x0.2.2.1 x0.2.2.2.1 false),())])+1)*40≤140737488355328)∧True) else True)) else ((P97 x0.1 x0.2.2.1 x0.2.2.2.1 true)∧True)))))
def g60_0 (x0:TyA0):List TyB3:=(if (!g94_0 x0.1 x0.2.1)=true then (if (decide (g97_0 x0.1 x0.2.2.1 x0.2.2.2.1 false≥0))=true then (if (decide (g97_0 x0.1 x0.2.2.1 x0.2.2.2.1 true≥0))=true then []++[(1,ByteArray.mk #[99,97,114,115],g95_0 (g96_0 x0.1),())]++[(2,ByteArray.mk #[117,112],g95_0 (g97_0 x0.1 x0.2.2.1 x0.2.2.2.1 false),())]++[(2,ByteArray.mk #[100,111,119,110],g95_0 (g97_0 x0.1 x0.2.2.1 x0.2.2.2.1 true),())] else []++[(1,ByteArray.mk #[99,97,114,115],g95_0 (g96_0 x0.1),())]++[(2,ByteArray.mk #[117,112],g95_0 (g97_0 x0.1 x0.2.2.1 x0.2.2.2.1 false),())]) else (if (decide (g97_0 x0.1 x0.2.2.1 x0.2.2.2.1 true≥0))=true then []++[(1,ByteArray.mk #[99,97,114,115],g95_0 (g96_0 x0.1),())]++[(2,ByteArray.mk #[100,111,119,110],g95_0 (g97_0 x0.1 x0.2.2.1 x0.2.2.2.1 true),())] else []++[(1,ByteArray.mk #[99,97,114,115],g95_0 (g96_0 x0.1),())])) else (if (decide (g97_0 x0.1 x0.2.2.1 x0.2.2.2.1 false≥0))=true then (if (decide (g97_0 x0.1 x0.2.2.1 x0.2.2.2.1 true≥0))=true then []++[(2,ByteArray.mk #[117,112],g95_0 (g97_0 x0.1 x0.2.2.1 x0.2.2.2.1 false),())]++[(2,ByteArray.mk #[100,111,119,110],g95_0 (g97_0 x0.1 x0.2.2.1 x0.2.2.2.1 true),())] else []++[(2,ByteArray.mk #[117,112],g95_0 (g97_0 x0.1 x0.2.2.1 x0.2.2.2.1 false),())]) else (if (decide (g97_0 x0.1 x0.2.2.1 x0.2.2.2.1 true≥0))=true then []++[(2,ByteArray.mk #[100,111,119,110],g95_0 (g97_0 x0.1 x0.2.2.1 x0.2.2.2.1 true),())] else [])))
theorem at60 (x0:TyA0) (h:P60 x0) (K:Ctx) (q:Nat→Value):AtV Tryz.prog 60 (PostR kds60 oks60 [⟨.sl YA8,g60_0 x0⟩] [] [] q K) 62 K q [] [.code b60] (entE 0 0 sig60 (x0,())) (entL sig60 (x0,())):=by
 unfold P60 at h
 unfold g60_0
 obtain ⟨s0,h⟩:=h
 by_cases b0:(!g94_0 x0.1 x0.2.1)=true
 ·try simp only [if_pos b0] at h ⊢
  obtain ⟨s1,h⟩:=h
  obtain ⟨s2,h⟩:=h
  by_cases b1:(decide (g97_0 x0.1 x0.2.2.1 x0.2.2.2.1 false≥0))=true
  ·try simp only [if_pos b1] at h ⊢
   obtain ⟨s3,h⟩:=h
   obtain ⟨s4,h⟩:=h
   by_cases b2:(decide (g97_0 x0.1 x0.2.2.1 x0.2.2.2.1 true≥0))=true
   ·try simp only [if_pos b2] at h ⊢
    obtain ⟨s5,h⟩:=h
    exact AtV.ret Tryz.func60 tabOk ext60Ok mixed false [] tys60 [true,true,true] (a1 s0 (a1 b0 (a1 s1 (a1 trivial (a1 ((by decide):((0:Nat)+(1:Nat))*(40:Nat)≤(140737488355328:Nat)) (a1 s2 (a1 b1 (a1 trivial (a1 s3 (a1 s4 (a1 b2 (a1 trivial (a1 s5 trivial))))))))))))) (by kernel_rfl)
   ·try simp only [if_neg b2] at h ⊢
    replace b2:=bf_ b2
    exact AtV.ret Tryz.func60 tabOk ext60Ok mixed false [] tys60 [true,true,false] (a1 s0 (a1 b0 (a1 s1 (a1 trivial (a1 ((by decide):((0:Nat)+(1:Nat))*(40:Nat)≤(140737488355328:Nat)) (a1 s2 (a1 b1 (a1 trivial (a1 s3 (a1 s4 (a1 b2 trivial))))))))))) (by kernel_rfl)
  ·try simp only [if_neg b1] at h ⊢
   replace b1:=bf_ b1
   obtain ⟨s3,h⟩:=h
   by_cases b2:(decide (g97_0 x0.1 x0.2.2.1 x0.2.2.2.1 true≥0))=true
   ·try simp only [if_pos b2] at h ⊢
    obtain ⟨s4,h⟩:=h
    exact AtV.ret Tryz.func60 tabOk ext60Ok mixed false [] tys60 [true,false,true] (a1 s0 (a1 b0 (a1 s1 (a1 trivial (a1 ((by decide):((0:Nat)+(1:Nat))*(40:Nat)≤(140737488355328:Nat)) (a1 s2 (a1 b1 (a1 s3 (a1 b2 (a1 trivial (a1 s4 trivial))))))))))) (by kernel_rfl)
   ·try simp only [if_neg b2] at h ⊢
    replace b2:=bf_ b2
    exact AtV.ret Tryz.func60 tabOk ext60Ok mixed false [] tys60 [true,false,false] (a1 s0 (a1 b0 (a1 s1 (a1 trivial (a1 ((by decide):((0:Nat)+(1:Nat))*(40:Nat)≤(140737488355328:Nat)) (a1 s2 (a1 b1 (a1 s3 (a1 b2 trivial))))))))) (by kernel_rfl)
 ·try simp only [if_neg b0] at h ⊢
  replace b0:=bf_ b0
  obtain ⟨s1,h⟩:=h
  by_cases b1:(decide (g97_0 x0.1 x0.2.2.1 x0.2.2.2.1 false≥0))=true
  ·try simp only [if_pos b1] at h ⊢
   obtain ⟨s2,h⟩:=h
   by_cases b2:(decide (g97_0 x0.1 x0.2.2.1 x0.2.2.2.1 true≥0))=true
   ·try simp only [if_pos b2] at h ⊢
    obtain ⟨s3,h⟩:=h
    exact AtV.ret Tryz.func60 tabOk ext60Ok mixed false [] tys60 [false,true,true] (a1 s0 (a1 b0 (a1 s1 (a1 b1 (a1 trivial (a1 ((by decide):((0:Nat)+(1:Nat))*(40:Nat)≤(140737488355328:Nat)) (a1 s2 (a1 b2 (a1 trivial (a1 s3 trivial)))))))))) (by kernel_rfl)
   ·try simp only [if_neg b2] at h ⊢
    replace b2:=bf_ b2
    exact AtV.ret Tryz.func60 tabOk ext60Ok mixed false [] tys60 [false,true,false] (a1 s0 (a1 b0 (a1 s1 (a1 b1 (a1 trivial (a1 ((by decide):((0:Nat)+(1:Nat))*(40:Nat)≤(140737488355328:Nat)) (a1 s2 (a1 b2 trivial)))))))) (by kernel_rfl)
  ·try simp only [if_neg b1] at h ⊢
   replace b1:=bf_ b1
   obtain ⟨s2,h⟩:=h
   by_cases b2:(decide (g97_0 x0.1 x0.2.2.1 x0.2.2.2.1 true≥0))=true
   ·try simp only [if_pos b2] at h ⊢
    exact AtV.ret Tryz.func60 tabOk ext60Ok mixed false [] tys60 [false,false,true] (a1 s0 (a1 b0 (a1 s1 (a1 b1 (a1 s2 (a1 b2 (a1 trivial (a1 ((by decide):((0:Nat)+(1:Nat))*(40:Nat)≤(140737488355328:Nat)) trivial)))))))) (by kernel_rfl)
   ·try simp only [if_neg b2] at h ⊢
    replace b2:=bf_ b2
    exact AtV.ret Tryz.func60 tabOk ext60Ok mixed false [] tys60 [false,false,false] (a1 s0 (a1 b0 (a1 s1 (a1 b1 (a1 s2 (a1 b2 trivial)))))) (by kernel_rfl)
def S60:Am.Spec:={ sig:=sig60,pre:=fun ⟨x0,_⟩=>P60 x0,res:=fun ⟨x0,_⟩=>[⟨.sl YA8,g60_0 x0⟩],kds:=kds60 }
theorem con60:Contract Tryz.prog 60 S60:=contract_of Tryz.func60 hb60 (bl_ (by kernel_rfl)) (fun ⟨x0,_⟩ h _ K q=>at60 x0 h K q)
end
noncomputable section
def ext99:Ext:=[]
theorem ext99Ok:ExtOk Tryz.prog ext99:=trivial
def b99:Code:=bodyOf Tryz.f99
theorem hb99:Tryz.f99.body=some b99:=by kernel_rfl
def sig99:List AT:=[AT.p YA5]
def tys99:List Ty:=[.int .i64]
def kds99:List RK:=[]
def oks99:List AT:=owns sig99
def P99 (x0:ByteArray×Int×Int×Int×Unit):Prop:=((InR .i64 (x0.2.1*75))∧((InR .i64 (x0.2.2.1*15))∧((InR .i64 (x0.2.1*75+x0.2.2.1*15))∧((InR .i64 (x0.2.1*75+x0.2.2.1*15+x0.2.2.2.1))∧True))))
def g99_0 (x0:ByteArray×Int×Int×Int×Unit):Int:=x0.2.1*75+x0.2.2.1*15+x0.2.2.2.1
theorem at99 (x0:ByteArray×Int×Int×Int×Unit) (h:P99 x0) (K:Ctx) (q:Nat→Value):AtV Tryz.prog 99 (PostR kds99 oks99 [⟨.int .i64,g99_0 x0⟩] [] [] q K) 19 K q [] [.code b99] (entE 0 0 sig99 (x0,())) (entL sig99 (x0,())):=by
 unfold P99 at h
 unfold g99_0
 obtain ⟨s0,h⟩:=h
 obtain ⟨s1,h⟩:=h
 obtain ⟨s2,h⟩:=h
 obtain ⟨s3,h⟩:=h
 exact AtV.ret Tryz.func99 tabOk ext99Ok mixed false [] tys99 [] (a1 s0 (a1 s1 (a1 s2 (a1 s3 trivial)))) (by kernel_rfl)
def S99:Am.Spec:={ sig:=sig99,pre:=fun ⟨x0,_⟩=>P99 x0,res:=fun ⟨x0,_⟩=>[⟨.int .i64,g99_0 x0⟩],kds:=kds99 }
theorem con99:Contract Tryz.prog 99 S99:=contract_of Tryz.func99 hb99 (bl_ (by kernel_rfl)) (fun ⟨x0,_⟩ h _ K q=>at99 x0 h K q)
end
noncomputable section
def ext98:Ext:=[(99,S99)]
theorem ext98Ok:ExtOk Tryz.prog ext98:=⟨⟨ca99,con99⟩,trivial⟩
def b98:Code:=bodyOf Tryz.f98
theorem hb98:Tryz.f98.body=some b98:=by kernel_rfl
def sig98:List AT:=[AT.v (.sl YA5),AT.v (.sl (.int .i64)),AT.p YA7]
def tys98:List Ty:=[.bool]
def kds98:List RK:=[]
def oks98:List AT:=owns sig98
def E98_5 (v7:Int) (v8:Int) (v9:Int) (v10:Int) (x0:List TyB1) (x1:List Int) (x2:Int×Int×Int×Unit):Env:=[(0,.a (.sl YA5 x0)),(1,.a (.sl (.int .i64) x1)),(2,.a (.ptr YA7 x2)),(7,.a (.val (.int .i64 v7))),(8,.a (.val (.int .i64 v8))),(9,.a (.val (.int .i64 v9))),(10,.a (.val (.int .i64 v10)))]
def L98_5 (v7:Int) (v8:Int) (v9:Int) (v10:Int) (x0:List TyB1) (x1:List Int) (x2:Int×Int×Int×Unit):Heap:=[]
mutual
def R98:Nat→List TyB1→List Int→Int×Int×Int×Unit→List Dyn→Prop
 | 0,_,_,_,_=>False
 | n+1,x0,x1,x2,ds=>(R98_5 n (0) (0) (0) (0) (x0) (x1) (x2) ds)
def R98_5:Nat→Int→Int→Int→Int→List TyB1→List Int→Int×Int×Int×Unit→List Dyn→Prop
 | 0,_,_,_,_,_,_,_,_=>False
 | n+1,v7,v8,v9,v10,x0,x1,x2,ds=>(if (decide (v10<(x1.length:Int)))=true then ((0≤v10)∧(v10<(x1.length:Int))∧((0≤List.getD x1 (Int.toNat v10) 0)∧(List.getD x1 (Int.toNat v10) 0<(x0.length:Int))∧((InR .i64 (v7+(List.getD x0 (Int.toNat (List.getD x1 (Int.toNat v10) 0)) (ByteArray.empty,0,0,0,())).2.1))∧((InR .i64 (v8+(List.getD x0 (Int.toNat (List.getD x1 (Int.toNat v10) 0)) (ByteArray.empty,0,0,0,())).2.2.1))∧((P99 (List.getD x0 (Int.toNat (List.getD x1 (Int.toNat v10) 0)) (ByteArray.empty,0,0,0,())))∧((InR .i64 (v9+g99_0 (List.getD x0 (Int.toNat (List.getD x1 (Int.toNat v10) 0)) (ByteArray.empty,0,0,0,()))))∧((InR .i64 (v10+1))∧(R98_5 n (v7+(List.getD x0 (Int.toNat (List.getD x1 (Int.toNat v10) 0)) (ByteArray.empty,0,0,0,())).2.1) (v8+(List.getD x0 (Int.toNat (List.getD x1 (Int.toNat v10) 0)) (ByteArray.empty,0,0,0,())).2.2.1) (v9+g99_0 (List.getD x0 (Int.toNat (List.getD x1 (Int.toNat v10) 0)) (ByteArray.empty,0,0,0,()))) (v10+1) (x0) (x1) (x2) ds)))))))) else (if (decide (v7≤x2.1))=true then (if (decide (v8≤x2.2.1))=true then (ds=[Dyn.mk .bool (decide (v9≤x2.2.2.1))]) else (ds=[Dyn.mk .bool false])) else (ds=[Dyn.mk .bool false])))
end
theorem snd98:∀ n,(∀ (x0:List TyB1) (x1:List Int) (x2:Int×Int×Int×Unit) ds,R98 n x0 x1 x2 ds→∀ K q,AtV Tryz.prog 98 (PostR kds98 oks98 ds [] [] q K) 58 K q [] [.code b98] (entE 0 0 sig98 (x0,x1,x2,())) (entL sig98 (x0,x1,x2,())))∧(∀ (v7:Int) (v8:Int) (v9:Int) (v10:Int) (x0:List TyB1) (x1:List Int) (x2:Int×Int×Int×Unit) ds,R98_5 n v7 v8 v9 v10 x0 x1 x2 ds→∀ K q,AtV Tryz.prog 98 (PostR kds98 oks98 ds [] [] q K) 58 K q [] (cutAt b98 5) (E98_5 v7 v8 v9 v10 x0 x1 x2) (L98_5 v7 v8 v9 v10 x0 x1 x2)):=by
 intro n
 induction n with
 | zero=>exact ⟨fun _ _ _ _ h=>by simp only [R98] at h,fun _ _ _ _ _ _ _ _ h=>by simp only [R98_5] at h⟩
 | succ n ih =>
 obtain ⟨ih,ih5⟩:=ih
 refine ⟨?_,?_⟩
 ·intro x0 x1 x2 ds h K q
  rw [R98] at h
  exact AtV.go tabOk ext98Ok mixed false [] [] [0,1,2,7,8,9,10] [] [] trivial (ih5 _ _ _ _ _ _ _ _ h K q) (by kernel_rfl)
 ·intro v7 v8 v9 v10 x0 x1 x2 ds h K q
  rw [R98_5] at h
  by_cases b0:(decide (v10<(x1.length:Int)))=true
  ·rw [if_pos b0] at h
   obtain ⟨s0,s1,h⟩:=h
   obtain ⟨s2,s3,h⟩:=h
   obtain ⟨s4,h⟩:=h
   obtain ⟨s5,h⟩:=h
   obtain ⟨s6,h⟩:=h
   obtain ⟨s7,h⟩:=h
   obtain ⟨s8,h⟩:=h
   exact AtV.go tabOk ext98Ok mixed false [] [] [0,1,2,7,8,9,10] [] [true] (a1 b0 (a1 s0 (a1 s1 (a1 s2 (a1 s3 (a1 s4 (a1 s5 (a1 s6 (a1 s7 (a1 s8 trivial)))))))))) (ih5 _ _ _ _ _ _ _ _ h K q) (by kernel_rfl)
  ·rw [if_neg b0] at h
   replace b0:=bf_ b0
   by_cases b1:(decide (v7≤x2.1))=true
   ·rw [if_pos b1] at h
    by_cases b2:(decide (v8≤x2.2.1))=true
    ·rw [if_pos b2] at h
     subst h
     exact AtV.ret Tryz.func98 tabOk ext98Ok mixed false [] tys98 [false,true,true] (a1 b0 (a1 b1 (a1 b2 trivial))) (by kernel_rfl)
    ·rw [if_neg b2] at h
     replace b2:=bf_ b2
     subst h
     exact AtV.ret Tryz.func98 tabOk ext98Ok mixed false [] tys98 [false,true,false] (a1 b0 (a1 b1 (a1 b2 trivial))) (by kernel_rfl)
   ·rw [if_neg b1] at h
    replace b1:=bf_ b1
    subst h
    exact AtV.ret Tryz.func98 tabOk ext98Ok mixed false [] tys98 [false,false,false] (a1 b0 (a1 b1 (a1 (rfl:false=false) trivial))) (by kernel_rfl)
def fit98 (x:ByteArray×Int×Int×Int×Unit) (x2:Int×Int×Int×Unit):Bool:=if decide (x.2.1≤x2.1)=true then (if decide (x.2.2.1≤x2.2.1)=true then decide (g99_0 x≤x2.2.2.1) else false) else false
def g98_0 (x0:List TyB1) (x1:List Int) (x2:Int×Int×Int×Unit):Bool:=match x1 with
 | [j]=>fit98 (x0.getD j.toNat (ByteArray.empty,(0:Int),(0:Int),(0:Int),())) x2
 | _=>false
def P98 (x0:List TyB1) (x1:List Int) (x2:Int×Int×Int×Unit):Prop:=∃ j,x1=[j]∧0≤j∧j<x0.length∧P99 (x0.getD j.toNat (ByteArray.empty,(0:Int),(0:Int),(0:Int),()))∧InR .i64 (g99_0 (x0.getD j.toNat (ByteArray.empty,(0:Int),(0:Int),(0:Int),()))) ∧
 InR .i64 (x0.getD j.toNat (ByteArray.empty,(0:Int),(0:Int),(0:Int),())).2.1∧InR .i64 (x0.getD j.toNat (ByteArray.empty,(0:Int),(0:Int),(0:Int),())).2.2.1
theorem top98 (x0:List TyB1) (x1:List Int) (x2:Int×Int×Int×Unit) (h:P98 x0 x1 x2):R98 3 x0 x1 x2 [⟨.bool,g98_0 x0 x1 x2⟩]:=by
 obtain ⟨j,rfl,h1,h2,h3,h4,h5,h6⟩:=h
 have e0:List.getD [j] (Int.toNat 0) 0=j:=rfl
 have e1:((([j]:List Int).length:Nat):Int)=1:=rfl
 rw [R98,R98_5]
 simp only [e0,e1]
 rw [if_pos (show decide ((0:Int)<1)=true by decide)]
 refine ⟨by decide,(show (0:Int)<1 by decide),h1,h2,by rw [Int.zero_add];exact h5,by rw [Int.zero_add];exact h6,h3,by rw [Int.zero_add];exact h4,by decide,?_⟩
 rw [R98_5]
 simp only [e1]
 rw [if_neg (show ¬ decide ((0:Int)+1<1)=true by decide)]
 simp only [Int.zero_add,g98_0,fit98]
 by_cases c1:(x0.getD j.toNat (ByteArray.empty,(0:Int),(0:Int),(0:Int),())).2.1≤x2.1
 ·rw [if_pos (decide_eq_true c1),if_pos (decide_eq_true c1)]
  by_cases c2:(x0.getD j.toNat (ByteArray.empty,(0:Int),(0:Int),(0:Int),())).2.2.1≤x2.2.1
  ·rw [if_pos (decide_eq_true c2),if_pos (decide_eq_true c2)]
  ·rw [if_neg (by simpa using c2),if_neg (by simpa using c2)]
 ·rw [if_neg (by simpa using c1),if_neg (by simpa using c1)]
def S98:Am.Spec:={ sig:=sig98,pre:=fun ⟨x0,x1,x2,_⟩=>P98 x0 x1 x2,res:=fun ⟨x0,x1,x2,_⟩=>[⟨.bool,g98_0 x0 x1 x2⟩] }
theorem con98:Contract Tryz.prog 98 S98:=contract_of Tryz.func98 hb98 (bl_ (by kernel_rfl)) (fun ⟨x0,x1,x2,_⟩ h hwf K q =>
 (snd98 _).1 x0 x1 x2 _ (top98 x0 x1 x2 h) K q)
end
noncomputable section
def ext160:Ext:=[]
theorem ext160Ok:ExtOk Tryz.prog ext160:=trivial
def b160:Code:=bodyOf Tryz.f160
theorem hb160:Tryz.f160.body=some b160:=by kernel_rfl
def sig160:List AT:=[AT.p YA3,AT.v (.int .i64),AT.v (.int .i64)]
def tys160:List Ty:=[.int .i64,.int .i64]
def kds160:List RK:=[]
def oks160:List AT:=owns sig160
def P160 (x0:ByteArray×Int×Int×Int×Int×Unit) (x1:Int) (x2:Int):Prop:=((InR .i64 (x0.2.2.2.1+x0.2.1))∧((InR .i64 (x0.2.2.2.1+x0.2.1 - x1))∧((InR .i64 (x0.2.2.2.2.1+x0.2.2.1))∧((InR .i64 (x0.2.2.2.2.1+x0.2.2.1 - x2))∧True))))
def g160_0 (x0:ByteArray×Int×Int×Int×Int×Unit) (x1:Int) (x2:Int):Int:=x0.2.2.2.1+x0.2.1 - x1
def g160_1 (x0:ByteArray×Int×Int×Int×Int×Unit) (x1:Int) (x2:Int):Int:=x0.2.2.2.2.1+x0.2.2.1 - x2
theorem at160 (x0:ByteArray×Int×Int×Int×Int×Unit) (x1:Int) (x2:Int) (h:P160 x0 x1 x2) (K:Ctx) (q:Nat→Value):AtV Tryz.prog 160 (PostR kds160 oks160 [⟨.int .i64,g160_0 x0 x1 x2⟩,⟨.int .i64,g160_1 x0 x1 x2⟩] [] [] q K) 30 K q [] [.code b160] (entE 0 0 sig160 (x0,x1,x2,())) (entL sig160 (x0,x1,x2,())):=by
 unfold P160 at h
 unfold g160_0 g160_1
 obtain ⟨s0,h⟩:=h
 obtain ⟨s1,h⟩:=h
 obtain ⟨s2,h⟩:=h
 obtain ⟨s3,h⟩:=h
 exact AtV.ret Tryz.func160 tabOk ext160Ok mixed false [] tys160 [] (a1 s0 (a1 s1 (a1 s2 (a1 s3 trivial)))) (by kernel_rfl)
def S160:Am.Spec:={ sig:=sig160,pre:=fun ⟨x0,x1,x2,_⟩=>P160 x0 x1 x2,res:=fun ⟨x0,x1,x2,_⟩=>[⟨.int .i64,g160_0 x0 x1 x2⟩,⟨.int .i64,g160_1 x0 x1 x2⟩],kds:=kds160 }
theorem con160:Contract Tryz.prog 160 S160:=contract_of Tryz.func160 hb160 (bl_ (by kernel_rfl)) (fun ⟨x0,x1,x2,_⟩ h _ K q=>at160 x0 x1 x2 h K q)
end
noncomputable section
def ext132:Ext:=[(160,S160)]
theorem ext132Ok:ExtOk Tryz.prog ext132:=⟨⟨ca160,con160⟩,trivial⟩
def b132:Code:=bodyOf Tryz.f132
theorem hb132:Tryz.f132.body=some b132:=by kernel_rfl
def sig132:List AT:=[AT.p YA3,AT.v (.int .i64),AT.v (.int .i64)]
def tys132:List Ty:=[.bool]
def kds132:List RK:=[]
def oks132:List AT:=owns sig132
def P132 (x0:ByteArray×Int×Int×Int×Int×Unit) (x1:Int) (x2:Int):Prop:=((P160 x0 x1 x2)∧True)
def g132_0 (x0:ByteArray×Int×Int×Int×Int×Unit) (x1:Int) (x2:Int):Bool:=(if (decide (g160_0 x0 x1 x2<0))=true then true else decide (g160_1 x0 x1 x2<0))
theorem at132 (x0:ByteArray×Int×Int×Int×Int×Unit) (x1:Int) (x2:Int) (h:P132 x0 x1 x2) (K:Ctx) (q:Nat→Value):AtV Tryz.prog 132 (PostR kds132 oks132 [⟨.bool,g132_0 x0 x1 x2⟩] [] [] q K) 22 K q [] [.code b132] (entE 0 0 sig132 (x0,x1,x2,())) (entL sig132 (x0,x1,x2,())):=by
 unfold P132 at h
 unfold g132_0
 obtain ⟨s0,h⟩:=h
 by_cases b0:(decide (g160_0 x0 x1 x2<0))=true
 ·try simp only [if_pos b0] at h ⊢
  exact AtV.ret Tryz.func132 tabOk ext132Ok mixed false [] tys132 [true] (a1 s0 (a1 b0 trivial)) (by kernel_rfl)
 ·try simp only [if_neg b0] at h ⊢
  replace b0:=bf_ b0
  exact AtV.ret Tryz.func132 tabOk ext132Ok mixed false [] tys132 [false] (a1 s0 (a1 b0 trivial)) (by kernel_rfl)
def S132:Am.Spec:={ sig:=sig132,pre:=fun ⟨x0,x1,x2,_⟩=>P132 x0 x1 x2,res:=fun ⟨x0,x1,x2,_⟩=>[⟨.bool,g132_0 x0 x1 x2⟩],kds:=kds132 }
theorem con132:Contract Tryz.prog 132 S132:=contract_of Tryz.func132 hb132 (bl_ (by kernel_rfl)) (fun ⟨x0,x1,x2,_⟩ h _ K q=>at132 x0 x1 x2 h K q)
end
noncomputable section
def ext100:Ext:=[(132,S132)]
theorem ext100Ok:ExtOk Tryz.prog ext100:=⟨⟨ca132,con132⟩,trivial⟩
def b100:Code:=bodyOf Tryz.f100
theorem hb100:Tryz.f100.body=some b100:=by kernel_rfl
def sig100:List AT:=[AT.v (.sl YA3),AT.v (.int .i64),AT.v (.int .i64)]
def tys100:List Ty:=[.sl .str]
def kds100:List RK:=[]
def oks100:List AT:=owns sig100
def E100_3 (v8:Int) (h0:List ByteArray) (x0:List TyB0) (x1:Int) (x2:Int):Env:=[(0,.a (.sl YA3 x0)),(1,.a (.val (.int .i64 x1))),(2,.a (.val (.int .i64 x2))),(7,.a (.osl 0 Option.none)),(8,.a (.val (.int .i64 v8)))]
def L100_3 (v8:Int) (h0:List ByteArray) (x0:List TyB0) (x1:Int) (x2:Int):Heap:=[Option.some (Arr.mk .str h0 false Option.none Option.none)]
mutual
def R100:Nat→List TyB0→Int→Int→List Dyn→Prop
 | 0,_,_,_,_=>False
 | n+1,x0,x1,x2,ds=>(R100_3 n (0) ([]) (x0) (x1) (x2) ds)
def R100_3:Nat→Int→List ByteArray→List TyB0→Int→Int→List Dyn→Prop
 | 0,_,_,_,_,_,_=>False
 | n+1,v8,h0,x0,x1,x2,ds=>(if (decide (v8<(x0.length:Int)))=true then ((0≤v8)∧(v8<(x0.length:Int))∧((P132 (List.getD x0 (Int.toNat v8) (ByteArray.empty,0,0,0,0,())) x1 x2)∧(if (g132_0 (List.getD x0 (Int.toNat v8) (ByteArray.empty,0,0,0,0,())) x1 x2)=true then ((0≤v8)∧(v8<(x0.length:Int))∧(((List.length h0+1)*16≤140737488355328)∧((InR .i64 (v8+1))∧(R100_3 n (v8+1) (h0++[(List.getD x0 (Int.toNat v8) (ByteArray.empty,0,0,0,0,())).1]) (x0) (x1) (x2) ds)))) else ((InR .i64 (v8+1))∧(R100_3 n (v8+1) (h0) (x0) (x1) (x2) ds))))) else (ds=[Dyn.mk (.sl .str) h0]))
end
theorem snd100:∀ n,(∀ (x0:List TyB0) (x1:Int) (x2:Int) ds,R100 n x0 x1 x2 ds→∀ K q,AtV Tryz.prog 100 (PostR kds100 oks100 ds [] [] q K) 31 K q [] [.code b100] (entE 0 0 sig100 (x0,x1,x2,())) (entL sig100 (x0,x1,x2,())))∧(∀ (v8:Int) (h0:List ByteArray) (x0:List TyB0) (x1:Int) (x2:Int) ds,R100_3 n v8 h0 x0 x1 x2 ds→∀ K q,AtV Tryz.prog 100 (PostR kds100 oks100 ds [] [] q K) 31 K q [] (cutAt b100 3) (E100_3 v8 h0 x0 x1 x2) (L100_3 v8 h0 x0 x1 x2)):=by
 intro n
 induction n with
 | zero=>exact ⟨fun _ _ _ _ h=>by simp only [R100] at h,fun _ _ _ _ _ _ h=>by simp only [R100_3] at h⟩
 | succ n ih =>
 obtain ⟨ih,ih3⟩:=ih
 refine ⟨?_,?_⟩
 ·intro x0 x1 x2 ds h K q
  rw [R100] at h
  exact AtV.go tabOk ext100Ok mixed false [] [] [0,1,2,7,8] [0] [] trivial (ih3 _ _ _ _ _ _ h K q) (by kernel_rfl)
 ·intro v8 h0 x0 x1 x2 ds h K q
  rw [R100_3] at h
  by_cases b0:(decide (v8<(x0.length:Int)))=true
  ·rw [if_pos b0] at h
   obtain ⟨s0,s1,h⟩:=h
   obtain ⟨s2,h⟩:=h
   by_cases b1:(g132_0 (List.getD x0 (Int.toNat v8) (ByteArray.empty,0,0,0,0,())) x1 x2)=true
   ·rw [if_pos b1] at h
    obtain ⟨s3,s4,h⟩:=h
    obtain ⟨s5,h⟩:=h
    obtain ⟨s6,h⟩:=h
    exact AtV.go tabOk ext100Ok mixed false [] [] [0,1,2,7,8] [0] [true,true] (a1 b0 (a1 s0 (a1 s1 (a1 s2 (a1 b1 (a1 s3 (a1 s4 (a1 s5 (a1 s6 trivial))))))))) (ih3 _ _ _ _ _ _ h K q) (by kernel_rfl)
   ·rw [if_neg b1] at h
    replace b1:=bf_ b1
    obtain ⟨s3,h⟩:=h
    exact AtV.go tabOk ext100Ok mixed false [] [] [0,1,2,7,8] [0] [true,false] (a1 b0 (a1 s0 (a1 s1 (a1 s2 (a1 b1 (a1 s3 trivial)))))) (ih3 _ _ _ _ _ _ h K q) (by kernel_rfl)
  ·rw [if_neg b0] at h
   replace b0:=bf_ b0
   subst h
   exact AtV.ret Tryz.func100 tabOk ext100Ok mixed false [] tys100 [false] (a1 b0 trivial) (by kernel_rfl)
def g100_0 (x0:List TyB0) (x1 x2:Int):List ByteArray:=(x0.filter fun x=>g132_0 x x1 x2).map fun x=>x.1
def P100 (x0:List TyB0) (x1 x2:Int):Prop:=x0.length≤1048576∧∀ x∈x0,P132 x x1 x2
theorem run100 (x0:List TyB0) (x1 x2:Int) (h:P100 x0 x1 x2):∀ (k i:Nat) (h0:List ByteArray),i+k=x0.length→h0.length≤i→R100_3 (k+1) (i:Int) h0 x0 x1 x2 [⟨.sl .str,h0++g100_0 (x0.drop i) x1 x2⟩]:=by
 obtain ⟨hl,hp⟩:=h
 intro k
 induction k with
 | zero =>
  intro i h0 hi hh
  rw [R100_3,if_neg (by simp only [decide_eq_true_eq];omega),drop_end _ _ (by omega)]
  simp [g100_0]
 | succ k ih =>
  intro i h0 hi hh
  have hlt:i<x0.length:=by omega
  have hm:x0.length≤maxLen:=Nat.le_trans hl (by decide)
  rw [R100_3,if_pos (by simp only [decide_eq_true_eq];omega),drop_get x0 i (ByteArray.empty,(0:Int),(0:Int),(0:Int),(0:Int),()) hlt]
  simp only [Int.toNat_natCast]
  refine ⟨by omega,by omega,hp _ (mem_getD x0 i (ByteArray.empty,(0:Int),(0:Int),(0:Int),(0:Int),()) hlt),?_⟩
  have ih1:=ih (i+1)
  by_cases hc:g132_0 (x0.getD i (ByteArray.empty,(0:Int),(0:Int),(0:Int),(0:Int),())) x1 x2=true
  ·have h2:=ih1 (h0++[(x0.getD i (ByteArray.empty,(0:Int),(0:Int),(0:Int),(0:Int),())).1]) (by omega) (by simp;omega)
   have e:∀ r,g100_0 (x0.getD i (ByteArray.empty,(0:Int),(0:Int),(0:Int),(0:Int),()) :: r) x1 x2=(x0.getD i (ByteArray.empty,(0:Int),(0:Int),(0:Int),(0:Int),())).1 :: g100_0 r x1 x2:=fun r=>by
    unfold g100_0;rw [List.filter_cons,if_pos hc];rfl
   rw [if_pos hc,e]
   rw [List.append_assoc] at h2
   exact ⟨by omega,by omega,by omega,inR_up hm hlt,h2⟩
  ·have h2:=ih1 h0 (by omega) (by omega)
   have e:∀ r,g100_0 (x0.getD i (ByteArray.empty,(0:Int),(0:Int),(0:Int),(0:Int),()) :: r) x1 x2=g100_0 r x1 x2:=fun r=>by
    unfold g100_0;rw [List.filter_cons,if_neg hc]
   rw [if_neg hc,e]
   exact ⟨inR_up hm hlt,h2⟩
theorem top100 (x0:List TyB0) (x1 x2:Int) (h:P100 x0 x1 x2):R100 (x0.length+1+1) x0 x1 x2 [⟨.sl .str,g100_0 x0 x1 x2⟩]:=by
 rw [R100]
 simpa using run100 x0 x1 x2 h x0.length 0 [] (by omega) (by simp)
def S100:Am.Spec:={ sig:=sig100,pre:=fun ⟨x0,x1,x2,_⟩=>P100 x0 x1 x2,res:=fun ⟨x0,x1,x2,_⟩=>[⟨.sl .str,g100_0 x0 x1 x2⟩] }
theorem con100:Contract Tryz.prog 100 S100:=contract_of Tryz.func100 hb100 (bl_ (by kernel_rfl)) (fun ⟨x0,x1,x2,_⟩ h hwf K q =>
 (snd100 _).1 x0 x1 x2 _ (top100 x0 x1 x2 h) K q)
end
def bl {α β:Type} (f:Nat→α→List β):Nat→List α→List β
 | _,[]=>[]
 | i,x :: r=>f i x++bl f (i+1) r
theorem bl_len {α β:Type} (f:Nat→α→List β) (hf:∀ i x,(f i x).length≤1):∀ (l:List α) (i:Nat),(bl f i l).length≤l.length
 | [],_=>Nat.le_refl _
 | x :: r,i=>by
  have:=bl_len f hf r (i+1)
  have:=hf i x
  simp only [bl,List.length_append,List.length_cons]
  omega
theorem bl_congr {α β:Type} {f g:Nat→α→List β}:∀ (l:List α) (i:Nat),(∀ j x,x∈l→f j x=g j x)→bl f i l=bl g i l
 | [],_,_=>rfl
 | x :: r,i,h=>by
  simp only [bl]
  rw [h i x (List.mem_cons_self ..),bl_congr r (i+1) fun j y hy=>h j y (List.mem_cons_of_mem _ hy)]
theorem loop_build {α β:Type} (xs:List α) (d:α) (f:Nat→α→List β) (hf:∀ i x,(f i x).length≤1) (c:Nat) (R:Nat→Int→List β→Prop)
  (step:∀ (n i:Nat) (h:List β),i<xs.length→h.length≤c+i→R n ((i:Int)+1) (h++f i (xs.getD i d))→R (n+1) (i:Int) h) (m:Nat) :
  ∀ (k i:Nat) (h:List β),i+k=xs.length→h.length≤c+i→R m (xs.length:Int) (h++bl f i (xs.drop i))→R (m+k) (i:Int) h:=by
 intro k
 induction k with
 | zero =>
  intro i h hi hh hr
  have:i=xs.length:=by omega
  subst this
  rw [drop_end xs _ (Nat.le_refl _)] at hr
  simpa [bl] using hr
 | succ k ih =>
  intro i h hi hh hr
  have hlt:i<xs.length:=by omega
  refine step (m+k) i h hlt hh ?_
  have h2:=ih (i+1) (h++f i (xs.getD i d)) (by omega) (by have:=hf i (xs.getD i d);simp only [List.length_append];omega) (by
   rw [drop_get xs i d hlt] at hr
   simpa [bl,List.append_assoc] using hr)
  simpa using h2
theorem loop_build0 {α β:Type} (xs:List α) (d:α) (f:Nat→α→List β) (hf:∀ i x,(f i x).length≤1) (c:Nat) (R:Nat→Int→List β→Prop)
  (step:∀ (n i:Nat) (h:List β),i<xs.length→h.length≤c+i→R n ((i:Int)+1) (h++f i (xs.getD i d))→R (n+1) (i:Int) h) (m:Nat) (h:List β) (hh:h.length≤c) (hr:R m (xs.length:Int) (h++bl f 0 xs)):R (m+xs.length) 0 h:=by
 have:=loop_build xs d f hf c R step m xs.length 0 h (by omega) (by omega) (by simpa using hr)
 simpa using this
noncomputable section
def ext61:Ext:=[(98,S98),(99,S99),(95,S95),(100,S100)]
theorem ext61Ok:ExtOk Tryz.prog ext61:=⟨⟨ca98,con98⟩,⟨ca99,con99⟩,⟨ca95,con95⟩,⟨ca100,con100⟩,trivial⟩
def b61:Code:=bodyOf Tryz.f61
theorem hb61:Tryz.f61.body=some b61:=by kernel_rfl
def sig61:List AT:=[AT.p YA0]
def tys61:List Ty:=[.sl YA8]
def kds61:List RK:=[]
def oks61:List AT:=owns sig61
def E61_3 (v4:Int) (h0:List TyB3) (x0:TyA0):Env:=[(0,.a (.ptr YA0 x0)),(3,.a (.osl 0 Option.none)),(4,.a (.val (.int .i64 v4)))]
def L61_3 (v4:Int) (h0:List TyB3) (x0:TyA0):Heap:=[Option.some (Arr.mk YA8 h0 false Option.none Option.none)]
def E61_9 (v6:Int) (h0:List TyB3) (x0:TyA0):Env:=[(0,.a (.ptr YA0 x0)),(3,.a (.osl 0 Option.none)),(5,.a (.osl 1 Option.none)),(6,.a (.val (.int .i64 v6)))]
def L61_9 (v6:Int) (h0:List TyB3) (x0:TyA0):Heap:=[Option.some (Arr.mk YA8 h0 false Option.none Option.none),Option.some (Arr.mk .str (g100_0 x0.2.2.2.2.2.2.1 x0.2.2.2.2.2.2.2.1 x0.2.2.2.2.2.2.2.2.1) false Option.none Option.none)]
def E61_13 (v7:Int) (h0:List TyB3) (x0:TyA0):Env:=[(0,.a (.ptr YA0 x0)),(3,.a (.osl 0 Option.none)),(7,.a (.val (.int .i64 v7)))]
def L61_13 (v7:Int) (h0:List TyB3) (x0:TyA0):Heap:=[Option.some (Arr.mk YA8 h0 false Option.none Option.none)]
mutual
def R61:Nat→TyA0→List Dyn→Prop
 | 0,_,_=>False
 | n+1,x0,ds=>(R61_3 n (0) ([]) (x0) ds)
def R61_3:Nat→Int→List TyB3→TyA0→List Dyn→Prop
 | 0,_,_,_,_=>False
 | n+1,v4,h0,x0,ds=>(if (decide (v4<(x0.2.2.2.2.1.length:Int)))=true then ((P98 x0.2.2.2.2.1 [v4] x0.2.2.2.2.2.1)∧(if (!g98_0 x0.2.2.2.2.1 [v4] x0.2.2.2.2.2.1)=true then ((0≤v4)∧(v4<(x0.2.2.2.2.1.length:Int))∧((0≤v4)∧(v4<(x0.2.2.2.2.1.length:Int))∧((P99 (List.getD x0.2.2.2.2.1 (Int.toNat v4) (ByteArray.empty,0,0,0,())))∧(((List.length h0+1)*40≤140737488355328)∧((InR .i64 (v4+1))∧(R61_3 n (v4+1) (h0++[(3,(List.getD x0.2.2.2.2.1 (Int.toNat v4) (ByteArray.empty,0,0,0,())).1,g95_0 (g99_0 (List.getD x0.2.2.2.2.1 (Int.toNat v4) (ByteArray.empty,0,0,0,()))),())]) (x0) ds)))))) else ((InR .i64 (v4+1))∧(R61_3 n (v4+1) (h0) (x0) ds)))) else ((P100 x0.2.2.2.2.2.2.1 x0.2.2.2.2.2.2.2.1 x0.2.2.2.2.2.2.2.2.1)∧(R61_9 n (0) (h0) (x0) ds)))
def R61_9:Nat→Int→List TyB3→TyA0→List Dyn→Prop
 | 0,_,_,_,_=>False
 | n+1,v6,h0,x0,ds=>(if (decide (v6<(↑(List.length (g100_0 x0.2.2.2.2.2.2.1 x0.2.2.2.2.2.2.2.1 x0.2.2.2.2.2.2.2.2.1)):Int)))=true then ((0≤v6)∧(v6<(↑(List.length (g100_0 x0.2.2.2.2.2.2.1 x0.2.2.2.2.2.2.2.1 x0.2.2.2.2.2.2.2.2.1)):Int))∧(((List.length h0+1)*40≤140737488355328)∧((InR .i64 (v6+1))∧(R61_9 n (v6+1) (h0++[(4,List.getD (g100_0 x0.2.2.2.2.2.2.1 x0.2.2.2.2.2.2.2.1 x0.2.2.2.2.2.2.2.2.1) (Int.toNat v6) ByteArray.empty,ByteArray.mk #[111,118,101,114,100,117,101],())]) (x0) ds)))) else (R61_13 n (1) (h0) (x0) ds))
def R61_13:Nat→Int→List TyB3→TyA0→List Dyn→Prop
 | 0,_,_,_,_=>False
 | n+1,v7,h0,x0,ds=>(if (decide (v7<(x0.2.2.2.2.2.2.2.2.2.1.length:Int)))=true then ((0≤v7)∧(v7<(x0.2.2.2.2.2.2.2.2.2.1.length:Int))∧((InR .i64 (v7 - 1))∧((0≤v7 - 1)∧(v7 - 1<(x0.2.2.2.2.2.2.2.2.2.1.length:Int))∧((InR .i64 ((List.getD x0.2.2.2.2.2.2.2.2.2.1 (Int.toNat v7) (0,0,())).1 - (List.getD x0.2.2.2.2.2.2.2.2.2.1 (Int.toNat (v7 - 1)) (0,0,())).1))∧((InR .i64 (v7 - 1))∧((0≤v7 - 1)∧(v7 - 1<(x0.2.2.2.2.2.2.2.2.2.1.length:Int))∧((InR .i64 ((List.getD x0.2.2.2.2.2.2.2.2.2.1 (Int.toNat v7) (0,0,())).1 - (List.getD x0.2.2.2.2.2.2.2.2.2.1 (Int.toNat (v7 - 1)) (0,0,())).1 - (List.getD x0.2.2.2.2.2.2.2.2.2.1 (Int.toNat (v7 - 1)) (0,0,())).2.1))∧((InR .i64 ((List.getD x0.2.2.2.2.2.2.2.2.2.1 (Int.toNat v7) (0,0,())).1 - (List.getD x0.2.2.2.2.2.2.2.2.2.1 (Int.toNat (v7 - 1)) (0,0,())).1 - (List.getD x0.2.2.2.2.2.2.2.2.2.1 (Int.toNat (v7 - 1)) (0,0,())).2.1 - x0.2.2.2.2.2.2.2.2.2.2.1))∧(if (decide ((List.getD x0.2.2.2.2.2.2.2.2.2.1 (Int.toNat v7) (0,0,())).1 - (List.getD x0.2.2.2.2.2.2.2.2.2.1 (Int.toNat (v7 - 1)) (0,0,())).1 - (List.getD x0.2.2.2.2.2.2.2.2.2.1 (Int.toNat (v7 - 1)) (0,0,())).2.1 - x0.2.2.2.2.2.2.2.2.2.2.1<0))=true then (((List.length h0+1)*40≤140737488355328)∧((InR .i64 (v7+1))∧(R61_13 n (v7+1) (h0++[(5,g95_0 v7,g95_0 ((List.getD x0.2.2.2.2.2.2.2.2.2.1 (Int.toNat v7) (0,0,())).1 - (List.getD x0.2.2.2.2.2.2.2.2.2.1 (Int.toNat (v7 - 1)) (0,0,())).1 - (List.getD x0.2.2.2.2.2.2.2.2.2.1 (Int.toNat (v7 - 1)) (0,0,())).2.1 - x0.2.2.2.2.2.2.2.2.2.2.1),())]) (x0) ds))) else ((InR .i64 (v7+1))∧(R61_13 n (v7+1) (h0) (x0) ds))))))))))) else (ds=[Dyn.mk (.sl YA8) h0]))
end
theorem snd61:∀ n,(∀ (x0:TyA0) ds,R61 n x0 ds→∀ K q,AtV Tryz.prog 61 (PostR kds61 oks61 ds [] [] q K) 130 K q [] [.code b61] (entE 0 0 sig61 (x0,())) (entL sig61 (x0,())))∧(∀ (v4:Int) (h0:List TyB3) (x0:TyA0) ds,R61_3 n v4 h0 x0 ds→∀ K q,AtV Tryz.prog 61 (PostR kds61 oks61 ds [] [] q K) 130 K q [] (cutAt b61 3) (E61_3 v4 h0 x0) (L61_3 v4 h0 x0))∧(∀ (v6:Int) (h0:List TyB3) (x0:TyA0) ds,R61_9 n v6 h0 x0 ds→∀ K q,AtV Tryz.prog 61 (PostR kds61 oks61 ds [] [] q K) 130 K q [] (cutAt b61 9) (E61_9 v6 h0 x0) (L61_9 v6 h0 x0))∧(∀ (v7:Int) (h0:List TyB3) (x0:TyA0) ds,R61_13 n v7 h0 x0 ds→∀ K q,AtV Tryz.prog 61 (PostR kds61 oks61 ds [] [] q K) 130 K q [] (cutAt b61 13) (E61_13 v7 h0 x0) (L61_13 v7 h0 x0)):=by
 intro n
 induction n with
 | zero=>exact ⟨fun _ _ h=>by simp only [R61] at h,fun _ _ _ _ h=>by simp only [R61_3] at h,fun _ _ _ _ h=>by simp only [R61_9] at h,fun _ _ _ _ h=>by simp only [R61_13] at h⟩
 | succ n ih =>
 obtain ⟨ih,ih3,ih9,ih13⟩:=ih
 refine ⟨?_,?_,?_,?_⟩
 ·intro x0 ds h K q
  rw [R61] at h
  exact AtV.go tabOk ext61Ok mixed false [] [] [0,3,4] [0] [] trivial (ih3 _ _ _ _ h K q) (by kernel_rfl)
 ·intro v4 h0 x0 ds h K q
  rw [R61_3] at h
  by_cases b0:(decide (v4<(x0.2.2.2.2.1.length:Int)))=true
  ·rw [if_pos b0] at h
   obtain ⟨s0,h⟩:=h
   by_cases b1:(!g98_0 x0.2.2.2.2.1 [v4] x0.2.2.2.2.2.1)=true
   ·rw [if_pos b1] at h
    obtain ⟨s1,s2,h⟩:=h
    obtain ⟨s3,s4,h⟩:=h
    obtain ⟨s5,h⟩:=h
    obtain ⟨s6,h⟩:=h
    obtain ⟨s7,h⟩:=h
    exact AtV.go tabOk ext61Ok mixed false [] [] [0,3,4] [0] [true,true] (a1 b0 (a1 s0 (a1 b1 (a1 s1 (a1 s2 (a1 s3 (a1 s4 (a1 s5 (a1 trivial (a1 s6 (a1 s7 trivial))))))))))) (ih3 _ _ _ _ h K q) (by kernel_rfl)
   ·rw [if_neg b1] at h
    replace b1:=bf_ b1
    obtain ⟨s1,h⟩:=h
    exact AtV.go tabOk ext61Ok mixed false [] [] [0,3,4] [0] [true,false] (a1 b0 (a1 s0 (a1 b1 (a1 s1 trivial)))) (ih3 _ _ _ _ h K q) (by kernel_rfl)
  ·rw [if_neg b0] at h
   replace b0:=bf_ b0
   obtain ⟨s0,h⟩:=h
   exact AtV.go tabOk ext61Ok mixed false [] [] [0,3,5,6] [0,1] [false] (a1 b0 (a1 s0 trivial)) (ih9 _ _ _ _ h K q) (by kernel_rfl)
 ·intro v6 h0 x0 ds h K q
  rw [R61_9] at h
  by_cases b0:(decide (v6<(↑(List.length (g100_0 x0.2.2.2.2.2.2.1 x0.2.2.2.2.2.2.2.1 x0.2.2.2.2.2.2.2.2.1)):Int)))=true
  ·rw [if_pos b0] at h
   obtain ⟨s0,s1,h⟩:=h
   obtain ⟨s2,h⟩:=h
   obtain ⟨s3,h⟩:=h
   exact AtV.go tabOk ext61Ok mixed false [] [] [0,3,5,6] [0,1] [true] (a1 b0 (a1 s0 (a1 s1 (a1 s2 (a1 s3 trivial))))) (ih9 _ _ _ _ h K q) (by kernel_rfl)
  ·rw [if_neg b0] at h
   replace b0:=bf_ b0
   exact AtV.go tabOk ext61Ok mixed false [] [] [0,3,7] [0] [false] (a1 b0 trivial) (ih13 _ _ _ _ h K q) (by kernel_rfl)
 ·intro v7 h0 x0 ds h K q
  rw [R61_13] at h
  by_cases b0:(decide (v7<(x0.2.2.2.2.2.2.2.2.2.1.length:Int)))=true
  ·rw [if_pos b0] at h
   obtain ⟨s0,s1,h⟩:=h
   obtain ⟨s2,h⟩:=h
   obtain ⟨s3,s4,h⟩:=h
   obtain ⟨s5,h⟩:=h
   obtain ⟨s6,h⟩:=h
   obtain ⟨s7,s8,h⟩:=h
   obtain ⟨s9,h⟩:=h
   obtain ⟨s10,h⟩:=h
   by_cases b1:(decide ((List.getD x0.2.2.2.2.2.2.2.2.2.1 (Int.toNat v7) (0,0,())).1 - (List.getD x0.2.2.2.2.2.2.2.2.2.1 (Int.toNat (v7 - 1)) (0,0,())).1 - (List.getD x0.2.2.2.2.2.2.2.2.2.1 (Int.toNat (v7 - 1)) (0,0,())).2.1 - x0.2.2.2.2.2.2.2.2.2.2.1<0))=true
   ·rw [if_pos b1] at h
    obtain ⟨s11,h⟩:=h
    obtain ⟨s12,h⟩:=h
    exact AtV.go tabOk ext61Ok mixed false [] [] [0,3,7] [0] [true,true] (a1 b0 (a1 s0 (a1 s1 (a1 s2 (a1 s3 (a1 s4 (a1 s5 (a1 s6 (a1 s7 (a1 s8 (a1 s9 (a1 s10 (a1 b1 (a1 trivial (a1 trivial (a1 s11 (a1 s12 trivial))))))))))))))))) (ih13 _ _ _ _ h K q) (by kernel_rfl)
   ·rw [if_neg b1] at h
    replace b1:=bf_ b1
    obtain ⟨s11,h⟩:=h
    exact AtV.go tabOk ext61Ok mixed false [] [] [0,3,7] [0] [true,false] (a1 b0 (a1 s0 (a1 s1 (a1 s2 (a1 s3 (a1 s4 (a1 s5 (a1 s6 (a1 s7 (a1 s8 (a1 s9 (a1 s10 (a1 b1 (a1 s11 trivial)))))))))))))) (ih13 _ _ _ _ h K q) (by kernel_rfl)
  ·rw [if_neg b0] at h
   replace b0:=bf_ b0
   subst h
   exact AtV.ret Tryz.func61 tabOk ext61Ok mixed false [] tys61 [false] (a1 b0 trivial) (by kernel_rfl)
def fG61 (r:Int×Int×Int×Unit) (_:Nat) (x:ByteArray×Int×Int×Int×Unit):List TyB3 :=
 if (!fit98 x r)=true then [(3,x.1,g95_0 (g99_0 x),())] else []
def fC61 (_:Nat) (x:ByteArray):List TyB3:=[(4,x,ByteArray.mk #[111,118,101,114,100,117,101],())]
def fS61 (i:Nat) (n:Int):List TyB3:=if decide (n<0)=true then [(5,g95_0 ((i:Int)+1),g95_0 n,())] else []
def sk61 (x1:Int):List TyB4→List Int
 | x :: y :: r=>(y.1 - x.1 - x.2.1 - x1) :: sk61 x1 (y :: r)
 | _=>[]
theorem sk61_len (x1:Int):∀ l,(sk61 x1 l).length=l.length - 1
 | []=>rfl
 | [_]=>rfl
 | x :: y :: r=>by
  simp only [sk61,List.length_cons,sk61_len x1 (y :: r)]
  omega
theorem sk61_get (x1:Int):∀ (l:List TyB4) (i:Nat),i<l.length - 1→(sk61 x1 l).getD i 0=(l.getD (i+1) ((0:Int),(0:Int),())).1 - (l.getD i ((0:Int),(0:Int),())).1 - (l.getD i ((0:Int),(0:Int),())).2.1 - x1
 | [],i,h=>by simp at h
 | [_],i,h=>by simp at h
 | x :: y :: r,0,h=>rfl
 | x :: y :: r,i+1,h=>by
  have:=sk61_get x1 (y :: r) i (by simp only [List.length_cons] at h ⊢;omega)
  simpa [sk61] using this
def g61_0 (x0:(TyA0)):List TyB3 :=
 bl (fG61 x0.2.2.2.2.2.1) 0 x0.2.2.2.2.1++bl fC61 0 (g100_0 x0.2.2.2.2.2.2.1 x0.2.2.2.2.2.2.2.1 x0.2.2.2.2.2.2.2.2.1)++bl fS61 0 (sk61 x0.2.2.2.2.2.2.2.2.2.2.1 x0.2.2.2.2.2.2.2.2.2.1)
def P61 (x0:(TyA0)):Prop:=x0.2.2.2.2.1.length≤1048576∧(g100_0 x0.2.2.2.2.2.2.1 x0.2.2.2.2.2.2.2.1 x0.2.2.2.2.2.2.2.2.1).length≤1048576∧x0.2.2.2.2.2.2.2.2.2.1.length≤1048576 ∧
 (∀ x∈x0.2.2.2.2.1,P99 x∧InR .i64 (g99_0 x)∧InR .i64 x.2.1∧InR .i64 x.2.2.1)∧P100 x0.2.2.2.2.2.2.1 x0.2.2.2.2.2.2.2.1 x0.2.2.2.2.2.2.2.2.1 ∧
 0≤x0.2.2.2.2.2.2.2.2.2.2.1∧x0.2.2.2.2.2.2.2.2.2.2.1≤100000∧∀ x∈x0.2.2.2.2.2.2.2.2.2.1,0≤x.1∧x.1≤100000∧0≤x.2.1∧x.2.1≤100000
theorem top61 (x0:(TyA0)) (h:P61 x0):∃ n,R61 n x0 [⟨.sl (.cons (.int .i64) (.cons .str (.cons .str .unit))),g61_0 x0⟩]:=by
 obtain ⟨h1,h2,h3,h4,h5,h6,h7,h8⟩:=h
 have hm:1048576≤maxLen:=by decide
 have hmx:maxLen≤9223372036854775807:=by decide
 have l1:∀ i x,(fG61 x0.2.2.2.2.2.1 i x).length≤1:=fun i x=>by unfold fG61;split <;> simp
 have l2:∀ i x,(fC61 i x).length≤1:=fun i x=>by simp [fC61]
 have l3:∀ i x,(fS61 i x).length≤1:=fun i x=>by unfold fS61;split <;> simp
 have b1:=bl_len _ l1 x0.2.2.2.2.1 0
 have b2:=bl_len _ l2 (g100_0 x0.2.2.2.2.2.2.1 x0.2.2.2.2.2.2.2.1 x0.2.2.2.2.2.2.2.2.1) 0
 have sl:=sk61_len x0.2.2.2.2.2.2.2.2.2.2.1 x0.2.2.2.2.2.2.2.2.2.1
 have sg:=sk61_get x0.2.2.2.2.2.2.2.2.2.2.1 x0.2.2.2.2.2.2.2.2.2.1
 have k3:=loop_build0 (sk61 x0.2.2.2.2.2.2.2.2.2.2.1 x0.2.2.2.2.2.2.2.2.2.1) 0 fS61 l3 2097152 (fun n i h=>R61_13 n (i+1) h x0 [⟨.sl (.cons (.int .i64) (.cons .str (.cons .str .unit))),g61_0 x0⟩]) (fun n i h hi hh hr=>by
  have hlt:i+1<x0.2.2.2.2.2.2.2.2.2.1.length:=by omega
  have e1:((i:Int)+1).toNat=i+1:=by omega
  have e2:((i:Int)+1 - 1).toNat=i:=by omega
  obtain ⟨a1,a2,a3,a4⟩:=h8 _ (mem_getD _ i ((0:Int),(0:Int),()) (by omega))
  obtain ⟨c1,c2,c3,c4⟩:=h8 _ (mem_getD _ (i+1) ((0:Int),(0:Int),()) hlt)
  unfold fS61 at hr
  rw [sg i (by omega)] at hr
  show R61_13 (n+1) ((i:Int)+1) h x0 _
  rw [R61_13,if_pos (by simp only [decide_eq_true_eq];omega)]
  simp only [e1,e2]
  generalize x0.2.2.2.2.2.2.2.2.2.1.getD i ((0:Int),(0:Int),())=p at a1 a2 a3 a4 hr ⊢
  generalize x0.2.2.2.2.2.2.2.2.2.1.getD (i+1) ((0:Int),(0:Int),())=q at c1 c2 c3 c4 hr ⊢
  have i1:InR .i64 ((i:Int)+1 - 1):=by rw [i64_iff];omega
  refine ⟨by omega,by omega,i1,by omega,by omega,by rw [i64_iff];omega,i1,by omega,by omega,by rw [i64_iff];omega,by rw [i64_iff];omega,?_⟩
  by_cases hc:decide (q.1 - p.1 - p.2.1 - x0.2.2.2.2.2.2.2.2.2.2.1<0)=true
  ·rw [if_pos hc] at hr ⊢
   exact ⟨by omega,by rw [i64_iff];omega,hr⟩
  ·rw [if_neg hc] at hr ⊢
   rw [List.append_nil] at hr
   exact ⟨by rw [i64_iff];omega,hr⟩) 1 (bl (fG61 x0.2.2.2.2.2.1) 0 x0.2.2.2.2.1++bl fC61 0 (g100_0 x0.2.2.2.2.2.2.1 x0.2.2.2.2.2.2.2.1 x0.2.2.2.2.2.2.2.2.1)) (by simp only [List.length_append];omega) (by
  show R61_13 1 _ _ x0 _
  rw [R61_13,if_neg (by simp only [decide_eq_true_eq];omega)]
  rfl)
 have k2:=loop_build0 (g100_0 x0.2.2.2.2.2.2.1 x0.2.2.2.2.2.2.2.1 x0.2.2.2.2.2.2.2.2.1) ByteArray.empty fC61 l2 1048576 (fun n i h=>R61_9 n i h x0 [⟨.sl (.cons (.int .i64) (.cons .str (.cons .str .unit))),g61_0 x0⟩]) (fun n i h hi hh hr=>by
  rw [R61_9,if_pos (by simp only [decide_eq_true_eq];omega)]
  simp only [Int.toNat_natCast]
  exact ⟨by omega,by omega,by omega,by rw [i64_iff];omega,hr⟩) (1+(sk61 x0.2.2.2.2.2.2.2.2.2.2.1 x0.2.2.2.2.2.2.2.2.2.1).length+1) (bl (fG61 x0.2.2.2.2.2.1) 0 x0.2.2.2.2.1) (by omega) (by
  rw [R61_9,if_neg (by simp)]
  exact k3)
 have k1:=loop_build0 x0.2.2.2.2.1 (ByteArray.empty,(0:Int),(0:Int),(0:Int),()) (fG61 x0.2.2.2.2.2.1) l1 0 (fun n i h=>R61_3 n i h x0 [⟨.sl (.cons (.int .i64) (.cons .str (.cons .str .unit))),g61_0 x0⟩]) (fun n i h hi hh hr=>by
  have hy:=h4 _ (mem_getD _ i (ByteArray.empty,(0:Int),(0:Int),(0:Int),()) hi)
  have hp:P98 x0.2.2.2.2.1 [(i:Int)] x0.2.2.2.2.2.1:=⟨i,rfl,by omega,by omega,hy⟩
  have hg:g98_0 x0.2.2.2.2.1 [(i:Int)] x0.2.2.2.2.2.1=fit98 (x0.2.2.2.2.1.getD i (ByteArray.empty,(0:Int),(0:Int),(0:Int),())) x0.2.2.2.2.2.1:=rfl
  rw [R61_3,if_pos (by simp only [decide_eq_true_eq];omega),hg]
  simp only [Int.toNat_natCast]
  refine ⟨hp,?_⟩
  unfold fG61 at hr
  generalize x0.2.2.2.2.1.getD i (ByteArray.empty,(0:Int),(0:Int),(0:Int),())=y at hy hr ⊢
  by_cases hc:(!fit98 y x0.2.2.2.2.2.1)=true
  ·rw [if_pos hc] at hr ⊢
   exact ⟨by omega,by omega,by omega,by omega,hy.1,by omega,by rw [i64_iff];omega,hr⟩
  ·rw [if_neg hc] at hr ⊢
   rw [List.append_nil] at hr
   exact ⟨by rw [i64_iff];omega,hr⟩) (1+(sk61 x0.2.2.2.2.2.2.2.2.2.2.1 x0.2.2.2.2.2.2.2.2.2.1).length+1+(g100_0 x0.2.2.2.2.2.2.1 x0.2.2.2.2.2.2.2.1 x0.2.2.2.2.2.2.2.2.1).length+1) [] (by simp) (by
  rw [R61_3,if_neg (by simp)]
  exact ⟨h5,k2⟩)
 exact ⟨1+(sk61 x0.2.2.2.2.2.2.2.2.2.2.1 x0.2.2.2.2.2.2.2.2.2.1).length+1+(g100_0 x0.2.2.2.2.2.2.1 x0.2.2.2.2.2.2.2.1 x0.2.2.2.2.2.2.2.2.1).length+1+x0.2.2.2.2.1.length+1,by rw [R61];exact k1⟩
def S61:Am.Spec:={ sig:=sig61,pre:=fun ⟨x0,_⟩=>P61 x0,res:=fun ⟨x0,_⟩=>[⟨.sl (.cons (.int .i64) (.cons .str (.cons .str .unit))),g61_0 x0⟩] }
theorem con61:Contract Tryz.prog 61 S61:=contract_of Tryz.func61 hb61 (bl_ (by kernel_rfl)) (fun ⟨x0,_⟩ h hwf K q =>
 let ⟨_,hn⟩:=top61 x0 h
 (snd61 _).1 x0 _ hn K q)
end
noncomputable section
def ext162:Ext:=[(95,S95)]
theorem ext162Ok:ExtOk Tryz.prog ext162:=⟨⟨ca95,con95⟩,trivial⟩
def b162:Code:=bodyOf Tryz.f162
theorem hb162:Tryz.f162.body=some b162:=by kernel_rfl
def sig162:List AT:=[AT.v (.int .i64),AT.v (.int .i64),AT.v (.str)]
def tys162:List Ty:=[.str]
def kds162:List RK:=[]
def oks162:List AT:=owns sig162
def P162 (x0:Int) (x1:Int) (x2:ByteArray):Prop:=((ByteArray.size (g95_0 x0)+1≤9223372036854775807)∧((ByteArray.size (g95_0 x0++ByteArray.mk #[32])+ByteArray.size (g95_0 x1)≤9223372036854775807)∧((ByteArray.size (g95_0 x0++ByteArray.mk #[32]++g95_0 x1)+1≤9223372036854775807)∧((ByteArray.size (g95_0 x0++ByteArray.mk #[32]++g95_0 x1++ByteArray.mk #[32])+ByteArray.size x2≤9223372036854775807)∧True))))
def g162_0 (x0:Int) (x1:Int) (x2:ByteArray):ByteArray:=g95_0 x0++ByteArray.mk #[32]++g95_0 x1++ByteArray.mk #[32]++x2
theorem at162 (x0:Int) (x1:Int) (x2:ByteArray) (h:P162 x0 x1 x2) (K:Ctx) (q:Nat→Value):AtV Tryz.prog 162 (PostR kds162 oks162 [⟨.str,g162_0 x0 x1 x2⟩] [] [] q K) 16 K q [] [.code b162] (entE 0 0 sig162 (x0,x1,x2,())) (entL sig162 (x0,x1,x2,())):=by
 unfold P162 at h
 unfold g162_0
 obtain ⟨s0,h⟩:=h
 obtain ⟨s1,h⟩:=h
 obtain ⟨s2,h⟩:=h
 obtain ⟨s3,h⟩:=h
 exact AtV.ret Tryz.func162 tabOk ext162Ok mixed false [] tys162 [] (a1 trivial (a1 s0 (a1 trivial (a1 s1 (a1 s2 (a1 s3 trivial)))))) (by kernel_rfl)
def S162:Am.Spec:={ sig:=sig162,pre:=fun ⟨x0,x1,x2,_⟩=>P162 x0 x1 x2,res:=fun ⟨x0,x1,x2,_⟩=>[⟨.str,g162_0 x0 x1 x2⟩],kds:=kds162 }
theorem con162:Contract Tryz.prog 162 S162:=contract_of Tryz.func162 hb162 (bl_ (by kernel_rfl)) (fun ⟨x0,x1,x2,_⟩ h _ K q=>at162 x0 x1 x2 h K q)
end
noncomputable section
def ext161:Ext:=[]
theorem ext161Ok:ExtOk Tryz.prog ext161:=trivial
def b161:Code:=bodyOf Tryz.f161
theorem hb161:Tryz.f161.body=some b161:=by kernel_rfl
def sig161:List AT:=[AT.v (.str),AT.v (.int .i64)]
def tys161:List Ty:=[.int .i64]
def kds161:List RK:=[]
def oks161:List AT:=owns sig161
def E161_2 (v5:Int) (x0:ByteArray) (x1:Int):Env:=[(0,.a (.val (.string x0))),(1,.a (.val (.int .i64 x1))),(5,.a (.val (.int .i64 v5)))]
def L161_2 (v5:Int) (x0:ByteArray) (x1:Int):Heap:=[]
def E161_6 (v1:Int) (v6:Int) (x0:ByteArray) (v5:Int):Env:=[(0,.a (.val (.string x0))),(1,.a (.val (.int .i64 v1))),(5,.a (.val (.int .i64 v5))),(6,.a (.val (.int .i64 v6)))]
def L161_6 (v1:Int) (v6:Int) (x0:ByteArray) (v5:Int):Heap:=[]
mutual
def R161:Nat→ByteArray→Int→List Dyn→Prop
 | 0,_,_,_=>False
 | n+1,x0,x1,ds=>(R161_2 n (0) (x0) (x1) ds)
def R161_2:Nat→Int→ByteArray→Int→List Dyn→Prop
 | 0,_,_,_,_=>False
 | n+1,v5,x0,x1,ds=>(if (decide (v5<(↑(ByteArray.size x0):Int)))=true then ((0≤v5)∧(v5<(↑(ByteArray.size x0):Int))∧((InR .i64 (↑(UInt8.toNat (List.getD (Array.toList (ByteArray.data x0)) (Int.toNat v5) 0)):Int))∧(R161_6 n (IntKind.wrap IntKind.i64 (↑(BitVec.toNat (BitVec.ofInt 64 x1 ^^^ BitVec.ofInt 64 (IntKind.wrap IntKind.i64 ((↑(UInt8.toNat (List.getD (Array.toList (ByteArray.data x0)) (Int.toNat v5) 0)):Int)*256)))):Int)) (0) (x0) (v5) ds))) else (ds=[Dyn.mk (.int .i64) x1]))
def R161_6:Nat→Int→Int→ByteArray→Int→List Dyn→Prop
 | 0,_,_,_,_,_=>False
 | n+1,v1,v6,x0,v5,ds=>(if (decide (v6<8))=true then (if (decide (IntKind.wrap IntKind.i64 (v1*2)>65535))=true then ((InR .i64 (v6+1))∧(R161_6 n (IntKind.wrap IntKind.i64 (↑(BitVec.toNat (BitVec.ofInt 64 (IntKind.wrap IntKind.i64 (↑(BitVec.toNat (BitVec.ofInt 64 (IntKind.wrap IntKind.i64 (v1*2)) &&& BitVec.ofInt 64 65535)):Int)) ^^^ BitVec.ofInt 64 4129)):Int)) (v6+1) (x0) (v5) ds)) else ((InR .i64 (v6+1))∧(R161_6 n (IntKind.wrap IntKind.i64 (v1*2)) (v6+1) (x0) (v5) ds))) else ((InR .i64 (v5+1))∧(R161_2 n (v5+1) (x0) (v1) ds)))
end
theorem snd161:∀ n,(∀ (x0:ByteArray) (x1:Int) ds,R161 n x0 x1 ds→∀ K q,AtV Tryz.prog 161 (PostR kds161 oks161 ds [] [] q K) 32 K q [] [.code b161] (entE 0 0 sig161 (x0,x1,())) (entL sig161 (x0,x1,())))∧(∀ (v5:Int) (x0:ByteArray) (x1:Int) ds,R161_2 n v5 x0 x1 ds→∀ K q,AtV Tryz.prog 161 (PostR kds161 oks161 ds [] [] q K) 32 K q [] (cutAt b161 2) (E161_2 v5 x0 x1) (L161_2 v5 x0 x1))∧(∀ (v1:Int) (v6:Int) (x0:ByteArray) (v5:Int) ds,R161_6 n v1 v6 x0 v5 ds→∀ K q,AtV Tryz.prog 161 (PostR kds161 oks161 ds [] [] q K) 32 K q [] (cutAt b161 6) (E161_6 v1 v6 x0 v5) (L161_6 v1 v6 x0 v5)):=by
 intro n
 induction n with
 | zero=>exact ⟨fun _ _ _ h=>by simp only [R161] at h,fun _ _ _ _ h=>by simp only [R161_2] at h,fun _ _ _ _ _ h=>by simp only [R161_6] at h⟩
 | succ n ih =>
 obtain ⟨ih,ih2,ih6⟩:=ih
 refine ⟨?_,?_,?_⟩
 ·intro x0 x1 ds h K q
  rw [R161] at h
  exact AtV.go tabOk ext161Ok mixed false [] [] [0,1,5] [] [] trivial (ih2 _ _ _ _ h K q) (by kernel_rfl)
 ·intro v5 x0 x1 ds h K q
  rw [R161_2] at h
  by_cases b0:(decide (v5<(↑(ByteArray.size x0):Int)))=true
  ·rw [if_pos b0] at h
   obtain ⟨s0,s1,h⟩:=h
   obtain ⟨s2,h⟩:=h
   exact AtV.go tabOk ext161Ok mixed false [] [] [0,1,5,6] [] [true] (a1 b0 (a1 s0 (a1 s1 (a1 s2 (a1 ((by decide):(0:Int)≤(8:Int)) trivial))))) (ih6 _ _ _ _ _ h K q) (by kernel_rfl)
  ·rw [if_neg b0] at h
   replace b0:=bf_ b0
   subst h
   exact AtV.ret Tryz.func161 tabOk ext161Ok mixed false [] tys161 [false] (a1 b0 trivial) (by kernel_rfl)
 ·intro v1 v6 x0 v5 ds h K q
  rw [R161_6] at h
  by_cases b0:(decide (v6<8))=true
  ·rw [if_pos b0] at h
   by_cases b1:(decide (IntKind.wrap IntKind.i64 (v1*2)>65535))=true
   ·rw [if_pos b1] at h
    obtain ⟨s0,h⟩:=h
    exact AtV.go tabOk ext161Ok mixed false [] [] [0,1,5,6] [] [true,true] (a1 b0 (a1 ((by decide):(0:Int)≤(1:Int)) (a1 b1 (a1 s0 trivial)))) (ih6 _ _ _ _ _ h K q) (by kernel_rfl)
   ·rw [if_neg b1] at h
    replace b1:=bf_ b1
    obtain ⟨s0,h⟩:=h
    exact AtV.go tabOk ext161Ok mixed false [] [] [0,1,5,6] [] [true,false] (a1 b0 (a1 ((by decide):(0:Int)≤(1:Int)) (a1 b1 (a1 s0 trivial)))) (ih6 _ _ _ _ _ h K q) (by kernel_rfl)
  ·rw [if_neg b0] at h
   replace b0:=bf_ b0
   obtain ⟨s0,h⟩:=h
   exact AtV.go tabOk ext161Ok mixed false [] [] [0,1,5] [] [false] (a1 b0 (a1 s0 trivial)) (ih2 _ _ _ _ h K q) (by kernel_rfl)
def bit161 (s:Int):Int:=if (decide (IntKind.wrap IntKind.i64 (s*2)>65535))=true then (IntKind.wrap IntKind.i64 (↑(BitVec.toNat (BitVec.ofInt 64 (IntKind.wrap IntKind.i64 (↑(BitVec.toNat (BitVec.ofInt 64 (IntKind.wrap IntKind.i64 (s*2)) &&& BitVec.ofInt 64 65535)):Int)) ^^^ BitVec.ofInt 64 4129)):Int)) else (IntKind.wrap IntKind.i64 (s*2))
def bits161:Nat→Int→Int
 | 0,s=>s
 | k+1,s=>bits161 k (bit161 s)
def byte161 (s c:Int):Int:=bits161 8 (IntKind.wrap IntKind.i64 (↑(BitVec.toNat (BitVec.ofInt 64 s ^^^ BitVec.ofInt 64 (IntKind.wrap IntKind.i64 (c*256)))):Int))
def g161_0 (x0:ByteArray) (x1:Int):Int:=(bytesOf x0).foldl byte161 x1
def P161 (x0:ByteArray) (x1:Int):Prop:=True
theorem inner161 (x0:ByteArray) (hm:(bytesOf x0).length≤maxLen) (i n:Nat) (hi:i<(bytesOf x0).length) (ds:List Dyn):∀ (k j:Nat) (s:Int),j+k=8→R161_2 n ((i:Int)+1) x0 (bits161 k s) ds→R161_6 (n+1+k) s (j:Int) x0 (i:Int) ds:=by
 intro k
 induction k with
 | zero =>
  intro j s hj hr
  rw [R161_6,if_neg (by simp;omega)]
  exact ⟨inR_up hm hi,hr⟩
 | succ k ih =>
  intro j s hj hr
  have e2:(j:Int)+1=((j+1:Nat):Int):=by omega
  rw [show n+1+(k+1)=(n+1+k)+1 by omega,R161_6,if_pos (by simp;omega)]
  unfold bits161 bit161 at hr
  by_cases hc:(decide (IntKind.wrap IntKind.i64 (s*2)>65535))=true
  ·rw [if_pos hc] at hr ⊢
   rw [e2]
   exact ⟨by rw [i64_iff];omega,ih (j+1) _ (by omega) hr⟩
  ·rw [if_neg hc] at hr ⊢
   rw [e2]
   exact ⟨by rw [i64_iff];omega,ih (j+1) _ (by omega) hr⟩
theorem run161 (x0:ByteArray) (hm:x0.size≤maxLen):∀ (k i:Nat) (s:Int),i+k=x0.size→∃ n,R161_2 n (i:Int) x0 s [⟨.int .i64,((bytesOf x0).drop i).foldl byte161 s⟩]:=by
 intro k
 have hl:=bytesOf_length x0
 induction k with
 | zero =>
  intro i s hi
  refine ⟨1,?_⟩
  rw [R161_2,if_neg (by simp;omega),List.drop_of_length_le (by omega)]
  rfl
 | succ k ih =>
  intro i s hi
  have hlt:i<(bytesOf x0).length:=by omega
  have hcons:=drop_get (bytesOf x0) i 0 hlt
  obtain ⟨n,hn⟩:=ih (i+1) (byte161 s ((bytesOf x0).getD i 0)) (by omega)
  refine ⟨n+1+8+1,?_⟩
  have hb:=bytesOf_range x0 _ (mem_getD (bytesOf x0) i 0 hlt)
  rw [R161_2,if_pos (by simp;omega)]
  simp only [Int.toNat_natCast,byte_get]
  rw [hcons,List.foldl_cons]
  exact ⟨by omega,by omega,by rw [i64_iff];omega,inner161 x0 (by rw [hl];exact hm) i n hlt _ 8 0 _ (by omega) hn⟩
theorem top161 (x0:ByteArray) (x1:Int) (hm:x0.size≤maxLen):∃ n,R161 n x0 x1 [⟨.int .i64,g161_0 x0 x1⟩]:=by
 obtain ⟨n,hn⟩:=run161 x0 hm x0.size 0 x1 (by omega)
 refine ⟨n+1,?_⟩
 rw [R161]
 exact hn
def S161:Am.Spec:={ sig:=sig161,pre:=fun ⟨x0,x1,_⟩=>P161 x0 x1,res:=fun ⟨x0,x1,_⟩=>[⟨.int .i64,g161_0 x0 x1⟩] }
theorem con161:Contract Tryz.prog 161 S161:=contract_of Tryz.func161 hb161 (bl_ (by kernel_rfl)) (fun ⟨x0,x1,_⟩ h hwf K q =>
 let ⟨n,hn⟩:=top161 x0 x1 hwf.1
 (snd161 n).1 x0 x1 _ hn K q)
end
noncomputable section
def ext133:Ext:=[(162,S162),(161,S161)]
theorem ext133Ok:ExtOk Tryz.prog ext133:=⟨⟨ca162,con162⟩,⟨ca161,con161⟩,trivial⟩
def b133:Code:=bodyOf Tryz.f133
theorem hb133:Tryz.f133.body=some b133:=by kernel_rfl
def sig133:List AT:=[AT.v (.int .i64),AT.v (.int .i64),AT.v (.int .i64),AT.v (.str)]
def tys133:List Ty:=[.int .i64]
def kds133:List RK:=[]
def oks133:List AT:=owns sig133
def P133 (x0:Int) (x1:Int) (x2:Int) (x3:ByteArray):Prop:=((P162 x1 x2 x3)∧True)
def g133_0 (x0:Int) (x1:Int) (x2:Int) (x3:ByteArray):Int:=g161_0 (g162_0 x1 x2 x3) x0
theorem at133 (x0:Int) (x1:Int) (x2:Int) (x3:ByteArray) (h:P133 x0 x1 x2 x3) (K:Ctx) (q:Nat→Value):AtV Tryz.prog 133 (PostR kds133 oks133 [⟨.int .i64,g133_0 x0 x1 x2 x3⟩] [] [] q K) 15 K q [] [.code b133] (entE 0 0 sig133 (x0,x1,x2,x3,())) (entL sig133 (x0,x1,x2,x3,())):=by
 unfold P133 at h
 unfold g133_0
 obtain ⟨s0,h⟩:=h
 exact AtV.ret Tryz.func133 tabOk ext133Ok mixed false [] tys133 [] (a1 s0 (a1 trivial trivial)) (by kernel_rfl)
def S133:Am.Spec:={ sig:=sig133,pre:=fun ⟨x0,x1,x2,x3,_⟩=>P133 x0 x1 x2 x3,res:=fun ⟨x0,x1,x2,x3,_⟩=>[⟨.int .i64,g133_0 x0 x1 x2 x3⟩],kds:=kds133 }
theorem con133:Contract Tryz.prog 133 S133:=contract_of Tryz.func133 hb133 (bl_ (by kernel_rfl)) (fun ⟨x0,x1,x2,x3,_⟩ h _ K q=>at133 x0 x1 x2 x3 h K q)
end
noncomputable section
def ext101:Ext:=[(133,S133)]
theorem ext101Ok:ExtOk Tryz.prog ext101:=⟨⟨ca133,con133⟩,trivial⟩
def b101:Code:=bodyOf Tryz.f101
theorem hb101:Tryz.f101.body=some b101:=by kernel_rfl
def sig101:List AT:=[AT.v (.sl YA6)]
def tys101:List Ty:=[.int .i64]
def kds101:List RK:=[]
def oks101:List AT:=owns sig101
def E101_3 (v3:Int) (v4:Int) (x0:List TyB2):Env:=[(0,.a (.sl YA6 x0)),(3,.a (.val (.int .i64 v3))),(4,.a (.val (.int .i64 v4)))]
def L101_3 (v3:Int) (v4:Int) (x0:List TyB2):Heap:=[]
mutual
def R101:Nat→List TyB2→List Dyn→Prop
 | 0,_,_=>False
 | n+1,x0,ds=>(R101_3 n (65535) (0) (x0) ds)
def R101_3:Nat→Int→Int→List TyB2→List Dyn→Prop
 | 0,_,_,_,_=>False
 | n+1,v3,v4,x0,ds=>(if (decide (v4<(x0.length:Int)))=true then ((0≤v4)∧(v4<(x0.length:Int))∧((P133 v3 (List.getD x0 (Int.toNat v4) (0,0,ByteArray.empty,0,())).1 (List.getD x0 (Int.toNat v4) (0,0,ByteArray.empty,0,())).2.1 (List.getD x0 (Int.toNat v4) (0,0,ByteArray.empty,0,())).2.2.1)∧(if (g133_0 v3 (List.getD x0 (Int.toNat v4) (0,0,ByteArray.empty,0,())).1 (List.getD x0 (Int.toNat v4) (0,0,ByteArray.empty,0,())).2.1 (List.getD x0 (Int.toNat v4) (0,0,ByteArray.empty,0,())).2.2.1 != (List.getD x0 (Int.toNat v4) (0,0,ByteArray.empty,0,())).2.2.2.1)=true then (ds=[Dyn.mk (.int .i64) v4]) else ((InR .i64 (v4+1))∧(R101_3 n (g133_0 v3 (List.getD x0 (Int.toNat v4) (0,0,ByteArray.empty,0,())).1 (List.getD x0 (Int.toNat v4) (0,0,ByteArray.empty,0,())).2.1 (List.getD x0 (Int.toNat v4) (0,0,ByteArray.empty,0,())).2.2.1) (v4+1) (x0) ds))))) else (ds=[Dyn.mk (.int .i64) (-1)]))
end
theorem snd101:∀ n,(∀ (x0:List TyB2) ds,R101 n x0 ds→∀ K q,AtV Tryz.prog 101 (PostR kds101 oks101 ds [] [] q K) 29 K q [] [.code b101] (entE 0 0 sig101 (x0,())) (entL sig101 (x0,())))∧(∀ (v3:Int) (v4:Int) (x0:List TyB2) ds,R101_3 n v3 v4 x0 ds→∀ K q,AtV Tryz.prog 101 (PostR kds101 oks101 ds [] [] q K) 29 K q [] (cutAt b101 3) (E101_3 v3 v4 x0) (L101_3 v3 v4 x0)):=by
 intro n
 induction n with
 | zero=>exact ⟨fun _ _ h=>by simp only [R101] at h,fun _ _ _ _ h=>by simp only [R101_3] at h⟩
 | succ n ih =>
 obtain ⟨ih,ih3⟩:=ih
 refine ⟨?_,?_⟩
 ·intro x0 ds h K q
  rw [R101] at h
  exact AtV.go tabOk ext101Ok mixed false [] [] [0,3,4] [] [] trivial (ih3 _ _ _ _ h K q) (by kernel_rfl)
 ·intro v3 v4 x0 ds h K q
  rw [R101_3] at h
  by_cases b0:(decide (v4<(x0.length:Int)))=true
  ·rw [if_pos b0] at h
   obtain ⟨s0,s1,h⟩:=h
   obtain ⟨s2,h⟩:=h
   by_cases b1:(g133_0 v3 (List.getD x0 (Int.toNat v4) (0,0,ByteArray.empty,0,())).1 (List.getD x0 (Int.toNat v4) (0,0,ByteArray.empty,0,())).2.1 (List.getD x0 (Int.toNat v4) (0,0,ByteArray.empty,0,())).2.2.1 != (List.getD x0 (Int.toNat v4) (0,0,ByteArray.empty,0,())).2.2.2.1)=true
   ·rw [if_pos b1] at h
    subst h
    exact AtV.ret Tryz.func101 tabOk ext101Ok mixed false [] tys101 [true,true] (a1 b0 (a1 s0 (a1 s1 (a1 s2 (a1 b1 trivial))))) (by kernel_rfl)
   ·rw [if_neg b1] at h
    replace b1:=bf_ b1
    obtain ⟨s3,h⟩:=h
    exact AtV.go tabOk ext101Ok mixed false [] [] [0,3,4] [] [true,false] (a1 b0 (a1 s0 (a1 s1 (a1 s2 (a1 b1 (a1 s3 trivial)))))) (ih3 _ _ _ _ h K q) (by kernel_rfl)
  ·rw [if_neg b0] at h
   replace b0:=bf_ b0
   subst h
   exact AtV.ret Tryz.func101 tabOk ext101Ok mixed false [] tys101 [false] (a1 b0 trivial) (by kernel_rfl)
def br101 (c i:Int):List TyB2→Int
 | [] => -1
 | x :: r=>if (g133_0 c x.1 x.2.1 x.2.2.1 != x.2.2.2.1)=true then i else br101 (g133_0 c x.1 x.2.1 x.2.2.1) (i+1) r
def g101_0 (x0:List TyB2):Int:=br101 65535 0 x0
def P101 (x0:List TyB2):Prop:=∀ x∈x0,∀ c,P133 c x.1 x.2.1 x.2.2.1
theorem run101 (x0:List TyB2) (hm:x0.length≤maxLen) (hx:P101 x0):∀ (k i:Nat) (c:Int),i+k=x0.length→R101_3 (k+1) c (i:Int) x0 [⟨.int .i64,br101 c i (x0.drop i)⟩]:=by
 intro k
 induction k with
 | zero =>
  intro i c hi
  rw [R101_3,if_neg (by simp only [decide_eq_true_eq];omega),drop_end _ _ (by omega)]
  rfl
 | succ k ih =>
  intro i c hi
  have hlt:i<x0.length:=by omega
  have hp:=hx _ (mem_getD x0 i ((0:Int),(0:Int),ByteArray.empty,(0:Int),()) hlt) c
  have hd:=drop_get x0 i ((0:Int),(0:Int),ByteArray.empty,(0:Int),()) hlt
  rw [R101_3,if_pos (by simp only [decide_eq_true_eq];omega),hd]
  simp only [Int.toNat_natCast]
  refine ⟨by omega,by omega,hp,?_⟩
  generalize x0.getD i ((0:Int),(0:Int),ByteArray.empty,(0:Int),())=y
  simp only [br101]
  by_cases hc:(g133_0 c y.1 y.2.1 y.2.2.1 != y.2.2.2.1)=true
  ·rw [if_pos hc,if_pos hc]
  ·rw [if_neg hc,if_neg hc]
   exact ⟨inR_up hm hlt,by simpa using ih (i+1) _ (by omega)⟩
theorem top101 (x0:List TyB2) (hm:x0.length≤maxLen) (hx:P101 x0):R101 (x0.length+1+1) x0 [⟨.int .i64,g101_0 x0⟩]:=by
 rw [R101]
 simpa [g101_0] using run101 x0 hm hx x0.length 0 65535 (by omega)
def S101:Am.Spec:={ sig:=sig101,pre:=fun ⟨x0,_⟩=>P101 x0,res:=fun ⟨x0,_⟩=>[⟨.int .i64,g101_0 x0⟩] }
theorem con101:Contract Tryz.prog 101 S101:=contract_of Tryz.func101 hb101 (bl_ (by kernel_rfl)) (fun ⟨x0,_⟩ h hwf K q =>
 (snd101 _).1 x0 _ (top101 x0 hwf.1.1 h) K q)
end
noncomputable section
def ext62:Ext:=[(101,S101),(95,S95)]
theorem ext62Ok:ExtOk Tryz.prog ext62:=⟨⟨ca101,con101⟩,⟨ca95,con95⟩,trivial⟩
def b62:Code:=bodyOf Tryz.f62
theorem hb62:Tryz.f62.body=some b62:=by kernel_rfl
def sig62:List AT:=[AT.p YA0]
def tys62:List Ty:=[.sl YA8]
def kds62:List RK:=[]
def oks62:List AT:=owns sig62
def P62 (x0:TyA0):Prop:=((P101 x0.2.2.2.2.2.2.2.2.2.2.2.1)∧(if (decide (g101_0 x0.2.2.2.2.2.2.2.2.2.2.2.1<0))=true then True else ((0≤g101_0 x0.2.2.2.2.2.2.2.2.2.2.2.1)∧(g101_0 x0.2.2.2.2.2.2.2.2.2.2.2.1<(x0.2.2.2.2.2.2.2.2.2.2.2.1.length:Int))∧True)))
def g62_0 (x0:TyA0):List TyB3:=(if (decide (g101_0 x0.2.2.2.2.2.2.2.2.2.2.2.1<0))=true then [] else [(6,g95_0 (g101_0 x0.2.2.2.2.2.2.2.2.2.2.2.1),g95_0 (List.getD x0.2.2.2.2.2.2.2.2.2.2.2.1 (Int.toNat (g101_0 x0.2.2.2.2.2.2.2.2.2.2.2.1)) (0,0,ByteArray.empty,0,())).2.2.2.1,())])
theorem at62 (x0:TyA0) (h:P62 x0) (K:Ctx) (q:Nat→Value):AtV Tryz.prog 62 (PostR kds62 oks62 [⟨.sl YA8,g62_0 x0⟩] [] [] q K) 25 K q [] [.code b62] (entE 0 0 sig62 (x0,())) (entL sig62 (x0,())):=by
 unfold P62 at h
 unfold g62_0
 obtain ⟨s0,h⟩:=h
 by_cases b0:(decide (g101_0 x0.2.2.2.2.2.2.2.2.2.2.2.1<0))=true
 ·try simp only [if_pos b0] at h ⊢
  exact AtV.ret Tryz.func62 tabOk ext62Ok mixed false [] tys62 [true] (a1 s0 (a1 b0 trivial)) (by kernel_rfl)
 ·try simp only [if_neg b0] at h ⊢
  replace b0:=bf_ b0
  obtain ⟨s1,s2,h⟩:=h
  exact AtV.ret Tryz.func62 tabOk ext62Ok mixed false [] tys62 [false] (a1 s0 (a1 b0 (a1 trivial (a1 s1 (a1 s2 (a1 trivial trivial)))))) (by kernel_rfl)
def S62:Am.Spec:={ sig:=sig62,pre:=fun ⟨x0,_⟩=>P62 x0,res:=fun ⟨x0,_⟩=>[⟨.sl YA8,g62_0 x0⟩],kds:=kds62 }
theorem con62:Contract Tryz.prog 62 S62:=contract_of Tryz.func62 hb62 (bl_ (by kernel_rfl)) (fun ⟨x0,_⟩ h _ K q=>at62 x0 h K q)
end
noncomputable section
def ext19:Ext:=[(60,S60),(61,S61),(62,S62)]
theorem ext19Ok:ExtOk Tryz.prog ext19:=⟨⟨ca60,con60⟩,⟨ca61,con61⟩,⟨ca62,con62⟩,trivial⟩
def b19:Code:=bodyOf Tryz.f19
theorem hb19:Tryz.f19.body=some b19:=by kernel_rfl
def sig19:List AT:=[AT.p YA0]
def tys19:List Ty:=[.sl YA8]
def kds19:List RK:=[]
def oks19:List AT:=owns sig19
def P19 (x0:TyA0):Prop:=((P60 x0)∧(((0+List.length (g60_0 x0))*40≤140737488355328)∧((P61 x0)∧(((List.length ([]++g60_0 x0)+List.length (g61_0 x0))*40≤140737488355328)∧((P62 x0)∧(((List.length ([]++g60_0 x0++g61_0 x0)+List.length (g62_0 x0))*40≤140737488355328)∧True))))))
def g19_0 (x0:TyA0):List TyB3:=[]++g60_0 x0++g61_0 x0++g62_0 x0
theorem at19 (x0:TyA0) (h:P19 x0) (K:Ctx) (q:Nat→Value):AtV Tryz.prog 19 (PostR kds19 oks19 [⟨.sl YA8,g19_0 x0⟩] [] [] q K) 16 K q [] [.code b19] (entE 0 0 sig19 (x0,())) (entL sig19 (x0,())):=by
 unfold P19 at h
 unfold g19_0
 obtain ⟨s0,h⟩:=h
 obtain ⟨s1,h⟩:=h
 obtain ⟨s2,h⟩:=h
 obtain ⟨s3,h⟩:=h
 obtain ⟨s4,h⟩:=h
 obtain ⟨s5,h⟩:=h
 exact AtV.ret Tryz.func19 tabOk ext19Ok mixed false [] tys19 [] (a1 s0 (a1 s1 (a1 s2 (a1 s3 (a1 s4 (a1 s5 trivial)))))) (by kernel_rfl)
def S19:Am.Spec:={ sig:=sig19,pre:=fun ⟨x0,_⟩=>P19 x0,res:=fun ⟨x0,_⟩=>[⟨.sl YA8,g19_0 x0⟩],kds:=kds19 }
theorem con19:Contract Tryz.prog 19 S19:=contract_of Tryz.func19 hb19 (bl_ (by kernel_rfl)) (fun ⟨x0,_⟩ h _ K q=>at19 x0 h K q)
end
noncomputable section
def ext5:Ext:=[(18,S18),(19,S19)]
theorem ext5Ok:ExtOk Tryz.prog ext5:=⟨⟨ca18,con18⟩,⟨ca19,con19⟩,trivial⟩
def b5:Code:=bodyOf Tryz.f5
theorem hb5:Tryz.f5.body=some b5:=by kernel_rfl
def sig5:List AT:=[AT.v YA0]
def tys5:List Ty:=[.sl YA8,.int .i64]
def kds5:List RK:=[]
def oks5:List AT:=owns sig5
def P5 (x0:TyA0):Prop:=(if (!g18_0 x0)=true then True else ((P19 x0)∧True))
def g5_0 (x0:TyA0):List TyB3:=(if (!g18_0 x0)=true then [] else g19_0 x0)
def g5_1 (x0:TyA0):Int:=(if (!g18_0 x0)=true then 1 else 0)
theorem at5 (x0:TyA0) (h:P5 x0) (K:Ctx) (q:Nat→Value):AtV Tryz.prog 5 (PostR kds5 oks5 [⟨.sl YA8,g5_0 x0⟩,⟨.int .i64,g5_1 x0⟩] [] [] q K) 7 K q [] [.code b5] (entE 0 0 sig5 (x0,())) (entL sig5 (x0,())):=by
 unfold P5 at h
 unfold g5_0 g5_1
 by_cases b0:(!g18_0 x0)=true
 ·try simp only [if_pos b0] at h ⊢
  exact AtV.ret Tryz.func5 tabOk ext5Ok mixed false [] tys5 [true] (a1 trivial (a1 b0 trivial)) (by kernel_rfl)
 ·try simp only [if_neg b0] at h ⊢
  replace b0:=bf_ b0
  obtain ⟨s0,h⟩:=h
  exact AtV.ret Tryz.func5 tabOk ext5Ok mixed false [] tys5 [false] (a1 trivial (a1 b0 (a1 s0 trivial))) (by kernel_rfl)
def S5:Am.Spec:={ sig:=sig5,pre:=fun ⟨x0,_⟩=>P5 x0,res:=fun ⟨x0,_⟩=>[⟨.sl YA8,g5_0 x0⟩,⟨.int .i64,g5_1 x0⟩],kds:=kds5 }
theorem con5:Contract Tryz.prog 5 S5:=contract_of Tryz.func5 hb5 (bl_ (by kernel_rfl)) (fun ⟨x0,_⟩ h _ K q=>at5 x0 h K q)
end
noncomputable section
def ext134:Ext:=[]
theorem ext134Ok:ExtOk Tryz.prog ext134:=trivial
def b134:Code:=bodyOf Tryz.f134
theorem hb134:Tryz.f134.body=some b134:=by kernel_rfl
def sig134:List AT:=[AT.v (.int .i64),AT.v (.int .i64),AT.v (.int .i64)]
def tys134:List Ty:=[.bool]
def kds134:List RK:=[]
def oks134:List AT:=owns sig134
def P134 (x0:Int) (x1:Int) (x2:Int):Prop:=True
def g134_0 (x0:Int) (x1:Int) (x2:Int):Bool:=(if (decide (x0≥x1))=true then decide (x0≤x2) else false)
theorem at134 (x0:Int) (x1:Int) (x2:Int) (h:P134 x0 x1 x2) (K:Ctx) (q:Nat→Value):AtV Tryz.prog 134 (PostR kds134 oks134 [⟨.bool,g134_0 x0 x1 x2⟩] [] [] q K) 15 K q [] [.code b134] (entE 0 0 sig134 (x0,x1,x2,())) (entL sig134 (x0,x1,x2,())):=by
 unfold P134 at h
 unfold g134_0
 by_cases b0:(decide (x0≥x1))=true
 ·try simp only [if_pos b0] at h ⊢
  exact AtV.ret Tryz.func134 tabOk ext134Ok mixed false [] tys134 [true] (a1 b0 trivial) (by kernel_rfl)
 ·try simp only [if_neg b0] at h ⊢
  replace b0:=bf_ b0
  exact AtV.ret Tryz.func134 tabOk ext134Ok mixed false [] tys134 [false] (a1 b0 trivial) (by kernel_rfl)
def S134:Am.Spec:={ sig:=sig134,pre:=fun ⟨x0,x1,x2,_⟩=>P134 x0 x1 x2,res:=fun ⟨x0,x1,x2,_⟩=>[⟨.bool,g134_0 x0 x1 x2⟩],kds:=kds134 }
theorem con134:Contract Tryz.prog 134 S134:=contract_of Tryz.func134 hb134 (bl_ (by kernel_rfl)) (fun ⟨x0,x1,x2,_⟩ h _ K q=>at134 x0 x1 x2 h K q)
end
noncomputable section
def ext114:Ext:=[]
theorem ext114Ok:ExtOk Tryz.prog ext114:=trivial
def b114:Code:=bodyOf Tryz.f114
theorem hb114:Tryz.f114.body=some b114:=by kernel_rfl
def sig114:List AT:=[AT.v YA2]
def tys114:List Ty:=[.int .i64]
def kds114:List RK:=[]
def oks114:List AT:=owns sig114
def E114_3 (v3:Int) (v9:Int) (x0:List TyB4×Int×Int×Unit):Env:=[(3,.a (.val (.int .i64 v3))),(7,.a (.sl YA9 x0.1)),(8,.a (.val (.int .i64 (x0.1.length:Int)))),(9,.a (.val (.int .i64 v9)))]
def L114_3 (v3:Int) (v9:Int) (x0:List TyB4×Int×Int×Unit):Heap:=[]
mutual
def R114:Nat→List TyB4×Int×Int×Unit→List Dyn→Prop
 | 0,_,_=>False
 | n+1,x0,ds=>(R114_3 n (0) (0) (x0) ds)
def R114_3:Nat→Int→Int→List TyB4×Int×Int×Unit→List Dyn→Prop
 | 0,_,_,_,_=>False
 | n+1,v3,v9,x0,ds=>(if (decide (v9<(x0.1.length:Int)))=true then ((0≤v9)∧(v9<(x0.1.length:Int))∧((InR .i64 (v3+(List.getD x0.1 (Int.toNat v9) (0,0,())).1))∧((InR .i64 (v9+1))∧(R114_3 n (v3+(List.getD x0.1 (Int.toNat v9) (0,0,())).1) (v9+1) (x0) ds)))) else (ds=[Dyn.mk (.int .i64) v3]))
end
theorem snd114:∀ n,(∀ (x0:List TyB4×Int×Int×Unit) ds,R114 n x0 ds→∀ K q,AtV Tryz.prog 114 (PostR kds114 oks114 ds [] [] q K) 19 K q [] [.code b114] (entE 0 0 sig114 (x0,())) (entL sig114 (x0,())))∧(∀ (v3:Int) (v9:Int) (x0:List TyB4×Int×Int×Unit) ds,R114_3 n v3 v9 x0 ds→∀ K q,AtV Tryz.prog 114 (PostR kds114 oks114 ds [] [] q K) 19 K q [] (cutAt b114 3) (E114_3 v3 v9 x0) (L114_3 v3 v9 x0)):=by
 intro n
 induction n with
 | zero=>exact ⟨fun _ _ h=>by simp only [R114] at h,fun _ _ _ _ h=>by simp only [R114_3] at h⟩
 | succ n ih =>
 obtain ⟨ih,ih3⟩:=ih
 refine ⟨?_,?_⟩
 ·intro x0 ds h K q
  rw [R114] at h
  exact AtV.go tabOk ext114Ok mixed false [] [] [3,7,8,9] [] [] trivial (ih3 _ _ _ _ h K q) (by kernel_rfl)
 ·intro v3 v9 x0 ds h K q
  rw [R114_3] at h
  by_cases b0:(decide (v9<(x0.1.length:Int)))=true
  ·rw [if_pos b0] at h
   obtain ⟨s0,s1,h⟩:=h
   obtain ⟨s2,h⟩:=h
   obtain ⟨s3,h⟩:=h
   exact AtV.go tabOk ext114Ok mixed false [] [] [3,7,8,9] [] [true] (a1 b0 (a1 s0 (a1 s1 (a1 s2 (a1 s3 trivial))))) (ih3 _ _ _ _ h K q) (by kernel_rfl)
  ·rw [if_neg b0] at h
   replace b0:=bf_ b0
   subst h
   exact AtV.ret Tryz.func114 tabOk ext114Ok mixed false [] tys114 [false] (a1 b0 trivial) (by kernel_rfl)
def sum114 (xs:List TyB4):Int:=xs.foldr (fun x n=>x.1+n) 0
def g114_0 (x0:List TyB4×Int×Int×Unit):Int:=sum114 x0.1
def P114 (x0:List TyB4×Int×Int×Unit):Prop:=x0.1.length≤1000000∧∀ x∈x0.1,0≤x.1∧x.1≤1000000000
theorem run114 (x0:List TyB4×Int×Int×Unit) (hl:x0.1.length≤1000000) (hx:∀ x∈x0.1,0≤x.1∧x.1≤1000000000):∀ (k i:Nat) (v:Int),i+k=x0.1.length→0≤v→v≤1000000000*(i:Int) →
  R114_3 (k+1) v (i:Int) x0 [⟨.int .i64,v+sum114 (x0.1.drop i)⟩]:=by
 intro k
 induction k with
 | zero =>
  intro i v hi h0 h1
  rw [R114_3,if_neg (by simp only [decide_eq_true_eq];omega),drop_end _ _ (by omega)]
  simp [sum114]
 | succ k ih =>
  intro i v hi h0 h1
  have hlt:i<x0.1.length:=by omega
  have hm:=hx _ (mem_getD x0.1 i ((0:Int),(0:Int),()) hlt)
  have h:=ih (i+1) (v+(x0.1.getD i ((0:Int),(0:Int),())).1) (by omega) (by omega) (by omega)
  rw [R114_3,if_pos (by simp only [decide_eq_true_eq];omega)]
  simp only [Int.toNat_natCast]
  refine ⟨by omega,by omega,by rw [i64_iff];omega,by rw [i64_iff];omega,?_⟩
  rw [drop_get x0.1 i ((0:Int),(0:Int),()) hlt]
  have e:∀ (y:Int×Int×Unit) l,v+sum114 (y :: l)=v+y.1+sum114 l:=fun y l=>by
   show v+(y.1+sum114 l)=_;omega
  rw [e]
  exact h
theorem top114 (x0:List TyB4×Int×Int×Unit) (h:P114 x0):R114 (x0.1.length+1+1) x0 [⟨.int .i64,g114_0 x0⟩]:=by
 rw [R114]
 have:=run114 x0 h.1 h.2 x0.1.length 0 0 (by omega) (by omega) (by omega)
 simpa [g114_0] using this
def S114:Am.Spec:={ sig:=sig114,pre:=fun ⟨x0,_⟩=>P114 x0,res:=fun ⟨x0,_⟩=>[⟨.int .i64,g114_0 x0⟩] }
theorem con114:Contract Tryz.prog 114 S114:=contract_of Tryz.func114 hb114 (bl_ (by kernel_rfl)) (fun ⟨x0,_⟩ h hwf K q =>
 (snd114 _).1 x0 _ (top114 x0 h) K q)
theorem sum114_le (xs:List TyB4) (h:∀ x∈xs,0≤x.1∧x.1≤3000000):0≤sum114 xs∧sum114 xs≤3000000*(xs.length:Int):=by
 induction xs with
 | nil=>exact ⟨Int.le_refl _,Int.le_refl _⟩
 | cons x r ih =>
  obtain ⟨i1,i2⟩:=ih fun y hy=>h y (List.mem_cons_of_mem _ hy)
  obtain ⟨x1,x2⟩:=h x (List.mem_cons_self ..)
  show 0≤x.1+sum114 r∧x.1+sum114 r≤_
  simp only [List.length_cons]
  omega
end
noncomputable section
def ext103:Ext:=[(134,S134),(114,S114)]
theorem ext103Ok:ExtOk Tryz.prog ext103:=⟨⟨ca134,con134⟩,⟨ca114,con114⟩,trivial⟩
def b103:Code:=bodyOf Tryz.f103
theorem hb103:Tryz.f103.body=some b103:=by kernel_rfl
def sig103:List AT:=[AT.v YA2]
def tys103:List Ty:=[.bool]
def kds103:List RK:=[]
def oks103:List AT:=owns sig103
def E103_4 (v18:Int) (x0:List TyB4×Int×Int×Unit):Env:=[(1,.a (.optr 0 0 [])),(16,.a (.sl YA9 x0.1)),(17,.a (.val (.int .i64 (x0.1.length:Int)))),(18,.a (.val (.int .i64 v18)))]
def L103_4 (v18:Int) (x0:List TyB4×Int×Int×Unit):Heap:=[Option.some (Arr.mk YA2 [x0] true Option.none (Option.some false))]
mutual
def R103:Nat→List TyB4×Int×Int×Unit→List Dyn→Prop
 | 0,_,_=>False
 | n+1,x0,ds=>(if (decide ((x0.1.length:Int)<1))=true then (ds=[Dyn.mk .bool false]) else (if (decide ((x0.1.length:Int)>12))=true then (ds=[Dyn.mk .bool false]) else (R103_4 n (0) (x0) ds)))
def R103_4:Nat→Int→List TyB4×Int×Int×Unit→List Dyn→Prop
 | 0,_,_,_=>False
 | n+1,v18,x0,ds=>(if (decide (v18<(x0.1.length:Int)))=true then ((0≤v18)∧(v18<(x0.1.length:Int))∧(if (!g134_0 (List.getD x0.1 (Int.toNat v18) (0,0,())).1 1 3000000)=true then (ds=[Dyn.mk .bool false]) else (if (!g134_0 (List.getD x0.1 (Int.toNat v18) (0,0,())).2.1 0 900)=true then (ds=[Dyn.mk .bool false]) else ((InR .i64 (v18+1))∧(R103_4 n (v18+1) (x0) ds))))) else ((P114 x0)∧(if (decide (g114_0 x0≤3000000))=true then ((P114 x0)∧(if (g134_0 x0.2.1 0 (g114_0 x0))=true then ((P114 x0)∧(ds=[Dyn.mk .bool (g134_0 x0.2.2.1 x0.2.1 (g114_0 x0))])) else (ds=[Dyn.mk .bool false]))) else (ds=[Dyn.mk .bool false]))))
end
theorem snd103:∀ n,(∀ (x0:List TyB4×Int×Int×Unit) ds,R103 n x0 ds→∀ K q,AtV Tryz.prog 103 (PostR kds103 oks103 ds [] [] q K) 52 K q [] [.code b103] (entE 0 0 sig103 (x0,())) (entL sig103 (x0,())))∧(∀ (v18:Int) (x0:List TyB4×Int×Int×Unit) ds,R103_4 n v18 x0 ds→∀ K q,AtV Tryz.prog 103 (PostR kds103 oks103 ds [] [] q K) 52 K q [] (cutAt b103 4) (E103_4 v18 x0) (L103_4 v18 x0)):=by
 intro n
 induction n with
 | zero=>exact ⟨fun _ _ h=>by simp only [R103] at h,fun _ _ _ h=>by simp only [R103_4] at h⟩
 | succ n ih =>
 obtain ⟨ih,ih4⟩:=ih
 refine ⟨?_,?_⟩
 ·intro x0 ds h K q
  rw [R103] at h
  by_cases b0:(decide ((x0.1.length:Int)<1))=true
  ·rw [if_pos b0] at h
   subst h
   exact AtV.ret Tryz.func103 tabOk ext103Ok mixed false [] tys103 [true,true] (a1 b0 (a1 (rfl:true=true) trivial)) (by kernel_rfl)
  ·rw [if_neg b0] at h
   replace b0:=bf_ b0
   by_cases b1:(decide ((x0.1.length:Int)>12))=true
   ·rw [if_pos b1] at h
    subst h
    exact AtV.ret Tryz.func103 tabOk ext103Ok mixed false [] tys103 [false,true] (a1 b0 (a1 b1 trivial)) (by kernel_rfl)
   ·rw [if_neg b1] at h
    replace b1:=bf_ b1
    exact AtV.go tabOk ext103Ok mixed false [] [] [1,16,17,18] [0] [false,false] (a1 b0 (a1 b1 trivial)) (ih4 _ _ _ h K q) (by kernel_rfl)
 ·intro v18 x0 ds h K q
  rw [R103_4] at h
  by_cases b0:(decide (v18<(x0.1.length:Int)))=true
  ·rw [if_pos b0] at h
   obtain ⟨s0,s1,h⟩:=h
   by_cases b1:(!g134_0 (List.getD x0.1 (Int.toNat v18) (0,0,())).1 1 3000000)=true
   ·rw [if_pos b1] at h
    subst h
    exact AtV.ret Tryz.func103 tabOk ext103Ok mixed false [] tys103 [true,true,true] (a1 b0 (a1 s0 (a1 s1 (a1 trivial (a1 b1 (a1 (rfl:true=true) trivial)))))) (by kernel_rfl)
   ·rw [if_neg b1] at h
    replace b1:=bf_ b1
    by_cases b2:(!g134_0 (List.getD x0.1 (Int.toNat v18) (0,0,())).2.1 0 900)=true
    ·rw [if_pos b2] at h
     subst h
     exact AtV.ret Tryz.func103 tabOk ext103Ok mixed false [] tys103 [true,false,true] (a1 b0 (a1 s0 (a1 s1 (a1 trivial (a1 b1 (a1 trivial (a1 b2 trivial))))))) (by kernel_rfl)
    ·rw [if_neg b2] at h
     replace b2:=bf_ b2
     obtain ⟨s2,h⟩:=h
     exact AtV.go tabOk ext103Ok mixed false [] [] [1,16,17,18] [0] [true,false,false] (a1 b0 (a1 s0 (a1 s1 (a1 trivial (a1 b1 (a1 trivial (a1 b2 (a1 s2 trivial)))))))) (ih4 _ _ _ h K q) (by kernel_rfl)
  ·rw [if_neg b0] at h
   replace b0:=bf_ b0
   obtain ⟨s0,h⟩:=h
   by_cases b1:(decide (g114_0 x0≤3000000))=true
   ·rw [if_pos b1] at h
    obtain ⟨s1,h⟩:=h
    by_cases b2:(g134_0 x0.2.1 0 (g114_0 x0))=true
    ·rw [if_pos b2] at h
     obtain ⟨s2,h⟩:=h
     subst h
     exact AtV.ret Tryz.func103 tabOk ext103Ok mixed false [] tys103 [false,true,true] (a1 b0 (a1 s0 (a1 b1 (a1 s1 (a1 trivial (a1 b2 (a1 s2 (a1 trivial trivial)))))))) (by kernel_rfl)
    ·rw [if_neg b2] at h
     replace b2:=bf_ b2
     subst h
     exact AtV.ret Tryz.func103 tabOk ext103Ok mixed false [] tys103 [false,true,false] (a1 b0 (a1 s0 (a1 b1 (a1 s1 (a1 trivial (a1 b2 trivial)))))) (by kernel_rfl)
   ·rw [if_neg b1] at h
    replace b1:=bf_ b1
    subst h
    exact AtV.ret Tryz.func103 tabOk ext103Ok mixed false [] tys103 [false,false,false] (a1 b0 (a1 s0 (a1 b1 (a1 (rfl:false=false) trivial)))) (by kernel_rfl)
def ok103 (x:TyB4):Bool:=g134_0 x.1 1 3000000&&g134_0 x.2.1 0 900
def fine103 (x0:(List TyB4×Int×Int×Unit)):Bool:=if decide (g114_0 x0≤3000000)=true then (if g134_0 x0.2.1 0 (g114_0 x0)=true then g134_0 x0.2.2.1 x0.2.1 (g114_0 x0) else false) else false
def g103_0 (x0:(List TyB4×Int×Int×Unit)):Bool:=x0.1.all ok103&&(decide (1≤x0.1.length)&&decide (x0.1.length≤12))&&fine103 x0
def P103 (x0:(List TyB4×Int×Int×Unit)):Prop:=True
theorem in103 {x a b:Int}:g134_0 x a b=true↔a≤x∧x≤b:=by
 unfold g134_0
 by_cases c1:x≥a
 ·by_cases c2:x≤b
  ·simp [c1,c2]
  ·simp [c1,c2]
 ·have:¬ a≤x:=c1
  simp [c1,this]
theorem lenp103 {x0:(List TyB4×Int×Int×Unit)} (h:x0.1.all ok103=true) (hl:x0.1.length≤12):P114 x0∧0≤g114_0 x0∧g114_0 x0≤36000000:=by
 have hx:∀ x∈x0.1,0≤x.1∧x.1≤3000000:=fun x hx=>by
  have:=List.all_eq_true.1 h x hx
  unfold ok103 at this
  rw [Bool.and_eq_true] at this
  have:=in103.1 this.1
  omega
 obtain ⟨s1,s2⟩:=sum114_le x0.1 hx
 refine ⟨⟨by omega,fun x h=>by have:=hx x h;omega⟩,s1,?_⟩
 show sum114 x0.1≤_
 omega
theorem run103 (x0:(List TyB4×Int×Int×Unit)) (hm:x0.1.length≤maxLen) (yes:List Dyn) (hend:∀ n,x0.1.all ok103=true→R103_4 (n+1) (x0.1.length:Int) x0 yes):∀ (k i:Nat) (B:Bool),i+k=x0.1.length→(x0.1.drop i).all ok103=B→(∀ j,j<i→ok103 (x0.1.getD j ((0:Int),(0:Int),()))=true) →
  R103_4 (k+1) (i:Int) x0 (if B=true then yes else [⟨.bool,false⟩]):=by
 intro k
 induction k with
 | zero =>
  intro i B hi hB hp
  have:i=x0.1.length:=by omega
  subst this
  rw [drop_end _ _ (by omega)] at hB
  subst hB
  refine hend 0 (List.all_eq_true.2 fun x hx => ?_)
  obtain ⟨j,hj,rfl⟩:=List.getElem_of_mem hx
  have:=hp j (by omega)
  rwa [getD_lt _ _ _ hj] at this
 | succ k ih =>
  intro i B hi hB hp
  have hlt:i<x0.1.length:=by omega
  have hu:=inR_up hm hlt
  rw [R103_4,if_pos (by simp only [decide_eq_true_eq];omega)]
  rw [drop_get x0.1 i ((0:Int),(0:Int),()) hlt,List.all_cons] at hB
  simp only [Int.toNat_natCast]
  refine ⟨by omega,by omega,?_⟩
  by_cases h1:ok103 (x0.1.getD i ((0:Int),(0:Int),()))=true
  case neg =>
   have h1:=bf_ h1
   rw [h1,Bool.false_and] at hB
   subst hB
   by_cases c1:g134_0 (x0.1.getD i ((0:Int),(0:Int),())).1 1 3000000=true
   ·rw [if_neg (by rw [c1];simp)]
    have c2:g134_0 (x0.1.getD i ((0:Int),(0:Int),())).2.1 0 900=false:=by
     unfold ok103 at h1;rw [c1] at h1;simpa using h1
    rw [if_pos (by rw [c2];rfl)] <;> rfl
   ·rw [if_pos (by rw [bf_ c1];rfl)] <;> rfl
  case pos =>
   have hb:=h1
   rw [h1,Bool.true_and] at hB
   unfold ok103 at hb
   rw [Bool.and_eq_true] at hb
   rw [if_neg (by rw [hb.1];simp)]
   have e1:(((i+1:Nat)):Int)=(i:Int)+1:=by omega
   have hnext:=ih (i+1) B (by omega) hB (fun j hj=>by
    rcases Nat.lt_or_ge j i with h | h
    ·exact hp j h
    ·have:j=i:=by omega
     subst this;exact h1)
   rw [e1] at hnext
   rw [if_neg (by rw [hb.2];simp)]
   exact ⟨hu,hnext⟩
theorem end103 (x0:(List TyB4×Int×Int×Unit)) (d1:1≤x0.1.length) (d2:x0.1.length≤12) (n:Nat) (h:x0.1.all ok103=true):R103_4 (n+1) (x0.1.length:Int) x0 [⟨.bool,(decide (1≤x0.1.length)&&decide (x0.1.length≤12))&&fine103 x0⟩]:=by
 have hp:=(lenp103 h d2).1
 rw [R103_4,if_neg (by simp),decide_eq_true d1,decide_eq_true d2]
 refine ⟨hp,?_⟩
 unfold fine103
 split
 ·refine ⟨hp,?_⟩
  split
  ·exact ⟨hp,rfl⟩
  ·rfl
 ·rfl
theorem top103 (x0:(List TyB4×Int×Int×Unit)) (hm:x0.1.length≤maxLen):∃ n,R103 n x0 [⟨.bool,g103_0 x0⟩]:=by
 refine ⟨x0.1.length+1+1,?_⟩
 rw [R103]
 unfold g103_0
 by_cases c1:(x0.1.length:Int)<1
 ·rw [if_pos (decide_eq_true c1)]
  have:¬ 1≤x0.1.length:=by omega
  rw [decide_eq_false this,Bool.false_and,Bool.and_false,Bool.false_and]
 rw [if_neg (by simpa using c1)]
 by_cases c2:(x0.1.length:Int)>12
 ·rw [if_pos (decide_eq_true c2)]
  have:¬ x0.1.length≤12:=by omega
  rw [decide_eq_false this,Bool.and_false,Bool.and_false,Bool.false_and]
 rw [if_neg (by simpa using c2)]
 have key:=run103 x0 hm _ (end103 x0 (by omega) (by omega)) x0.1.length 0 _ (by omega) rfl (fun j hj=>by omega)
 rw [List.drop_zero] at key
 cases h:x0.1.all ok103 with
 | true=>rw [if_pos h] at key;rw [Bool.true_and];exact key
 | false=>rw [if_neg (by rw [h];simp)] at key;exact key
def S103:Am.Spec:={ sig:=sig103,pre:=fun ⟨x0,_⟩=>P103 x0,res:=fun ⟨x0,_⟩=>[⟨.bool,g103_0 x0⟩] }
theorem con103:Contract Tryz.prog 103 S103:=contract_of Tryz.func103 hb103 (bl_ (by kernel_rfl)) (fun ⟨x0,_⟩ h hwf K q =>
 let ⟨n,hn⟩:=top103 x0 hwf.1.1.1
 (snd103 n).1 x0 _ hn K q)
end
noncomputable section
def ext104:Ext:=[(134,S134)]
theorem ext104Ok:ExtOk Tryz.prog ext104:=⟨⟨ca134,con134⟩,trivial⟩
def b104:Code:=bodyOf Tryz.f104
theorem hb104:Tryz.f104.body=some b104:=by kernel_rfl
def sig104:List AT:=[AT.v (.int .i64)]
def tys104:List Ty:=[.bool]
def kds104:List RK:=[]
def oks104:List AT:=owns sig104
def P104 (x0:Int):Prop:=True
def g104_0 (x0:Int):Bool:=g134_0 x0 0 3000000
theorem at104 (x0:Int) (h:P104 x0) (K:Ctx) (q:Nat→Value):AtV Tryz.prog 104 (PostR kds104 oks104 [⟨.bool,g104_0 x0⟩] [] [] q K) 5 K q [] [.code b104] (entE 0 0 sig104 (x0,())) (entL sig104 (x0,())):=by
 unfold P104 at h
 unfold g104_0
 exact AtV.ret Tryz.func104 tabOk ext104Ok mixed false [] tys104 [] (a1 trivial trivial) (by kernel_rfl)
def S104:Am.Spec:={ sig:=sig104,pre:=fun ⟨x0,_⟩=>P104 x0,res:=fun ⟨x0,_⟩=>[⟨.bool,g104_0 x0⟩],kds:=kds104 }
theorem con104:Contract Tryz.prog 104 S104:=contract_of Tryz.func104 hb104 (bl_ (by kernel_rfl)) (fun ⟨x0,_⟩ h _ K q=>at104 x0 h K q)
end
noncomputable section
def ext105:Ext:=[(134,S134)]
theorem ext105Ok:ExtOk Tryz.prog ext105:=⟨⟨ca134,con134⟩,trivial⟩
def b105:Code:=bodyOf Tryz.f105
theorem hb105:Tryz.f105.body=some b105:=by kernel_rfl
def sig105:List AT:=[AT.v YA9]
def tys105:List Ty:=[.bool]
def kds105:List RK:=[]
def oks105:List AT:=owns sig105
def P105 (x0:Int×Int×Unit):Prop:=True
def g105_0 (x0:Int×Int×Unit):Bool:=(if (g134_0 x0.1 0 100)=true then g134_0 x0.2.1 1 10000 else false)
theorem at105 (x0:Int×Int×Unit) (h:P105 x0) (K:Ctx) (q:Nat→Value):AtV Tryz.prog 105 (PostR kds105 oks105 [⟨.bool,g105_0 x0⟩] [] [] q K) 11 K q [] [.code b105] (entE 0 0 sig105 (x0,())) (entL sig105 (x0,())):=by
 unfold P105 at h
 unfold g105_0
 by_cases b0:(g134_0 x0.1 0 100)=true
 ·try simp only [if_pos b0] at h ⊢
  exact AtV.ret Tryz.func105 tabOk ext105Ok mixed false [] tys105 [true] (a1 trivial (a1 b0 (a1 trivial trivial))) (by kernel_rfl)
 ·try simp only [if_neg b0] at h ⊢
  replace b0:=bf_ b0
  exact AtV.ret Tryz.func105 tabOk ext105Ok mixed false [] tys105 [false] (a1 trivial (a1 b0 trivial)) (by kernel_rfl)
def S105:Am.Spec:={ sig:=sig105,pre:=fun ⟨x0,_⟩=>P105 x0,res:=fun ⟨x0,_⟩=>[⟨.bool,g105_0 x0⟩],kds:=kds105 }
theorem con105:Contract Tryz.prog 105 S105:=contract_of Tryz.func105 hb105 (bl_ (by kernel_rfl)) (fun ⟨x0,_⟩ h _ K q=>at105 x0 h K q)
end
noncomputable section
def ext106:Ext:=[(134,S134),(104,S104)]
theorem ext106Ok:ExtOk Tryz.prog ext106:=⟨⟨ca134,con134⟩,⟨ca104,con104⟩,trivial⟩
def b106:Code:=bodyOf Tryz.f106
theorem hb106:Tryz.f106.body=some b106:=by kernel_rfl
def sig106:List AT:=[AT.v YA4]
def tys106:List Ty:=[.bool]
def kds106:List RK:=[]
def oks106:List AT:=owns sig106
def P106 (x0:Int×Int×Int×Int×Unit):Prop:=True
def g106_0 (x0:Int×Int×Int×Int×Unit):Bool:=(if (g134_0 x0.1 1 2000)=true then (if (g134_0 x0.2.1 100 15000)=true then (if (g134_0 x0.2.2.1 100 x0.2.1)=true then g104_0 x0.2.2.2.1 else false) else false) else false)
theorem at106 (x0:Int×Int×Int×Int×Unit) (h:P106 x0) (K:Ctx) (q:Nat→Value):AtV Tryz.prog 106 (PostR kds106 oks106 [⟨.bool,g106_0 x0⟩] [] [] q K) 23 K q [] [.code b106] (entE 0 0 sig106 (x0,())) (entL sig106 (x0,())):=by
 unfold P106 at h
 unfold g106_0
 by_cases b0:(g134_0 x0.1 1 2000)=true
 ·try simp only [if_pos b0] at h ⊢
  by_cases b1:(g134_0 x0.2.1 100 15000)=true
  ·try simp only [if_pos b1] at h ⊢
   by_cases b2:(g134_0 x0.2.2.1 100 x0.2.1)=true
   ·try simp only [if_pos b2] at h ⊢
    exact AtV.ret Tryz.func106 tabOk ext106Ok mixed false [] tys106 [true,true,true] (a1 trivial (a1 b0 (a1 trivial (a1 b1 (a1 trivial (a1 b2 (a1 trivial trivial))))))) (by kernel_rfl)
   ·try simp only [if_neg b2] at h ⊢
    replace b2:=bf_ b2
    exact AtV.ret Tryz.func106 tabOk ext106Ok mixed false [] tys106 [true,true,false] (a1 trivial (a1 b0 (a1 trivial (a1 b1 (a1 trivial (a1 b2 trivial)))))) (by kernel_rfl)
  ·try simp only [if_neg b1] at h ⊢
   replace b1:=bf_ b1
   exact AtV.ret Tryz.func106 tabOk ext106Ok mixed false [] tys106 [true,false,false] (a1 trivial (a1 b0 (a1 trivial (a1 b1 (a1 (rfl:false=false) trivial))))) (by kernel_rfl)
 ·try simp only [if_neg b0] at h ⊢
  replace b0:=bf_ b0
  exact AtV.ret Tryz.func106 tabOk ext106Ok mixed false [] tys106 [false,false,false] (a1 trivial (a1 b0 (a1 (rfl:false=false) (a1 (rfl:false=false) trivial)))) (by kernel_rfl)
def S106:Am.Spec:={ sig:=sig106,pre:=fun ⟨x0,_⟩=>P106 x0,res:=fun ⟨x0,_⟩=>[⟨.bool,g106_0 x0⟩],kds:=kds106 }
theorem con106:Contract Tryz.prog 106 S106:=contract_of Tryz.func106 hb106 (bl_ (by kernel_rfl)) (fun ⟨x0,_⟩ h _ K q=>at106 x0 h K q)
end
noncomputable section
def ext163:Ext:=[]
theorem ext163Ok:ExtOk Tryz.prog ext163:=trivial
def b163:Code:=bodyOf Tryz.f163
theorem hb163:Tryz.f163.body=some b163:=by kernel_rfl
def sig163:List AT:=[AT.v (.str)]
def tys163:List Ty:=[.bool]
def kds163:List RK:=[]
def oks163:List AT:=owns sig163
def E163_4 (v18:Int) (x0:ByteArray):Env:=[(16,.a (.osl 0 Option.none)),(17,.a (.val (.int .i64 (↑(List.length (bytesOf x0)):Int)))),(18,.a (.val (.int .i64 v18)))]
def L163_4 (v18:Int) (x0:ByteArray):Heap:=[Option.some (Arr.mk (.int .u8) (bytesOf x0) false Option.none Option.none)]
mutual
def R163:Nat→ByteArray→List Dyn→Prop
 | 0,_,_=>False
 | n+1,x0,ds=>(if (decide ((↑(ByteArray.size x0):Int)<1))=true then (ds=[Dyn.mk .bool false]) else (if (decide ((↑(ByteArray.size x0):Int)>10))=true then (ds=[Dyn.mk .bool false]) else (R163_4 n (0) (x0) ds)))
def R163_4:Nat→Int→ByteArray→List Dyn→Prop
 | 0,_,_,_=>False
 | n+1,v18,x0,ds=>(if (decide (v18<(↑(List.length (bytesOf x0)):Int)))=true then ((0≤v18)∧(v18<(↑(List.length (bytesOf x0)):Int))∧(if (decide (List.getD (bytesOf x0) (Int.toNat v18) 0≥97))=true then (if (decide (List.getD (bytesOf x0) (Int.toNat v18) 0≥48))=true then (if (!decide (List.getD (bytesOf x0) (Int.toNat v18) 0≤122))=true then (if (v18==0)=true then (ds=[Dyn.mk .bool false]) else (if (!decide (List.getD (bytesOf x0) (Int.toNat v18) 0≤57))=true then (ds=[Dyn.mk .bool false]) else ((InR .i64 (v18+1))∧(R163_4 n (v18+1) (x0) ds)))) else ((InR .i64 (v18+1))∧(R163_4 n (v18+1) (x0) ds))) else (if (!decide (List.getD (bytesOf x0) (Int.toNat v18) 0≤122))=true then (if (v18==0)=true then (ds=[Dyn.mk .bool false]) else (ds=[Dyn.mk .bool false])) else ((InR .i64 (v18+1))∧(R163_4 n (v18+1) (x0) ds)))) else (if (decide (List.getD (bytesOf x0) (Int.toNat v18) 0≥48))=true then (if (v18==0)=true then (ds=[Dyn.mk .bool false]) else (if (!decide (List.getD (bytesOf x0) (Int.toNat v18) 0≤57))=true then (ds=[Dyn.mk .bool false]) else ((InR .i64 (v18+1))∧(R163_4 n (v18+1) (x0) ds)))) else (if (v18==0)=true then (ds=[Dyn.mk .bool false]) else (ds=[Dyn.mk .bool false]))))) else (ds=[Dyn.mk .bool true]))
end
theorem snd163:∀ n,(∀ (x0:ByteArray) ds,R163 n x0 ds→∀ K q,AtV Tryz.prog 163 (PostR kds163 oks163 ds [] [] q K) 46 K q [] [.code b163] (entE 0 0 sig163 (x0,())) (entL sig163 (x0,())))∧(∀ (v18:Int) (x0:ByteArray) ds,R163_4 n v18 x0 ds→∀ K q,AtV Tryz.prog 163 (PostR kds163 oks163 ds [] [] q K) 46 K q [] (cutAt b163 4) (E163_4 v18 x0) (L163_4 v18 x0)):=by
 intro n
 induction n with
 | zero=>exact ⟨fun _ _ h=>by simp only [R163] at h,fun _ _ _ h=>by simp only [R163_4] at h⟩
 | succ n ih =>
 obtain ⟨ih,ih4⟩:=ih
 refine ⟨?_,?_⟩
 ·intro x0 ds h K q
  rw [R163] at h
  by_cases b0:(decide ((↑(ByteArray.size x0):Int)<1))=true
  ·rw [if_pos b0] at h
   subst h
   exact AtV.ret Tryz.func163 tabOk ext163Ok mixed false [] tys163 [true,true] (a1 b0 (a1 (rfl:true=true) trivial)) (by kernel_rfl)
  ·rw [if_neg b0] at h
   replace b0:=bf_ b0
   by_cases b1:(decide ((↑(ByteArray.size x0):Int)>10))=true
   ·rw [if_pos b1] at h
    subst h
    exact AtV.ret Tryz.func163 tabOk ext163Ok mixed false [] tys163 [false,true] (a1 b0 (a1 b1 trivial)) (by kernel_rfl)
   ·rw [if_neg b1] at h
    replace b1:=bf_ b1
    exact AtV.go tabOk ext163Ok mixed false [] [] [16,17,18] [0] [false,false] (a1 b0 (a1 b1 trivial)) (ih4 _ _ _ h K q) (by kernel_rfl)
 ·intro v18 x0 ds h K q
  rw [R163_4] at h
  by_cases b0:(decide (v18<(↑(List.length (bytesOf x0)):Int)))=true
  ·rw [if_pos b0] at h
   obtain ⟨s0,s1,h⟩:=h
   by_cases b1:(decide (List.getD (bytesOf x0) (Int.toNat v18) 0≥97))=true
   ·rw [if_pos b1] at h
    by_cases b2:(decide (List.getD (bytesOf x0) (Int.toNat v18) 0≥48))=true
    ·rw [if_pos b2] at h
     by_cases b3:(!decide (List.getD (bytesOf x0) (Int.toNat v18) 0≤122))=true
     ·rw [if_pos b3] at h
      by_cases b4:(v18==0)=true
      ·rw [if_pos b4] at h
       subst h
       exact AtV.ret Tryz.func163 tabOk ext163Ok mixed false [] tys163 [true,true,true,true,true,true] (a1 b0 (a1 s0 (a1 s1 (a1 b1 (a1 b2 (a1 b3 (a1 b4 (a1 (rfl:true=true) trivial)))))))) (by kernel_rfl)
      ·rw [if_neg b4] at h
       replace b4:=bf_ b4
       by_cases b5:(!decide (List.getD (bytesOf x0) (Int.toNat v18) 0≤57))=true
       ·rw [if_pos b5] at h
        subst h
        exact AtV.ret Tryz.func163 tabOk ext163Ok mixed false [] tys163 [true,true,true,true,false,true] (a1 b0 (a1 s0 (a1 s1 (a1 b1 (a1 b2 (a1 b3 (a1 b4 (a1 b5 trivial)))))))) (by kernel_rfl)
       ·rw [if_neg b5] at h
        replace b5:=bf_ b5
        obtain ⟨s2,h⟩:=h
        exact AtV.go tabOk ext163Ok mixed false [] [] [16,17,18] [0] [true,true,true,true,false,false] (a1 b0 (a1 s0 (a1 s1 (a1 b1 (a1 b2 (a1 b3 (a1 b4 (a1 b5 (a1 s2 trivial))))))))) (ih4 _ _ _ h K q) (by kernel_rfl)
     ·rw [if_neg b3] at h
      replace b3:=bf_ b3
      obtain ⟨s2,h⟩:=h
      exact AtV.go tabOk ext163Ok mixed false [] [] [16,17,18] [0] [true,true,true,false,false] (a1 b0 (a1 s0 (a1 s1 (a1 b1 (a1 b2 (a1 b3 (a1 (rfl:false=false) (a1 s2 trivial)))))))) (ih4 _ _ _ h K q) (by kernel_rfl)
    ·rw [if_neg b2] at h
     replace b2:=bf_ b2
     by_cases b3:(!decide (List.getD (bytesOf x0) (Int.toNat v18) 0≤122))=true
     ·rw [if_pos b3] at h
      by_cases b4:(v18==0)=true
      ·rw [if_pos b4] at h
       subst h
       exact AtV.ret Tryz.func163 tabOk ext163Ok mixed false [] tys163 [true,true,false,true,true,true] (a1 b0 (a1 s0 (a1 s1 (a1 b1 (a1 b2 (a1 b3 (a1 b4 (a1 (rfl:true=true) trivial)))))))) (by kernel_rfl)
      ·rw [if_neg b4] at h
       replace b4:=bf_ b4
       subst h
       exact AtV.ret Tryz.func163 tabOk ext163Ok mixed false [] tys163 [true,true,false,true,false,true] (a1 b0 (a1 s0 (a1 s1 (a1 b1 (a1 b2 (a1 b3 (a1 b4 (a1 (rfl:true=true) trivial)))))))) (by kernel_rfl)
     ·rw [if_neg b3] at h
      replace b3:=bf_ b3
      obtain ⟨s2,h⟩:=h
      exact AtV.go tabOk ext163Ok mixed false [] [] [16,17,18] [0] [true,true,false,false,false] (a1 b0 (a1 s0 (a1 s1 (a1 b1 (a1 b2 (a1 b3 (a1 (rfl:false=false) (a1 s2 trivial)))))))) (ih4 _ _ _ h K q) (by kernel_rfl)
   ·rw [if_neg b1] at h
    replace b1:=bf_ b1
    by_cases b2:(decide (List.getD (bytesOf x0) (Int.toNat v18) 0≥48))=true
    ·rw [if_pos b2] at h
     by_cases b3:(v18==0)=true
     ·rw [if_pos b3] at h
      subst h
      exact AtV.ret Tryz.func163 tabOk ext163Ok mixed false [] tys163 [true,false,true,true,true,true] (a1 b0 (a1 s0 (a1 s1 (a1 b1 (a1 b2 (a1 (rfl:true=true) (a1 b3 (a1 (rfl:true=true) trivial)))))))) (by kernel_rfl)
     ·rw [if_neg b3] at h
      replace b3:=bf_ b3
      by_cases b4:(!decide (List.getD (bytesOf x0) (Int.toNat v18) 0≤57))=true
      ·rw [if_pos b4] at h
       subst h
       exact AtV.ret Tryz.func163 tabOk ext163Ok mixed false [] tys163 [true,false,true,true,false,true] (a1 b0 (a1 s0 (a1 s1 (a1 b1 (a1 b2 (a1 (rfl:true=true) (a1 b3 (a1 b4 trivial)))))))) (by kernel_rfl)
      ·rw [if_neg b4] at h
       replace b4:=bf_ b4
       obtain ⟨s2,h⟩:=h
       exact AtV.go tabOk ext163Ok mixed false [] [] [16,17,18] [0] [true,false,true,true,false,false] (a1 b0 (a1 s0 (a1 s1 (a1 b1 (a1 b2 (a1 (rfl:true=true) (a1 b3 (a1 b4 (a1 s2 trivial))))))))) (ih4 _ _ _ h K q) (by kernel_rfl)
    ·rw [if_neg b2] at h
     replace b2:=bf_ b2
     by_cases b3:(v18==0)=true
     ·rw [if_pos b3] at h
      subst h
      exact AtV.ret Tryz.func163 tabOk ext163Ok mixed false [] tys163 [true,false,false,true,true,true] (a1 b0 (a1 s0 (a1 s1 (a1 b1 (a1 b2 (a1 (rfl:true=true) (a1 b3 (a1 (rfl:true=true) trivial)))))))) (by kernel_rfl)
     ·rw [if_neg b3] at h
      replace b3:=bf_ b3
      subst h
      exact AtV.ret Tryz.func163 tabOk ext163Ok mixed false [] tys163 [true,false,false,true,false,true] (a1 b0 (a1 s0 (a1 s1 (a1 b1 (a1 b2 (a1 (rfl:true=true) (a1 b3 (a1 (rfl:true=true) trivial)))))))) (by kernel_rfl)
  ·rw [if_neg b0] at h
   replace b0:=bf_ b0
   subst h
   exact AtV.ret Tryz.func163 tabOk ext163Ok mixed false [] tys163 [false] (a1 b0 trivial) (by kernel_rfl)
def ok163 (i:Nat) (b:Int):Bool:=(decide (97≤b)&&decide (b≤122))||(!(i==0)&&(decide (48≤b)&&decide (b≤57)))
def g163_0 (x0:ByteArray):Bool:=decide (1≤x0.size)&&decide (x0.size≤10)&&allI ok163 0 (bytesOf x0)
def P163 (x0:ByteArray):Prop:=True
theorem step163 (n i:Nat) (x0:ByteArray) (hw:Wf .str x0) (hi:i<(bytesOf x0).length) (ds:List Dyn) :
  R163_4 (n+1) (i:Int) x0 ds↔(if ok163 i ((bytesOf x0).getD i 0)=true then R163_4 n ((i:Int)+1) x0 ds else ds=[⟨.bool,false⟩]):=by
 have hu:=inR_up (xs:=bytesOf x0) (by rw [bytesOf_length];exact hw) hi
 rw [R163_4,if_pos (by simp;omega)]
 simp only [Int.toNat_natCast]
 have hb:(0:Int)≤(i:Int)∧(i:Int)<((bytesOf x0).length:Int):=by omega
 have hz:((i:Int)==0)=(i==0):=by
  cases i with
  | zero=>rfl
  | succ k=>simp;omega
 simp only [hz,ok163,hu,true_and,hb.1,hb.2,ge_iff_le]
 by_cases h1:(97:Int)≤(bytesOf x0).getD i 0 <;> by_cases h2:(bytesOf x0).getD i 0≤122 <;> by_cases h3:(48:Int)≤(bytesOf x0).getD i 0 <;> by_cases h4:(bytesOf x0).getD i 0≤57 <;> rcases Bool.eq_false_or_eq_true (i==0) with e0 | e0 <;> first | (exfalso;omega) | simp only [h1,h2,h3,h4,e0,decide_true,decide_false,Bool.not_true,Bool.not_false,Bool.true_and,Bool.false_and,Bool.and_true,Bool.and_false,Bool.true_or,Bool.or_true,Bool.or_false,Bool.false_or,if_true,if_false,Bool.false_eq_true]
theorem top163 (x0:ByteArray) (hw:Wf .str x0):R163 (x0.size+1+1) x0 [⟨.bool,g163_0 x0⟩]:=by
 have hl:=bytesOf_length x0
 rw [R163]
 by_cases h0:(x0.size:Int)<1
 ·rw [if_pos (by simpa using h0)]
  have:¬ 1≤x0.size:=by omega
  simp [g163_0,this]
 ·rw [if_neg (by simpa using h0)]
  by_cases h1:(x0.size:Int)>10
  ·rw [if_pos (by simpa using h1)]
   have:¬ x0.size≤10:=by omega
   simp [g163_0,this]
  ·rw [if_neg (by simpa using h1)]
   have key:=loop_testI (bytesOf x0) 0 ok163 [(⟨.bool,false⟩:Dyn)] [⟨.bool,true⟩] (fun n i ds=>R163_4 n i x0 ds) (fun n => ?_) (fun n i hi hok ds hr => ?_) (fun n i hi hok => ?_)
   ·rw [hl] at key
    have e:g163_0 x0=allI ok163 0 (bytesOf x0):=by
     have a:1≤x0.size:=by omega
     have b:x0.size≤10:=by omega
     simp [g163_0,a,b]
    rw [e]
    cases h:allI ok163 0 (bytesOf x0) with
    | true=>rw [if_pos h] at key;exact key
    | false=>rw [if_neg (by rw [h];simp)] at key;exact key
   ·show R163_4 (n+1) ((bytesOf x0).length:Int) x0 _
    rw [R163_4,if_neg (by simp)]
   ·exact (step163 n i x0 hw hi ds).2 (by rw [if_pos hok];exact hr)
   ·exact (step163 n i x0 hw hi _).2 (by rw [if_neg (by rw [hok];simp)])
def S163:Am.Spec:={ sig:=sig163,pre:=fun ⟨x0,_⟩=>P163 x0,res:=fun ⟨x0,_⟩=>[⟨.bool,g163_0 x0⟩] }
theorem con163:Contract Tryz.prog 163 S163:=contract_of Tryz.func163 hb163 (bl_ (by kernel_rfl)) (fun ⟨x0,_⟩ h hwf K q =>
 (snd163 _).1 x0 _ (top163 x0 hwf.1) K q)
end
noncomputable section
def ext136:Ext:=[(134,S134)]
theorem ext136Ok:ExtOk Tryz.prog ext136:=⟨⟨ca134,con134⟩,trivial⟩
def b136:Code:=bodyOf Tryz.f136
theorem hb136:Tryz.f136.body=some b136:=by kernel_rfl
def sig136:List AT:=[AT.v (.int .i64)]
def tys136:List Ty:=[.bool]
def kds136:List RK:=[]
def oks136:List AT:=owns sig136
def P136 (x0:Int):Prop:=True
def g136_0 (x0:Int):Bool:=g134_0 x0 0 100000
theorem at136 (x0:Int) (h:P136 x0) (K:Ctx) (q:Nat→Value):AtV Tryz.prog 136 (PostR kds136 oks136 [⟨.bool,g136_0 x0⟩] [] [] q K) 5 K q [] [.code b136] (entE 0 0 sig136 (x0,())) (entL sig136 (x0,())):=by
 unfold P136 at h
 unfold g136_0
 exact AtV.ret Tryz.func136 tabOk ext136Ok mixed false [] tys136 [] (a1 trivial trivial) (by kernel_rfl)
def S136:Am.Spec:={ sig:=sig136,pre:=fun ⟨x0,_⟩=>P136 x0,res:=fun ⟨x0,_⟩=>[⟨.bool,g136_0 x0⟩],kds:=kds136 }
theorem con136:Contract Tryz.prog 136 S136:=contract_of Tryz.func136 hb136 (bl_ (by kernel_rfl)) (fun ⟨x0,_⟩ h _ K q=>at136 x0 h K q)
end
noncomputable section
def ext135:Ext:=[(163,S163),(134,S134),(136,S136)]
theorem ext135Ok:ExtOk Tryz.prog ext135:=⟨⟨ca163,con163⟩,⟨ca134,con134⟩,⟨ca136,con136⟩,trivial⟩
def b135:Code:=bodyOf Tryz.f135
theorem hb135:Tryz.f135.body=some b135:=by kernel_rfl
def sig135:List AT:=[AT.v YA5]
def tys135:List Ty:=[.bool]
def kds135:List RK:=[]
def oks135:List AT:=owns sig135
def P135 (x0:ByteArray×Int×Int×Int×Unit):Prop:=True
def g135_0 (x0:ByteArray×Int×Int×Int×Unit):Bool:=(if (g163_0 x0.1)=true then (if (g134_0 x0.2.1 1 200)=true then (if (g134_0 x0.2.2.1 0 40)=true then g136_0 x0.2.2.2.1 else false) else false) else false)
theorem at135 (x0:ByteArray×Int×Int×Int×Unit) (h:P135 x0) (K:Ctx) (q:Nat→Value):AtV Tryz.prog 135 (PostR kds135 oks135 [⟨.bool,g135_0 x0⟩] [] [] q K) 21 K q [] [.code b135] (entE 0 0 sig135 (x0,())) (entL sig135 (x0,())):=by
 unfold P135 at h
 unfold g135_0
 by_cases b0:(g163_0 x0.1)=true
 ·try simp only [if_pos b0] at h ⊢
  by_cases b1:(g134_0 x0.2.1 1 200)=true
  ·try simp only [if_pos b1] at h ⊢
   by_cases b2:(g134_0 x0.2.2.1 0 40)=true
   ·try simp only [if_pos b2] at h ⊢
    exact AtV.ret Tryz.func135 tabOk ext135Ok mixed false [] tys135 [true,true,true] (a1 trivial (a1 b0 (a1 trivial (a1 b1 (a1 trivial (a1 b2 (a1 trivial trivial))))))) (by kernel_rfl)
   ·try simp only [if_neg b2] at h ⊢
    replace b2:=bf_ b2
    exact AtV.ret Tryz.func135 tabOk ext135Ok mixed false [] tys135 [true,true,false] (a1 trivial (a1 b0 (a1 trivial (a1 b1 (a1 trivial (a1 b2 trivial)))))) (by kernel_rfl)
  ·try simp only [if_neg b1] at h ⊢
   replace b1:=bf_ b1
   exact AtV.ret Tryz.func135 tabOk ext135Ok mixed false [] tys135 [true,false,false] (a1 trivial (a1 b0 (a1 trivial (a1 b1 (a1 (rfl:false=false) trivial))))) (by kernel_rfl)
 ·try simp only [if_neg b0] at h ⊢
  replace b0:=bf_ b0
  exact AtV.ret Tryz.func135 tabOk ext135Ok mixed false [] tys135 [false,false,false] (a1 trivial (a1 b0 (a1 (rfl:false=false) (a1 (rfl:false=false) trivial)))) (by kernel_rfl)
def S135:Am.Spec:={ sig:=sig135,pre:=fun ⟨x0,_⟩=>P135 x0,res:=fun ⟨x0,_⟩=>[⟨.bool,g135_0 x0⟩],kds:=kds135 }
theorem con135:Contract Tryz.prog 135 S135:=contract_of Tryz.func135 hb135 (bl_ (by kernel_rfl)) (fun ⟨x0,_⟩ h _ K q=>at135 x0 h K q)
end
noncomputable section
def ext107:Ext:=[(135,S135)]
theorem ext107Ok:ExtOk Tryz.prog ext107:=⟨⟨ca135,con135⟩,trivial⟩
def b107:Code:=bodyOf Tryz.f107
theorem hb107:Tryz.f107.body=some b107:=by kernel_rfl
def sig107:List AT:=[AT.v (.sl YA5)]
def tys107:List Ty:=[.bool]
def kds107:List RK:=[]
def oks107:List AT:=owns sig107
def E107_2 (v7:Int) (x0:List TyB1):Env:=[(0,.a (.sl YA5 x0)),(5,.a (.sl YA5 x0)),(6,.a (.val (.int .i64 (x0.length:Int)))),(7,.a (.val (.int .i64 v7)))]
def L107_2 (v7:Int) (x0:List TyB1):Heap:=[]
mutual
def R107:Nat→List TyB1→List Dyn→Prop
 | 0,_,_=>False
 | n+1,x0,ds=>(R107_2 n (0) (x0) ds)
def R107_2:Nat→Int→List TyB1→List Dyn→Prop
 | 0,_,_,_=>False
 | n+1,v7,x0,ds=>(if (decide (v7<(x0.length:Int)))=true then ((0≤v7)∧(v7<(x0.length:Int))∧(if (!g135_0 (List.getD x0 (Int.toNat v7) (ByteArray.empty,0,0,0,())))=true then (ds=[Dyn.mk .bool false]) else (if (decide (v7>0))=true then ((InR .i64 (v7 - 1))∧((0≤v7 - 1)∧(v7 - 1<(x0.length:Int))∧(if (Op.bytesLess (ByteArray.toList (List.getD x0 (Int.toNat v7) (ByteArray.empty,0,0,0,())).1) (ByteArray.toList (List.getD x0 (Int.toNat (v7 - 1)) (ByteArray.empty,0,0,0,())).1)||ByteArray.toList (List.getD x0 (Int.toNat v7) (ByteArray.empty,0,0,0,())).1==ByteArray.toList (List.getD x0 (Int.toNat (v7 - 1)) (ByteArray.empty,0,0,0,())).1)=true then (ds=[Dyn.mk .bool false]) else ((InR .i64 (v7+1))∧(R107_2 n (v7+1) (x0) ds))))) else ((InR .i64 (v7+1))∧(R107_2 n (v7+1) (x0) ds))))) else (ds=[Dyn.mk .bool (decide ((x0.length:Int)≤12))]))
end
theorem snd107:∀ n,(∀ (x0:List TyB1) ds,R107 n x0 ds→∀ K q,AtV Tryz.prog 107 (PostR kds107 oks107 ds [] [] q K) 34 K q [] [.code b107] (entE 0 0 sig107 (x0,())) (entL sig107 (x0,())))∧(∀ (v7:Int) (x0:List TyB1) ds,R107_2 n v7 x0 ds→∀ K q,AtV Tryz.prog 107 (PostR kds107 oks107 ds [] [] q K) 34 K q [] (cutAt b107 2) (E107_2 v7 x0) (L107_2 v7 x0)):=by
 intro n
 induction n with
 | zero=>exact ⟨fun _ _ h=>by simp only [R107] at h,fun _ _ _ h=>by simp only [R107_2] at h⟩
 | succ n ih =>
 obtain ⟨ih,ih2⟩:=ih
 refine ⟨?_,?_⟩
 ·intro x0 ds h K q
  rw [R107] at h
  exact AtV.go tabOk ext107Ok mixed false [] [] [0,5,6,7] [] [] trivial (ih2 _ _ _ h K q) (by kernel_rfl)
 ·intro v7 x0 ds h K q
  rw [R107_2] at h
  by_cases b0:(decide (v7<(x0.length:Int)))=true
  ·rw [if_pos b0] at h
   obtain ⟨s0,s1,h⟩:=h
   by_cases b1:(!g135_0 (List.getD x0 (Int.toNat v7) (ByteArray.empty,0,0,0,())))=true
   ·rw [if_pos b1] at h
    subst h
    exact AtV.ret Tryz.func107 tabOk ext107Ok mixed false [] tys107 [true,true,true] (a1 b0 (a1 s0 (a1 s1 (a1 trivial (a1 b1 (a1 (rfl:true=true) trivial)))))) (by kernel_rfl)
   ·rw [if_neg b1] at h
    replace b1:=bf_ b1
    by_cases b2:(decide (v7>0))=true
    ·rw [if_pos b2] at h
     obtain ⟨s2,h⟩:=h
     obtain ⟨s3,s4,h⟩:=h
     by_cases b3:(Op.bytesLess (ByteArray.toList (List.getD x0 (Int.toNat v7) (ByteArray.empty,0,0,0,())).1) (ByteArray.toList (List.getD x0 (Int.toNat (v7 - 1)) (ByteArray.empty,0,0,0,())).1)||ByteArray.toList (List.getD x0 (Int.toNat v7) (ByteArray.empty,0,0,0,())).1==ByteArray.toList (List.getD x0 (Int.toNat (v7 - 1)) (ByteArray.empty,0,0,0,())).1)=true
     ·rw [if_pos b3] at h
      subst h
      exact AtV.ret Tryz.func107 tabOk ext107Ok mixed false [] tys107 [true,false,true,true] (a1 b0 (a1 s0 (a1 s1 (a1 trivial (a1 b1 (a1 b2 (a1 s2 (a1 s3 (a1 s4 (a1 b3 trivial)))))))))) (by kernel_rfl)
     ·rw [if_neg b3] at h
      replace b3:=bf_ b3
      obtain ⟨s5,h⟩:=h
      exact AtV.go tabOk ext107Ok mixed false [] [] [0,5,6,7] [] [true,false,true,false] (a1 b0 (a1 s0 (a1 s1 (a1 trivial (a1 b1 (a1 b2 (a1 s2 (a1 s3 (a1 s4 (a1 b3 (a1 s5 trivial))))))))))) (ih2 _ _ _ h K q) (by kernel_rfl)
    ·rw [if_neg b2] at h
     replace b2:=bf_ b2
     obtain ⟨s2,h⟩:=h
     exact AtV.go tabOk ext107Ok mixed false [] [] [0,5,6,7] [] [true,false,false,false] (a1 b0 (a1 s0 (a1 s1 (a1 trivial (a1 b1 (a1 b2 (a1 (rfl:false=false) (a1 s2 trivial)))))))) (ih2 _ _ _ h K q) (by kernel_rfl)
  ·rw [if_neg b0] at h
   replace b0:=bf_ b0
   subst h
   exact AtV.ret Tryz.func107 tabOk ext107Ok mixed false [] tys107 [false] (a1 b0 trivial) (by kernel_rfl)
def ok107 (x0:List TyB1) (i:Nat) (x:TyB1):Bool :=
 g135_0 x&&(i==0 || !(Op.bytesLess (ByteArray.toList x.1) (ByteArray.toList (x0.getD (i - 1) (ByteArray.empty,(0:Int),(0:Int),(0:Int),())).1)||ByteArray.toList x.1==ByteArray.toList (x0.getD (i - 1) (ByteArray.empty,(0:Int),(0:Int),(0:Int),())).1))
def g107_0 (x0:List TyB1):Bool:=allI (ok107 x0) 0 x0&&decide (x0.length≤12)
def P107 (x0:List TyB1):Prop:=True
theorem step107 (n i : Nat) (x0 : List TyB1) (hm : x0.length ≤ maxLen) (hi : i < x0.length) (ds : List Dyn) :
    (if ok107 x0 i (x0.getD i (ByteArray.empty, (0 : Int), (0 : Int), (0 : Int), ())) = true then R107_2 n ((i : Int) + 1) x0 ds else ds = [⟨.bool, false⟩]) → R107_2 (n + 1) (i : Int) x0 ds := by
  intro h
  have hu := inR_up hm hi
  rw [R107_2, if_pos (by simp; omega)]
  refine ⟨by omega, by omega, ?_⟩
  simp only [Int.toNat_natCast]
  unfold ok107 at h
  by_cases h1 : g135_0 (x0.getD i (ByteArray.empty, (0 : Int), (0 : Int), (0 : Int), ())) = true
  case neg =>
    have h1 := bf_ h1
    rw [h1] at h
    rw [if_pos (by rw [h1]; rfl)]
    simpa using h
  case pos =>
    rw [h1] at h
    rw [if_neg (by rw [h1]; simp)]
    by_cases h0 : (i : Int) > 0
    · rw [if_pos (by simpa using h0)]
      have hi0 : (i == 0) = false := by simp; omega
      have e : ((i : Int) - 1).toNat = i - 1 := by omega
      refine ⟨by rw [i64_iff]; have : maxLen ≤ 9223372036854775807 := by decide
                 omega, by omega, by omega, ?_⟩
      rw [e]
      by_cases h2 : (Op.bytesLess (ByteArray.toList (x0.getD i (ByteArray.empty, (0 : Int), (0 : Int), (0 : Int), ())).1) (ByteArray.toList (x0.getD (i - 1) (ByteArray.empty, (0 : Int), (0 : Int), (0 : Int), ())).1) || ByteArray.toList (x0.getD i (ByteArray.empty, (0 : Int), (0 : Int), (0 : Int), ())).1 == ByteArray.toList (x0.getD (i - 1) (ByteArray.empty, (0 : Int), (0 : Int), (0 : Int), ())).1) = true
      · rw [if_pos h2]
        rw [hi0, h2] at h
        simpa using h
      · rw [if_neg h2]
        rw [hi0, bf_ h2] at h
        exact ⟨hu, by simpa using h⟩
    · rw [if_neg (by simpa using h0)]
      have hi0 : (i == 0) = true := by simp; omega
      rw [hi0] at h
      exact ⟨hu, by simpa using h⟩
theorem top107 (x0:List TyB1) (hw:x0.length≤maxLen):R107 (x0.length+1+1) x0 [⟨.bool,g107_0 x0⟩]:=by
 rw [R107]
 have key:=loop_testI x0 (ByteArray.empty,(0:Int),(0:Int),(0:Int),()) (ok107 x0) [(⟨.bool,false⟩:Dyn)] [⟨.bool,decide (x0.length≤12)⟩] (fun n i ds=>R107_2 n i x0 ds) (fun n => ?_) (fun n i hi hok ds hr => ?_) (fun n i hi hok => ?_)
 ·unfold g107_0
  cases h:allI (ok107 x0) 0 x0 with
  | true=>rw [if_pos h] at key;simpa using key
  | false=>rw [if_neg (by rw [h];simp)] at key;simpa using key
 ·rw [R107_2,if_neg (by simp)]
  have hc:decide ((x0.length:Int)≤12)=decide (x0.length≤12):=by
   congr 1;exact propext ⟨fun h=>by omega,fun h=>by omega⟩
  rw [hc]
 ·exact step107 n i x0 hw hi ds (by rw [if_pos hok];exact hr)
 ·exact step107 n i x0 hw hi _ (by rw [if_neg (by rw [hok];simp)])
def S107:Am.Spec:={ sig:=sig107,pre:=fun ⟨x0,_⟩=>P107 x0,res:=fun ⟨x0,_⟩=>[⟨.bool,g107_0 x0⟩] }
theorem con107:Contract Tryz.prog 107 S107:=contract_of Tryz.func107 hb107 (bl_ (by kernel_rfl)) (fun ⟨x0,_⟩ h hwf K q =>
 (snd107 _).1 x0 _ (top107 x0 hwf.1.1) K q)
end
noncomputable section
def ext108:Ext:=[(134,S134),(136,S136)]
theorem ext108Ok:ExtOk Tryz.prog ext108:=⟨⟨ca134,con134⟩,⟨ca136,con136⟩,trivial⟩
def b108:Code:=bodyOf Tryz.f108
theorem hb108:Tryz.f108.body=some b108:=by kernel_rfl
def sig108:List AT:=[AT.v YA7]
def tys108:List Ty:=[.bool]
def kds108:List RK:=[]
def oks108:List AT:=owns sig108
def P108 (x0:Int×Int×Int×Unit):Prop:=True
def g108_0 (x0:Int×Int×Int×Unit):Bool:=(if (g134_0 x0.1 0 200)=true then (if (g134_0 x0.2.1 0 40)=true then g136_0 x0.2.2.1 else false) else false)
theorem at108 (x0:Int×Int×Int×Unit) (h:P108 x0) (K:Ctx) (q:Nat→Value):AtV Tryz.prog 108 (PostR kds108 oks108 [⟨.bool,g108_0 x0⟩] [] [] q K) 16 K q [] [.code b108] (entE 0 0 sig108 (x0,())) (entL sig108 (x0,())):=by
 unfold P108 at h
 unfold g108_0
 by_cases b0:(g134_0 x0.1 0 200)=true
 ·try simp only [if_pos b0] at h ⊢
  by_cases b1:(g134_0 x0.2.1 0 40)=true
  ·try simp only [if_pos b1] at h ⊢
   exact AtV.ret Tryz.func108 tabOk ext108Ok mixed false [] tys108 [true,true] (a1 trivial (a1 b0 (a1 trivial (a1 b1 (a1 trivial trivial))))) (by kernel_rfl)
  ·try simp only [if_neg b1] at h ⊢
   replace b1:=bf_ b1
   exact AtV.ret Tryz.func108 tabOk ext108Ok mixed false [] tys108 [true,false] (a1 trivial (a1 b0 (a1 trivial (a1 b1 trivial)))) (by kernel_rfl)
 ·try simp only [if_neg b0] at h ⊢
  replace b0:=bf_ b0
  exact AtV.ret Tryz.func108 tabOk ext108Ok mixed false [] tys108 [false,false] (a1 trivial (a1 b0 (a1 (rfl:false=false) trivial))) (by kernel_rfl)
def S108:Am.Spec:={ sig:=sig108,pre:=fun ⟨x0,_⟩=>P108 x0,res:=fun ⟨x0,_⟩=>[⟨.bool,g108_0 x0⟩],kds:=kds108 }
theorem con108:Contract Tryz.prog 108 S108:=contract_of Tryz.func108 hb108 (bl_ (by kernel_rfl)) (fun ⟨x0,_⟩ h _ K q=>at108 x0 h K q)
end
noncomputable section
def ext139:Ext:=[(134,S134)]
theorem ext139Ok:ExtOk Tryz.prog ext139:=⟨⟨ca134,con134⟩,trivial⟩
def b139:Code:=bodyOf Tryz.f139
theorem hb139:Tryz.f139.body=some b139:=by kernel_rfl
def sig139:List AT:=[AT.v (.int .i64)]
def tys139:List Ty:=[.bool]
def kds139:List RK:=[]
def oks139:List AT:=owns sig139
def P139 (x0:Int):Prop:=True
def g139_0 (x0:Int):Bool:=g134_0 x0 0 100000
theorem at139 (x0:Int) (h:P139 x0) (K:Ctx) (q:Nat→Value):AtV Tryz.prog 139 (PostR kds139 oks139 [⟨.bool,g139_0 x0⟩] [] [] q K) 5 K q [] [.code b139] (entE 0 0 sig139 (x0,())) (entL sig139 (x0,())):=by
 unfold P139 at h
 unfold g139_0
 exact AtV.ret Tryz.func139 tabOk ext139Ok mixed false [] tys139 [] (a1 trivial trivial) (by kernel_rfl)
def S139:Am.Spec:={ sig:=sig139,pre:=fun ⟨x0,_⟩=>P139 x0,res:=fun ⟨x0,_⟩=>[⟨.bool,g139_0 x0⟩],kds:=kds139 }
theorem con139:Contract Tryz.prog 139 S139:=contract_of Tryz.func139 hb139 (bl_ (by kernel_rfl)) (fun ⟨x0,_⟩ h _ K q=>at139 x0 h K q)
end
noncomputable section
def ext138:Ext:=[(134,S134)]
theorem ext138Ok:ExtOk Tryz.prog ext138:=⟨⟨ca134,con134⟩,trivial⟩
def b138:Code:=bodyOf Tryz.f138
theorem hb138:Tryz.f138.body=some b138:=by kernel_rfl
def sig138:List AT:=[AT.v (.int .i64)]
def tys138:List Ty:=[.bool]
def kds138:List RK:=[]
def oks138:List AT:=owns sig138
def P138 (x0:Int):Prop:=True
def g138_0 (x0:Int):Bool:=g134_0 x0 0 1000000
theorem at138 (x0:Int) (h:P138 x0) (K:Ctx) (q:Nat→Value):AtV Tryz.prog 138 (PostR kds138 oks138 [⟨.bool,g138_0 x0⟩] [] [] q K) 5 K q [] [.code b138] (entE 0 0 sig138 (x0,())) (entL sig138 (x0,())):=by
 unfold P138 at h
 unfold g138_0
 exact AtV.ret Tryz.func138 tabOk ext138Ok mixed false [] tys138 [] (a1 trivial trivial) (by kernel_rfl)
def S138:Am.Spec:={ sig:=sig138,pre:=fun ⟨x0,_⟩=>P138 x0,res:=fun ⟨x0,_⟩=>[⟨.bool,g138_0 x0⟩],kds:=kds138 }
theorem con138:Contract Tryz.prog 138 S138:=contract_of Tryz.func138 hb138 (bl_ (by kernel_rfl)) (fun ⟨x0,_⟩ h _ K q=>at138 x0 h K q)
end
end Go.Proofs.YtmfkgabclbbdhaaGreatDoor
