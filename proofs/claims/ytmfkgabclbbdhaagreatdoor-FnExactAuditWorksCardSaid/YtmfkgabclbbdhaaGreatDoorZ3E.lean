/- Several texts in one: the functions that this law reaches, and their laws. -/
import Derived.Test.YtmfkgabclbbdhaaGreatDoorZ3A
import Derived.Test.YtmfkgabclbbdhaaGreatDoorZ3B
import Derived.Test.YtmfkgabclbbdhaaGreatDoorZ3C
import Derived.Test.YtmfkgabclbbdhaaGreatDoorZ3D
import Derived.Shelf.Utf8.RuneCount
import Derived.Shelf.Strconv.Itoa0
import Derived.Shelf.Strconv.Itoa1
import Derived.Shelf.LaysM
import Derived.Shelf.Strconv.Itoa2
import Derived.Shelf.Strconv.Itoa3
import Derived.Shelf.Strconv.Itoa4
import Derived.Shelf.Strings.Search1
import Derived.Shelf.Strings.Search2
import Derived.Shelf.Strings.Search3
import Derived.Shelf.Strings.Count
import Derived.Shelf.Strings.Shaped
import Derived.Shelf.Strings.Split
import Derived.Shelf.Strings.SplitShaped
import Derived.Shelf.Unicode.Decode
import Derived.Shelf.Strings.RuneCount
import Derived.Shelf.Strings.Explode
import Derived.Shelf.Unicode.DecodeSlow
import Derived.Shelf.Unicode.DecodeAny
import Derived.Ground.SlgfProg
import Derived.Shelf.SlicesE.IndexFunc
import Derived.WalkKit
import Derived.Lib.Walk
import Derived.Lib.SliceRun
import Derived.Laws.AppendOwn
import Derived.Laws.OwnMore
import Derived.Deep.LoopGhost
import Derived.Shelf.RegionOpenPlain
set_option linter.unusedVariables false
set_option linter.unusedSimpArgs false
set_option maxRecDepth 100000
namespace Go.Proofs.YtmfkgabclbbdhaaGreatDoor
open Go Go.Am Go.Proofs
noncomputable section
def ext164:Ext:=[(163,S163),(134,S134),(139,S139),(138,S138)]
theorem ext164Ok:ExtOk Tryz.prog ext164:=⟨⟨ca163,con163⟩,⟨ca134,con134⟩,⟨ca139,con139⟩,⟨ca138,con138⟩,trivial⟩
def b164:Code:=bodyOf Tryz.f164
theorem hb164:Tryz.f164.body=some b164:=by kernel_rfl
def sig164:List AT:=[AT.v YA3]
def tys164:List Ty:=[.bool]
def kds164:List RK:=[]
def oks164:List AT:=owns sig164
def P164 (x0:ByteArray×Int×Int×Int×Int×Unit):Prop:=True
def g164_0 (x0:ByteArray×Int×Int×Int×Int×Unit):Bool:=(if (g163_0 x0.1)=true then (if (g134_0 x0.2.1 1 100000)=true then (if (g134_0 x0.2.2.1 1 1000000)=true then (if (g139_0 x0.2.2.2.1)=true then g138_0 x0.2.2.2.2.1 else false) else false) else false) else false)
theorem at164 (x0:ByteArray×Int×Int×Int×Int×Unit) (h:P164 x0) (K:Ctx) (q:Nat→Value):AtV Tryz.prog 164 (PostR kds164 oks164 [⟨.bool,g164_0 x0⟩] [] [] q K) 26 K q [] [.code b164] (entE 0 0 sig164 (x0,())) (entL sig164 (x0,())):=by
 unfold P164 at h
 unfold g164_0
 by_cases b0:(g163_0 x0.1)=true
 ·try simp only [if_pos b0] at h ⊢
  by_cases b1:(g134_0 x0.2.1 1 100000)=true
  ·try simp only [if_pos b1] at h ⊢
   by_cases b2:(g134_0 x0.2.2.1 1 1000000)=true
   ·try simp only [if_pos b2] at h ⊢
    by_cases b3:(g139_0 x0.2.2.2.1)=true
    ·try simp only [if_pos b3] at h ⊢
     exact AtV.ret Tryz.func164 tabOk ext164Ok mixed false [] tys164 [true,true,true,true] (a1 trivial (a1 b0 (a1 trivial (a1 b1 (a1 trivial (a1 b2 (a1 trivial (a1 b3 (a1 trivial trivial))))))))) (by kernel_rfl)
    ·try simp only [if_neg b3] at h ⊢
     replace b3:=bf_ b3
     exact AtV.ret Tryz.func164 tabOk ext164Ok mixed false [] tys164 [true,true,true,false] (a1 trivial (a1 b0 (a1 trivial (a1 b1 (a1 trivial (a1 b2 (a1 trivial (a1 b3 trivial)))))))) (by kernel_rfl)
   ·try simp only [if_neg b2] at h ⊢
    replace b2:=bf_ b2
    exact AtV.ret Tryz.func164 tabOk ext164Ok mixed false [] tys164 [true,true,false,false] (a1 trivial (a1 b0 (a1 trivial (a1 b1 (a1 trivial (a1 b2 (a1 (rfl:false=false) trivial))))))) (by kernel_rfl)
  ·try simp only [if_neg b1] at h ⊢
   replace b1:=bf_ b1
   exact AtV.ret Tryz.func164 tabOk ext164Ok mixed false [] tys164 [true,false,false,false] (a1 trivial (a1 b0 (a1 trivial (a1 b1 (a1 (rfl:false=false) (a1 (rfl:false=false) trivial)))))) (by kernel_rfl)
 ·try simp only [if_neg b0] at h ⊢
  replace b0:=bf_ b0
  exact AtV.ret Tryz.func164 tabOk ext164Ok mixed false [] tys164 [false,false,false,false] (a1 trivial (a1 b0 (a1 (rfl:false=false) (a1 (rfl:false=false) (a1 (rfl:false=false) trivial))))) (by kernel_rfl)
def S164:Am.Spec:={ sig:=sig164,pre:=fun ⟨x0,_⟩=>P164 x0,res:=fun ⟨x0,_⟩=>[⟨.bool,g164_0 x0⟩],kds:=kds164 }
theorem con164:Contract Tryz.prog 164 S164:=contract_of Tryz.func164 hb164 (bl_ (by kernel_rfl)) (fun ⟨x0,_⟩ h _ K q=>at164 x0 h K q)
end
noncomputable section
def ext137:Ext:=[(164,S164)]
theorem ext137Ok:ExtOk Tryz.prog ext137:=⟨⟨ca164,con164⟩,trivial⟩
def b137:Code:=bodyOf Tryz.f137
theorem hb137:Tryz.f137.body=some b137:=by kernel_rfl
def sig137:List AT:=[AT.v (.sl YA3)]
def tys137:List Ty:=[.bool]
def kds137:List RK:=[]
def oks137:List AT:=owns sig137
def E137_2 (v7:Int) (x0:List TyB0):Env:=[(0,.a (.sl YA3 x0)),(5,.a (.sl YA3 x0)),(6,.a (.val (.int .i64 (x0.length:Int)))),(7,.a (.val (.int .i64 v7)))]
def L137_2 (v7:Int) (x0:List TyB0):Heap:=[]
mutual
def R137:Nat→List TyB0→List Dyn→Prop
 | 0,_,_=>False
 | n+1,x0,ds=>(R137_2 n (0) (x0) ds)
def R137_2:Nat→Int→List TyB0→List Dyn→Prop
 | 0,_,_,_=>False
 | n+1,v7,x0,ds=>(if (decide (v7<(x0.length:Int)))=true then ((0≤v7)∧(v7<(x0.length:Int))∧(if (!g164_0 (List.getD x0 (Int.toNat v7) (ByteArray.empty,0,0,0,0,())))=true then (ds=[Dyn.mk .bool false]) else (if (decide (v7>0))=true then ((InR .i64 (v7 - 1))∧((0≤v7 - 1)∧(v7 - 1<(x0.length:Int))∧(if (Op.bytesLess (ByteArray.toList (List.getD x0 (Int.toNat v7) (ByteArray.empty,0,0,0,0,())).1) (ByteArray.toList (List.getD x0 (Int.toNat (v7 - 1)) (ByteArray.empty,0,0,0,0,())).1)||ByteArray.toList (List.getD x0 (Int.toNat v7) (ByteArray.empty,0,0,0,0,())).1==ByteArray.toList (List.getD x0 (Int.toNat (v7 - 1)) (ByteArray.empty,0,0,0,0,())).1)=true then (ds=[Dyn.mk .bool false]) else ((InR .i64 (v7+1))∧(R137_2 n (v7+1) (x0) ds))))) else ((InR .i64 (v7+1))∧(R137_2 n (v7+1) (x0) ds))))) else (ds=[Dyn.mk .bool (decide ((x0.length:Int)≤16))]))
end
theorem snd137:∀ n,(∀ (x0:List TyB0) ds,R137 n x0 ds→∀ K q,AtV Tryz.prog 137 (PostR kds137 oks137 ds [] [] q K) 34 K q [] [.code b137] (entE 0 0 sig137 (x0,())) (entL sig137 (x0,())))∧(∀ (v7:Int) (x0:List TyB0) ds,R137_2 n v7 x0 ds→∀ K q,AtV Tryz.prog 137 (PostR kds137 oks137 ds [] [] q K) 34 K q [] (cutAt b137 2) (E137_2 v7 x0) (L137_2 v7 x0)):=by
 intro n
 induction n with
 | zero=>exact ⟨fun _ _ h=>by simp only [R137] at h,fun _ _ _ h=>by simp only [R137_2] at h⟩
 | succ n ih =>
 obtain ⟨ih,ih2⟩:=ih
 refine ⟨?_,?_⟩
 ·intro x0 ds h K q
  rw [R137] at h
  exact AtV.go tabOk ext137Ok mixed false [] [] [0,5,6,7] [] [] trivial (ih2 _ _ _ h K q) (by kernel_rfl)
 ·intro v7 x0 ds h K q
  rw [R137_2] at h
  by_cases b0:(decide (v7<(x0.length:Int)))=true
  ·rw [if_pos b0] at h
   obtain ⟨s0,s1,h⟩:=h
   by_cases b1:(!g164_0 (List.getD x0 (Int.toNat v7) (ByteArray.empty,0,0,0,0,())))=true
   ·rw [if_pos b1] at h
    subst h
    exact AtV.ret Tryz.func137 tabOk ext137Ok mixed false [] tys137 [true,true,true] (a1 b0 (a1 s0 (a1 s1 (a1 trivial (a1 b1 (a1 (rfl:true=true) trivial)))))) (by kernel_rfl)
   ·rw [if_neg b1] at h
    replace b1:=bf_ b1
    by_cases b2:(decide (v7>0))=true
    ·rw [if_pos b2] at h
     obtain ⟨s2,h⟩:=h
     obtain ⟨s3,s4,h⟩:=h
     by_cases b3:(Op.bytesLess (ByteArray.toList (List.getD x0 (Int.toNat v7) (ByteArray.empty,0,0,0,0,())).1) (ByteArray.toList (List.getD x0 (Int.toNat (v7 - 1)) (ByteArray.empty,0,0,0,0,())).1)||ByteArray.toList (List.getD x0 (Int.toNat v7) (ByteArray.empty,0,0,0,0,())).1==ByteArray.toList (List.getD x0 (Int.toNat (v7 - 1)) (ByteArray.empty,0,0,0,0,())).1)=true
     ·rw [if_pos b3] at h
      subst h
      exact AtV.ret Tryz.func137 tabOk ext137Ok mixed false [] tys137 [true,false,true,true] (a1 b0 (a1 s0 (a1 s1 (a1 trivial (a1 b1 (a1 b2 (a1 s2 (a1 s3 (a1 s4 (a1 b3 trivial)))))))))) (by kernel_rfl)
     ·rw [if_neg b3] at h
      replace b3:=bf_ b3
      obtain ⟨s5,h⟩:=h
      exact AtV.go tabOk ext137Ok mixed false [] [] [0,5,6,7] [] [true,false,true,false] (a1 b0 (a1 s0 (a1 s1 (a1 trivial (a1 b1 (a1 b2 (a1 s2 (a1 s3 (a1 s4 (a1 b3 (a1 s5 trivial))))))))))) (ih2 _ _ _ h K q) (by kernel_rfl)
    ·rw [if_neg b2] at h
     replace b2:=bf_ b2
     obtain ⟨s2,h⟩:=h
     exact AtV.go tabOk ext137Ok mixed false [] [] [0,5,6,7] [] [true,false,false,false] (a1 b0 (a1 s0 (a1 s1 (a1 trivial (a1 b1 (a1 b2 (a1 (rfl:false=false) (a1 s2 trivial)))))))) (ih2 _ _ _ h K q) (by kernel_rfl)
  ·rw [if_neg b0] at h
   replace b0:=bf_ b0
   subst h
   exact AtV.ret Tryz.func137 tabOk ext137Ok mixed false [] tys137 [false] (a1 b0 trivial) (by kernel_rfl)
def ok137 (x0:List TyB0) (i:Nat) (x:TyB0):Bool :=
 g164_0 x&&(i==0 || !(Op.bytesLess (ByteArray.toList x.1) (ByteArray.toList (x0.getD (i - 1) (ByteArray.empty,(0:Int),(0:Int),(0:Int),(0:Int),())).1)||ByteArray.toList x.1==ByteArray.toList (x0.getD (i - 1) (ByteArray.empty,(0:Int),(0:Int),(0:Int),(0:Int),())).1))
def g137_0 (x0:List TyB0):Bool:=allI (ok137 x0) 0 x0&&decide (x0.length≤16)
def P137 (x0:List TyB0):Prop:=True
theorem step137 (n i : Nat) (x0 : List TyB0) (hm : x0.length ≤ maxLen) (hi : i < x0.length) (ds : List Dyn) :
    (if ok137 x0 i (x0.getD i (ByteArray.empty, (0 : Int), (0 : Int), (0 : Int), (0 : Int), ())) = true then R137_2 n ((i : Int) + 1) x0 ds else ds = [⟨.bool, false⟩]) → R137_2 (n + 1) (i : Int) x0 ds := by
  intro h
  have hu := inR_up hm hi
  rw [R137_2, if_pos (by simp; omega)]
  refine ⟨by omega, by omega, ?_⟩
  simp only [Int.toNat_natCast]
  unfold ok137 at h
  by_cases h1 : g164_0 (x0.getD i (ByteArray.empty, (0 : Int), (0 : Int), (0 : Int), (0 : Int), ())) = true
  case neg =>
    have h1 := bf_ h1
    rw [h1] at h
    rw [if_pos (by rw [h1]; rfl)]
    simpa using h
  case pos =>
    rw [h1] at h
    rw [if_neg (by rw [h1]; simp)]
    by_cases h0 : (i : Int) > 0
    · rw [if_pos (by simpa using h0)]
      have hi0 : (i == 0) = false := by simp; omega
      have e : ((i : Int) - 1).toNat = i - 1 := by omega
      refine ⟨by rw [i64_iff]; have : maxLen ≤ 9223372036854775807 := by decide
                 omega, by omega, by omega, ?_⟩
      rw [e]
      by_cases h2 : (Op.bytesLess (ByteArray.toList (x0.getD i (ByteArray.empty, (0 : Int), (0 : Int), (0 : Int), (0 : Int), ())).1) (ByteArray.toList (x0.getD (i - 1) (ByteArray.empty, (0 : Int), (0 : Int), (0 : Int), (0 : Int), ())).1) || ByteArray.toList (x0.getD i (ByteArray.empty, (0 : Int), (0 : Int), (0 : Int), (0 : Int), ())).1 == ByteArray.toList (x0.getD (i - 1) (ByteArray.empty, (0 : Int), (0 : Int), (0 : Int), (0 : Int), ())).1) = true
      · rw [if_pos h2]
        rw [hi0, h2] at h
        simpa using h
      · rw [if_neg h2]
        rw [hi0, bf_ h2] at h
        exact ⟨hu, by simpa using h⟩
    · rw [if_neg (by simpa using h0)]
      have hi0 : (i == 0) = true := by simp; omega
      rw [hi0] at h
      exact ⟨hu, by simpa using h⟩
theorem top137 (x0:List TyB0) (hw:x0.length≤maxLen):R137 (x0.length+1+1) x0 [⟨.bool,g137_0 x0⟩]:=by
 rw [R137]
 have key:=loop_testI x0 (ByteArray.empty,(0:Int),(0:Int),(0:Int),(0:Int),()) (ok137 x0) [(⟨.bool,false⟩:Dyn)] [⟨.bool,decide (x0.length≤16)⟩] (fun n i ds=>R137_2 n i x0 ds) (fun n => ?_) (fun n i hi hok ds hr => ?_) (fun n i hi hok => ?_)
 ·unfold g137_0
  cases h:allI (ok137 x0) 0 x0 with
  | true=>rw [if_pos h] at key;simpa using key
  | false=>rw [if_neg (by rw [h];simp)] at key;simpa using key
 ·rw [R137_2,if_neg (by simp)]
  have hc:decide ((x0.length:Int)≤16)=decide (x0.length≤16):=by
   congr 1;exact propext ⟨fun h=>by omega,fun h=>by omega⟩
  rw [hc]
 ·exact step137 n i x0 hw hi ds (by rw [if_pos hok];exact hr)
 ·exact step137 n i x0 hw hi _ (by rw [if_neg (by rw [hok];simp)])
def S137:Am.Spec:={ sig:=sig137,pre:=fun ⟨x0,_⟩=>P137 x0,res:=fun ⟨x0,_⟩=>[⟨.bool,g137_0 x0⟩] }
theorem con137:Contract Tryz.prog 137 S137:=contract_of Tryz.func137 hb137 (bl_ (by kernel_rfl)) (fun ⟨x0,_⟩ h hwf K q =>
 (snd137 _).1 x0 _ (top137 x0 hwf.1.1) K q)
end
noncomputable section
def ext141:Ext:=[]
theorem ext141Ok:ExtOk Tryz.prog ext141:=trivial
def b141:Code:=bodyOf Tryz.f141
theorem hb141:Tryz.f141.body=some b141:=by kernel_rfl
def sig141:List AT:=[AT.v YA3,AT.p (.int .i64),AT.p (.int .i64)]
def tys141:List Ty:=[.bool]
def kds141:List RK:=[]
def oks141:List AT:=owns sig141
def P141 (x0:ByteArray×Int×Int×Int×Int×Unit) (x1:Int) (x2:Int):Prop:=True
def g141_0 (x0:ByteArray×Int×Int×Int×Int×Unit) (x1:Int) (x2:Int):Bool:=(if (decide (x0.2.2.2.1>x1))=true then true else decide (x0.2.2.2.2.1>x2))
theorem at141 (x0:ByteArray×Int×Int×Int×Int×Unit) (x1:Int) (x2:Int) (h:P141 x0 x1 x2) (K:Ctx) (q:Nat→Value):AtV Tryz.prog 141 (PostR kds141 oks141 [⟨.bool,g141_0 x0 x1 x2⟩] [] [] q K) 15 K q [] [.code b141] (entE 0 0 sig141 (x0,x1,x2,())) (entL sig141 (x0,x1,x2,())):=by
 unfold P141 at h
 unfold g141_0
 by_cases b0:(decide (x0.2.2.2.1>x1))=true
 ·try simp only [if_pos b0] at h ⊢
  exact AtV.ret Tryz.func141 tabOk ext141Ok mixed false [] tys141 [true] (a1 b0 trivial) (by kernel_rfl)
 ·try simp only [if_neg b0] at h ⊢
  replace b0:=bf_ b0
  exact AtV.ret Tryz.func141 tabOk ext141Ok mixed false [] tys141 [false] (a1 b0 trivial) (by kernel_rfl)
def S141:Am.Spec:={ sig:=sig141,pre:=fun ⟨x0,x1,x2,_⟩=>P141 x0 x1 x2,res:=fun ⟨x0,x1,x2,_⟩=>[⟨.bool,g141_0 x0 x1 x2⟩],kds:=kds141 }
theorem con141:Contract Tryz.prog 141 S141:=contract_of Tryz.func141 hb141 (bl_ (by kernel_rfl)) (fun ⟨x0,x1,x2,_⟩ h _ K q=>at141 x0 x1 x2 h K q)
end
noncomputable section
def ext165c141:Ext:=[(141,S141)]
theorem ext165c141Ok:ExtOk Tryz.prog ext165c141:=⟨⟨ca141,con141⟩,trivial⟩
def b165c141:Code:=bodyOf Tryz.f165
theorem hb165c141:Tryz.f165.body=some b165c141:=by kernel_rfl
def sig165c141:List AT:=[AT.v (.sl YA3),AT.fn 141 [(true,(.int .i64)),(true,(.int .i64))]]
def tys165c141:List Ty:=[.int .i64]
def kds165c141:List RK:=[]
def oks165c141:List AT:=owns sig165c141
def E165c141_2 (v8:Int) (x0:List TyB0) (x1:Int) (x1c:Int):Env:=[(0,.a (.sl YA3 x0)),(1,PV.fn 141 [Atom.ptr (.int .i64) x1,Atom.ptr (.int .i64) x1c]),(7,.a (.val (.int .i64 (x0.length:Int)))),(8,.a (.val (.int .i64 v8)))]
def L165c141_2 (v8:Int) (x0:List TyB0) (x1:Int) (x1c:Int):Heap:=[]
mutual
def R165c141:Nat→List TyB0→Int→Int→List Dyn→Prop
 | 0,_,_,_,_=>False
 | n+1,x0,x1,x1c,ds=>(R165c141_2 n (0) (x0) (x1) (x1c) ds)
def R165c141_2:Nat→Int→List TyB0→Int→Int→List Dyn→Prop
 | 0,_,_,_,_,_=>False
 | n+1,v8,x0,x1,x1c,ds=>(if (decide (v8<(x0.length:Int)))=true then ((0≤v8)∧(v8<(x0.length:Int))∧(if (g141_0 (List.getD x0 (Int.toNat v8) (ByteArray.empty,0,0,0,0,())) x1 x1c)=true then (ds=[Dyn.mk (.int .i64) v8]) else ((InR .i64 (v8+1))∧(R165c141_2 n (v8+1) (x0) (x1) (x1c) ds)))) else (ds=[Dyn.mk (.int .i64) (-1)]))
end
theorem snd165c141:∀ n,(∀ (x0:List TyB0) (x1:Int) (x1c:Int) ds,R165c141 n x0 x1 x1c ds→∀ K q,AtV Tryz.prog 165 (PostR kds165c141 oks165c141 ds [] [] q K) 19 K q [] [.code b165c141] (entE 0 0 sig165c141 (x0,(x1,x1c,()),())) (entL sig165c141 (x0,(x1,x1c,()),())))∧(∀ (v8:Int) (x0:List TyB0) (x1:Int) (x1c:Int) ds,R165c141_2 n v8 x0 x1 x1c ds→∀ K q,AtV Tryz.prog 165 (PostR kds165c141 oks165c141 ds [] [] q K) 19 K q [] (cutAt b165c141 2) (E165c141_2 v8 x0 x1 x1c) (L165c141_2 v8 x0 x1 x1c)):=by
 intro n
 induction n with
 | zero=>exact ⟨fun _ _ _ _ h=>by simp only [R165c141] at h,fun _ _ _ _ _ h=>by simp only [R165c141_2] at h⟩
 | succ n ih =>
 obtain ⟨ih,ih2⟩:=ih
 refine ⟨?_,?_⟩
 ·intro x0 x1 x1c ds h K q
  rw [R165c141] at h
  exact AtV.go tabOk ext165c141Ok mixed false [] [] [0,1,7,8] [] [] trivial (ih2 _ _ _ _ _ h K q) (by kernel_rfl)
 ·intro v8 x0 x1 x1c ds h K q
  rw [R165c141_2] at h
  by_cases b0:(decide (v8<(x0.length:Int)))=true
  ·rw [if_pos b0] at h
   obtain ⟨s0,s1,h⟩:=h
   by_cases b1:(g141_0 (List.getD x0 (Int.toNat v8) (ByteArray.empty,0,0,0,0,())) x1 x1c)=true
   ·rw [if_pos b1] at h
    subst h
    exact AtV.ret Tryz.func165 tabOk ext165c141Ok mixed false [] tys165c141 [true,true] (a1 b0 (a1 s0 (a1 s1 (a1 trivial (a1 b1 trivial))))) (by kernel_rfl)
   ·rw [if_neg b1] at h
    replace b1:=bf_ b1
    obtain ⟨s2,h⟩:=h
    exact AtV.go tabOk ext165c141Ok mixed false [] [] [0,1,7,8] [] [true,false] (a1 b0 (a1 s0 (a1 s1 (a1 trivial (a1 b1 (a1 s2 trivial)))))) (ih2 _ _ _ _ _ h K q) (by kernel_rfl)
  ·rw [if_neg b0] at h
   replace b0:=bf_ b0
   subst h
   exact AtV.ret Tryz.func165 tabOk ext165c141Ok mixed false [] tys165c141 [false] (a1 b0 trivial) (by kernel_rfl)
def g165c141_0 (x0:List TyB0) (y0:Int) (y1:Int):Int:=idx (x0.findIdx? (fun x=>g141_0 x y0 y1))
def P165c141 (x0:List TyB0) (y0:Int) (y1:Int):Prop:=True
theorem top165c141 (x0:List TyB0) (y0:Int) (y1:Int) (hm:x0.length≤maxLen):R165c141 (x0.length+1+1) x0 y0 y1 [⟨.int .i64,g165c141_0 x0 y0 y1⟩]:=by
 rw [R165c141]
 have key:=loop_find x0 (ByteArray.empty,(0:Int),(0:Int),(0:Int),(0:Int),()) (fun x=>g141_0 x y0 y1) [(⟨.int .i64, -1⟩:Dyn)] (fun k=>[⟨.int .i64,k⟩]) (fun n i ds=>R165c141_2 n i x0 y0 y1 ds) (fun n => ?_) (fun n i hi hok ds hr => ?_) (fun n i hi hok => ?_)
 ·unfold g165c141_0
  cases h:x0.findIdx? (fun x=>g141_0 x y0 y1) <;> rw [h] at key <;> exact key
 ·rw [R165c141_2,if_neg (by simp)]
 ·rw [R165c141_2,if_pos (by simp;omega)]
  simp only [Int.toNat_natCast]
  refine ⟨by omega,by omega,?_⟩
  rw [if_neg (by rw [hok];simp)]
  exact ⟨inR_up hm hi,hr⟩
 ·rw [R165c141_2,if_pos (by simp;omega)]
  simp only [Int.toNat_natCast]
  refine ⟨by omega,by omega,?_⟩
  rw [if_pos hok] <;> trivial
def S165c141:Am.Spec:={ sig:=sig165c141,pre:=fun ⟨x0,⟨y0,y1,_⟩,_⟩=>P165c141 x0 y0 y1,res:=fun ⟨x0,⟨y0,y1,_⟩,_⟩=>[⟨.int .i64,g165c141_0 x0 y0 y1⟩] }
theorem con165c141:Contract Tryz.prog 165 S165c141:=contract_of Tryz.func165 hb165c141 (bl_ (by kernel_rfl)) (fun ⟨x0,⟨y0,y1,_⟩,_⟩ h hwf K q =>
 (snd165c141 _).1 x0 y0 y1 _ (top165c141 x0 y0 y1 hwf.1.1) K q)
theorem any165c141 (x0:List TyB0) (y0:Int) (y1:Int):decide (g165c141_0 x0 y0 y1≥0)=x0.any (fun x=>g141_0 x y0 y1):=by
 have:=findIdx_any (fun x=>g141_0 x y0 y1) x0
 unfold g165c141_0
 cases h:x0.any (fun x=>g141_0 x y0 y1) with
 | true=>rw [h] at this;simpa using this
 | false=>rw [h] at this;simpa using this
end
noncomputable section
def ext140c141:Ext:=[(165,S165c141),(141,S141)]
theorem ext140c141Ok:ExtOk Tryz.prog ext140c141:=⟨⟨ca165,con165c141⟩,⟨ca141,con141⟩,trivial⟩
def b140c141:Code:=bodyOf Tryz.f140
theorem hb140c141:Tryz.f140.body=some b140c141:=by kernel_rfl
def sig140c141:List AT:=[AT.v (.sl YA3),AT.fn 141 [(true,(.int .i64)),(true,(.int .i64))]]
def tys140c141:List Ty:=[.bool]
def kds140c141:List RK:=[]
def oks140c141:List AT:=owns sig140c141
def P140c141 (x0:List TyB0) (x1:Int) (x1c:Int):Prop:=True
def g140c141_0 (x0:List TyB0) (x1:Int) (x1c:Int):Bool:=decide (g165c141_0 x0 x1 x1c≥0)
theorem at140c141 (x0:List TyB0) (x1:Int) (x1c:Int) (h:P140c141 x0 x1 x1c) (K:Ctx) (q:Nat→Value):AtV Tryz.prog 140 (PostR kds140c141 oks140c141 [⟨.bool,g140c141_0 x0 x1 x1c⟩] [] [] q K) 9 K q [] [.code b140c141] (entE 0 0 sig140c141 (x0,(x1,x1c,()),())) (entL sig140c141 (x0,(x1,x1c,()),())):=by
 unfold P140c141 at h
 unfold g140c141_0
 exact AtV.ret Tryz.func140 tabOk ext140c141Ok mixed false [] tys140c141 [] (a1 trivial trivial) (by kernel_rfl)
def S140c141:Am.Spec:={ sig:=sig140c141,pre:=fun ⟨x0,⟨x1,x1c,_⟩,_⟩=>P140c141 x0 x1 x1c,res:=fun ⟨x0,⟨x1,x1c,_⟩,_⟩=>[⟨.bool,g140c141_0 x0 x1 x1c⟩],kds:=kds140c141 }
theorem con140c141:Contract Tryz.prog 140 S140c141:=contract_of Tryz.func140 hb140c141 (bl_ (by kernel_rfl)) (fun ⟨x0,⟨x1,x1c,_⟩,_⟩ h _ K q=>at140c141 x0 x1 x1c h K q)
end
noncomputable section
def ext109:Ext:=[(137,S137),(138,S138),(139,S139),(140,S140c141)]
theorem ext109Ok:ExtOk Tryz.prog ext109:=⟨⟨ca137,con137⟩,⟨ca138,con138⟩,⟨ca139,con139⟩,⟨ca140,con140c141⟩,trivial⟩
def b109:Code:=bodyOf Tryz.f109
theorem hb109:Tryz.f109.body=some b109:=by kernel_rfl
def sig109:List AT:=[AT.v (.sl YA3),AT.v (.int .i64),AT.v (.int .i64),AT.v (.int .i64)]
def tys109:List Ty:=[.int .i64]
def kds109:List RK:=[]
def oks109:List AT:=owns sig109
def P109 (x0:List TyB0) (x1:Int) (x2:Int) (x3:Int):Prop:=True
def g109_0 (x0:List TyB0) (x1:Int) (x2:Int) (x3:Int):Int:=(if (!g137_0 x0)=true then 1 else (if (!g138_0 x3)=true then 2 else (if (!g139_0 x1)=true then 2 else (if (!g138_0 x2)=true then 2 else (if (g140c141_0 x0 x1 x2)=true then 6 else 0)))))
theorem at109 (x0:List TyB0) (x1:Int) (x2:Int) (x3:Int) (h:P109 x0 x1 x2 x3) (K:Ctx) (q:Nat→Value):AtV Tryz.prog 109 (PostR kds109 oks109 [⟨.int .i64,g109_0 x0 x1 x2 x3⟩] [] [] q K) 31 K q [] [.code b109] (entE 0 0 sig109 (x0,x1,x2,x3,())) (entL sig109 (x0,x1,x2,x3,())):=by
 unfold P109 at h
 unfold g109_0
 by_cases b0:(!g137_0 x0)=true
 ·try simp only [if_pos b0] at h ⊢
  exact AtV.ret Tryz.func109 tabOk ext109Ok mixed false [] tys109 [true] (a1 trivial (a1 b0 trivial)) (by kernel_rfl)
 ·try simp only [if_neg b0] at h ⊢
  replace b0:=bf_ b0
  by_cases b1:(!g138_0 x3)=true
  ·try simp only [if_pos b1] at h ⊢
   exact AtV.ret Tryz.func109 tabOk ext109Ok mixed false [] tys109 [false,true,true,true] (a1 trivial (a1 b0 (a1 trivial (a1 b1 (a1 (rfl:true=true) (a1 (rfl:true=true) trivial)))))) (by kernel_rfl)
  ·try simp only [if_neg b1] at h ⊢
   replace b1:=bf_ b1
   by_cases b2:(!g139_0 x1)=true
   ·try simp only [if_pos b2] at h ⊢
    exact AtV.ret Tryz.func109 tabOk ext109Ok mixed false [] tys109 [false,false,true,true] (a1 trivial (a1 b0 (a1 trivial (a1 b1 (a1 trivial (a1 b2 (a1 (rfl:true=true) trivial))))))) (by kernel_rfl)
   ·try simp only [if_neg b2] at h ⊢
    replace b2:=bf_ b2
    by_cases b3:(!g138_0 x2)=true
    ·try simp only [if_pos b3] at h ⊢
     exact AtV.ret Tryz.func109 tabOk ext109Ok mixed false [] tys109 [false,false,false,true] (a1 trivial (a1 b0 (a1 trivial (a1 b1 (a1 trivial (a1 b2 (a1 trivial (a1 b3 trivial)))))))) (by kernel_rfl)
    ·try simp only [if_neg b3] at h ⊢
     replace b3:=bf_ b3
     by_cases b4:(g140c141_0 x0 x1 x2)=true
     ·try simp only [if_pos b4] at h ⊢
      exact AtV.ret Tryz.func109 tabOk ext109Ok mixed false [] tys109 [false,false,false,false,true] (a1 trivial (a1 b0 (a1 trivial (a1 b1 (a1 trivial (a1 b2 (a1 trivial (a1 b3 (a1 trivial (a1 b4 trivial)))))))))) (by kernel_rfl)
     ·try simp only [if_neg b4] at h ⊢
      replace b4:=bf_ b4
      exact AtV.ret Tryz.func109 tabOk ext109Ok mixed false [] tys109 [false,false,false,false,false] (a1 trivial (a1 b0 (a1 trivial (a1 b1 (a1 trivial (a1 b2 (a1 trivial (a1 b3 (a1 trivial (a1 b4 trivial)))))))))) (by kernel_rfl)
def S109:Am.Spec:={ sig:=sig109,pre:=fun ⟨x0,x1,x2,x3,_⟩=>P109 x0 x1 x2 x3,res:=fun ⟨x0,x1,x2,x3,_⟩=>[⟨.int .i64,g109_0 x0 x1 x2 x3⟩],kds:=kds109 }
theorem con109:Contract Tryz.prog 109 S109:=contract_of Tryz.func109 hb109 (bl_ (by kernel_rfl)) (fun ⟨x0,x1,x2,x3,_⟩ h _ K q=>at109 x0 x1 x2 x3 h K q)
end
noncomputable section
def ext111:Ext:=[(134,S134)]
theorem ext111Ok:ExtOk Tryz.prog ext111:=⟨⟨ca134,con134⟩,trivial⟩
def b111:Code:=bodyOf Tryz.f111
theorem hb111:Tryz.f111.body=some b111:=by kernel_rfl
def sig111:List AT:=[AT.v (.int .i64)]
def tys111:List Ty:=[.bool]
def kds111:List RK:=[]
def oks111:List AT:=owns sig111
def P111 (x0:Int):Prop:=True
def g111_0 (x0:Int):Bool:=g134_0 x0 0 1440
theorem at111 (x0:Int) (h:P111 x0) (K:Ctx) (q:Nat→Value):AtV Tryz.prog 111 (PostR kds111 oks111 [⟨.bool,g111_0 x0⟩] [] [] q K) 5 K q [] [.code b111] (entE 0 0 sig111 (x0,())) (entL sig111 (x0,())):=by
 unfold P111 at h
 unfold g111_0
 exact AtV.ret Tryz.func111 tabOk ext111Ok mixed false [] tys111 [] (a1 trivial trivial) (by kernel_rfl)
def S111:Am.Spec:={ sig:=sig111,pre:=fun ⟨x0,_⟩=>P111 x0,res:=fun ⟨x0,_⟩=>[⟨.bool,g111_0 x0⟩],kds:=kds111 }
theorem con111:Contract Tryz.prog 111 S111:=contract_of Tryz.func111 hb111 (bl_ (by kernel_rfl)) (fun ⟨x0,_⟩ h _ K q=>at111 x0 h K q)
end
noncomputable section
def ext142:Ext:=[(111,S111),(134,S134)]
theorem ext142Ok:ExtOk Tryz.prog ext142:=⟨⟨ca111,con111⟩,⟨ca134,con134⟩,trivial⟩
def b142:Code:=bodyOf Tryz.f142
theorem hb142:Tryz.f142.body=some b142:=by kernel_rfl
def sig142:List AT:=[AT.v YA9]
def tys142:List Ty:=[.bool]
def kds142:List RK:=[]
def oks142:List AT:=owns sig142
def P142 (x0:Int×Int×Unit):Prop:=(if (g111_0 x0.1)=true then (if (g134_0 x0.2.1 1 1440)=true then ((InR .i64 (x0.1+x0.2.1))∧True) else True) else True)
def g142_0 (x0:Int×Int×Unit):Bool:=(if (g111_0 x0.1)=true then (if (g134_0 x0.2.1 1 1440)=true then decide (x0.1+x0.2.1≤1440) else false) else false)
theorem at142 (x0:Int×Int×Unit) (h:P142 x0) (K:Ctx) (q:Nat→Value):AtV Tryz.prog 142 (PostR kds142 oks142 [⟨.bool,g142_0 x0⟩] [] [] q K) 19 K q [] [.code b142] (entE 0 0 sig142 (x0,())) (entL sig142 (x0,())):=by
 unfold P142 at h
 unfold g142_0
 by_cases b0:(g111_0 x0.1)=true
 ·try simp only [if_pos b0] at h ⊢
  by_cases b1:(g134_0 x0.2.1 1 1440)=true
  ·try simp only [if_pos b1] at h ⊢
   obtain ⟨s0,h⟩:=h
   exact AtV.ret Tryz.func142 tabOk ext142Ok mixed false [] tys142 [true,true] (a1 trivial (a1 b0 (a1 trivial (a1 b1 (a1 s0 trivial))))) (by kernel_rfl)
  ·try simp only [if_neg b1] at h ⊢
   replace b1:=bf_ b1
   exact AtV.ret Tryz.func142 tabOk ext142Ok mixed false [] tys142 [true,false] (a1 trivial (a1 b0 (a1 trivial (a1 b1 trivial)))) (by kernel_rfl)
 ·try simp only [if_neg b0] at h ⊢
  replace b0:=bf_ b0
  exact AtV.ret Tryz.func142 tabOk ext142Ok mixed false [] tys142 [false,false] (a1 trivial (a1 b0 (a1 (rfl:false=false) trivial))) (by kernel_rfl)
def S142:Am.Spec:={ sig:=sig142,pre:=fun ⟨x0,_⟩=>P142 x0,res:=fun ⟨x0,_⟩=>[⟨.bool,g142_0 x0⟩],kds:=kds142 }
theorem con142:Contract Tryz.prog 142 S142:=contract_of Tryz.func142 hb142 (bl_ (by kernel_rfl)) (fun ⟨x0,_⟩ h _ K q=>at142 x0 h K q)
end
noncomputable section
def ext122:Ext:=[]
theorem ext122Ok:ExtOk Tryz.prog ext122:=trivial
def b122:Code:=bodyOf Tryz.f122
theorem hb122:Tryz.f122.body=some b122:=by kernel_rfl
def sig122:List AT:=[AT.v YA9]
def tys122:List Ty:=[.int .i64]
def kds122:List RK:=[]
def oks122:List AT:=owns sig122
def P122 (x0:Int×Int×Unit):Prop:=((InR .i64 (x0.1+x0.2.1))∧True)
def g122_0 (x0:Int×Int×Unit):Int:=x0.1+x0.2.1
theorem at122 (x0:Int×Int×Unit) (h:P122 x0) (K:Ctx) (q:Nat→Value):AtV Tryz.prog 122 (PostR kds122 oks122 [⟨.int .i64,g122_0 x0⟩] [] [] q K) 8 K q [] [.code b122] (entE 0 0 sig122 (x0,())) (entL sig122 (x0,())):=by
 unfold P122 at h
 unfold g122_0
 obtain ⟨s0,h⟩:=h
 exact AtV.ret Tryz.func122 tabOk ext122Ok mixed false [] tys122 [] (a1 s0 trivial) (by kernel_rfl)
def S122:Am.Spec:={ sig:=sig122,pre:=fun ⟨x0,_⟩=>P122 x0,res:=fun ⟨x0,_⟩=>[⟨.int .i64,g122_0 x0⟩],kds:=kds122 }
theorem con122:Contract Tryz.prog 122 S122:=contract_of Tryz.func122 hb122 (bl_ (by kernel_rfl)) (fun ⟨x0,_⟩ h _ K q=>at122 x0 h K q)
end
noncomputable section
def ext110:Ext:=[(142,S142),(122,S122)]
theorem ext110Ok:ExtOk Tryz.prog ext110:=⟨⟨ca142,con142⟩,⟨ca122,con122⟩,trivial⟩
def b110:Code:=bodyOf Tryz.f110
theorem hb110:Tryz.f110.body=some b110:=by kernel_rfl
def sig110:List AT:=[AT.v (.sl YA9)]
def tys110:List Ty:=[.bool]
def kds110:List RK:=[]
def oks110:List AT:=owns sig110
def E110_2 (v7:Int) (x0:List TyB4):Env:=[(0,.a (.sl YA9 x0)),(5,.a (.sl YA9 x0)),(6,.a (.val (.int .i64 (x0.length:Int)))),(7,.a (.val (.int .i64 v7)))]
def L110_2 (v7:Int) (x0:List TyB4):Heap:=[]
mutual
def R110:Nat→List TyB4→List Dyn→Prop
 | 0,_,_=>False
 | n+1,x0,ds=>(R110_2 n (0) (x0) ds)
def R110_2:Nat→Int→List TyB4→List Dyn→Prop
 | 0,_,_,_=>False
 | n+1,v7,x0,ds=>(if (decide (v7<(x0.length:Int)))=true then ((0≤v7)∧(v7<(x0.length:Int))∧((P142 (List.getD x0 (Int.toNat v7) (0,0,())))∧(if (!g142_0 (List.getD x0 (Int.toNat v7) (0,0,())))=true then (ds=[Dyn.mk .bool false]) else (if (decide (v7>0))=true then ((InR .i64 (v7 - 1))∧((0≤v7 - 1)∧(v7 - 1<(x0.length:Int))∧((P122 (List.getD x0 (Int.toNat (v7 - 1)) (0,0,())))∧(if (decide ((List.getD x0 (Int.toNat v7) (0,0,())).1<g122_0 (List.getD x0 (Int.toNat (v7 - 1)) (0,0,()))))=true then (ds=[Dyn.mk .bool false]) else ((InR .i64 (v7+1))∧(R110_2 n (v7+1) (x0) ds)))))) else ((InR .i64 (v7+1))∧(R110_2 n (v7+1) (x0) ds)))))) else (ds=[Dyn.mk .bool (decide ((x0.length:Int)≤24))]))
end
theorem snd110:∀ n,(∀ (x0:List TyB4) ds,R110 n x0 ds→∀ K q,AtV Tryz.prog 110 (PostR kds110 oks110 ds [] [] q K) 34 K q [] [.code b110] (entE 0 0 sig110 (x0,())) (entL sig110 (x0,())))∧(∀ (v7:Int) (x0:List TyB4) ds,R110_2 n v7 x0 ds→∀ K q,AtV Tryz.prog 110 (PostR kds110 oks110 ds [] [] q K) 34 K q [] (cutAt b110 2) (E110_2 v7 x0) (L110_2 v7 x0)):=by
 intro n
 induction n with
 | zero=>exact ⟨fun _ _ h=>by simp only [R110] at h,fun _ _ _ h=>by simp only [R110_2] at h⟩
 | succ n ih =>
 obtain ⟨ih,ih2⟩:=ih
 refine ⟨?_,?_⟩
 ·intro x0 ds h K q
  rw [R110] at h
  exact AtV.go tabOk ext110Ok mixed false [] [] [0,5,6,7] [] [] trivial (ih2 _ _ _ h K q) (by kernel_rfl)
 ·intro v7 x0 ds h K q
  rw [R110_2] at h
  by_cases b0:(decide (v7<(x0.length:Int)))=true
  ·rw [if_pos b0] at h
   obtain ⟨s0,s1,h⟩:=h
   obtain ⟨s2,h⟩:=h
   by_cases b1:(!g142_0 (List.getD x0 (Int.toNat v7) (0,0,())))=true
   ·rw [if_pos b1] at h
    subst h
    exact AtV.ret Tryz.func110 tabOk ext110Ok mixed false [] tys110 [true,true,true] (a1 b0 (a1 s0 (a1 s1 (a1 s2 (a1 b1 (a1 (rfl:true=true) trivial)))))) (by kernel_rfl)
   ·rw [if_neg b1] at h
    replace b1:=bf_ b1
    by_cases b2:(decide (v7>0))=true
    ·rw [if_pos b2] at h
     obtain ⟨s3,h⟩:=h
     obtain ⟨s4,s5,h⟩:=h
     obtain ⟨s6,h⟩:=h
     by_cases b3:(decide ((List.getD x0 (Int.toNat v7) (0,0,())).1<g122_0 (List.getD x0 (Int.toNat (v7 - 1)) (0,0,()))))=true
     ·rw [if_pos b3] at h
      subst h
      exact AtV.ret Tryz.func110 tabOk ext110Ok mixed false [] tys110 [true,false,true,true] (a1 b0 (a1 s0 (a1 s1 (a1 s2 (a1 b1 (a1 b2 (a1 s3 (a1 s4 (a1 s5 (a1 s6 (a1 b3 trivial))))))))))) (by kernel_rfl)
     ·rw [if_neg b3] at h
      replace b3:=bf_ b3
      obtain ⟨s7,h⟩:=h
      exact AtV.go tabOk ext110Ok mixed false [] [] [0,5,6,7] [] [true,false,true,false] (a1 b0 (a1 s0 (a1 s1 (a1 s2 (a1 b1 (a1 b2 (a1 s3 (a1 s4 (a1 s5 (a1 s6 (a1 b3 (a1 s7 trivial)))))))))))) (ih2 _ _ _ h K q) (by kernel_rfl)
    ·rw [if_neg b2] at h
     replace b2:=bf_ b2
     obtain ⟨s3,h⟩:=h
     exact AtV.go tabOk ext110Ok mixed false [] [] [0,5,6,7] [] [true,false,false,false] (a1 b0 (a1 s0 (a1 s1 (a1 s2 (a1 b1 (a1 b2 (a1 (rfl:false=false) (a1 s3 trivial)))))))) (ih2 _ _ _ h K q) (by kernel_rfl)
  ·rw [if_neg b0] at h
   replace b0:=bf_ b0
   subst h
   exact AtV.ret Tryz.func110 tabOk ext110Ok mixed false [] tys110 [false] (a1 b0 trivial) (by kernel_rfl)
def one110 (x:TyB4):Bool:=g142_0 x
def ok110 (x0:List TyB4) (i:Nat) (x:TyB4):Bool:=one110 x&&(i==0||decide ((x0.getD (i - 1) ((0:Int),(0:Int),())).1+(x0.getD (i - 1) ((0:Int),(0:Int),())).2.1≤x.1))
def g110_0 (x0:List TyB4):Bool:=allI (ok110 x0) 0 x0&&decide ((x0.length:Int)≤24)
def P110 (x0:List TyB4):Prop:=True
theorem in110 {x a b:Int}:g134_0 x a b=true↔a≤x∧x≤b:=by
 unfold g134_0
 by_cases c1:x≥a
 ·by_cases c2:x≤b
  ·simp [c1,c2]
  ·simp [c1,c2]
 ·have:¬ a≤x:=c1
  simp [c1,this]
theorem one110_pre (x:TyB4):P142 x:=by
 unfold P142
 split
 ·rename_i h1
  split
  ·rename_i h2
   have h1:=in110.1 (show g134_0 x.1 0 1440=true from h1)
   have h2:=in110.1 (show g134_0 x.2.1 1 1440=true from h2)
   exact ⟨by rw [i64_iff];omega,trivial⟩
  ·trivial
 ·trivial
theorem one110_b {x:TyB4} (h:one110 x=true):(0≤x.1∧x.1≤1440)∧(1≤x.2.1∧x.2.1≤1440):=by
 unfold one110 g142_0 at h
 split at h
 ·rename_i h0
  split at h
  ·rename_i h1
   exact ⟨in110.1 h0,in110.1 h1⟩
  ·cases h
 ·cases h
theorem run110 (x0:List TyB4) (hm:x0.length≤maxLen):∀ (k i:Nat),i+k=x0.length→(∀ j,j<i→one110 (x0.getD j ((0:Int),(0:Int),()))=true) →
  R110_2 (k+1) (i:Int) x0 [⟨.bool,allI (ok110 x0) i (x0.drop i)&&decide ((x0.length:Int)≤24)⟩]:=by
 intro k
 induction k with
 | zero =>
  intro i hi _
  rw [R110_2,if_neg (by simp only [decide_eq_true_eq];omega),drop_end _ _ (by omega)]
  rfl
 | succ k ih =>
  intro i hi hp
  have hlt:i<x0.length:=by omega
  have hu:=inR_up hm hlt
  have hmx:maxLen≤9223372036854775807:=by decide
  rw [R110_2,if_pos (by simp only [decide_eq_true_eq];omega),drop_get x0 i ((0:Int),(0:Int),()) hlt]
  simp only [Int.toNat_natCast,allI]
  refine ⟨by omega,by omega,one110_pre _,?_⟩
  cases h1:one110 (x0.getD i ((0:Int),(0:Int),())) with
  | false =>
   unfold one110 at h1
   rw [if_pos (by rw [h1];rfl)]
   have:ok110 x0 i (x0.getD i ((0:Int),(0:Int),()))=false:=by unfold ok110 one110;rw [h1];rfl
   rw [this];rfl
  | true =>
   have h1':=h1
   unfold one110 at h1
   rw [if_neg (by rw [h1];simp)]
   have hnext:=ih (i+1) (by omega) (fun j hj=>by
    rcases Nat.lt_or_ge j i with h | h
    ·exact hp j h
    ·have:j=i:=by omega
     subst this;exact h1')
   have e1:(((i+1:Nat)):Int)=(i:Int)+1:=by omega
   rw [e1] at hnext
   by_cases h0:(i:Int)>0
   ·rw [if_pos (by simpa using h0)]
    have hi0:(i==0)=false:=by simp;omega
    have e:((i:Int) - 1).toNat=i - 1:=by omega
    obtain ⟨b1,b2⟩:=one110_b (hp (i - 1) (by omega))
    have hd:InR .i64 ((i:Int) - 1):=by rw [i64_iff];omega
    simp only [e]
    refine ⟨hd,by omega,by omega,⟨by rw [i64_iff];show _≤(x0.getD (i - 1) ((0:Int),(0:Int),())).1+(x0.getD (i - 1) ((0:Int),(0:Int),())).2.1∧_;omega,trivial⟩,?_⟩
    by_cases hc:(x0.getD (i - 1) ((0:Int),(0:Int),())).1+(x0.getD (i - 1) ((0:Int),(0:Int),())).2.1≤(x0.getD i ((0:Int),(0:Int),())).1
    ·rw [if_neg (by show ¬ decide ((x0.getD i ((0:Int),(0:Int),())).1<(x0.getD (i - 1) ((0:Int),(0:Int),())).1+(x0.getD (i - 1) ((0:Int),(0:Int),())).2.1)=true;rw [decide_eq_true_eq];omega)]
     have:ok110 x0 i (x0.getD i ((0:Int),(0:Int),()))=true:=by unfold ok110;rw [h1',hi0,decide_eq_true hc];rfl
     rw [this,Bool.true_and]
     exact ⟨hu,hnext⟩
    ·rw [if_pos (by show decide ((x0.getD i ((0:Int),(0:Int),())).1<(x0.getD (i - 1) ((0:Int),(0:Int),())).1+(x0.getD (i - 1) ((0:Int),(0:Int),())).2.1)=true;rw [decide_eq_true_eq];omega)]
     have:ok110 x0 i (x0.getD i ((0:Int),(0:Int),()))=false:=by unfold ok110;rw [hi0,decide_eq_false hc,Bool.or_false,Bool.and_false]
     rw [this,Bool.false_and,Bool.false_and]
   ·rw [if_neg (by simpa using h0)]
    have hi0:(i==0)=true:=by simp;omega
    have:ok110 x0 i (x0.getD i ((0:Int),(0:Int),()))=true:=by unfold ok110;rw [h1',hi0];rfl
    rw [this,Bool.true_and]
    exact ⟨hu,hnext⟩
theorem top110 (x0:List TyB4) (hw:x0.length≤maxLen):R110 (x0.length+1+1) x0 [⟨.bool,g110_0 x0⟩]:=by
 rw [R110]
 exact run110 x0 hw x0.length 0 (by omega) (fun j hj=>by omega)
def S110:Am.Spec:={ sig:=sig110,pre:=fun ⟨x0,_⟩=>P110 x0,res:=fun ⟨x0,_⟩=>[⟨.bool,g110_0 x0⟩] }
theorem con110:Contract Tryz.prog 110 S110:=contract_of Tryz.func110 hb110 (bl_ (by kernel_rfl)) (fun ⟨x0,_⟩ h hwf K q =>
 (snd110 _).1 x0 _ (top110 x0 hwf.1.1) K q)
end
noncomputable section
def ext166:Ext:=[(134,S134)]
theorem ext166Ok:ExtOk Tryz.prog ext166:=⟨⟨ca134,con134⟩,trivial⟩
def b166:Code:=bodyOf Tryz.f166
theorem hb166:Tryz.f166.body=some b166:=by kernel_rfl
def sig166:List AT:=[AT.v (.int .i64)]
def tys166:List Ty:=[.bool]
def kds166:List RK:=[]
def oks166:List AT:=owns sig166
def P166 (x0:Int):Prop:=True
def g166_0 (x0:Int):Bool:=g134_0 x0 0 1439
theorem at166 (x0:Int) (h:P166 x0) (K:Ctx) (q:Nat→Value):AtV Tryz.prog 166 (PostR kds166 oks166 [⟨.bool,g166_0 x0⟩] [] [] q K) 5 K q [] [.code b166] (entE 0 0 sig166 (x0,())) (entL sig166 (x0,())):=by
 unfold P166 at h
 unfold g166_0
 exact AtV.ret Tryz.func166 tabOk ext166Ok mixed false [] tys166 [] (a1 trivial trivial) (by kernel_rfl)
def S166:Am.Spec:={ sig:=sig166,pre:=fun ⟨x0,_⟩=>P166 x0,res:=fun ⟨x0,_⟩=>[⟨.bool,g166_0 x0⟩],kds:=kds166 }
theorem con166:Contract Tryz.prog 166 S166:=contract_of Tryz.func166 hb166 (bl_ (by kernel_rfl)) (fun ⟨x0,_⟩ h _ K q=>at166 x0 h K q)
end
end Go.Proofs.YtmfkgabclbbdhaaGreatDoor
set_option linter.unusedVariables false
set_option maxRecDepth 100000
namespace Go.Proofs
open Go.Shelf
def Tryz.laysM173_ren:Go.Shelf.Ren:=⟨fun | 173=>116 | 246=>146 | 283=>169 | 284=>170 | 285=>171 | 286=>172 | 129=>185 | 317=>184 | 318=>186 | 319=>187 | 320=>188 | 337=>198 | 338=>199 | n=>n,fun | 2=>2 | 3=>3 | 9=>9 | 4=>4 | 171=>215 | 0=>0 | 53=>216 | 37=>149 | 5=>5 | 173=>219 | 212=>231 | 51=>232 | 20=>20 | 213=>233 | 46=>226 | 232=>246 | 233=>247 | n=>n,fun | 17=>0 | 18=>1 | 19=>2 | n=>n⟩
theorem Tryz.laysM173:Go.Proofs.LaysM.n173 Tryz.prog Tryz.laysM173_ren:={
 mixed:=by kernel_rfl
 f129:=Tryz.func185.trans (congrArg some (by kernel_rfl))
 f173:=Tryz.func116.trans (congrArg some (by kernel_rfl))
 f246:=Tryz.func146.trans (congrArg some (by kernel_rfl))
 f283:=Tryz.func169.trans (congrArg some (by kernel_rfl))
 f284:=Tryz.func170.trans (congrArg some (by kernel_rfl))
 f285:=Tryz.func171.trans (congrArg some (by kernel_rfl))
 f286:=Tryz.func172.trans (congrArg some (by kernel_rfl))
 f317:=Tryz.func184.trans (congrArg some (by kernel_rfl))
 f318:=Tryz.func186.trans (congrArg some (by kernel_rfl))
 f319:=Tryz.func187.trans (congrArg some (by kernel_rfl))
 f320:=Tryz.func188.trans (congrArg some (by kernel_rfl))
 f337:=Tryz.func198.trans (congrArg some (by kernel_rfl))
 f338:=Tryz.func199.trans (congrArg some (by kernel_rfl))
 t0:=Tryz.underlying0
 a0:=Tryz.isAgg0
 z0:=Tryz.sizeOf0
 v0:=Tryz.zeroValue0
 t2:=Tryz.underlying2
 a2:=Tryz.isAgg2
 z2:=Tryz.sizeOf2
 v2:=Tryz.zeroValue2
 t3:=Tryz.underlying3
 a3:=Tryz.isAgg3
 z3:=Tryz.sizeOf3
 v3:=Tryz.zeroValue3
 t4:=Tryz.underlying4
 a4:=Tryz.isAgg4
 z4:=Tryz.sizeOf4
 v4:=Tryz.zeroValue4
 t5:=Tryz.underlying5
 a5:=Tryz.isAgg5
 z5:=Tryz.sizeOf5
 v5:=Tryz.zeroValue5
 t9:=Tryz.underlying9
 a9:=Tryz.isAgg9
 z9:=Tryz.sizeOf9
 v9:=Tryz.zeroValue9
 t20:=Tryz.underlying20
 a20:=Tryz.isAgg20
 z20:=Tryz.sizeOf20
 v20:=Tryz.zeroValue20
 t37:=Tryz.underlying149
 a37:=Tryz.isAgg149
 z37:=Tryz.sizeOf149
 v37:=Tryz.zeroValue149
 t46:=Tryz.underlying226
 a46:=Tryz.isAgg226
 z46:=Tryz.sizeOf226
 v46:=Tryz.zeroValue226
 t51:=Tryz.underlying232
 a51:=Tryz.isAgg232
 z51:=Tryz.sizeOf232
 v51:=Tryz.zeroValue232
 t53:=Tryz.underlying216
 a53:=Tryz.isAgg216
 z53:=Tryz.sizeOf216
 v53:=Tryz.zeroValue216
 t171:=Tryz.underlying215
 a171:=Tryz.isAgg215
 z171:=Tryz.sizeOf215
 v171:=Tryz.zeroValue215
 t173:=Tryz.underlying219
 a173:=Tryz.isAgg219
 z173:=Tryz.sizeOf219
 v173:=Tryz.zeroValue219
 t212:=Tryz.underlying231
 a212:=Tryz.isAgg231
 z212:=Tryz.sizeOf231
 v212:=Tryz.zeroValue231
 t213:=Tryz.underlying233
 a213:=Tryz.isAgg233
 z213:=Tryz.sizeOf233
 t232:=Tryz.underlying246
 a232:=Tryz.isAgg246
 z232:=Tryz.sizeOf246
 v232:=Tryz.zeroValue246
 t233:=Tryz.underlying247
 a233:=Tryz.isAgg247
 z233:=Tryz.sizeOf247
 v233:=Tryz.zeroValue247
 g17:=by kernel_rfl
 g18:=by kernel_rfl
 g19:=by kernel_rfl
 i0:=by kernel_rfl
 i2:=by kernel_rfl
 i3:=by kernel_rfl
 i4:=by kernel_rfl
 i5:=by kernel_rfl
 i9:=by kernel_rfl
 i20:=by kernel_rfl
 i37:=by kernel_rfl
 i46:=by kernel_rfl
 i51:=by kernel_rfl
 i53:=by kernel_rfl
 i171:=by kernel_rfl
 i173:=by kernel_rfl
 i212:=by kernel_rfl
 i232:=by kernel_rfl
 i233:=by kernel_rfl
 m17:=by kernel_rfl
 m18:=by kernel_rfl
 m19:=by kernel_rfl }
open Go.RowKit Go.Sort Go.Lib in theorem Tryz.strconv_FormatInt_10 (n : Int) (h0 : -9223372036854775808 ≤ n) (h1 : n ≤ 9223372036854775807) (w : World) (htab : Lib.TabIs Tryz.prog w "internal/strconv.uint64pow10" .u64 Lib.pow10Tab) :
    Calls Tryz.prog 116 #[.int .i64 n, .int .i64 10] w fun e w' => e = .returned (.string ⟨(Lib.itoa n).toArray⟩) ∧ ∃ k os, w' = grow (w.drewN k) os := Any.strconv_FormatInt_10 Tryz.laysM173 n h0 h1 w htab
def Tryz.lays146_ren:Go.Shelf.Ren:=⟨fun | 146=>181 | 221=>195 | 268=>202 | 138=>203 | 143=>204 | 195=>206 | 197=>207 | 218=>208 | 219=>209 | 260=>210 | 217=>211 | 225=>212 | 224=>213 | 267=>214 | 266=>215 | 314=>216 | n=>n,fun | 9=>9 | 31=>134 | 3=>3 | 4=>4 | 0=>0 | 105=>249 | 21=>21 | 5=>5 | 46=>226 | 119=>252 | 139=>255 | 138=>254 | 146=>256 | 51=>232 | n=>n,fun | 1=>3 | 3=>4 | 4=>5 | n=>n⟩
theorem Tryz.lays146:Go.Proofs.Lays.n146 Tryz.prog Tryz.lays146_ren:={
 mixed:=by kernel_rfl
 f138:=Tryz.func203.trans (congrArg some (by kernel_rfl))
 f143:=Tryz.func204.trans (congrArg some (by kernel_rfl))
 f146:=Tryz.func181.trans (congrArg some (by kernel_rfl))
 f195:=Tryz.func206.trans (congrArg some (by kernel_rfl))
 f197:=Tryz.func207.trans (congrArg some (by kernel_rfl))
 f217:=Tryz.func211.trans (congrArg some (by kernel_rfl))
 f218:=Tryz.func208.trans (congrArg some (by kernel_rfl))
 f219:=Tryz.func209.trans (congrArg some (by kernel_rfl))
 f221:=Tryz.func195.trans (congrArg some (by kernel_rfl))
 f224:=Tryz.func213.trans (congrArg some (by kernel_rfl))
 f225:=Tryz.func212.trans (congrArg some (by kernel_rfl))
 f260:=Tryz.func210.trans (congrArg some (by kernel_rfl))
 f266:=Tryz.func215.trans (congrArg some (by kernel_rfl))
 f267:=Tryz.func214.trans (congrArg some (by kernel_rfl))
 f268:=Tryz.func202.trans (congrArg some (by kernel_rfl))
 f314:=Tryz.func216.trans (congrArg some (by kernel_rfl))
 t0:=Tryz.underlying0
 a0:=Tryz.isAgg0
 z0:=Tryz.sizeOf0
 v0:=Tryz.zeroValue0
 t3:=Tryz.underlying3
 a3:=Tryz.isAgg3
 z3:=Tryz.sizeOf3
 v3:=Tryz.zeroValue3
 t4:=Tryz.underlying4
 a4:=Tryz.isAgg4
 z4:=Tryz.sizeOf4
 v4:=Tryz.zeroValue4
 t5:=Tryz.underlying5
 a5:=Tryz.isAgg5
 z5:=Tryz.sizeOf5
 v5:=Tryz.zeroValue5
 t9:=Tryz.underlying9
 a9:=Tryz.isAgg9
 z9:=Tryz.sizeOf9
 v9:=Tryz.zeroValue9
 t21:=Tryz.underlying21
 a21:=Tryz.isAgg21
 z21:=Tryz.sizeOf21
 v21:=Tryz.zeroValue21
 t31:=Tryz.underlying134
 a31:=Tryz.isAgg134
 z31:=Tryz.sizeOf134
 v31:=Tryz.zeroValue134
 t46:=Tryz.underlying226
 a46:=Tryz.isAgg226
 z46:=Tryz.sizeOf226
 v46:=Tryz.zeroValue226
 t51:=Tryz.underlying232
 a51:=Tryz.isAgg232
 z51:=Tryz.sizeOf232
 v51:=Tryz.zeroValue232
 t105:=Tryz.underlying249
 a105:=Tryz.isAgg249
 z105:=Tryz.sizeOf249
 v105:=Tryz.zeroValue249
 t119:=Tryz.underlying252
 a119:=Tryz.isAgg252
 z119:=Tryz.sizeOf252
 t138:=Tryz.underlying254
 a138:=Tryz.isAgg254
 z138:=Tryz.sizeOf254
 v138:=Tryz.zeroValue254
 t139:=Tryz.underlying255
 a139:=Tryz.isAgg255
 z139:=Tryz.sizeOf255
 v139:=Tryz.zeroValue255
 t146:=Tryz.underlying256
 a146:=Tryz.isAgg256
 z146:=Tryz.sizeOf256
 v146:=Tryz.zeroValue256
 g1:=by kernel_rfl
 g3:=by kernel_rfl
 g4:=by kernel_rfl }
open Go.RowKit Go.Lib in theorem Tryz.strings_Split (s sep : ByteArray) (m : Int) (w : World) (hs : s.size < 4294967281) (hm : w.cell? ⟨3, 0, none⟩ = some (.int .i64 m)) (h1 : 1 ≤ sep.size) :
    Calls Tryz.prog 181 #[.string s, .string sep] w fun e w' =>
      e = .returned (.slice (some ⟨w.heap.size, 0, none⟩) (Lib.countB s sep + 1) (Lib.countB s sep + 1)) ∧ w' = w.alloc (.cells ((Lib.splitB sep 0 (Lib.countB s sep) s).map Value.string).toArray 9) := Any.strings_Split Tryz.lays146 (by kernel_rfl) s sep m w hs hm h1
end Go.Proofs
set_option linter.unusedVariables false
set_option linter.unusedSimpArgs false
set_option maxRecDepth 100000
namespace Go.Proofs.YtmfkgabclbbdhaaGreatDoor
open Go Go.Am Go.Proofs
def sig181:List AT:=[AT.v Ty.str,AT.v Ty.str]
def g181_0 (x0 x1:ByteArray):List ByteArray:=Lib.splitB x1 0 (Lib.countB x0 x1) x0
def P181 (x0 x1:ByteArray):Prop:=x0.size<4294967281∧1≤x1.size
def S181:Am.Spec:={ sig:=sig181,pre:=fun ⟨x0,x1,_⟩=>P181 x0 x1,res:=fun ⟨x0,x1,_⟩=>[⟨Ty.sl Ty.str,g181_0 x0 x1⟩] }
theorem con181:Contract Tryz.prog 181 S181:=by
 refine Contract0.up rfl rfl ?_
 rintro w ⟨x0,x1,u⟩ vs bss hgo hp ⟨v0,s0,b0,bs0,rfl,rfl,⟨rfl,rfl,_⟩,v1,s1,b1,bs1,rfl,rfl,⟨rfl,rfl,_⟩,rfl,rfl⟩ hn
 obtain ⟨hs,h1⟩:x0.size<4294967281∧1≤x1.size:=hp
 obtain ⟨m,hm⟩:=maxLenG hgo.inv
 refine (Tryz.strings_Split x0 x1 m w hs hm h1).mono ?_
 rintro e w' ⟨rfl,rfl⟩
 have hlen:(g181_0 x0 x1).length=Lib.countB x0 x1+1:=Lib.splitB_all x1 h1 0 _ _ rfl
 have hle:=Lib.countB_le x1 h1 x0.size x0 (Nat.le_refl _)
 have hparts:∀ y∈g181_0 x0 x1,y.size≤maxLen:=fun y hy=>by
  have:=splitB_part x1 0 _ _ y hy
  unfold maxLen;omega
 have e1:∀ xs:List ByteArray,fcs .str xs=xs.map Value.string:=by
  intro xs
  induction xs with
  | nil=>rfl
  | cons a r ih=>unfold fcs at ih ⊢;rw [List.map_cons,List.flatten_cons,ih];rfl
 have ho:OwnC (w.alloc (.cells ((g181_0 x0 x1).map Value.string).toArray 9)) (.sl .str) (g181_0 x0 x1) [.slice (some ⟨w.heap.size,0,none⟩) (Lib.countB x0 x1+1) (Lib.countB x0 x1+1)] [w.heap.size] :=
  own_flat_mk rfl hparts hlen.symm (Nat.le_of_eq hlen) (by unfold maxLen;omega) (by rw [List.size_toArray,List.length_map,hlen];simp [Ty.size]) (heap_new w _) (freeS_zero _ _) (fun j u hj=>by
   rw [e1] at hj
   rw [Nat.zero_add, ← Array.getElem?_toList]
   exact hj)
 refine ⟨[_],[],[[w.heap.size]],rfl,(Kept.refl _ _).alloc _,⟨_,_,_,_,_,rfl,rfl,ho,rfl,rfl,rfl⟩,⟨rfl,rfl⟩,by simp,fun b hb hg => ?_⟩
 simp at hb
 have:=hg.1
 omega
noncomputable section
def ext197:Ext:=[]
theorem ext197Ok:ExtOk Tryz.prog ext197:=trivial
def b197:Code:=bodyOf Tryz.f197
theorem hb197:Tryz.f197.body=some b197:=by kernel_rfl
def sig197:List AT:=[AT.v (.int .u8)]
def tys197:List Ty:=[.bool]
def kds197:List RK:=[]
def oks197:List AT:=owns sig197
def P197 (x0:Int):Prop:=True
def g197_0 (x0:Int):Bool:=(if (decide (x0<97))=true then (if (decide (x0<48))=true then true else decide (x0>57)) else (if (decide (x0>122))=true then (if (decide (x0<48))=true then true else decide (x0>57)) else false))
theorem at197 (x0:Int) (h:P197 x0) (K:Ctx) (q:Nat→Value):AtV Tryz.prog 197 (PostR kds197 oks197 [⟨.bool,g197_0 x0⟩] [] [] q K) 17 K q [] [.code b197] (entE 0 0 sig197 (x0,())) (entL sig197 (x0,())):=by
 unfold P197 at h
 unfold g197_0
 by_cases b0:(decide (x0<97))=true
 ·try simp only [if_pos b0] at h ⊢
  by_cases b1:(decide (x0<48))=true
  ·try simp only [if_pos b1] at h ⊢
   exact AtV.ret Tryz.func197 tabOk ext197Ok mixed false [] tys197 [true,true,true] (a1 b0 (a1 (rfl:true=true) (a1 b1 trivial))) (by kernel_rfl)
  ·try simp only [if_neg b1] at h ⊢
   replace b1:=bf_ b1
   exact AtV.ret Tryz.func197 tabOk ext197Ok mixed false [] tys197 [true,true,false] (a1 b0 (a1 (rfl:true=true) (a1 b1 trivial))) (by kernel_rfl)
 ·try simp only [if_neg b0] at h ⊢
  replace b0:=bf_ b0
  by_cases b1:(decide (x0>122))=true
  ·try simp only [if_pos b1] at h ⊢
   by_cases b2:(decide (x0<48))=true
   ·try simp only [if_pos b2] at h ⊢
    exact AtV.ret Tryz.func197 tabOk ext197Ok mixed false [] tys197 [false,true,true] (a1 b0 (a1 b1 (a1 b2 trivial))) (by kernel_rfl)
   ·try simp only [if_neg b2] at h ⊢
    replace b2:=bf_ b2
    exact AtV.ret Tryz.func197 tabOk ext197Ok mixed false [] tys197 [false,true,false] (a1 b0 (a1 b1 (a1 b2 trivial))) (by kernel_rfl)
  ·try simp only [if_neg b1] at h ⊢
   replace b1:=bf_ b1
   exact AtV.ret Tryz.func197 tabOk ext197Ok mixed false [] tys197 [false,false] (a1 b0 (a1 b1 trivial)) (by kernel_rfl)
def S197:Am.Spec:={ sig:=sig197,pre:=fun ⟨x0,_⟩=>P197 x0,res:=fun ⟨x0,_⟩=>[⟨.bool,g197_0 x0⟩],kds:=kds197 }
theorem con197:Contract Tryz.prog 197 S197:=contract_of Tryz.func197 hb197 (bl_ (by kernel_rfl)) (fun ⟨x0,_⟩ h _ K q=>at197 x0 h K q)
end
noncomputable section
def ext205c197:Ext:=[(197,S197)]
theorem ext205c197Ok:ExtOk Tryz.prog ext205c197:=⟨⟨ca197,con197⟩,trivial⟩
def b205c197:Code:=bodyOf Tryz.f205
theorem hb205c197:Tryz.f205.body=some b205c197:=by kernel_rfl
def sig205c197:List AT:=[AT.v (.sl (.int .u8)),AT.fn 197 []]
def tys205c197:List Ty:=[.int .i64]
def kds205c197:List RK:=[]
def oks205c197:List AT:=owns sig205c197
def E205c197_2 (v8:Int) (x0:List Int):Env:=[(0,.a (.sl (.int .u8) x0)),(1,PV.fn 197 []),(7,.a (.val (.int .i64 (x0.length:Int)))),(8,.a (.val (.int .i64 v8)))]
def L205c197_2 (v8:Int) (x0:List Int):Heap:=[]
mutual
def R205c197:Nat→List Int→List Dyn→Prop
 | 0,_,_=>False
 | n+1,x0,ds=>(R205c197_2 n (0) (x0) ds)
def R205c197_2:Nat→Int→List Int→List Dyn→Prop
 | 0,_,_,_=>False
 | n+1,v8,x0,ds=>(if (decide (v8<(x0.length:Int)))=true then ((0≤v8)∧(v8<(x0.length:Int))∧(if (g197_0 (List.getD x0 (Int.toNat v8) 0))=true then (ds=[Dyn.mk (.int .i64) v8]) else ((InR .i64 (v8+1))∧(R205c197_2 n (v8+1) (x0) ds)))) else (ds=[Dyn.mk (.int .i64) (-1)]))
end
theorem snd205c197:∀ n,(∀ (x0:List Int) ds,R205c197 n x0 ds→∀ K q,AtV Tryz.prog 205 (PostR kds205c197 oks205c197 ds [] [] q K) 19 K q [] [.code b205c197] (entE 0 0 sig205c197 (x0,(),())) (entL sig205c197 (x0,(),())))∧(∀ (v8:Int) (x0:List Int) ds,R205c197_2 n v8 x0 ds→∀ K q,AtV Tryz.prog 205 (PostR kds205c197 oks205c197 ds [] [] q K) 19 K q [] (cutAt b205c197 2) (E205c197_2 v8 x0) (L205c197_2 v8 x0)):=by
 intro n
 induction n with
 | zero=>exact ⟨fun _ _ h=>by simp only [R205c197] at h,fun _ _ _ h=>by simp only [R205c197_2] at h⟩
 | succ n ih =>
 obtain ⟨ih,ih2⟩:=ih
 refine ⟨?_,?_⟩
 ·intro x0 ds h K q
  rw [R205c197] at h
  exact AtV.go tabOk ext205c197Ok mixed false [] [] [0,1,7,8] [] [] trivial (ih2 _ _ _ h K q) (by kernel_rfl)
 ·intro v8 x0 ds h K q
  rw [R205c197_2] at h
  by_cases b0:(decide (v8<(x0.length:Int)))=true
  ·rw [if_pos b0] at h
   obtain ⟨s0,s1,h⟩:=h
   by_cases b1:(g197_0 (List.getD x0 (Int.toNat v8) 0))=true
   ·rw [if_pos b1] at h
    subst h
    exact AtV.ret Tryz.func205 tabOk ext205c197Ok mixed false [] tys205c197 [true,true] (a1 b0 (a1 s0 (a1 s1 (a1 trivial (a1 b1 trivial))))) (by kernel_rfl)
   ·rw [if_neg b1] at h
    replace b1:=bf_ b1
    obtain ⟨s2,h⟩:=h
    exact AtV.go tabOk ext205c197Ok mixed false [] [] [0,1,7,8] [] [true,false] (a1 b0 (a1 s0 (a1 s1 (a1 trivial (a1 b1 (a1 s2 trivial)))))) (ih2 _ _ _ h K q) (by kernel_rfl)
  ·rw [if_neg b0] at h
   replace b0:=bf_ b0
   subst h
   exact AtV.ret Tryz.func205 tabOk ext205c197Ok mixed false [] tys205c197 [false] (a1 b0 trivial) (by kernel_rfl)
def g205c197_0 (x0:List (Int)):Int:=idx (x0.findIdx? g197_0)
def P205c197 (x0:List (Int)):Prop:=True
theorem top205c197 (x0:List (Int)) (hm:x0.length≤maxLen):R205c197 (x0.length+1+1) x0 [⟨.int .i64,g205c197_0 x0⟩]:=by
 rw [R205c197]
 have key:=loop_find x0 (0:Int) g197_0 [(⟨.int .i64, -1⟩:Dyn)] (fun k=>[⟨.int .i64,k⟩]) (fun n i ds=>R205c197_2 n i x0 ds) (fun n => ?_) (fun n i hi hok ds hr => ?_) (fun n i hi hok => ?_)
 ·unfold g205c197_0
  cases h:x0.findIdx? g197_0 <;> rw [h] at key <;> exact key
 ·rw [R205c197_2,if_neg (by simp)]
 ·rw [R205c197_2,if_pos (by simp;omega)]
  simp only [Int.toNat_natCast]
  refine ⟨by omega,by omega,?_⟩
  rw [if_neg (by rw [hok];simp)]
  exact ⟨inR_up hm hi,hr⟩
 ·rw [R205c197_2,if_pos (by simp;omega)]
  simp only [Int.toNat_natCast]
  refine ⟨by omega,by omega,?_⟩
  rw [if_pos hok] <;> trivial
def S205c197:Am.Spec:={ sig:=sig205c197,pre:=fun ⟨x0,_⟩=>P205c197 x0,res:=fun ⟨x0,_⟩=>[⟨.int .i64,g205c197_0 x0⟩] }
theorem con205c197:Contract Tryz.prog 205 S205c197:=contract_of Tryz.func205 hb205c197 (bl_ (by kernel_rfl)) (fun ⟨x0,_⟩ h hwf K q =>
 (snd205c197 _).1 x0 _ (top205c197 x0 hwf.1.1) K q)
theorem any205c197 (x0:List (Int)):decide (g205c197_0 x0≥0)=x0.any g197_0:=by
 have:=findIdx_any g197_0 x0
 unfold g205c197_0
 cases h:x0.any g197_0 with
 | true=>rw [h] at this;simpa using this
 | false=>rw [h] at this;simpa using this
end
noncomputable section
def ext196c197:Ext:=[(205,S205c197),(197,S197)]
theorem ext196c197Ok:ExtOk Tryz.prog ext196c197:=⟨⟨ca205,con205c197⟩,⟨ca197,con197⟩,trivial⟩
def b196c197:Code:=bodyOf Tryz.f196
theorem hb196c197:Tryz.f196.body=some b196c197:=by kernel_rfl
def sig196c197:List AT:=[AT.v (.sl (.int .u8)),AT.fn 197 []]
def tys196c197:List Ty:=[.bool]
def kds196c197:List RK:=[]
def oks196c197:List AT:=owns sig196c197
def P196c197 (x0:List Int):Prop:=True
def g196c197_0 (x0:List Int):Bool:=decide (g205c197_0 x0≥0)
theorem at196c197 (x0:List Int) (h:P196c197 x0) (K:Ctx) (q:Nat→Value):AtV Tryz.prog 196 (PostR kds196c197 oks196c197 [⟨.bool,g196c197_0 x0⟩] [] [] q K) 9 K q [] [.code b196c197] (entE 0 0 sig196c197 (x0,(),())) (entL sig196c197 (x0,(),())):=by
 unfold P196c197 at h
 unfold g196c197_0
 exact AtV.ret Tryz.func196 tabOk ext196c197Ok mixed false [] tys196c197 [] (a1 trivial trivial) (by kernel_rfl)
def S196c197:Am.Spec:={ sig:=sig196c197,pre:=fun ⟨x0,_⟩=>P196c197 x0,res:=fun ⟨x0,_⟩=>[⟨.bool,g196c197_0 x0⟩],kds:=kds196c197 }
theorem con196c197:Contract Tryz.prog 196 S196c197:=contract_of Tryz.func196 hb196c197 (bl_ (by kernel_rfl)) (fun ⟨x0,_⟩ h _ K q=>at196c197 x0 h K q)
end
noncomputable section
def ext183:Ext:=[(196,S196c197)]
theorem ext183Ok:ExtOk Tryz.prog ext183:=⟨⟨ca196,con196c197⟩,trivial⟩
def b183:Code:=bodyOf Tryz.f183
theorem hb183:Tryz.f183.body=some b183:=by kernel_rfl
def sig183:List AT:=[AT.v (.str)]
def tys183:List Ty:=[.bool]
def kds183:List RK:=[]
def oks183:List AT:=owns sig183
def P183 (x0:ByteArray):Prop:=True
def g183_0 (x0:ByteArray):Bool:=(if (!ByteArray.toList x0==ByteArray.toList (ByteArray.mk #[]))=true then !g196c197_0 (bytesOf x0) else false)
theorem at183 (x0:ByteArray) (h:P183 x0) (K:Ctx) (q:Nat→Value):AtV Tryz.prog 183 (PostR kds183 oks183 [⟨.bool,g183_0 x0⟩] [] [] q K) 11 K q [] [.code b183] (entE 0 0 sig183 (x0,())) (entL sig183 (x0,())):=by
 unfold P183 at h
 unfold g183_0
 by_cases b0:(!ByteArray.toList x0==ByteArray.toList (ByteArray.mk #[]))=true
 ·try simp only [if_pos b0] at h ⊢
  exact AtV.ret Tryz.func183 tabOk ext183Ok mixed false [] tys183 [true] (a1 b0 (a1 trivial trivial)) (by kernel_rfl)
 ·try simp only [if_neg b0] at h ⊢
  replace b0:=bf_ b0
  exact AtV.ret Tryz.func183 tabOk ext183Ok mixed false [] tys183 [false] (a1 b0 trivial) (by kernel_rfl)
def S183:Am.Spec:={ sig:=sig183,pre:=fun ⟨x0,_⟩=>P183 x0,res:=fun ⟨x0,_⟩=>[⟨.bool,g183_0 x0⟩],kds:=kds183 }
theorem con183:Contract Tryz.prog 183 S183:=contract_of Tryz.func183 hb183 (bl_ (by kernel_rfl)) (fun ⟨x0,_⟩ h _ K q=>at183 x0 h K q)
end
noncomputable section
def ext182:Ext:=[(183,S183)]
theorem ext182Ok:ExtOk Tryz.prog ext182:=⟨⟨ca183,con183⟩,trivial⟩
def b182:Code:=bodyOf Tryz.f182
theorem hb182:Tryz.f182.body=some b182:=by kernel_rfl
def sig182:List AT:=[AT.v (.str)]
def tys182:List Ty:=[.bool]
def kds182:List RK:=[]
def oks182:List AT:=owns sig182
def P182 (x0:ByteArray):Prop:=True
def g182_0 (x0:ByteArray):Bool := !g183_0 x0
theorem at182 (x0:ByteArray) (h:P182 x0) (K:Ctx) (q:Nat→Value):AtV Tryz.prog 182 (PostR kds182 oks182 [⟨.bool,g182_0 x0⟩] [] [] q K) 6 K q [] [.code b182] (entE 0 0 sig182 (x0,())) (entL sig182 (x0,())):=by
 unfold P182 at h
 unfold g182_0
 exact AtV.ret Tryz.func182 tabOk ext182Ok mixed false [] tys182 [] (a1 trivial trivial) (by kernel_rfl)
def S182:Am.Spec:={ sig:=sig182,pre:=fun ⟨x0,_⟩=>P182 x0,res:=fun ⟨x0,_⟩=>[⟨.bool,g182_0 x0⟩],kds:=kds182 }
theorem con182:Contract Tryz.prog 182 S182:=contract_of Tryz.func182 hb182 (bl_ (by kernel_rfl)) (fun ⟨x0,_⟩ h _ K q=>at182 x0 h K q)
end
noncomputable section
def ext194c182:Ext:=[(182,S182)]
theorem ext194c182Ok:ExtOk Tryz.prog ext194c182:=⟨⟨ca182,con182⟩,trivial⟩
def b194c182:Code:=bodyOf Tryz.f194
theorem hb194c182:Tryz.f194.body=some b194c182:=by kernel_rfl
def sig194c182:List AT:=[AT.v (.sl .str),AT.fn 182 []]
def tys194c182:List Ty:=[.int .i64]
def kds194c182:List RK:=[]
def oks194c182:List AT:=owns sig194c182
def E194c182_2 (v8:Int) (x0:List ByteArray):Env:=[(0,.a (.sl .str x0)),(1,PV.fn 182 []),(7,.a (.val (.int .i64 (x0.length:Int)))),(8,.a (.val (.int .i64 v8)))]
def L194c182_2 (v8:Int) (x0:List ByteArray):Heap:=[]
mutual
def R194c182:Nat→List ByteArray→List Dyn→Prop
 | 0,_,_=>False
 | n+1,x0,ds=>(R194c182_2 n (0) (x0) ds)
def R194c182_2:Nat→Int→List ByteArray→List Dyn→Prop
 | 0,_,_,_=>False
 | n+1,v8,x0,ds=>(if (decide (v8<(x0.length:Int)))=true then ((0≤v8)∧(v8<(x0.length:Int))∧(if (g182_0 (List.getD x0 (Int.toNat v8) ByteArray.empty))=true then (ds=[Dyn.mk (.int .i64) v8]) else ((InR .i64 (v8+1))∧(R194c182_2 n (v8+1) (x0) ds)))) else (ds=[Dyn.mk (.int .i64) (-1)]))
end
theorem snd194c182:∀ n,(∀ (x0:List ByteArray) ds,R194c182 n x0 ds→∀ K q,AtV Tryz.prog 194 (PostR kds194c182 oks194c182 ds [] [] q K) 19 K q [] [.code b194c182] (entE 0 0 sig194c182 (x0,(),())) (entL sig194c182 (x0,(),())))∧(∀ (v8:Int) (x0:List ByteArray) ds,R194c182_2 n v8 x0 ds→∀ K q,AtV Tryz.prog 194 (PostR kds194c182 oks194c182 ds [] [] q K) 19 K q [] (cutAt b194c182 2) (E194c182_2 v8 x0) (L194c182_2 v8 x0)):=by
 intro n
 induction n with
 | zero=>exact ⟨fun _ _ h=>by simp only [R194c182] at h,fun _ _ _ h=>by simp only [R194c182_2] at h⟩
 | succ n ih =>
 obtain ⟨ih,ih2⟩:=ih
 refine ⟨?_,?_⟩
 ·intro x0 ds h K q
  rw [R194c182] at h
  exact AtV.go tabOk ext194c182Ok mixed false [] [] [0,1,7,8] [] [] trivial (ih2 _ _ _ h K q) (by kernel_rfl)
 ·intro v8 x0 ds h K q
  rw [R194c182_2] at h
  by_cases b0:(decide (v8<(x0.length:Int)))=true
  ·rw [if_pos b0] at h
   obtain ⟨s0,s1,h⟩:=h
   by_cases b1:(g182_0 (List.getD x0 (Int.toNat v8) ByteArray.empty))=true
   ·rw [if_pos b1] at h
    subst h
    exact AtV.ret Tryz.func194 tabOk ext194c182Ok mixed false [] tys194c182 [true,true] (a1 b0 (a1 s0 (a1 s1 (a1 trivial (a1 b1 trivial))))) (by kernel_rfl)
   ·rw [if_neg b1] at h
    replace b1:=bf_ b1
    obtain ⟨s2,h⟩:=h
    exact AtV.go tabOk ext194c182Ok mixed false [] [] [0,1,7,8] [] [true,false] (a1 b0 (a1 s0 (a1 s1 (a1 trivial (a1 b1 (a1 s2 trivial)))))) (ih2 _ _ _ h K q) (by kernel_rfl)
  ·rw [if_neg b0] at h
   replace b0:=bf_ b0
   subst h
   exact AtV.ret Tryz.func194 tabOk ext194c182Ok mixed false [] tys194c182 [false] (a1 b0 trivial) (by kernel_rfl)
def g194c182_0 (x0:List (ByteArray)):Int:=idx (x0.findIdx? g182_0)
def P194c182 (x0:List (ByteArray)):Prop:=True
theorem top194c182 (x0:List (ByteArray)) (hm:x0.length≤maxLen):R194c182 (x0.length+1+1) x0 [⟨.int .i64,g194c182_0 x0⟩]:=by
 rw [R194c182]
 have key:=loop_find x0 ByteArray.empty g182_0 [(⟨.int .i64, -1⟩:Dyn)] (fun k=>[⟨.int .i64,k⟩]) (fun n i ds=>R194c182_2 n i x0 ds) (fun n => ?_) (fun n i hi hok ds hr => ?_) (fun n i hi hok => ?_)
 ·unfold g194c182_0
  cases h:x0.findIdx? g182_0 <;> rw [h] at key <;> exact key
 ·rw [R194c182_2,if_neg (by simp)]
 ·rw [R194c182_2,if_pos (by simp;omega)]
  simp only [Int.toNat_natCast]
  refine ⟨by omega,by omega,?_⟩
  rw [if_neg (by rw [hok];simp)]
  exact ⟨inR_up hm hi,hr⟩
 ·rw [R194c182_2,if_pos (by simp;omega)]
  simp only [Int.toNat_natCast]
  refine ⟨by omega,by omega,?_⟩
  rw [if_pos hok] <;> trivial
def S194c182:Am.Spec:={ sig:=sig194c182,pre:=fun ⟨x0,_⟩=>P194c182 x0,res:=fun ⟨x0,_⟩=>[⟨.int .i64,g194c182_0 x0⟩] }
theorem con194c182:Contract Tryz.prog 194 S194c182:=contract_of Tryz.func194 hb194c182 (bl_ (by kernel_rfl)) (fun ⟨x0,_⟩ h hwf K q =>
 (snd194c182 _).1 x0 _ (top194c182 x0 hwf.1.1) K q)
theorem any194c182 (x0:List (ByteArray)):decide (g194c182_0 x0≥0)=x0.any g182_0:=by
 have:=findIdx_any g182_0 x0
 unfold g194c182_0
 cases h:x0.any g182_0 with
 | true=>rw [h] at this;simpa using this
 | false=>rw [h] at this;simpa using this
end
noncomputable section
def ext180c182:Ext:=[(194,S194c182),(182,S182)]
theorem ext180c182Ok:ExtOk Tryz.prog ext180c182:=⟨⟨ca194,con194c182⟩,⟨ca182,con182⟩,trivial⟩
def b180c182:Code:=bodyOf Tryz.f180
theorem hb180c182:Tryz.f180.body=some b180c182:=by kernel_rfl
def sig180c182:List AT:=[AT.v (.sl .str),AT.fn 182 []]
def tys180c182:List Ty:=[.bool]
def kds180c182:List RK:=[]
def oks180c182:List AT:=owns sig180c182
def P180c182 (x0:List ByteArray):Prop:=True
def g180c182_0 (x0:List ByteArray):Bool:=decide (g194c182_0 x0≥0)
theorem at180c182 (x0:List ByteArray) (h:P180c182 x0) (K:Ctx) (q:Nat→Value):AtV Tryz.prog 180 (PostR kds180c182 oks180c182 [⟨.bool,g180c182_0 x0⟩] [] [] q K) 9 K q [] [.code b180c182] (entE 0 0 sig180c182 (x0,(),())) (entL sig180c182 (x0,(),())):=by
 unfold P180c182 at h
 unfold g180c182_0
 exact AtV.ret Tryz.func180 tabOk ext180c182Ok mixed false [] tys180c182 [] (a1 trivial trivial) (by kernel_rfl)
def S180c182:Am.Spec:={ sig:=sig180c182,pre:=fun ⟨x0,_⟩=>P180c182 x0,res:=fun ⟨x0,_⟩=>[⟨.bool,g180c182_0 x0⟩],kds:=kds180c182 }
theorem con180c182:Contract Tryz.prog 180 S180c182:=contract_of Tryz.func180 hb180c182 (bl_ (by kernel_rfl)) (fun ⟨x0,_⟩ h _ K q=>at180c182 x0 h K q)
end
noncomputable section
def ext167:Ext:=[(181,S181),(180,S180c182)]
theorem ext167Ok:ExtOk Tryz.prog ext167:=⟨⟨ca181,con181⟩,⟨ca180,con180c182⟩,trivial⟩
def b167:Code:=bodyOf Tryz.f167
theorem hb167:Tryz.f167.body=some b167:=by kernel_rfl
def sig167:List AT:=[AT.v (.str)]
def tys167:List Ty:=[.bool]
def kds167:List RK:=[]
def oks167:List AT:=owns sig167
def P167 (x0:ByteArray):Prop:=(if (decide ((↑(ByteArray.size x0):Int)≤40))=true then ((P181 x0 (ByteArray.mk #[32]))∧True) else True)
def g167_0 (x0:ByteArray):Bool:=(if (decide ((↑(ByteArray.size x0):Int)≤40))=true then !g180c182_0 (g181_0 x0 (ByteArray.mk #[32])) else false)
theorem at167 (x0:ByteArray) (h:P167 x0) (K:Ctx) (q:Nat→Value):AtV Tryz.prog 167 (PostR kds167 oks167 [⟨.bool,g167_0 x0⟩] [] [] q K) 12 K q [] [.code b167] (entE 0 0 sig167 (x0,())) (entL sig167 (x0,())):=by
 unfold P167 at h
 unfold g167_0
 by_cases b0:(decide ((↑(ByteArray.size x0):Int)≤40))=true
 ·try simp only [if_pos b0] at h ⊢
  obtain ⟨s0,h⟩:=h
  exact AtV.ret Tryz.func167 tabOk ext167Ok mixed false [] tys167 [true] (a1 b0 (a1 s0 (a1 trivial trivial))) (by kernel_rfl)
 ·try simp only [if_neg b0] at h ⊢
  replace b0:=bf_ b0
  exact AtV.ret Tryz.func167 tabOk ext167Ok mixed false [] tys167 [false] (a1 b0 trivial) (by kernel_rfl)
def S167:Am.Spec:={ sig:=sig167,pre:=fun ⟨x0,_⟩=>P167 x0,res:=fun ⟨x0,_⟩=>[⟨.bool,g167_0 x0⟩],kds:=kds167 }
theorem con167:Contract Tryz.prog 167 S167:=contract_of Tryz.func167 hb167 (bl_ (by kernel_rfl)) (fun ⟨x0,_⟩ h _ K q=>at167 x0 h K q)
end
noncomputable section
def ext168:Ext:=[(134,S134)]
theorem ext168Ok:ExtOk Tryz.prog ext168:=⟨⟨ca134,con134⟩,trivial⟩
def b168:Code:=bodyOf Tryz.f168
theorem hb168:Tryz.f168.body=some b168:=by kernel_rfl
def sig168:List AT:=[AT.v (.int .i64)]
def tys168:List Ty:=[.bool]
def kds168:List RK:=[]
def oks168:List AT:=owns sig168
def P168 (x0:Int):Prop:=True
def g168_0 (x0:Int):Bool:=g134_0 x0 0 65535
theorem at168 (x0:Int) (h:P168 x0) (K:Ctx) (q:Nat→Value):AtV Tryz.prog 168 (PostR kds168 oks168 [⟨.bool,g168_0 x0⟩] [] [] q K) 5 K q [] [.code b168] (entE 0 0 sig168 (x0,())) (entL sig168 (x0,())):=by
 unfold P168 at h
 unfold g168_0
 exact AtV.ret Tryz.func168 tabOk ext168Ok mixed false [] tys168 [] (a1 trivial trivial) (by kernel_rfl)
def S168:Am.Spec:={ sig:=sig168,pre:=fun ⟨x0,_⟩=>P168 x0,res:=fun ⟨x0,_⟩=>[⟨.bool,g168_0 x0⟩],kds:=kds168 }
theorem con168:Contract Tryz.prog 168 S168:=contract_of Tryz.func168 hb168 (bl_ (by kernel_rfl)) (fun ⟨x0,_⟩ h _ K q=>at168 x0 h K q)
end
noncomputable section
def ext143:Ext:=[(139,S139),(166,S166),(167,S167),(168,S168)]
theorem ext143Ok:ExtOk Tryz.prog ext143:=⟨⟨ca139,con139⟩,⟨ca166,con166⟩,⟨ca167,con167⟩,⟨ca168,con168⟩,trivial⟩
def b143:Code:=bodyOf Tryz.f143
theorem hb143:Tryz.f143.body=some b143:=by kernel_rfl
def sig143:List AT:=[AT.v YA6]
def tys143:List Ty:=[.bool]
def kds143:List RK:=[]
def oks143:List AT:=owns sig143
def P143 (x0:Int×Int×ByteArray×Int×Unit):Prop:=(if (g139_0 x0.1)=true then (if (g166_0 x0.2.1)=true then ((P167 x0.2.2.1)∧True) else True) else True)
def g143_0 (x0:Int×Int×ByteArray×Int×Unit):Bool:=(if (g139_0 x0.1)=true then (if (g166_0 x0.2.1)=true then (if (g167_0 x0.2.2.1)=true then g168_0 x0.2.2.2.1 else false) else false) else false)
theorem at143 (x0:Int×Int×ByteArray×Int×Unit) (h:P143 x0) (K:Ctx) (q:Nat→Value):AtV Tryz.prog 143 (PostR kds143 oks143 [⟨.bool,g143_0 x0⟩] [] [] q K) 21 K q [] [.code b143] (entE 0 0 sig143 (x0,())) (entL sig143 (x0,())):=by
 unfold P143 at h
 unfold g143_0
 by_cases b0:(g139_0 x0.1)=true
 ·try simp only [if_pos b0] at h ⊢
  by_cases b1:(g166_0 x0.2.1)=true
  ·try simp only [if_pos b1] at h ⊢
   obtain ⟨s0,h⟩:=h
   by_cases b2:(g167_0 x0.2.2.1)=true
   ·try simp only [if_pos b2] at h ⊢
    exact AtV.ret Tryz.func143 tabOk ext143Ok mixed false [] tys143 [true,true,true] (a1 trivial (a1 b0 (a1 trivial (a1 b1 (a1 s0 (a1 b2 (a1 trivial trivial))))))) (by kernel_rfl)
   ·try simp only [if_neg b2] at h ⊢
    replace b2:=bf_ b2
    exact AtV.ret Tryz.func143 tabOk ext143Ok mixed false [] tys143 [true,true,false] (a1 trivial (a1 b0 (a1 trivial (a1 b1 (a1 s0 (a1 b2 trivial)))))) (by kernel_rfl)
  ·try simp only [if_neg b1] at h ⊢
   replace b1:=bf_ b1
   exact AtV.ret Tryz.func143 tabOk ext143Ok mixed false [] tys143 [true,false,false] (a1 trivial (a1 b0 (a1 trivial (a1 b1 (a1 (rfl:false=false) trivial))))) (by kernel_rfl)
 ·try simp only [if_neg b0] at h ⊢
  replace b0:=bf_ b0
  exact AtV.ret Tryz.func143 tabOk ext143Ok mixed false [] tys143 [false,false,false] (a1 trivial (a1 b0 (a1 (rfl:false=false) (a1 (rfl:false=false) trivial)))) (by kernel_rfl)
def S143:Am.Spec:={ sig:=sig143,pre:=fun ⟨x0,_⟩=>P143 x0,res:=fun ⟨x0,_⟩=>[⟨.bool,g143_0 x0⟩],kds:=kds143 }
theorem con143:Contract Tryz.prog 143 S143:=contract_of Tryz.func143 hb143 (bl_ (by kernel_rfl)) (fun ⟨x0,_⟩ h _ K q=>at143 x0 h K q)
end
noncomputable section
def ext144:Ext:=[]
theorem ext144Ok:ExtOk Tryz.prog ext144:=trivial
def b144:Code:=bodyOf Tryz.f144
theorem hb144:Tryz.f144.body=some b144:=by kernel_rfl
def sig144:List AT:=[AT.v YA6,AT.v YA6]
def tys144:List Ty:=[.bool]
def kds144:List RK:=[]
def oks144:List AT:=owns sig144
def P144 (x0:Int×Int×ByteArray×Int×Unit) (x1:Int×Int×ByteArray×Int×Unit):Prop:=True
def g144_0 (x0:Int×Int×ByteArray×Int×Unit) (x1:Int×Int×ByteArray×Int×Unit):Bool:=(if (decide (x0.1>x1.1))=true then true else (if (x0.1==x1.1)=true then decide (x0.2.1>x1.2.1) else false))
theorem at144 (x0:Int×Int×ByteArray×Int×Unit) (x1:Int×Int×ByteArray×Int×Unit) (h:P144 x0 x1) (K:Ctx) (q:Nat→Value):AtV Tryz.prog 144 (PostR kds144 oks144 [⟨.bool,g144_0 x0 x1⟩] [] [] q K) 24 K q [] [.code b144] (entE 0 0 sig144 (x0,x1,())) (entL sig144 (x0,x1,())):=by
 unfold P144 at h
 unfold g144_0
 by_cases b0:(decide (x0.1>x1.1))=true
 ·try simp only [if_pos b0] at h ⊢
  exact AtV.ret Tryz.func144 tabOk ext144Ok mixed false [] tys144 [true] (a1 b0 trivial) (by kernel_rfl)
 ·try simp only [if_neg b0] at h ⊢
  replace b0:=bf_ b0
  by_cases b1:(x0.1==x1.1)=true
  ·try simp only [if_pos b1] at h ⊢
   exact AtV.ret Tryz.func144 tabOk ext144Ok mixed false [] tys144 [false,true] (a1 b0 (a1 b1 trivial)) (by kernel_rfl)
  ·try simp only [if_neg b1] at h ⊢
   replace b1:=bf_ b1
   exact AtV.ret Tryz.func144 tabOk ext144Ok mixed false [] tys144 [false,false] (a1 b0 (a1 b1 trivial)) (by kernel_rfl)
def S144:Am.Spec:={ sig:=sig144,pre:=fun ⟨x0,x1,_⟩=>P144 x0 x1,res:=fun ⟨x0,x1,_⟩=>[⟨.bool,g144_0 x0 x1⟩],kds:=kds144 }
theorem con144:Contract Tryz.prog 144 S144:=contract_of Tryz.func144 hb144 (bl_ (by kernel_rfl)) (fun ⟨x0,x1,_⟩ h _ K q=>at144 x0 x1 h K q)
end
noncomputable section
def ext112:Ext:=[(143,S143),(144,S144)]
theorem ext112Ok:ExtOk Tryz.prog ext112:=⟨⟨ca143,con143⟩,⟨ca144,con144⟩,trivial⟩
def b112:Code:=bodyOf Tryz.f112
theorem hb112:Tryz.f112.body=some b112:=by kernel_rfl
def sig112:List AT:=[AT.v (.sl YA6)]
def tys112:List Ty:=[.bool]
def kds112:List RK:=[]
def oks112:List AT:=owns sig112
def E112_2 (v7:Int) (x0:List TyB2):Env:=[(0,.a (.sl YA6 x0)),(5,.a (.sl YA6 x0)),(6,.a (.val (.int .i64 (x0.length:Int)))),(7,.a (.val (.int .i64 v7)))]
def L112_2 (v7:Int) (x0:List TyB2):Heap:=[]
mutual
def R112:Nat→List TyB2→List Dyn→Prop
 | 0,_,_=>False
 | n+1,x0,ds=>(R112_2 n (0) (x0) ds)
def R112_2:Nat→Int→List TyB2→List Dyn→Prop
 | 0,_,_,_=>False
 | n+1,v7,x0,ds=>(if (decide (v7<(x0.length:Int)))=true then ((0≤v7)∧(v7<(x0.length:Int))∧((P143 (List.getD x0 (Int.toNat v7) (0,0,ByteArray.empty,0,())))∧(if (!g143_0 (List.getD x0 (Int.toNat v7) (0,0,ByteArray.empty,0,())))=true then (ds=[Dyn.mk .bool false]) else (if (decide (v7>0))=true then ((InR .i64 (v7 - 1))∧((0≤v7 - 1)∧(v7 - 1<(x0.length:Int))∧(if (g144_0 (List.getD x0 (Int.toNat (v7 - 1)) (0,0,ByteArray.empty,0,())) (List.getD x0 (Int.toNat v7) (0,0,ByteArray.empty,0,())))=true then (ds=[Dyn.mk .bool false]) else ((InR .i64 (v7+1))∧(R112_2 n (v7+1) (x0) ds))))) else ((InR .i64 (v7+1))∧(R112_2 n (v7+1) (x0) ds)))))) else (ds=[Dyn.mk .bool (decide ((x0.length:Int)≤40))]))
end
theorem snd112:∀ n,(∀ (x0:List TyB2) ds,R112 n x0 ds→∀ K q,AtV Tryz.prog 112 (PostR kds112 oks112 ds [] [] q K) 32 K q [] [.code b112] (entE 0 0 sig112 (x0,())) (entL sig112 (x0,())))∧(∀ (v7:Int) (x0:List TyB2) ds,R112_2 n v7 x0 ds→∀ K q,AtV Tryz.prog 112 (PostR kds112 oks112 ds [] [] q K) 32 K q [] (cutAt b112 2) (E112_2 v7 x0) (L112_2 v7 x0)):=by
 intro n
 induction n with
 | zero=>exact ⟨fun _ _ h=>by simp only [R112] at h,fun _ _ _ h=>by simp only [R112_2] at h⟩
 | succ n ih =>
 obtain ⟨ih,ih2⟩:=ih
 refine ⟨?_,?_⟩
 ·intro x0 ds h K q
  rw [R112] at h
  exact AtV.go tabOk ext112Ok mixed false [] [] [0,5,6,7] [] [] trivial (ih2 _ _ _ h K q) (by kernel_rfl)
 ·intro v7 x0 ds h K q
  rw [R112_2] at h
  by_cases b0:(decide (v7<(x0.length:Int)))=true
  ·rw [if_pos b0] at h
   obtain ⟨s0,s1,h⟩:=h
   obtain ⟨s2,h⟩:=h
   by_cases b1:(!g143_0 (List.getD x0 (Int.toNat v7) (0,0,ByteArray.empty,0,())))=true
   ·rw [if_pos b1] at h
    subst h
    exact AtV.ret Tryz.func112 tabOk ext112Ok mixed false [] tys112 [true,true,true] (a1 b0 (a1 s0 (a1 s1 (a1 s2 (a1 b1 (a1 (rfl:true=true) trivial)))))) (by kernel_rfl)
   ·rw [if_neg b1] at h
    replace b1:=bf_ b1
    by_cases b2:(decide (v7>0))=true
    ·rw [if_pos b2] at h
     obtain ⟨s3,h⟩:=h
     obtain ⟨s4,s5,h⟩:=h
     by_cases b3:(g144_0 (List.getD x0 (Int.toNat (v7 - 1)) (0,0,ByteArray.empty,0,())) (List.getD x0 (Int.toNat v7) (0,0,ByteArray.empty,0,())))=true
     ·rw [if_pos b3] at h
      subst h
      exact AtV.ret Tryz.func112 tabOk ext112Ok mixed false [] tys112 [true,false,true,true] (a1 b0 (a1 s0 (a1 s1 (a1 s2 (a1 b1 (a1 b2 (a1 s3 (a1 s4 (a1 s5 (a1 trivial (a1 b3 trivial))))))))))) (by kernel_rfl)
     ·rw [if_neg b3] at h
      replace b3:=bf_ b3
      obtain ⟨s6,h⟩:=h
      exact AtV.go tabOk ext112Ok mixed false [] [] [0,5,6,7] [] [true,false,true,false] (a1 b0 (a1 s0 (a1 s1 (a1 s2 (a1 b1 (a1 b2 (a1 s3 (a1 s4 (a1 s5 (a1 trivial (a1 b3 (a1 s6 trivial)))))))))))) (ih2 _ _ _ h K q) (by kernel_rfl)
    ·rw [if_neg b2] at h
     replace b2:=bf_ b2
     obtain ⟨s3,h⟩:=h
     exact AtV.go tabOk ext112Ok mixed false [] [] [0,5,6,7] [] [true,false,false,false] (a1 b0 (a1 s0 (a1 s1 (a1 s2 (a1 b1 (a1 b2 (a1 (rfl:false=false) (a1 s3 trivial)))))))) (ih2 _ _ _ h K q) (by kernel_rfl)
  ·rw [if_neg b0] at h
   replace b0:=bf_ b0
   subst h
   exact AtV.ret Tryz.func112 tabOk ext112Ok mixed false [] tys112 [false] (a1 b0 trivial) (by kernel_rfl)
def ok112 (x0:List TyB2) (i:Nat) (x:TyB2):Bool:=g143_0 x&&(i==0 || !g144_0 (x0.getD (i - 1) ((0:Int),(0:Int),ByteArray.empty,(0:Int),())) x)
def g112_0 (x0:List TyB2):Bool:=allI (ok112 x0) 0 x0&&decide ((x0.length:Int)≤40)
def P112 (x0:List TyB2):Prop:=True
theorem one112_pre (x:TyB2):P143 x:=by
 unfold P143
 split
 ·split
  ·refine ⟨?_,trivial⟩
   unfold P167
   split
   ·rename_i h
    have h:(x.2.2.1.size:Int)≤40:=by simpa using h
    have h':x.2.2.1.size≤281474976710656:=by omega
    repeat' (first | apply And.intro | exact trivial | split)
    all_goals (first | omega | decide | trivial)
   ·trivial
  ·trivial
 ·trivial
theorem step112 (n i:Nat) (x0:List TyB2) (hm:x0.length≤maxLen) (hi:i<x0.length) (ds:List Dyn)
  (h:if ok112 x0 i (x0.getD i ((0:Int),(0:Int),ByteArray.empty,(0:Int),()))=true then R112_2 n ((i:Int)+1) x0 ds else ds=[⟨.bool,false⟩]):R112_2 (n+1) (i:Int) x0 ds:=by
 have hu:=inR_up hm hi
 have hmx:maxLen≤9223372036854775807:=by decide
 rw [R112_2,if_pos (by simp only [decide_eq_true_eq];omega)]
 simp only [Int.toNat_natCast]
 refine ⟨by omega,by omega,one112_pre _,?_⟩
 unfold ok112 at h
 by_cases hv:g143_0 (x0.getD i ((0:Int),(0:Int),ByteArray.empty,(0:Int),()))=true
 case neg=>rw [bf_ hv] at h;rw [if_pos (by rw [bf_ hv];rfl)];simpa using h
 rw [if_neg (by rw [hv];simp)]
 rw [hv] at h
 by_cases h0:(i:Int)>0
 case neg =>
  rw [if_neg (by simpa using h0)]
  have hi0:(i==0)=true:=by simp;omega
  rw [hi0] at h
  exact ⟨hu,by simpa using h⟩
 rw [if_pos (by simpa using h0)]
 have hi0:(i==0)=false:=by simp;omega
 have e:((i:Int) - 1).toNat=i - 1:=by omega
 have hd:InR .i64 ((i:Int) - 1):=by rw [i64_iff];omega
 rw [hi0] at h
 simp only [e]
 refine ⟨hd,by omega,by omega,?_⟩
 by_cases c0:g144_0 (x0.getD (i - 1) ((0:Int),(0:Int),ByteArray.empty,(0:Int),())) (x0.getD i ((0:Int),(0:Int),ByteArray.empty,(0:Int),()))=true
 ·rw [if_pos c0]
  rw [c0] at h
  simpa using h
 ·rw [if_neg c0]
  rw [bf_ c0] at h
  exact ⟨hu,by simpa using h⟩
theorem top112 (x0:List TyB2) (hw:x0.length≤maxLen):R112 (x0.length+1+1) x0 [⟨.bool,g112_0 x0⟩]:=by
 rw [R112]
 have key:=loop_testI x0 ((0:Int),(0:Int),ByteArray.empty,(0:Int),()) (ok112 x0) [(⟨.bool,false⟩:Dyn)] [⟨.bool,decide ((x0.length:Int)≤40)⟩] (fun n i ds=>R112_2 n i x0 ds) (fun n => ?_) (fun n i hi hok ds hr => ?_) (fun n i hi hok => ?_)
 ·unfold g112_0
  cases h:allI (ok112 x0) 0 x0 with
  | true=>rw [if_pos h] at key;simpa using key
  | false=>rw [if_neg (by rw [h];simp)] at key;simpa using key
 ·rw [R112_2,if_neg (by simp)]
 ·exact step112 n i x0 hw hi ds (by rw [if_pos hok];exact hr)
 ·exact step112 n i x0 hw hi _ (by rw [if_neg (by rw [hok];simp)])
def S112:Am.Spec:={ sig:=sig112,pre:=fun ⟨x0,_⟩=>P112 x0,res:=fun ⟨x0,_⟩=>[⟨.bool,g112_0 x0⟩] }
theorem con112:Contract Tryz.prog 112 S112:=contract_of Tryz.func112 hb112 (bl_ (by kernel_rfl)) (fun ⟨x0,_⟩ h hwf K q =>
 (snd112 _).1 x0 _ (top112 x0 hwf.1.1) K q)
end
noncomputable section
def ext68:Ext:=[(103,S103),(104,S104),(105,S105),(106,S106),(107,S107),(108,S108),(109,S109),(110,S110),(111,S111),(112,S112)]
theorem ext68Ok:ExtOk Tryz.prog ext68:=⟨⟨ca103,con103⟩,⟨ca104,con104⟩,⟨ca105,con105⟩,⟨ca106,con106⟩,⟨ca107,con107⟩,⟨ca108,con108⟩,⟨ca109,con109⟩,⟨ca110,con110⟩,⟨ca111,con111⟩,⟨ca112,con112⟩,trivial⟩
def b68:Code:=bodyOf Tryz.f68
theorem hb68:Tryz.f68.body=some b68:=by kernel_rfl
def sig68:List AT:=[AT.v YA0]
def tys68:List Ty:=[.bool]
def kds68:List RK:=[]
def oks68:List AT:=owns sig68
def P68 (x0:TyA0):Prop:=True
def g68_0 (x0:TyA0):Bool:=(if (g103_0 x0.1)=true then (if (g104_0 x0.2.1)=true then (if (g105_0 x0.2.2.1)=true then (if (g107_0 x0.2.2.2.2.1)=true then (if (g108_0 x0.2.2.2.2.2.1)=true then (if (g106_0 x0.2.2.2.1)=true then (if (g109_0 x0.2.2.2.2.2.2.1 x0.2.2.2.2.2.2.2.1 x0.2.2.2.2.2.2.2.2.1 0==0)=true then (if (g110_0 x0.2.2.2.2.2.2.2.2.2.1)=true then (if (g111_0 x0.2.2.2.2.2.2.2.2.2.2.1)=true then g112_0 x0.2.2.2.2.2.2.2.2.2.2.2.1 else false) else false) else false) else false) else (if (g106_0 x0.2.2.2.1)=true then false else false)) else (if (g106_0 x0.2.2.2.1)=true then false else false)) else (if (g107_0 x0.2.2.2.2.1)=true then (if (g108_0 x0.2.2.2.2.2.1)=true then false else false) else false)) else (if (g107_0 x0.2.2.2.2.1)=true then (if (g108_0 x0.2.2.2.2.2.1)=true then false else false) else false)) else (if (g107_0 x0.2.2.2.2.1)=true then (if (g108_0 x0.2.2.2.2.2.1)=true then false else false) else false))
theorem at68 (x0:TyA0) (h:P68 x0) (K:Ctx) (q:Nat→Value):AtV Tryz.prog 68 (PostR kds68 oks68 [⟨.bool,g68_0 x0⟩] [] [] q K) 60 K q [] [.code b68] (entE 0 0 sig68 (x0,())) (entL sig68 (x0,())):=by
 unfold P68 at h
 unfold g68_0
 by_cases b0:(g103_0 x0.1)=true
 ·try simp only [if_pos b0] at h ⊢
  by_cases b1:(g104_0 x0.2.1)=true
  ·try simp only [if_pos b1] at h ⊢
   by_cases b2:(g105_0 x0.2.2.1)=true
   ·try simp only [if_pos b2] at h ⊢
    by_cases b3:(g107_0 x0.2.2.2.2.1)=true
    ·try simp only [if_pos b3] at h ⊢
     by_cases b4:(g108_0 x0.2.2.2.2.2.1)=true
     ·try simp only [if_pos b4] at h ⊢
      by_cases b5:(g106_0 x0.2.2.2.1)=true
      ·try simp only [if_pos b5] at h ⊢
       by_cases b6:(g109_0 x0.2.2.2.2.2.2.1 x0.2.2.2.2.2.2.2.1 x0.2.2.2.2.2.2.2.2.1 0==0)=true
       ·try simp only [if_pos b6] at h ⊢
        by_cases b7:(g110_0 x0.2.2.2.2.2.2.2.2.2.1)=true
        ·try simp only [if_pos b7] at h ⊢
         by_cases b8:(g111_0 x0.2.2.2.2.2.2.2.2.2.2.1)=true
         ·try simp only [if_pos b8] at h ⊢
          exact AtV.ret Tryz.func68 tabOk ext68Ok mixed false [] tys68 [true,true,true,true,true,true,true,true,true] (a1 trivial (a1 b0 (a1 trivial (a1 b1 (a1 trivial (a1 b2 (a1 trivial (a1 trivial (a1 b3 (a1 trivial (a1 b4 (a1 trivial (a1 b5 (a1 b6 (a1 trivial (a1 b7 (a1 trivial (a1 b8 (a1 trivial trivial))))))))))))))))))) (by kernel_rfl)
         ·try simp only [if_neg b8] at h ⊢
          replace b8:=bf_ b8
          exact AtV.ret Tryz.func68 tabOk ext68Ok mixed false [] tys68 [true,true,true,true,true,true,true,true,false] (a1 trivial (a1 b0 (a1 trivial (a1 b1 (a1 trivial (a1 b2 (a1 trivial (a1 trivial (a1 b3 (a1 trivial (a1 b4 (a1 trivial (a1 b5 (a1 b6 (a1 trivial (a1 b7 (a1 trivial (a1 b8 trivial)))))))))))))))))) (by kernel_rfl)
        ·try simp only [if_neg b7] at h ⊢
         replace b7:=bf_ b7
         exact AtV.ret Tryz.func68 tabOk ext68Ok mixed false [] tys68 [true,true,true,true,true,true,true,false,false] (a1 trivial (a1 b0 (a1 trivial (a1 b1 (a1 trivial (a1 b2 (a1 trivial (a1 trivial (a1 b3 (a1 trivial (a1 b4 (a1 trivial (a1 b5 (a1 b6 (a1 trivial (a1 b7 (a1 (rfl:false=false) trivial))))))))))))))))) (by kernel_rfl)
       ·try simp only [if_neg b6] at h ⊢
        replace b6:=bf_ b6
        exact AtV.ret Tryz.func68 tabOk ext68Ok mixed false [] tys68 [true,true,true,true,true,true,false,false,false] (a1 trivial (a1 b0 (a1 trivial (a1 b1 (a1 trivial (a1 b2 (a1 trivial (a1 trivial (a1 b3 (a1 trivial (a1 b4 (a1 trivial (a1 b5 (a1 b6 (a1 (rfl:false=false) (a1 (rfl:false=false) trivial)))))))))))))))) (by kernel_rfl)
      ·try simp only [if_neg b5] at h ⊢
       replace b5:=bf_ b5
       exact AtV.ret Tryz.func68 tabOk ext68Ok mixed false [] tys68 [true,true,true,true,true,false,false,false,false] (a1 trivial (a1 b0 (a1 trivial (a1 b1 (a1 trivial (a1 b2 (a1 trivial (a1 trivial (a1 b3 (a1 trivial (a1 b4 (a1 trivial (a1 b5 (a1 (rfl:false=false) (a1 (rfl:false=false) (a1 (rfl:false=false) trivial)))))))))))))))) (by kernel_rfl)
     ·try simp only [if_neg b4] at h ⊢
      replace b4:=bf_ b4
      by_cases b5:(g106_0 x0.2.2.2.1)=true
      ·try simp only [if_pos b5] at h ⊢
       exact AtV.ret Tryz.func68 tabOk ext68Ok mixed false [] tys68 [true,true,true,true,false,true,false,false,false] (a1 trivial (a1 b0 (a1 trivial (a1 b1 (a1 trivial (a1 b2 (a1 trivial (a1 trivial (a1 b3 (a1 trivial (a1 b4 (a1 b5 (a1 (rfl:false=false) (a1 (rfl:false=false) (a1 (rfl:false=false) trivial))))))))))))))) (by kernel_rfl)
      ·try simp only [if_neg b5] at h ⊢
       replace b5:=bf_ b5
       exact AtV.ret Tryz.func68 tabOk ext68Ok mixed false [] tys68 [true,true,true,true,false,false,false,false,false] (a1 trivial (a1 b0 (a1 trivial (a1 b1 (a1 trivial (a1 b2 (a1 trivial (a1 trivial (a1 b3 (a1 trivial (a1 b4 (a1 b5 (a1 (rfl:false=false) (a1 (rfl:false=false) (a1 (rfl:false=false) trivial))))))))))))))) (by kernel_rfl)
    ·try simp only [if_neg b3] at h ⊢
     replace b3:=bf_ b3
     by_cases b4:(g106_0 x0.2.2.2.1)=true
     ·try simp only [if_pos b4] at h ⊢
      exact AtV.ret Tryz.func68 tabOk ext68Ok mixed false [] tys68 [true,true,true,false,false,true,false,false,false] (a1 trivial (a1 b0 (a1 trivial (a1 b1 (a1 trivial (a1 b2 (a1 trivial (a1 trivial (a1 b3 (a1 (rfl:false=false) (a1 b4 (a1 (rfl:false=false) (a1 (rfl:false=false) (a1 (rfl:false=false) trivial)))))))))))))) (by kernel_rfl)
     ·try simp only [if_neg b4] at h ⊢
      replace b4:=bf_ b4
      exact AtV.ret Tryz.func68 tabOk ext68Ok mixed false [] tys68 [true,true,true,false,false,false,false,false,false] (a1 trivial (a1 b0 (a1 trivial (a1 b1 (a1 trivial (a1 b2 (a1 trivial (a1 trivial (a1 b3 (a1 (rfl:false=false) (a1 b4 (a1 (rfl:false=false) (a1 (rfl:false=false) (a1 (rfl:false=false) trivial)))))))))))))) (by kernel_rfl)
   ·try simp only [if_neg b2] at h ⊢
    replace b2:=bf_ b2
    by_cases b3:(g107_0 x0.2.2.2.2.1)=true
    ·try simp only [if_pos b3] at h ⊢
     by_cases b4:(g108_0 x0.2.2.2.2.2.1)=true
     ·try simp only [if_pos b4] at h ⊢
      exact AtV.ret Tryz.func68 tabOk ext68Ok mixed false [] tys68 [true,true,false,true,true,false,false,false,false] (a1 trivial (a1 b0 (a1 trivial (a1 b1 (a1 trivial (a1 b2 (a1 trivial (a1 b3 (a1 trivial (a1 b4 (a1 trivial (a1 (rfl:false=false) (a1 (rfl:false=false) (a1 (rfl:false=false) (a1 (rfl:false=false) trivial))))))))))))))) (by kernel_rfl)
     ·try simp only [if_neg b4] at h ⊢
      replace b4:=bf_ b4
      exact AtV.ret Tryz.func68 tabOk ext68Ok mixed false [] tys68 [true,true,false,true,false,false,false,false,false] (a1 trivial (a1 b0 (a1 trivial (a1 b1 (a1 trivial (a1 b2 (a1 trivial (a1 b3 (a1 trivial (a1 b4 (a1 (rfl:false=false) (a1 (rfl:false=false) (a1 (rfl:false=false) (a1 (rfl:false=false) trivial)))))))))))))) (by kernel_rfl)
    ·try simp only [if_neg b3] at h ⊢
     replace b3:=bf_ b3
     exact AtV.ret Tryz.func68 tabOk ext68Ok mixed false [] tys68 [true,true,false,false,false,false,false,false,false] (a1 trivial (a1 b0 (a1 trivial (a1 b1 (a1 trivial (a1 b2 (a1 trivial (a1 b3 (a1 (rfl:false=false) (a1 (rfl:false=false) (a1 (rfl:false=false) (a1 (rfl:false=false) (a1 (rfl:false=false) trivial))))))))))))) (by kernel_rfl)
  ·try simp only [if_neg b1] at h ⊢
   replace b1:=bf_ b1
   by_cases b2:(g107_0 x0.2.2.2.2.1)=true
   ·try simp only [if_pos b2] at h ⊢
    by_cases b3:(g108_0 x0.2.2.2.2.2.1)=true
    ·try simp only [if_pos b3] at h ⊢
     exact AtV.ret Tryz.func68 tabOk ext68Ok mixed false [] tys68 [true,false,false,true,true,false,false,false,false] (a1 trivial (a1 b0 (a1 trivial (a1 b1 (a1 (rfl:false=false) (a1 trivial (a1 b2 (a1 trivial (a1 b3 (a1 trivial (a1 (rfl:false=false) (a1 (rfl:false=false) (a1 (rfl:false=false) (a1 (rfl:false=false) trivial)))))))))))))) (by kernel_rfl)
    ·try simp only [if_neg b3] at h ⊢
     replace b3:=bf_ b3
     exact AtV.ret Tryz.func68 tabOk ext68Ok mixed false [] tys68 [true,false,false,true,false,false,false,false,false] (a1 trivial (a1 b0 (a1 trivial (a1 b1 (a1 (rfl:false=false) (a1 trivial (a1 b2 (a1 trivial (a1 b3 (a1 (rfl:false=false) (a1 (rfl:false=false) (a1 (rfl:false=false) (a1 (rfl:false=false) trivial))))))))))))) (by kernel_rfl)
   ·try simp only [if_neg b2] at h ⊢
    replace b2:=bf_ b2
    exact AtV.ret Tryz.func68 tabOk ext68Ok mixed false [] tys68 [true,false,false,false,false,false,false,false,false] (a1 trivial (a1 b0 (a1 trivial (a1 b1 (a1 (rfl:false=false) (a1 trivial (a1 b2 (a1 (rfl:false=false) (a1 (rfl:false=false) (a1 (rfl:false=false) (a1 (rfl:false=false) (a1 (rfl:false=false) trivial)))))))))))) (by kernel_rfl)
 ·try simp only [if_neg b0] at h ⊢
  replace b0:=bf_ b0
  by_cases b1:(g107_0 x0.2.2.2.2.1)=true
  ·try simp only [if_pos b1] at h ⊢
   by_cases b2:(g108_0 x0.2.2.2.2.2.1)=true
   ·try simp only [if_pos b2] at h ⊢
    exact AtV.ret Tryz.func68 tabOk ext68Ok mixed false [] tys68 [false,false,false,true,true,false,false,false,false] (a1 trivial (a1 b0 (a1 (rfl:false=false) (a1 (rfl:false=false) (a1 trivial (a1 b1 (a1 trivial (a1 b2 (a1 trivial (a1 (rfl:false=false) (a1 (rfl:false=false) (a1 (rfl:false=false) (a1 (rfl:false=false) trivial))))))))))))) (by kernel_rfl)
   ·try simp only [if_neg b2] at h ⊢
    replace b2:=bf_ b2
    exact AtV.ret Tryz.func68 tabOk ext68Ok mixed false [] tys68 [false,false,false,true,false,false,false,false,false] (a1 trivial (a1 b0 (a1 (rfl:false=false) (a1 (rfl:false=false) (a1 trivial (a1 b1 (a1 trivial (a1 b2 (a1 (rfl:false=false) (a1 (rfl:false=false) (a1 (rfl:false=false) (a1 (rfl:false=false) trivial)))))))))))) (by kernel_rfl)
  ·try simp only [if_neg b1] at h ⊢
   replace b1:=bf_ b1
   exact AtV.ret Tryz.func68 tabOk ext68Ok mixed false [] tys68 [false,false,false,false,false,false,false,false,false] (a1 trivial (a1 b0 (a1 (rfl:false=false) (a1 (rfl:false=false) (a1 trivial (a1 b1 (a1 (rfl:false=false) (a1 (rfl:false=false) (a1 (rfl:false=false) (a1 (rfl:false=false) (a1 (rfl:false=false) trivial))))))))))) (by kernel_rfl)
def S68:Am.Spec:={ sig:=sig68,pre:=fun ⟨x0,_⟩=>P68 x0,res:=fun ⟨x0,_⟩=>[⟨.bool,g68_0 x0⟩],kds:=kds68 }
theorem con68:Contract Tryz.prog 68 S68:=contract_of Tryz.func68 hb68 (bl_ (by kernel_rfl)) (fun ⟨x0,_⟩ h _ K q=>at68 x0 h K q)
end
noncomputable section
def ext113:Ext:=[(114,S114)]
theorem ext113Ok:ExtOk Tryz.prog ext113:=⟨⟨ca114,con114⟩,trivial⟩
def b113:Code:=bodyOf Tryz.f113
theorem hb113:Tryz.f113.body=some b113:=by kernel_rfl
def sig113:List AT:=[AT.v YA2]
def tys113:List Ty:=[.int .i64,.int .i64,.bool]
def kds113:List RK:=[]
def oks113:List AT:=owns sig113
def P113 (x0:List TyB4×Int×Int×Unit):Prop:=((P114 x0)∧((InR .i64 (g114_0 x0 - x0.2.2.1))∧((P114 x0)∧((InR .i64 (g114_0 x0 - x0.2.1))∧True))))
def g113_0 (x0:List TyB4×Int×Int×Unit):Int:=if x0.2.1<g114_0 x0 - x0.2.2.1 then g114_0 x0 - x0.2.2.1 else x0.2.1
def g113_1 (x0:List TyB4×Int×Int×Unit):Int:=if g114_0 x0 - x0.2.1<x0.2.2.1 then g114_0 x0 - x0.2.1 else x0.2.2.1
def g113_2 (x0:List TyB4×Int×Int×Unit):Bool:=decide ((if x0.2.1<g114_0 x0 - x0.2.2.1 then g114_0 x0 - x0.2.2.1 else x0.2.1)≤if g114_0 x0 - x0.2.1<x0.2.2.1 then g114_0 x0 - x0.2.1 else x0.2.2.1)
theorem at113 (x0:List TyB4×Int×Int×Unit) (h:P113 x0) (K:Ctx) (q:Nat→Value):AtV Tryz.prog 113 (PostR kds113 oks113 [⟨.int .i64,g113_0 x0⟩,⟨.int .i64,g113_1 x0⟩,⟨.bool,g113_2 x0⟩] [] [] q K) 28 K q [] [.code b113] (entE 0 0 sig113 (x0,())) (entL sig113 (x0,())):=by
 unfold P113 at h
 unfold g113_0 g113_1 g113_2
 obtain ⟨s0,h⟩:=h
 obtain ⟨s1,h⟩:=h
 obtain ⟨s2,h⟩:=h
 obtain ⟨s3,h⟩:=h
 exact AtV.ret Tryz.func113 tabOk ext113Ok mixed false [] tys113 [] (a1 s0 (a1 s1 (a1 s2 (a1 s3 trivial)))) (by kernel_rfl)
def S113:Am.Spec:={ sig:=sig113,pre:=fun ⟨x0,_⟩=>P113 x0,res:=fun ⟨x0,_⟩=>[⟨.int .i64,g113_0 x0⟩,⟨.int .i64,g113_1 x0⟩,⟨.bool,g113_2 x0⟩],kds:=kds113 }
theorem con113:Contract Tryz.prog 113 S113:=contract_of Tryz.func113 hb113 (bl_ (by kernel_rfl)) (fun ⟨x0,_⟩ h _ K q=>at113 x0 h K q)
end
noncomputable section
def ext145:Ext:=[]
theorem ext145Ok:ExtOk Tryz.prog ext145:=trivial
def b145:Code:=bodyOf Tryz.f145
theorem hb145:Tryz.f145.body=some b145:=by kernel_rfl
def sig145:List AT:=[AT.v (.int .i64)]
def tys145:List Ty:=[.int .i64]
def kds145:List RK:=[]
def oks145:List AT:=owns sig145
def P145 (x0:Int):Prop:=(if (decide (x0<0))=true then ((InR .i64 (0 - x0))∧True) else True)
def g145_0 (x0:Int):Int:=(if (decide (x0<0))=true then 0 - x0 else x0)
theorem at145 (x0:Int) (h:P145 x0) (K:Ctx) (q:Nat→Value):AtV Tryz.prog 145 (PostR kds145 oks145 [⟨.int .i64,g145_0 x0⟩] [] [] q K) 8 K q [] [.code b145] (entE 0 0 sig145 (x0,())) (entL sig145 (x0,())):=by
 unfold P145 at h
 unfold g145_0
 by_cases b0:(decide (x0<0))=true
 ·try simp only [if_pos b0] at h ⊢
  obtain ⟨s0,h⟩:=h
  exact AtV.ret Tryz.func145 tabOk ext145Ok mixed false [] tys145 [true] (a1 b0 (a1 s0 trivial)) (by kernel_rfl)
 ·try simp only [if_neg b0] at h ⊢
  replace b0:=bf_ b0
  exact AtV.ret Tryz.func145 tabOk ext145Ok mixed false [] tys145 [false] (a1 b0 trivial) (by kernel_rfl)
def S145:Am.Spec:={ sig:=sig145,pre:=fun ⟨x0,_⟩=>P145 x0,res:=fun ⟨x0,_⟩=>[⟨.int .i64,g145_0 x0⟩],kds:=kds145 }
theorem con145:Contract Tryz.prog 145 S145:=contract_of Tryz.func145 hb145 (bl_ (by kernel_rfl)) (fun ⟨x0,_⟩ h _ K q=>at145 x0 h K q)
end
noncomputable section
def ext115:Ext:=[(114,S114),(145,S145)]
theorem ext115Ok:ExtOk Tryz.prog ext115:=⟨⟨ca114,con114⟩,⟨ca145,con145⟩,trivial⟩
def b115:Code:=bodyOf Tryz.f115
theorem hb115:Tryz.f115.body=some b115:=by kernel_rfl
def sig115:List AT:=[AT.v YA2,AT.v (.int .i64)]
def tys115:List Ty:=[.int .i64]
def kds115:List RK:=[]
def oks115:List AT:=owns sig115
def P115 (x0:List TyB4×Int×Int×Unit) (x1:Int):Prop:=((P114 x0)∧((InR .i64 (2*x1))∧((InR .i64 (g114_0 x0 - 2*x1))∧((P145 (g114_0 x0 - 2*x1))∧True))))
def g115_0 (x0:List TyB4×Int×Int×Unit) (x1:Int):Int:=g145_0 (g114_0 x0 - 2*x1)
theorem at115 (x0:List TyB4×Int×Int×Unit) (x1:Int) (h:P115 x0 x1) (K:Ctx) (q:Nat→Value):AtV Tryz.prog 115 (PostR kds115 oks115 [⟨.int .i64,g115_0 x0 x1⟩] [] [] q K) 11 K q [] [.code b115] (entE 0 0 sig115 (x0,x1,())) (entL sig115 (x0,x1,())):=by
 unfold P115 at h
 unfold g115_0
 obtain ⟨s0,h⟩:=h
 obtain ⟨s1,h⟩:=h
 obtain ⟨s2,h⟩:=h
 obtain ⟨s3,h⟩:=h
 exact AtV.ret Tryz.func115 tabOk ext115Ok mixed false [] tys115 [] (a1 s0 (a1 s1 (a1 s2 (a1 s3 trivial)))) (by kernel_rfl)
def S115:Am.Spec:={ sig:=sig115,pre:=fun ⟨x0,x1,_⟩=>P115 x0 x1,res:=fun ⟨x0,x1,_⟩=>[⟨.int .i64,g115_0 x0 x1⟩],kds:=kds115 }
theorem con115:Contract Tryz.prog 115 S115:=contract_of Tryz.func115 hb115 (bl_ (by kernel_rfl)) (fun ⟨x0,x1,_⟩ h _ K q=>at115 x0 x1 h K q)
end
noncomputable section
def ext70:Ext:=[(113,S113),(114,S114),(115,S115)]
theorem ext70Ok:ExtOk Tryz.prog ext70:=⟨⟨ca113,con113⟩,⟨ca114,con114⟩,⟨ca115,con115⟩,trivial⟩
def b70:Code:=bodyOf Tryz.f70
theorem hb70:Tryz.f70.body=some b70:=by kernel_rfl
def sig70:List AT:=[AT.v YA2]
def tys70:List Ty:=[.int .i64,.bool]
def kds70:List RK:=[]
def oks70:List AT:=owns sig70
def P70 (x0:List TyB4×Int×Int×Unit):Prop:=((P113 x0)∧(if (!g113_2 x0)=true then ((P114 x0)∧((InR .i64 (Int.tmod (g114_0 x0) 2))∧True)) else (if (g113_0 x0==0)=true then True else ((InR .i64 (g113_0 x0 - 1))∧((P115 x0 (g113_0 x0 - 1))∧True)))))
def g70_0 (x0:List TyB4×Int×Int×Unit):Int:=(if (!g113_2 x0)=true then Int.tmod (g114_0 x0) 2 else (if (g113_0 x0==0)=true then 0 else g115_0 x0 (g113_0 x0 - 1)))
def g70_1 (x0:List TyB4×Int×Int×Unit):Bool:=(if (!g113_2 x0)=true then true else (if (g113_0 x0==0)=true then false else true))
theorem at70 (x0:List TyB4×Int×Int×Unit) (h:P70 x0) (K:Ctx) (q:Nat→Value):AtV Tryz.prog 70 (PostR kds70 oks70 [⟨.int .i64,g70_0 x0⟩,⟨.bool,g70_1 x0⟩] [] [] q K) 26 K q [] [.code b70] (entE 0 0 sig70 (x0,())) (entL sig70 (x0,())):=by
 unfold P70 at h
 unfold g70_0 g70_1
 obtain ⟨s0,h⟩:=h
 by_cases b0:(!g113_2 x0)=true
 ·try simp only [if_pos b0] at h ⊢
  obtain ⟨s1,h⟩:=h
  obtain ⟨s2,h⟩:=h
  exact AtV.ret Tryz.func70 tabOk ext70Ok mixed false [] tys70 [true] (a1 s0 (a1 b0 (a1 s1 (a1 ((by decide):(2:Int)≠(0:Int)) (a1 s2 trivial))))) (by kernel_rfl)
 ·try simp only [if_neg b0] at h ⊢
  replace b0:=bf_ b0
  by_cases b1:(g113_0 x0==0)=true
  ·try simp only [if_pos b1] at h ⊢
   exact AtV.ret Tryz.func70 tabOk ext70Ok mixed false [] tys70 [false,true] (a1 s0 (a1 b0 (a1 b1 trivial))) (by kernel_rfl)
  ·try simp only [if_neg b1] at h ⊢
   replace b1:=bf_ b1
   obtain ⟨s1,h⟩:=h
   obtain ⟨s2,h⟩:=h
   exact AtV.ret Tryz.func70 tabOk ext70Ok mixed false [] tys70 [false,false] (a1 s0 (a1 b0 (a1 b1 (a1 s1 (a1 s2 trivial))))) (by kernel_rfl)
def S70:Am.Spec:={ sig:=sig70,pre:=fun ⟨x0,_⟩=>P70 x0,res:=fun ⟨x0,_⟩=>[⟨.int .i64,g70_0 x0⟩,⟨.bool,g70_1 x0⟩],kds:=kds70 }
theorem con70:Contract Tryz.prog 70 S70:=contract_of Tryz.func70 hb70 (bl_ (by kernel_rfl)) (fun ⟨x0,_⟩ h _ K q=>at70 x0 h K q)
end
noncomputable section
def ext69:Ext:=[(113,S113),(70,S70)]
theorem ext69Ok:ExtOk Tryz.prog ext69:=⟨⟨ca113,con113⟩,⟨ca70,con70⟩,trivial⟩
def b69:Code:=bodyOf Tryz.f69
theorem hb69:Tryz.f69.body=some b69:=by kernel_rfl
def sig69:List AT:=[AT.v YA2,AT.v (.int .i64)]
def tys69:List Ty:=[.bool]
def kds69:List RK:=[]
def oks69:List AT:=owns sig69
def P69 (x0:List TyB4×Int×Int×Unit) (x1:Int):Prop:=((P113 x0)∧((P70 x0)∧True))
def g69_0 (x0:List TyB4×Int×Int×Unit) (x1:Int):Bool:=(if (g113_2 x0)=true then (if (!g70_1 x0)=true then true else decide (g70_0 x0≥x1)) else false)
theorem at69 (x0:List TyB4×Int×Int×Unit) (x1:Int) (h:P69 x0 x1) (K:Ctx) (q:Nat→Value):AtV Tryz.prog 69 (PostR kds69 oks69 [⟨.bool,g69_0 x0 x1⟩] [] [] q K) 31 K q [] [.code b69] (entE 0 0 sig69 (x0,x1,())) (entL sig69 (x0,x1,())):=by
 unfold P69 at h
 unfold g69_0
 obtain ⟨s0,h⟩:=h
 obtain ⟨s1,h⟩:=h
 by_cases b0:(g113_2 x0)=true
 ·try simp only [if_pos b0] at h ⊢
  by_cases b1:(!g70_1 x0)=true
  ·try simp only [if_pos b1] at h ⊢
   exact AtV.ret Tryz.func69 tabOk ext69Ok mixed false [] tys69 [true,true] (a1 s0 (a1 s1 (a1 b0 (a1 b1 trivial)))) (by kernel_rfl)
  ·try simp only [if_neg b1] at h ⊢
   replace b1:=bf_ b1
   exact AtV.ret Tryz.func69 tabOk ext69Ok mixed false [] tys69 [true,false] (a1 s0 (a1 s1 (a1 b0 (a1 b1 trivial)))) (by kernel_rfl)
 ·try simp only [if_neg b0] at h ⊢
  replace b0:=bf_ b0
  exact AtV.ret Tryz.func69 tabOk ext69Ok mixed false [] tys69 [false] (a1 s0 (a1 s1 (a1 b0 trivial))) (by kernel_rfl)
def S69:Am.Spec:={ sig:=sig69,pre:=fun ⟨x0,x1,_⟩=>P69 x0 x1,res:=fun ⟨x0,x1,_⟩=>[⟨.bool,g69_0 x0 x1⟩],kds:=kds69 }
theorem con69:Contract Tryz.prog 69 S69:=contract_of Tryz.func69 hb69 (bl_ (by kernel_rfl)) (fun ⟨x0,x1,_⟩ h _ K q=>at69 x0 x1 h K q)
end
def sig116:List AT:=[AT.v (Ty.int .i64),AT.v (Ty.int .i64)]
def g116_0 (x0 x1:Int):ByteArray:=numB x0
def P116 (x0 x1:Int):Prop:=x1=10
def S116:Am.Spec:={ sig:=sig116,pre:=fun ⟨x0,x1,_⟩=>P116 x0 x1,res:=fun ⟨x0,x1,_⟩=>[⟨Ty.str,g116_0 x0 x1⟩] }
theorem con116:Contract Tryz.prog 116 S116:=contract_flat rfl fun w ⟨x0,x1,_⟩ vs bss hg hp hw ha=>by
 obtain ⟨v0,s0,_,_,rfl,_,⟨_,rfl,hi⟩,v1,s1,_,_,rfl,_,⟨_,rfl,_⟩,rfl,_⟩:=ha
 obtain rfl:x1=10:=hp
 have hi:InR .i64 x0:=hi
 rw [i64_iff] at hi
 refine ⟨fun d hd => ?_,?_⟩
 ·rw [List.mem_singleton.1 hd]
  refine ⟨rfl,?_⟩
  show (numB x0).size≤maxLen
  have:=numB_size x0 hi.1 hi.2
  unfold maxLen;omega
 ·refine (Tryz.strconv_FormatInt_10 x0 hi.1 hi.2 w (pow10G hg)).mono ?_
  rintro e w' ⟨rfl,n,os,rfl⟩
  exact ⟨rfl,kept_grow _ _ _⟩
noncomputable section
def ext71:Ext:=[(116,S116)]
theorem ext71Ok:ExtOk Tryz.prog ext71:=⟨⟨ca116,con116⟩,trivial⟩
def b71:Code:=bodyOf Tryz.f71
theorem hb71:Tryz.f71.body=some b71:=by kernel_rfl
def sig71:List AT:=[AT.v (.int .i64)]
def tys71:List Ty:=[.str]
def kds71:List RK:=[]
def oks71:List AT:=owns sig71
def P71 (x0:Int):Prop:=((P116 x0 10)∧True)
def g71_0 (x0:Int):ByteArray:=g116_0 x0 10
theorem at71 (x0:Int) (h:P71 x0) (K:Ctx) (q:Nat→Value):AtV Tryz.prog 71 (PostR kds71 oks71 [⟨.str,g71_0 x0⟩] [] [] q K) 5 K q [] [.code b71] (entE 0 0 sig71 (x0,())) (entL sig71 (x0,())):=by
 unfold P71 at h
 unfold g71_0
 obtain ⟨s0,h⟩:=h
 exact AtV.ret Tryz.func71 tabOk ext71Ok mixed false [] tys71 [] (a1 s0 trivial) (by kernel_rfl)
def S71:Am.Spec:={ sig:=sig71,pre:=fun ⟨x0,_⟩=>P71 x0,res:=fun ⟨x0,_⟩=>[⟨.str,g71_0 x0⟩],kds:=kds71 }
theorem con71:Contract Tryz.prog 71 S71:=contract_of Tryz.func71 hb71 (bl_ (by kernel_rfl)) (fun ⟨x0,_⟩ h _ K q=>at71 x0 h K q)
end
noncomputable section
def ext174:Ext:=[]
theorem ext174Ok:ExtOk Tryz.prog ext174:=trivial
def b174:Code:=bodyOf Tryz.f174
theorem hb174:Tryz.f174.body=some b174:=by kernel_rfl
def sig174:List AT:=[AT.v (.int .i64),AT.p (.cons (.int .i64) (.cons (.int .i64) (.cons (.int .i64) (.cons (.int .i64) .unit)))),AT.p (.int .i64)]
def tys174:List Ty:=[.bool]
def kds174:List RK:=[]
def oks174:List AT:=owns sig174
def P174 (x0:Int) (x1:Int×Int×Int×Int×Unit) (x2:Int):Prop:=((InR .i64 (x0*x0))∧((InR .i64 (x1.2.2.1*x1.2.2.1))∧((InR .i64 (2*x1.1))∧((InR .i64 (x2 - x0))∧((InR .i64 (x2 - x0 - x1.2.2.2.1))∧((InR .i64 (2*x1.1*if 0<x2 - x0 - x1.2.2.2.1 then x2 - x0 - x1.2.2.2.1 else 0))∧((InR .i64 (x1.2.2.1*x1.2.2.1+2*x1.1*if 0<x2 - x0 - x1.2.2.2.1 then x2 - x0 - x1.2.2.2.1 else 0))∧True)))))))
def g174_0 (x0:Int) (x1:Int×Int×Int×Int×Unit) (x2:Int):Bool:=decide (x0*x0>x1.2.2.1*x1.2.2.1+2*x1.1*if 0<x2 - x0 - x1.2.2.2.1 then x2 - x0 - x1.2.2.2.1 else 0)
theorem at174 (x0:Int) (x1:Int×Int×Int×Int×Unit) (x2:Int) (h:P174 x0 x1 x2) (K:Ctx) (q:Nat→Value):AtV Tryz.prog 174 (PostR kds174 oks174 [⟨.bool,g174_0 x0 x1 x2⟩] [] [] q K) 26 K q [] [.code b174] (entE 0 0 sig174 (x0,x1,x2,())) (entL sig174 (x0,x1,x2,())):=by
 unfold P174 at h
 unfold g174_0
 obtain ⟨s0,h⟩:=h
 obtain ⟨s1,h⟩:=h
 obtain ⟨s2,h⟩:=h
 obtain ⟨s3,h⟩:=h
 obtain ⟨s4,h⟩:=h
 obtain ⟨s5,h⟩:=h
 obtain ⟨s6,h⟩:=h
 exact AtV.ret Tryz.func174 tabOk ext174Ok mixed false [] tys174 [] (a1 s0 (a1 s1 (a1 s2 (a1 s3 (a1 s4 (a1 s5 (a1 s6 trivial))))))) (by kernel_rfl)
def S174:Am.Spec:={ sig:=sig174,pre:=fun ⟨x0,x1,x2,_⟩=>P174 x0 x1 x2,res:=fun ⟨x0,x1,x2,_⟩=>[⟨.bool,g174_0 x0 x1 x2⟩],kds:=kds174 }
theorem con174:Contract Tryz.prog 174 S174:=contract_of Tryz.func174 hb174 (bl_ (by kernel_rfl)) (fun ⟨x0,x1,x2,_⟩ h _ K q=>at174 x0 x1 x2 h K q)
end
noncomputable section
def ext173c174:Ext:=[(174,S174)]
theorem ext173c174Ok:ExtOk Tryz.prog ext173c174:=⟨⟨ca174,con174⟩,trivial⟩
def b173c174:Code:=bodyOf Tryz.f173
theorem hb173c174:Tryz.f173.body=some b173c174:=by kernel_rfl
def sig173c174:List AT:=[AT.v (.int .i64),AT.v (.int .i64),AT.fn 174 [(true,(.cons (.int .i64) (.cons (.int .i64) (.cons (.int .i64) (.cons (.int .i64) .unit))))),(true,(.int .i64))]]
def tys173c174:List Ty:=[.int .i64]
def kds173c174:List RK:=[]
def oks173c174:List AT:=owns sig173c174
def E173c174_2 (v7:Int) (x0:Int) (x2:Int×Int×Int×Int×Unit) (x2c:Int):Env:=[(0,.a (.val (.int .i64 x0))),(2,PV.fn 174 [Atom.ptr YA4 x2,Atom.ptr (.int .i64) x2c]),(7,.a (.val (.int .i64 v7)))]
def L173c174_2 (v7:Int) (x0:Int) (x2:Int×Int×Int×Int×Unit) (x2c:Int):Heap:=[]
mutual
def R173c174:Nat→Int→Int→Int×Int×Int×Int×Unit→Int→List Dyn→Prop
 | 0,_,_,_,_,_=>False
 | n+1,x0,x1,x2,x2c,ds=>((InR .i64 (x1+1))∧(R173c174_2 n (x1+1) (x0) (x2) (x2c) ds))
def R173c174_2:Nat→Int→Int→Int×Int×Int×Int×Unit→Int→List Dyn→Prop
 | 0,_,_,_,_,_=>False
 | n+1,v7,x0,x2,x2c,ds=>(if (decide (x0<v7))=true then ((InR .i64 (x0+v7))∧((InR .i64 (Int.tdiv (x0+v7) 2))∧((P174 (Int.tdiv (x0+v7) 2) x2 x2c)∧(if (g174_0 (Int.tdiv (x0+v7) 2) x2 x2c)=true then (R173c174_2 n (Int.tdiv (x0+v7) 2) (x0) (x2) (x2c) ds) else ((InR .i64 (Int.tdiv (x0+v7) 2+1))∧(R173c174_2 n (v7) (Int.tdiv (x0+v7) 2+1) (x2) (x2c) ds)))))) else (ds=[Dyn.mk (.int .i64) x0]))
end
theorem snd173c174:∀ n,(∀ (x0:Int) (x1:Int) (x2:Int×Int×Int×Int×Unit) (x2c:Int) ds,R173c174 n x0 x1 x2 x2c ds→∀ K q,AtV Tryz.prog 173 (PostR kds173c174 oks173c174 ds [] [] q K) 25 K q [] [.code b173c174] (entE 0 0 sig173c174 (x0,x1,(x2,x2c,()),())) (entL sig173c174 (x0,x1,(x2,x2c,()),())))∧(∀ (v7:Int) (x0:Int) (x2:Int×Int×Int×Int×Unit) (x2c:Int) ds,R173c174_2 n v7 x0 x2 x2c ds→∀ K q,AtV Tryz.prog 173 (PostR kds173c174 oks173c174 ds [] [] q K) 25 K q [] (cutAt b173c174 2) (E173c174_2 v7 x0 x2 x2c) (L173c174_2 v7 x0 x2 x2c)):=by
 intro n
 induction n with
 | zero=>exact ⟨fun _ _ _ _ _ h=>by simp only [R173c174] at h,fun _ _ _ _ _ h=>by simp only [R173c174_2] at h⟩
 | succ n ih =>
 obtain ⟨ih,ih2⟩:=ih
 refine ⟨?_,?_⟩
 ·intro x0 x1 x2 x2c ds h K q
  rw [R173c174] at h
  obtain ⟨s0,h⟩:=h
  exact AtV.go tabOk ext173c174Ok mixed false [] [] [0,2,7] [] [] (a1 s0 trivial) (ih2 _ _ _ _ _ h K q) (by kernel_rfl)
 ·intro v7 x0 x2 x2c ds h K q
  rw [R173c174_2] at h
  by_cases b0:(decide (x0<v7))=true
  ·rw [if_pos b0] at h
   obtain ⟨s0,h⟩:=h
   obtain ⟨s1,h⟩:=h
   obtain ⟨s2,h⟩:=h
   by_cases b1:(g174_0 (Int.tdiv (x0+v7) 2) x2 x2c)=true
   ·rw [if_pos b1] at h
    exact AtV.go tabOk ext173c174Ok mixed false [] [] [0,2,7] [] [true,true] (a1 b0 (a1 s0 (a1 ((by decide):(2:Int)≠(0:Int)) (a1 s1 (a1 s2 (a1 b1 trivial)))))) (ih2 _ _ _ _ _ h K q) (by kernel_rfl)
   ·rw [if_neg b1] at h
    replace b1:=bf_ b1
    obtain ⟨s3,h⟩:=h
    exact AtV.go tabOk ext173c174Ok mixed false [] [] [0,2,7] [] [true,false] (a1 b0 (a1 s0 (a1 ((by decide):(2:Int)≠(0:Int)) (a1 s1 (a1 s2 (a1 b1 (a1 s3 trivial))))))) (ih2 _ _ _ _ _ h K q) (by kernel_rfl)
  ·rw [if_neg b0] at h
   replace b0:=bf_ b0
   subst h
   exact AtV.ret Tryz.func173 tabOk ext173c174Ok mixed false [] tys173c174 [false] (a1 b0 trivial) (by kernel_rfl)
def g173c174_0 (x0 x1:Int) (y0:Int×Int×Int×Int×Unit) (y1:Int):Int:=bsI (fun x=>g174_0 x y0 y1) (x1+1 - x0).toNat x0 (x1+1)
def P173c174 (x0 x1:Int) (y0:Int×Int×Int×Int×Unit) (y1:Int):Prop:=(0≤x0∧x0≤x1+1∧x1≤1000000000)∧∀ v,0≤v→v≤x1→P174 v y0 y1
theorem run173c174 (y0:Int×Int×Int×Int×Unit) (y1:Int) (e9:Int) (he:e9≤1000000000) (hp:∀ v,0≤v→v≤e9→P174 v y0 y1):∀ (k:Nat) (lo e:Int),0≤lo→lo≤e→e≤e9+1→e - lo≤(k:Int)→R173c174_2 (k+1) e lo y0 y1 [⟨.int .i64,bsI (fun x=>g174_0 x y0 y1) k lo e⟩]:=by
 intro k
 induction k with
 | zero =>
  intro lo e h0 h1 h2 h3
  rw [R173c174_2,if_neg (by simp only [decide_eq_true_eq];omega)]
  rfl
 | succ k ih =>
  intro lo e h0 h1 h2 h3
  unfold bsI
  by_cases hlt:lo<e
  ·obtain ⟨m1,m2⟩:=half_in h0 hlt
   rw [R173c174_2,if_pos (by simpa using hlt),if_pos hlt]
   refine ⟨by rw [i64_iff];omega,by rw [i64_iff];omega,hp _ (by omega) (by omega),?_⟩
   split
   ·exact ih lo _ h0 m1 (by omega) (by omega)
   ·exact ⟨by rw [i64_iff];omega,ih _ e (by omega) (by omega) h2 (by omega)⟩
  ·rw [R173c174_2,if_neg (by simpa using hlt),if_neg hlt]
theorem top173c174 (x0 x1:Int) (y0:Int×Int×Int×Int×Unit) (y1:Int) (h:P173c174 x0 x1 y0 y1):R173c174 ((x1+1 - x0).toNat+1+1) x0 x1 y0 y1 [⟨.int .i64,g173c174_0 x0 x1 y0 y1⟩]:=by
 obtain ⟨⟨h1,h2,h3⟩,hp⟩:=h
 rw [R173c174]
 exact ⟨by rw [i64_iff];omega,run173c174 y0 y1 x1 h3 hp _ _ _ h1 h2 (by omega) (by omega)⟩
def S173c174:Am.Spec:={ sig:=sig173c174,pre:=fun ⟨x0,x1,⟨y0,y1,_⟩,_⟩=>P173c174 x0 x1 y0 y1,res:=fun ⟨x0,x1,⟨y0,y1,_⟩,_⟩=>[⟨.int .i64,g173c174_0 x0 x1 y0 y1⟩] }
theorem con173c174:Contract Tryz.prog 173 S173c174:=contract_of Tryz.func173 hb173c174 (bl_ (by kernel_rfl)) (fun ⟨x0,x1,⟨y0,y1,_⟩,_⟩ h hwf K q =>
 (snd173c174 _).1 x0 x1 y0 y1 _ (top173c174 x0 x1 y0 y1 h) K q)
end
noncomputable section
def ext147:Ext:=[(173,S173c174)]
theorem ext147Ok:ExtOk Tryz.prog ext147:=⟨⟨ca173,con173c174⟩,trivial⟩
def b147:Code:=bodyOf Tryz.f147
theorem hb147:Tryz.f147.body=some b147:=by kernel_rfl
def sig147:List AT:=[AT.v YA4,AT.v (.int .i64),AT.v (.int .i64)]
def tys147:List Ty:=[.int .i64]
def kds147:List RK:=[]
def oks147:List AT:=owns sig147
def P147 (x0:Int×Int×Int×Int×Unit) (x1:Int) (x2:Int):Prop:=((InR .i64 (x1+x0.1))∧(if (decide ((if x1+x0.1<x0.2.1 then x1+x0.1 else x0.2.1)>x0.2.2.1))=true then ((P173c174 x0.2.2.1 (if x1+x0.1<x0.2.1 then x1+x0.1 else x0.2.1) x0 x2)∧((InR .i64 (g173c174_0 x0.2.2.1 (if x1+x0.1<x0.2.1 then x1+x0.1 else x0.2.1) x0 x2 - 1))∧True)) else True))
def g147_0 (x0:Int×Int×Int×Int×Unit) (x1:Int) (x2:Int):Int:=(if (decide ((if x1+x0.1<x0.2.1 then x1+x0.1 else x0.2.1)>x0.2.2.1))=true then if x2<g173c174_0 x0.2.2.1 (if x1+x0.1<x0.2.1 then x1+x0.1 else x0.2.1) x0 x2 - 1 then x2 else g173c174_0 x0.2.2.1 (if x1+x0.1<x0.2.1 then x1+x0.1 else x0.2.1) x0 x2 - 1 else if x2<x0.2.2.1 then x2 else x0.2.2.1)
theorem at147 (x0:Int×Int×Int×Int×Unit) (x1:Int) (x2:Int) (h:P147 x0 x1 x2) (K:Ctx) (q:Nat→Value):AtV Tryz.prog 147 (PostR kds147 oks147 [⟨.int .i64,g147_0 x0 x1 x2⟩] [] [] q K) 31 K q [] [.code b147] (entE 0 0 sig147 (x0,x1,x2,())) (entL sig147 (x0,x1,x2,())):=by
 unfold P147 at h
 unfold g147_0
 obtain ⟨s0,h⟩:=h
 by_cases b0:(decide ((if x1+x0.1<x0.2.1 then x1+x0.1 else x0.2.1)>x0.2.2.1))=true
 ·try simp only [if_pos b0] at h ⊢
  obtain ⟨s1,h⟩:=h
  obtain ⟨s2,h⟩:=h
  exact AtV.ret Tryz.func147 tabOk ext147Ok mixed false [] tys147 [true] (a1 s0 (a1 b0 (a1 s1 (a1 s2 trivial)))) (by kernel_rfl)
 ·try simp only [if_neg b0] at h ⊢
  replace b0:=bf_ b0
  exact AtV.ret Tryz.func147 tabOk ext147Ok mixed false [] tys147 [false] (a1 s0 (a1 b0 trivial)) (by kernel_rfl)
def S147:Am.Spec:={ sig:=sig147,pre:=fun ⟨x0,x1,x2,_⟩=>P147 x0 x1 x2,res:=fun ⟨x0,x1,x2,_⟩=>[⟨.int .i64,g147_0 x0 x1 x2⟩],kds:=kds147 }
theorem con147:Contract Tryz.prog 147 S147:=contract_of Tryz.func147 hb147 (bl_ (by kernel_rfl)) (fun ⟨x0,x1,x2,_⟩ h _ K q=>at147 x0 x1 x2 h K q)
end
noncomputable section
def ext149:Ext:=[]
theorem ext149Ok:ExtOk Tryz.prog ext149:=trivial
def b149:Code:=bodyOf Tryz.f149
theorem hb149:Tryz.f149.body=some b149:=by kernel_rfl
def sig149:List AT:=[AT.v YA2,AT.v (.bool)]
def tys149:List Ty:=[.int .i64]
def kds149:List RK:=[]
def oks149:List AT:=owns sig149
def E149_3 (v5:Int) (v16:Int) (x1:Bool) (x0:List TyB4×Int×Int×Unit):Env:=[(1,.a (.val (.bool x1))),(5,.a (.val (.int .i64 v5))),(14,.a (.sl YA9 x0.1)),(15,.a (.val (.int .i64 (x0.1.length:Int)))),(16,.a (.val (.int .i64 v16)))]
def L149_3 (v5:Int) (v16:Int) (x1:Bool) (x0:List TyB4×Int×Int×Unit):Heap:=[]
mutual
def R149:Nat→List TyB4×Int×Int×Unit→Bool→List Dyn→Prop
 | 0,_,_,_=>False
 | n+1,x0,x1,ds=>((0<(x0.1.length:Int))∧(R149_3 n (List.getD x0.1 0 (0,0,())).2.1 (0) (x1) (x0) ds))
def R149_3:Nat→Int→Int→Bool→List TyB4×Int×Int×Unit→List Dyn→Prop
 | 0,_,_,_,_,_=>False
 | n+1,v5,v16,x1,x0,ds=>(if (decide (v16<(x0.1.length:Int)))=true then ((0≤v16)∧(v16<(x0.1.length:Int))∧(if (x1)=true then ((InR .i64 (v16+1))∧(R149_3 n (if v5<(List.getD x0.1 (Int.toNat v16) (0,0,())).2.1 then (List.getD x0.1 (Int.toNat v16) (0,0,())).2.1 else v5) (v16+1) (x1) (x0) ds)) else ((InR .i64 (v16+1))∧(R149_3 n (if (List.getD x0.1 (Int.toNat v16) (0,0,())).2.1<v5 then (List.getD x0.1 (Int.toNat v16) (0,0,())).2.1 else v5) (v16+1) (x1) (x0) ds)))) else (ds=[Dyn.mk (.int .i64) v5]))
end
theorem snd149:∀ n,(∀ (x0:List TyB4×Int×Int×Unit) (x1:Bool) ds,R149 n x0 x1 ds→∀ K q,AtV Tryz.prog 149 (PostR kds149 oks149 ds [] [] q K) 31 K q [] [.code b149] (entE 0 0 sig149 (x0,x1,())) (entL sig149 (x0,x1,())))∧(∀ (v5:Int) (v16:Int) (x1:Bool) (x0:List TyB4×Int×Int×Unit) ds,R149_3 n v5 v16 x1 x0 ds→∀ K q,AtV Tryz.prog 149 (PostR kds149 oks149 ds [] [] q K) 31 K q [] (cutAt b149 3) (E149_3 v5 v16 x1 x0) (L149_3 v5 v16 x1 x0)):=by
 intro n
 induction n with
 | zero=>exact ⟨fun _ _ _ h=>by simp only [R149] at h,fun _ _ _ _ _ h=>by simp only [R149_3] at h⟩
 | succ n ih =>
 obtain ⟨ih,ih3⟩:=ih
 refine ⟨?_,?_⟩
 ·intro x0 x1 ds h K q
  rw [R149] at h
  obtain ⟨s0,h⟩:=h
  exact AtV.go tabOk ext149Ok mixed false [] [] [1,5,14,15,16] [] [] (a1 ((by decide):(0:Int)≤(0:Int)) (a1 s0 trivial)) (ih3 _ _ _ _ _ h K q) (by kernel_rfl)
 ·intro v5 v16 x1 x0 ds h K q
  rw [R149_3] at h
  by_cases b0:(decide (v16<(x0.1.length:Int)))=true
  ·rw [if_pos b0] at h
   obtain ⟨s0,s1,h⟩:=h
   by_cases b1:(x1)=true
   ·rw [if_pos b1] at h
    obtain ⟨s2,h⟩:=h
    exact AtV.go tabOk ext149Ok mixed false [] [] [1,5,14,15,16] [] [true,true] (a1 b0 (a1 s0 (a1 s1 (a1 b1 (a1 s2 trivial))))) (ih3 _ _ _ _ _ h K q) (by kernel_rfl)
   ·rw [if_neg b1] at h
    replace b1:=bf_ b1
    obtain ⟨s2,h⟩:=h
    exact AtV.go tabOk ext149Ok mixed false [] [] [1,5,14,15,16] [] [true,false] (a1 b0 (a1 s0 (a1 s1 (a1 b1 (a1 s2 trivial))))) (ih3 _ _ _ _ _ h K q) (by kernel_rfl)
  ·rw [if_neg b0] at h
   replace b0:=bf_ b0
   subst h
   exact AtV.ret Tryz.func149 tabOk ext149Ok mixed false [] tys149 [false] (a1 b0 trivial) (by kernel_rfl)
def g149_0 (x0:List TyB4×Int×Int×Unit) (x1:Bool):Int:=worstL x1 (x0.1.getD 0 ((0:Int),(0:Int),())).2.1 x0.1
def P149 (x0:List TyB4×Int×Int×Unit) (x1:Bool):Prop:=1≤x0.1.length∧x0.1.length≤1000
theorem run149 (x0:List TyB4×Int×Int×Unit) (x1:Bool) (hl:x0.1.length≤1000):∀ (k i:Nat) (g:Int),i+k=x0.1.length→R149_3 (k+1) g (i:Int) x1 x0 [⟨.int .i64,worstL x1 g (x0.1.drop i)⟩]:=by
 intro k
 induction k with
 | zero =>
  intro i g hi
  rw [R149_3,if_neg (by simp only [decide_eq_true_eq];omega),List.drop_eq_nil_of_le (by omega)]
  rfl
 | succ k ih =>
  intro i g hi
  have hlt:i<x0.1.length:=by omega
  have e:(i:Int)+1=((i+1:Nat):Int):=by omega
  rw [R149_3,if_pos (by simp only [decide_eq_true_eq];omega),List.drop_eq_getElem_cons hlt,worst_cons]
  simp only [Int.toNat_natCast,getD_lt x0.1 i _ hlt]
  refine ⟨by omega,by omega,?_⟩
  have h:=fun g=>ih (i+1) g (by omega)
  cases x1 with
  | true =>
   simp only [if_true]
   rw [e]
   exact ⟨by rw [i64_iff];omega,h _⟩
  | false =>
   simp only [Bool.false_eq_true,if_false]
   rw [e]
   exact ⟨by rw [i64_iff];omega,h _⟩
theorem top149 (x0:List TyB4×Int×Int×Unit) (x1:Bool) (h:P149 x0 x1):R149 (x0.1.length+1+1) x0 x1 [⟨.int .i64,g149_0 x0 x1⟩]:=by
 rw [R149]
 exact ⟨by have:=h.1;omega,run149 x0 x1 h.2 x0.1.length 0 _ (by omega)⟩
def S149:Am.Spec:={ sig:=sig149,pre:=fun ⟨x0,x1,_⟩=>P149 x0 x1,res:=fun ⟨x0,x1,_⟩=>[⟨.int .i64,g149_0 x0 x1⟩] }
theorem con149:Contract Tryz.prog 149 S149:=contract_of Tryz.func149 hb149 (bl_ (by kernel_rfl)) (fun ⟨x0,x1,_⟩ h hwf K q =>
 (snd149 _).1 x0 x1 _ (top149 x0 x1 h) K q)
end
noncomputable section
def ext200:Ext:=[(145,S145)]
theorem ext200Ok:ExtOk Tryz.prog ext200:=⟨⟨ca145,con145⟩,trivial⟩
def b200:Code:=bodyOf Tryz.f200
theorem hb200:Tryz.f200.body=some b200:=by kernel_rfl
def sig200:List AT:=[AT.v (.int .i64),AT.v (.int .i64)]
def tys200:List Ty:=[.int .i64]
def kds200:List RK:=[]
def oks200:List AT:=owns sig200
def P200 (x0:Int) (x1:Int):Prop:=((x1≠0)∧(InR .i64 (Int.tdiv x0 x1))∧((x1≠0)∧(InR .i64 (Int.tmod x0 x1))∧((P145 (Int.tmod x0 x1))∧((P145 x1)∧((InR .i64 (g145_0 x1 - g145_0 (Int.tmod x0 x1)))∧(if (decide (g145_0 (Int.tmod x0 x1)≥g145_0 x1 - g145_0 (Int.tmod x0 x1)))=true then (if (!decide (x0<0)==decide (x1<0))=true then ((InR .i64 (Int.tdiv x0 x1 - 1))∧True) else ((InR .i64 (Int.tdiv x0 x1+1))∧True)) else True))))))
def g200_0 (x0:Int) (x1:Int):Int:=(if (decide (g145_0 (Int.tmod x0 x1)≥g145_0 x1 - g145_0 (Int.tmod x0 x1)))=true then (if (!decide (x0<0)==decide (x1<0))=true then Int.tdiv x0 x1 - 1 else Int.tdiv x0 x1+1) else Int.tdiv x0 x1)
theorem at200 (x0:Int) (x1:Int) (h:P200 x0 x1) (K:Ctx) (q:Nat→Value):AtV Tryz.prog 200 (PostR kds200 oks200 [⟨.int .i64,g200_0 x0 x1⟩] [] [] q K) 30 K q [] [.code b200] (entE 0 0 sig200 (x0,x1,())) (entL sig200 (x0,x1,())):=by
 unfold P200 at h
 unfold g200_0
 obtain ⟨s0,s1,h⟩:=h
 obtain ⟨s2,s3,h⟩:=h
 obtain ⟨s4,h⟩:=h
 obtain ⟨s5,h⟩:=h
 obtain ⟨s6,h⟩:=h
 by_cases b0:(decide (g145_0 (Int.tmod x0 x1)≥g145_0 x1 - g145_0 (Int.tmod x0 x1)))=true
 ·try simp only [if_pos b0] at h ⊢
  by_cases b1:(!decide (x0<0)==decide (x1<0))=true
  ·try simp only [if_pos b1] at h ⊢
   obtain ⟨s7,h⟩:=h
   exact AtV.ret Tryz.func200 tabOk ext200Ok mixed false [] tys200 [true,true] (a1 s0 (a1 s1 (a1 s2 (a1 s3 (a1 s4 (a1 s5 (a1 s6 (a1 b0 (a1 b1 (a1 s7 trivial)))))))))) (by kernel_rfl)
  ·try simp only [if_neg b1] at h ⊢
   replace b1:=bf_ b1
   obtain ⟨s7,h⟩:=h
   exact AtV.ret Tryz.func200 tabOk ext200Ok mixed false [] tys200 [true,false] (a1 s0 (a1 s1 (a1 s2 (a1 s3 (a1 s4 (a1 s5 (a1 s6 (a1 b0 (a1 b1 (a1 s7 trivial)))))))))) (by kernel_rfl)
 ·try simp only [if_neg b0] at h ⊢
  replace b0:=bf_ b0
  exact AtV.ret Tryz.func200 tabOk ext200Ok mixed false [] tys200 [false] (a1 s0 (a1 s1 (a1 s2 (a1 s3 (a1 s4 (a1 s5 (a1 s6 (a1 b0 trivial)))))))) (by kernel_rfl)
def S200:Am.Spec:={ sig:=sig200,pre:=fun ⟨x0,x1,_⟩=>P200 x0 x1,res:=fun ⟨x0,x1,_⟩=>[⟨.int .i64,g200_0 x0 x1⟩],kds:=kds200 }
theorem con200:Contract Tryz.prog 200 S200:=contract_of Tryz.func200 hb200 (bl_ (by kernel_rfl)) (fun ⟨x0,x1,_⟩ h _ K q=>at200 x0 x1 h K q)
end
noncomputable section
def ext189:Ext:=[(200,S200)]
theorem ext189Ok:ExtOk Tryz.prog ext189:=⟨⟨ca200,con200⟩,trivial⟩
def b189:Code:=bodyOf Tryz.f189
theorem hb189:Tryz.f189.body=some b189:=by kernel_rfl
def sig189:List AT:=[AT.v YA9,AT.v (.int .i64),AT.v (.bool)]
def tys189:List Ty:=[.int .i64]
def kds189:List RK:=[]
def oks189:List AT:=owns sig189
def P189 (x0:Int×Int×Unit) (x1:Int) (x2:Bool):Prop:=((InR .i64 (x1*981))∧((P200 (x1*981) 100)∧(if (x2)=true then ((InR .i64 (x0.2.1 - g200_0 (x1*981) 100))∧True) else ((InR .i64 (x0.2.1+g200_0 (x1*981) 100))∧True))))
def g189_0 (x0:Int×Int×Unit) (x1:Int) (x2:Bool):Int:=(if (x2)=true then x0.2.1 - g200_0 (x1*981) 100 else x0.2.1+g200_0 (x1*981) 100)
theorem at189 (x0:Int×Int×Unit) (x1:Int) (x2:Bool) (h:P189 x0 x1 x2) (K:Ctx) (q:Nat→Value):AtV Tryz.prog 189 (PostR kds189 oks189 [⟨.int .i64,g189_0 x0 x1 x2⟩] [] [] q K) 20 K q [] [.code b189] (entE 0 0 sig189 (x0,x1,x2,())) (entL sig189 (x0,x1,x2,())):=by
 unfold P189 at h
 unfold g189_0
 obtain ⟨s0,h⟩:=h
 obtain ⟨s1,h⟩:=h
 by_cases b0:(x2)=true
 ·try simp only [if_pos b0] at h ⊢
  obtain ⟨s2,h⟩:=h
  exact AtV.ret Tryz.func189 tabOk ext189Ok mixed false [] tys189 [true] (a1 s0 (a1 s1 (a1 b0 (a1 s2 trivial)))) (by kernel_rfl)
 ·try simp only [if_neg b0] at h ⊢
  replace b0:=bf_ b0
  obtain ⟨s2,h⟩:=h
  exact AtV.ret Tryz.func189 tabOk ext189Ok mixed false [] tys189 [false] (a1 s0 (a1 s1 (a1 b0 (a1 s2 trivial)))) (by kernel_rfl)
def S189:Am.Spec:={ sig:=sig189,pre:=fun ⟨x0,x1,x2,_⟩=>P189 x0 x1 x2,res:=fun ⟨x0,x1,x2,_⟩=>[⟨.int .i64,g189_0 x0 x1 x2⟩],kds:=kds189 }
theorem con189:Contract Tryz.prog 189 S189:=contract_of Tryz.func189 hb189 (bl_ (by kernel_rfl)) (fun ⟨x0,x1,x2,_⟩ h _ K q=>at189 x0 x1 x2 h K q)
end
noncomputable section
def ext190:Ext:=[]
theorem ext190Ok:ExtOk Tryz.prog ext190:=trivial
def b190:Code:=bodyOf Tryz.f190
theorem hb190:Tryz.f190.body=some b190:=by kernel_rfl
def sig190:List AT:=[AT.v (.int .i64),AT.v (.int .i64)]
def tys190:List Ty:=[.int .i64]
def kds190:List RK:=[]
def oks190:List AT:=owns sig190
def P190 (x0:Int) (x1:Int):Prop:=((InR .i64 (x0+x1))∧((InR .i64 (x0+x1 - 1))∧((x1≠0)∧(InR .i64 (Int.tdiv (x0+x1 - 1) x1))∧True)))
def g190_0 (x0:Int) (x1:Int):Int:=Int.tdiv (x0+x1 - 1) x1
theorem at190 (x0:Int) (x1:Int) (h:P190 x0 x1) (K:Ctx) (q:Nat→Value):AtV Tryz.prog 190 (PostR kds190 oks190 [⟨.int .i64,g190_0 x0 x1⟩] [] [] q K) 11 K q [] [.code b190] (entE 0 0 sig190 (x0,x1,())) (entL sig190 (x0,x1,())):=by
 unfold P190 at h
 unfold g190_0
 obtain ⟨s0,h⟩:=h
 obtain ⟨s1,h⟩:=h
 obtain ⟨s2,s3,h⟩:=h
 exact AtV.ret Tryz.func190 tabOk ext190Ok mixed false [] tys190 [] (a1 s0 (a1 s1 (a1 s2 (a1 s3 trivial)))) (by kernel_rfl)
def S190:Am.Spec:={ sig:=sig190,pre:=fun ⟨x0,x1,_⟩=>P190 x0 x1,res:=fun ⟨x0,x1,_⟩=>[⟨.int .i64,g190_0 x0 x1⟩],kds:=kds190 }
theorem con190:Contract Tryz.prog 190 S190:=contract_of Tryz.func190 hb190 (bl_ (by kernel_rfl)) (fun ⟨x0,x1,_⟩ h _ K q=>at190 x0 x1 h K q)
end
noncomputable section
def ext175:Ext:=[(189,S189),(190,S190)]
theorem ext175Ok:ExtOk Tryz.prog ext175:=⟨⟨ca189,con189⟩,⟨ca190,con190⟩,trivial⟩
def b175:Code:=bodyOf Tryz.f175
theorem hb175:Tryz.f175.body=some b175:=by kernel_rfl
def sig175:List AT:=[AT.v YA9,AT.v (.int .i64),AT.v (.int .i64),AT.v (.bool)]
def tys175:List Ty:=[.int .i64,.bool]
def kds175:List RK:=[]
def oks175:List AT:=owns sig175
def P175 (x0:Int×Int×Unit) (x1:Int) (x2:Int) (x3:Bool):Prop:=((P189 x0 x2 x3)∧(if (decide (g189_0 x0 x2 x3≤0))=true then True else ((InR .i64 (x1*x0.1))∧((P190 (x1*x0.1) 10)∧((InR .i64 (x1*x1))∧((InR .i64 (2*g189_0 x0 x2 x3))∧((P190 (x1*x1) (2*g189_0 x0 x2 x3))∧((InR .i64 (g190_0 (x1*x0.1) 10+g190_0 (x1*x1) (2*g189_0 x0 x2 x3)))∧True))))))))
def g175_0 (x0:Int×Int×Unit) (x1:Int) (x2:Int) (x3:Bool):Int:=(if (decide (g189_0 x0 x2 x3≤0))=true then 0 else g190_0 (x1*x0.1) 10+g190_0 (x1*x1) (2*g189_0 x0 x2 x3))
def g175_1 (x0:Int×Int×Unit) (x1:Int) (x2:Int) (x3:Bool):Bool:=(if (decide (g189_0 x0 x2 x3≤0))=true then false else true)
theorem at175 (x0:Int×Int×Unit) (x1:Int) (x2:Int) (x3:Bool) (h:P175 x0 x1 x2 x3) (K:Ctx) (q:Nat→Value):AtV Tryz.prog 175 (PostR kds175 oks175 [⟨.int .i64,g175_0 x0 x1 x2 x3⟩,⟨.bool,g175_1 x0 x1 x2 x3⟩] [] [] q K) 29 K q [] [.code b175] (entE 0 0 sig175 (x0,x1,x2,x3,())) (entL sig175 (x0,x1,x2,x3,())):=by
 unfold P175 at h
 unfold g175_0 g175_1
 obtain ⟨s0,h⟩:=h
 by_cases b0:(decide (g189_0 x0 x2 x3≤0))=true
 ·try simp only [if_pos b0] at h ⊢
  exact AtV.ret Tryz.func175 tabOk ext175Ok mixed false [] tys175 [true] (a1 s0 (a1 b0 trivial)) (by kernel_rfl)
 ·try simp only [if_neg b0] at h ⊢
  replace b0:=bf_ b0
  obtain ⟨s1,h⟩:=h
  obtain ⟨s2,h⟩:=h
  obtain ⟨s3,h⟩:=h
  obtain ⟨s4,h⟩:=h
  obtain ⟨s5,h⟩:=h
  obtain ⟨s6,h⟩:=h
  exact AtV.ret Tryz.func175 tabOk ext175Ok mixed false [] tys175 [false] (a1 s0 (a1 b0 (a1 s1 (a1 s2 (a1 s3 (a1 s4 (a1 s5 (a1 s6 trivial)))))))) (by kernel_rfl)
def S175:Am.Spec:={ sig:=sig175,pre:=fun ⟨x0,x1,x2,x3,_⟩=>P175 x0 x1 x2 x3,res:=fun ⟨x0,x1,x2,x3,_⟩=>[⟨.int .i64,g175_0 x0 x1 x2 x3⟩,⟨.bool,g175_1 x0 x1 x2 x3⟩],kds:=kds175 }
theorem con175:Contract Tryz.prog 175 S175:=contract_of Tryz.func175 hb175 (bl_ (by kernel_rfl)) (fun ⟨x0,x1,x2,x3,_⟩ h _ K q=>at175 x0 x1 x2 x3 h K q)
end
noncomputable section
def ext148:Ext:=[(175,S175)]
theorem ext148Ok:ExtOk Tryz.prog ext148:=⟨⟨ca175,con175⟩,trivial⟩
def b148:Code:=bodyOf Tryz.f148
theorem hb148:Tryz.f148.body=some b148:=by kernel_rfl
def sig148:List AT:=[AT.v YA9,AT.v (.int .i64),AT.v (.int .i64),AT.v (.int .i64),AT.v (.bool)]
def tys148:List Ty:=[.bool]
def kds148:List RK:=[]
def oks148:List AT:=owns sig148
def P148 (x0:Int×Int×Unit) (x1:Int) (x2:Int) (x3:Int) (x4:Bool):Prop:=((P175 x0 x1 x3 x4)∧True)
def g148_0 (x0:Int×Int×Unit) (x1:Int) (x2:Int) (x3:Int) (x4:Bool):Bool:=(if (g175_1 x0 x1 x3 x4)=true then decide (g175_0 x0 x1 x3 x4≤x2) else false)
theorem at148 (x0:Int×Int×Unit) (x1:Int) (x2:Int) (x3:Int) (x4:Bool) (h:P148 x0 x1 x2 x3 x4) (K:Ctx) (q:Nat→Value):AtV Tryz.prog 148 (PostR kds148 oks148 [⟨.bool,g148_0 x0 x1 x2 x3 x4⟩] [] [] q K) 27 K q [] [.code b148] (entE 0 0 sig148 (x0,x1,x2,x3,x4,())) (entL sig148 (x0,x1,x2,x3,x4,())):=by
 unfold P148 at h
 unfold g148_0
 obtain ⟨s0,h⟩:=h
 by_cases b0:(g175_1 x0 x1 x3 x4)=true
 ·try simp only [if_pos b0] at h ⊢
  exact AtV.ret Tryz.func148 tabOk ext148Ok mixed false [] tys148 [true] (a1 s0 (a1 b0 trivial)) (by kernel_rfl)
 ·try simp only [if_neg b0] at h ⊢
  replace b0:=bf_ b0
  exact AtV.ret Tryz.func148 tabOk ext148Ok mixed false [] tys148 [false] (a1 s0 (a1 b0 trivial)) (by kernel_rfl)
def S148:Am.Spec:={ sig:=sig148,pre:=fun ⟨x0,x1,x2,x3,x4,_⟩=>P148 x0 x1 x2 x3 x4,res:=fun ⟨x0,x1,x2,x3,x4,_⟩=>[⟨.bool,g148_0 x0 x1 x2 x3 x4⟩],kds:=kds148 }
theorem con148:Contract Tryz.prog 148 S148:=contract_of Tryz.func148 hb148 (bl_ (by kernel_rfl)) (fun ⟨x0,x1,x2,x3,x4,_⟩ h _ K q=>at148 x0 x1 x2 x3 x4 h K q)
end
noncomputable section
def ext119:Ext:=[(114,S114),(149,S149),(148,S148)]
theorem ext119Ok:ExtOk Tryz.prog ext119:=⟨⟨ca114,con114⟩,⟨ca149,con149⟩,⟨ca148,con148⟩,trivial⟩
def b119:Code:=bodyOf Tryz.f119
theorem hb119:Tryz.f119.body=some b119:=by kernel_rfl
def sig119:List AT:=[AT.v YA2,AT.v YA9,AT.v (.int .i64),AT.v (.int .i64),AT.v (.bool)]
def tys119:List Ty:=[.bool]
def kds119:List RK:=[]
def oks119:List AT:=owns sig119
def P119 (x0:List TyB4×Int×Int×Unit) (x1:Int×Int×Unit) (x2:Int) (x3:Int) (x4:Bool):Prop:=((P114 x0)∧((InR .i64 (g114_0 x0 - x2))∧(if (x4)=true then ((P149 x0 x4)∧((P148 x1 x3 x2 (g149_0 x0 x4) x4)∧True)) else ((P149 x0 x4)∧((P148 x1 x3 (g114_0 x0 - x2) (g149_0 x0 x4) x4)∧True)))))
def g119_0 (x0:List TyB4×Int×Int×Unit) (x1:Int×Int×Unit) (x2:Int) (x3:Int) (x4:Bool):Bool:=(if (x4)=true then g148_0 x1 x3 x2 (g149_0 x0 x4) x4 else g148_0 x1 x3 (g114_0 x0 - x2) (g149_0 x0 x4) x4)
theorem at119 (x0:List TyB4×Int×Int×Unit) (x1:Int×Int×Unit) (x2:Int) (x3:Int) (x4:Bool) (h:P119 x0 x1 x2 x3 x4) (K:Ctx) (q:Nat→Value):AtV Tryz.prog 119 (PostR kds119 oks119 [⟨.bool,g119_0 x0 x1 x2 x3 x4⟩] [] [] q K) 26 K q [] [.code b119] (entE 0 0 sig119 (x0,x1,x2,x3,x4,())) (entL sig119 (x0,x1,x2,x3,x4,())):=by
 unfold P119 at h
 unfold g119_0
 obtain ⟨s0,h⟩:=h
 obtain ⟨s1,h⟩:=h
 by_cases b0:(x4)=true
 ·try simp only [if_pos b0] at h ⊢
  obtain ⟨s2,h⟩:=h
  obtain ⟨s3,h⟩:=h
  exact AtV.ret Tryz.func119 tabOk ext119Ok mixed false [] tys119 [true] (a1 s0 (a1 s1 (a1 b0 (a1 s2 (a1 s3 trivial))))) (by kernel_rfl)
 ·try simp only [if_neg b0] at h ⊢
  replace b0:=bf_ b0
  obtain ⟨s2,h⟩:=h
  obtain ⟨s3,h⟩:=h
  exact AtV.ret Tryz.func119 tabOk ext119Ok mixed false [] tys119 [false] (a1 s0 (a1 s1 (a1 b0 (a1 s2 (a1 s3 trivial))))) (by kernel_rfl)
def S119:Am.Spec:={ sig:=sig119,pre:=fun ⟨x0,x1,x2,x3,x4,_⟩=>P119 x0 x1 x2 x3 x4,res:=fun ⟨x0,x1,x2,x3,x4,_⟩=>[⟨.bool,g119_0 x0 x1 x2 x3 x4⟩],kds:=kds119 }
theorem con119:Contract Tryz.prog 119 S119:=contract_of Tryz.func119 hb119 (bl_ (by kernel_rfl)) (fun ⟨x0,x1,x2,x3,x4,_⟩ h _ K q=>at119 x0 x1 x2 x3 x4 h K q)
end
noncomputable section
def ext118:Ext:=[(119,S119)]
theorem ext118Ok:ExtOk Tryz.prog ext118:=⟨⟨ca119,con119⟩,trivial⟩
def b118:Code:=bodyOf Tryz.f118
theorem hb118:Tryz.f118.body=some b118:=by kernel_rfl
def sig118:List AT:=[AT.v (.int .i64),AT.v (.int .i64),AT.pb (.int .i64),AT.p .bool,AT.p (.int .i64),AT.p (.cons (.sl (.cons (.int .i64) (.cons (.int .i64) .unit))) (.cons (.int .i64) (.cons (.int .i64) .unit))),AT.p (.cons (.int .i64) (.cons (.int .i64) .unit)),AT.pb .bool]
def tys118:List Ty:=[.bool]
def kds118:List RK:=[]
def oks118:List AT:=owns sig118
def P118 (x0:Int) (x1:Int) (x2:Int) (x3:Bool) (x4:Int) (x5:List TyB4×Int×Int×Unit) (x6:Int×Int×Unit) (x7:Bool):Prop:=((InR .i64 (x2+1))∧(if (x3)=true then ((InR .i64 (x4 - x0))∧(if (decide (x0<x4))=true then ((P119 x5 x6 (x4 - x0) x1 x3)∧True) else True)) else (if (decide (x0<x4))=true then ((P119 x5 x6 x0 x1 x3)∧True) else True)))
def g118_0 (x0:Int) (x1:Int) (x2:Int) (x3:Bool) (x4:Int) (x5:List TyB4×Int×Int×Unit) (x6:Int×Int×Unit) (x7:Bool):Bool:=(if (x3)=true then (if (decide (x0<x4))=true then !!g119_0 x5 x6 (x4 - x0) x1 x3 else true) else (if (decide (x0<x4))=true then !!g119_0 x5 x6 x0 x1 x3 else true))
def u118_0 (x0:Int) (x1:Int) (x2:Int) (x3:Bool) (x4:Int) (x5:List TyB4×Int×Int×Unit) (x6:Int×Int×Unit) (x7:Bool):Int:=(if (x3)=true then (if (decide (x0<x4))=true then x2+1 else x2+1) else (if (decide (x0<x4))=true then x2+1 else x2+1))
def u118_1 (x0:Int) (x1:Int) (x2:Int) (x3:Bool) (x4:Int) (x5:List TyB4×Int×Int×Unit) (x6:Int×Int×Unit) (x7:Bool):Bool:=(if (x3)=true then (if (decide (x0<x4))=true then !g119_0 x5 x6 (x4 - x0) x1 x3 else false) else (if (decide (x0<x4))=true then !g119_0 x5 x6 x0 x1 x3 else false))
theorem at118 (x0:Int) (x1:Int) (x2:Int) (x3:Bool) (x4:Int) (x5:List TyB4×Int×Int×Unit) (x6:Int×Int×Unit) (x7:Bool) (h:P118 x0 x1 x2 x3 x4 x5 x6 x7) (K:Ctx) (q:Nat→Value):AtV Tryz.prog 118 (PostR kds118 oks118 [⟨.bool,g118_0 x0 x1 x2 x3 x4 x5 x6 x7⟩] [some ⟨.int .i64,[u118_0 x0 x1 x2 x3 x4 x5 x6 x7]⟩,some ⟨.bool,[u118_1 x0 x1 x2 x3 x4 x5 x6 x7]⟩] [2,7] q K) 33 K q [2,7] [.code b118] (entE 0 0 sig118 (x0,x1,x2,x3,x4,x5,x6,x7,())) (entL sig118 (x0,x1,x2,x3,x4,x5,x6,x7,())):=by
 unfold P118 at h
 unfold g118_0 u118_0 u118_1
 obtain ⟨s0,h⟩:=h
 by_cases b0:(x3)=true
 ·try simp only [if_pos b0] at h ⊢
  obtain ⟨s1,h⟩:=h
  by_cases b1:(decide (x0<x4))=true
  ·try simp only [if_pos b1] at h ⊢
   obtain ⟨s2,h⟩:=h
   exact AtV.weak (AtV.ret (us:=[Option.some (Lst.mk (.int .i64) [x2+1]),Option.some (Lst.mk .bool [!g119_0 x5 x6 (x4 - x0) x1 x3])]) Tryz.func118 tabOk ext118Ok mixed false [] tys118 [true,true] (a1 s0 (a1 b0 (a1 s1 (a1 b1 (a1 s2 trivial))))) (by kernel_rfl)) ⟨.inl rfl,.inl rfl,trivial⟩
  ·try simp only [if_neg b1] at h ⊢
   replace b1:=bf_ b1
   exact AtV.weak (AtV.ret (us:=[Option.some (Lst.mk (.int .i64) [x2+1]),Option.some (Lst.mk .bool [false])]) Tryz.func118 tabOk ext118Ok mixed false [] tys118 [true,false] (a1 s0 (a1 b0 (a1 s1 (a1 b1 trivial)))) (by kernel_rfl)) ⟨.inl rfl,.inl rfl,trivial⟩
 ·try simp only [if_neg b0] at h ⊢
  replace b0:=bf_ b0
  by_cases b1:(decide (x0<x4))=true
  ·try simp only [if_pos b1] at h ⊢
   obtain ⟨s1,h⟩:=h
   exact AtV.weak (AtV.ret (us:=[Option.some (Lst.mk (.int .i64) [x2+1]),Option.some (Lst.mk .bool [!g119_0 x5 x6 x0 x1 x3])]) Tryz.func118 tabOk ext118Ok mixed false [] tys118 [false,true] (a1 s0 (a1 b0 (a1 b1 (a1 s1 trivial)))) (by kernel_rfl)) ⟨.inl rfl,.inl rfl,trivial⟩
  ·try simp only [if_neg b1] at h ⊢
   replace b1:=bf_ b1
   exact AtV.weak (AtV.ret (us:=[Option.some (Lst.mk (.int .i64) [x2+1]),Option.some (Lst.mk .bool [false])]) Tryz.func118 tabOk ext118Ok mixed false [] tys118 [false,false] (a1 s0 (a1 b0 (a1 b1 trivial))) (by kernel_rfl)) ⟨.inl rfl,.inl rfl,trivial⟩
def S118:Am.Spec:={ sig:=sig118,pre:=fun ⟨x0,x1,x2,x3,x4,x5,x6,x7,_⟩=>P118 x0 x1 x2 x3 x4 x5 x6 x7,upd:=fun ⟨x0,x1,x2,x3,x4,x5,x6,x7,_⟩=>[some ⟨.int .i64,[u118_0 x0 x1 x2 x3 x4 x5 x6 x7]⟩,some ⟨.bool,[u118_1 x0 x1 x2 x3 x4 x5 x6 x7]⟩],res:=fun ⟨x0,x1,x2,x3,x4,x5,x6,x7,_⟩=>[⟨.bool,g118_0 x0 x1 x2 x3 x4 x5 x6 x7⟩],kds:=kds118 }
theorem con118:Contract Tryz.prog 118 S118:=contract_of Tryz.func118 hb118 (bl_ (by kernel_rfl)) (fun ⟨x0,x1,x2,x3,x4,x5,x6,x7,_⟩ h _ K q=>at118 x0 x1 x2 x3 x4 x5 x6 x7 h K q)
end
end Go.Proofs.YtmfkgabclbbdhaaGreatDoor
-- facts: rideLoop
set_option linter.unusedVariables false
set_option linter.unusedSimpArgs false
set_option maxRecDepth 100000
namespace Go.Proofs.YtmfkgabclbbdhaaGreatDoor
open Go Go.Am Go.Proofs Go.RowKit
abbrev TR72:=List TyB4×Int×Int×Unit
abbrev TY72:Ty := .cons (.sl (.cons (.int .i64) (.cons (.int .i64) .unit))) (.cons (.int .i64) (.cons (.int .i64) .unit))
abbrev BR72:=Int×Int×Unit
abbrev BY72:Ty := .cons (.int .i64) (.cons (.int .i64) .unit)
abbrev PR72:=Int×Int×Int×Int×Unit
abbrev PY72:Ty := .cons (.int .i64) (.cons (.int .i64) (.cons (.int .i64) (.cons (.int .i64) .unit)))
abbrev ptr72 (b:Nat):Value := .pointer (some ⟨b,0,none⟩)
def Box72 (w:World) (b:Nat) (u:Value):Prop:=∃ cur ty fz,w.heap[b]? = some (.cells cur ty fz)∧cur[0]? = some u∧FreeS 1 fz cur.size
theorem Box72.cell {w:World} {b:Nat} {u:Value} (h:Box72 w b u):w.cell? ⟨b,0,none⟩=some u:=by
 obtain ⟨cur,ty,fz,h1,h2,_⟩:=h
 unfold World.cell?
 rw [show w.heap[(⟨b,0,none⟩:Addr).block]? = _ from h1]
 exact h2
theorem Box72.lt {w:World} {b:Nat} {u:Value} (h:Box72 w b u):b<w.heap.size:=by
 obtain ⟨cur,ty,fz,h1,_⟩:=h
 exact (Array.getElem?_eq_some_iff.1 h1).1
theorem Box72.keep {w w':World} {b:Nat} {u:Value} (h:Box72 w b u) (he:w'.heap[b]? = w.heap[b]?):Box72 w' b u:=by
 obtain ⟨cur,ty,fz,h1,h2⟩:=h
 exact ⟨cur,ty,fz,he.trans h1,h2⟩
theorem Box72.pb {w:World} {G0:Nat→Prop} {b:Nat} {t:Ty} {x:t.den} {u:Value} (hs:t.size=1) (h:Box72 w b u) (hr:RepC w G0 t x [u]):PbAt w G0 t x (ptr72 b) [b]:=by
 obtain ⟨cur,ty,fz,h1,h2,h3⟩:=h
 have hc:0<cur.size:=(Array.getElem?_eq_some_iff.1 h2).1
 refine ⟨b,0,rfl,by show 1≤maxLen;decide,.inr ⟨b,0,1,cur,ty,fz,[[]],rfl,Nat.le_refl _,by decide,?_,h1,?_,rfl,rfl,fun i y bi hx hbi => ?_⟩⟩
 ·show 0+1*t.size≤cur.size
  rw [hs];omega
 ·show FreeS t.size fz cur.size
  rw [hs];exact h3
 ·rcases i with _ | i
  ·simp at hx hbi
   subst hx hbi
   refine ⟨[u],by show 1=t.size;rw [hs],fun j c hj => ?_,hr,rfl⟩
   rcases j with _ | j
   ·simp at hj;subst hj
    rw [Nat.zero_mul];exact h2
   ·simp at hj
  ·simp at hx
theorem pbBox72 {w:World} {G0:Nat→Prop} {b:Nat} {t:Ty} {x:t.den} {u:Value} {bs:List Nat} (hs:t.size=1) (h:PbAt w G0 t x (ptr72 b) bs) (hu:∀ cs,RepC w G0 t x cs→cs=[u]):Box72 w b u:=by
 obtain ⟨b',off',he,hm,h⟩:=h
 cases he
 rcases h with ⟨ad,_,h0,_⟩ | ⟨b2,off2,cap,cur,ty,fz,bss,hv,hc,_,hz,hh,hf,hl,_,hr⟩
 ·cases h0
 ·simp only [Value.slice.injEq,Option.some.injEq,Addr.mk.injEq,and_true] at hv
  obtain ⟨⟨rfl,rfl⟩,_,rfl⟩:=hv
  obtain ⟨bi,hbi⟩:∃ bi,bss[0]? = some bi:=⟨_,List.getElem?_eq_getElem (by rw [hl];exact Nat.zero_lt_one)⟩
  obtain ⟨cs,h1,h2,h3,_⟩:=hr 0 x bi rfl hbi
  rw [hu cs h3] at h2
  have h4:=h2 0 u rfl
  simp only [Nat.zero_mul,Nat.add_zero] at h4
  refine ⟨cur,ty,fz,hh,h4,?_⟩
  have:FreeS t.size fz cur.size:=hf
  rw [hs] at this
  exact this
def bad72 (tr:TR72) (br:BR72) (down:Bool) (way place speed:Int):Bool := !g119_0 tr br (if down=true then way - place else place) speed down
theorem clo72 (W:World) (S D Wy T Bk F:Nat) (place speed k:Int) (fd down:Bool) (way:Int) (tr:TR72) (br:BR72) (hgo:GOk W [S,F]) (hne:S≠F) (hS:Box72 W S (.int .i64 k)) (ik:InR .i64 k) (hF:Box72 W F (.bool fd))
  (hD:PtrAt W (Am.Good W [S,F]) .bool down (ptr72 D)) (hW:PtrAt W (Am.Good W [S,F]) (.int .i64) way (ptr72 Wy)) (hT:PtrAt W (Am.Good W [S,F]) TY72 tr (ptr72 T)) (hB:PtrAt W (Am.Good W [S,F]) BY72 br (ptr72 Bk)) (ip:InR .i64 place) (is:InR .i64 speed) (hp:P118 place speed k down way tr br fd) :
  Calls Tryz.prog 118 #[.int .i64 place,.int .i64 speed,ptr72 S,ptr72 D,ptr72 Wy,ptr72 T,ptr72 Bk,ptr72 F] W fun e w'=>e = .returned (.bool (!(decide (place<way)&&bad72 tr br down way place speed)))∧Kept [S,F] W w'∧Box72 w' S (.int .i64 (k+1))∧Box72 w' F (.bool (decide (place<way)&&bad72 tr br down way place speed)):=by
 have h:=con118 W (Am.Good W [S,F]) (Am.Good W [S,F]) (place,speed,k,down,way,tr,br,fd,()) [.int .i64 place,.int .i64 speed,ptr72 S,ptr72 D,ptr72 Wy,ptr72 T,ptr72 Bk,ptr72 F] [[],[],[S],[],[],[],[],[F]] hgo (fun _ h=>h) (fun _ h=>h) hp
  ⟨_,_,_,_,rfl,rfl,⟨rfl,rfl,ip⟩,_,_,_,_,rfl,rfl,⟨rfl,rfl,is⟩,_,_,_,_,rfl,rfl,hS.pb rfl ⟨rfl,ik⟩,_,_,_,_,rfl,rfl,⟨rfl,hD⟩,_,_,_,_,rfl,rfl,⟨rfl,hW⟩,_,_,_,_,rfl,rfl,⟨rfl,hT⟩,_,_,_,_,rfl,rfl,⟨rfl,hB⟩,_,_,_,_,rfl,rfl,hF.pb rfl rfl,rfl,rfl⟩
  (by simpa using hne)
 have eg:g118_0 place speed k down way tr br fd = !(decide (place<way)&&bad72 tr br down way place speed):=by
  unfold g118_0 bad72
  by_cases hl:place<way
  ·simp only [decide_eq_true hl,if_true,Bool.true_and]
   cases down <;> rfl
  ·simp only [decide_eq_false hl,Bool.false_eq_true,if_false,Bool.false_and]
   cases down <;> rfl
 have eu:u118_0 place speed k down way tr br fd=k+1:=by
  unfold u118_0
  split <;> split <;> rfl
 have ef:u118_1 place speed k down way tr br fd=(decide (place<way)&&bad72 tr br down way place speed):=by
  unfold u118_1 bad72
  by_cases hl:place<way
  ·simp only [decide_eq_true hl,if_true,Bool.true_and]
   cases down <;> rfl
  ·simp only [decide_eq_false hl,Bool.false_eq_true,if_false,Bool.false_and]
   cases down <;> rfl
 refine h.mono ?_
 rintro e w' ⟨rs,ubs,rbs,Fz,rfl,hk,⟨v,s,b,bs,rfl,rfl,⟨cs,ho,hi⟩,rfl,rfl⟩,⟨v1,s1,b1,bs1,hv1,rfl,⟨y1,hy1,hp1⟩,v2,s2,b2,bs2,hv2,rfl,⟨y2,hy2,hp2⟩,_⟩,_⟩
 obtain ⟨ho,_⟩:=ho
 have hi:cs=[v]:=hi
 rw [ho] at hi
 cases hi
 cases hv1
 cases hv2
 cases hy1
 cases hy2
 rw [eu] at hp1
 rw [ef] at hp2
 refine ⟨by rw [← eg];rfl,hk,pbBox72 rfl hp1 (fun cs h=>h.1),pbBox72 rfl hp2 (fun cs h=>h)⟩
theorem nxt72 (W:World) (pf:PR72) (s l:Int) (hgo:GOk W []) (hw:Wf PY72 pf) (is:InR .i64 s) (il:InR .i64 l) (hp:P147 pf s l) :
  Calls Tryz.prog 147 #[.agg #[.int .i64 pf.1,.int .i64 pf.2.1,.int .i64 pf.2.2.1,.int .i64 pf.2.2.2.1],.int .i64 s,.int .i64 l] W fun e w'=>e = .returned (.int .i64 (g147_0 pf s l))∧Below W.heap.size W w':=by
 have hr:RepC W (Am.Good W []) PY72 pf (fcells PY72 pf):=(OwnC.flat (w:=W) (w':=W) (G:=Am.Good W []) rfl (own_of_wf rfl hw)).1
 have h:=con147.down rfl W (pf,s,l,()) [.agg #[.int .i64 pf.1,.int .i64 pf.2.1,.int .i64 pf.2.2.1,.int .i64 pf.2.2.2.1],.int .i64 s,.int .i64 l] [[],[],[]] hgo hp ⟨_,_,_,_,rfl,rfl,⟨rfl,fcells PY72 pf,rfl,hr⟩,_,_,_,_,rfl,rfl,⟨rfl,rfl,is⟩,_,_,_,_,rfl,rfl,⟨rfl,rfl,il⟩,rfl,rfl⟩ (by simp)
 refine h.mono ?_
 rintro e w' ⟨rs,ubs,rbs,rfl,hk,⟨u,s,b1,bs1,cs,rfl,rfl,ho,hv,rfl,rfl⟩,_⟩
 obtain ⟨ho,_⟩:=ho
 have hv:cs=[u]:=hv
 rw [ho] at hv
 cases hv
 exact ⟨rfl,hk.below⟩
theorem gokK72 {O:List Nat} {w W:World} (h:GOk w O) (hk:Kept O w W):GOk W O where
 inv:=h.inv.keep fun b hb hs=>hk.block b hs fun ho=>by have:=h.out b ho;omega
 size:=Nat.le_trans h.size hk.size
 out:=h.out
theorem good72 {O:List Nat} {w W:World} (hk:Kept O w W):∀ b,Am.Good w O b→Am.Good W O b:=fun b h=>⟨Nat.lt_of_lt_of_le h.1 hk.size,h.2⟩
theorem ptrK72 {O:List Nat} {w W:World} (hk:Kept O w W) {t:Ty} {x:t.den} {v:Value} (h:PtrAt w (Am.Good w O) t x v):PtrAt W (Am.Good W O) t x v:=h.keepB (good72 hk) (fun b hb=>hk.block b hb.1 hb.2)
def Fin72 (w:World) (S F:Nat):Option Int→Prop
 | some r=>Box72 w S (.int .i64 r)∧Box72 w F (.bool true)
 | none=>Box72 w F (.bool false)
theorem rideEnd72 (nx:Int→Int→Int) (bad:Int→Int→Bool) (n:Int) (f:Nat) (place speed k:Int) (h:¬ place<n):rideL nx bad n f place speed k=none:=by
 cases f with
 | zero=>rfl
 | succ f=>rw [rideL,if_neg h]
theorem cel72 {w:World} {b:Nat} {cs:Array Value} {ty:TypeId} (h:w.heap[b]? = some (.cells cs ty)) (j:Nat) (u:Value) (hj:cs[j]? = some u):w.cell? ⟨b,j,none⟩=some u:=by
 unfold World.cell?
 rw [show w.heap[(⟨b,j,none⟩:Addr).block]? = _ from h]
 exact hj
set_option maxHeartbeats 4000000 in
theorem ride72 (W:World) (S D Wy T Bk F:Nat) (down:Bool) (way:Int) (tr:TR72) (br:BR72) (pf:PR72) (fu:Nat) (hgo:GOk W [S,F]) (hne:S≠F) (hS:Box72 W S (.int .i64 0)) (hF:Box72 W F (.bool false))
  (hD:PtrAt W (Am.Good W [S,F]) .bool down (ptr72 D)) (hW:PtrAt W (Am.Good W [S,F]) (.int .i64) way (ptr72 Wy)) (hT:PtrAt W (Am.Good W [S,F]) TY72 tr (ptr72 T)) (hB:PtrAt W (Am.Good W [S,F]) BY72 br (ptr72 Bk)) (hw:Wf PY72 pf) (hway:0≤way∧way≤3000000) (hfu:way≤(fu:Int))
  (hnx:∀ s l,0≤s→s≤15000→1≤l→l≤way→P147 pf s l∧1≤g147_0 pf s l∧g147_0 pf s l≤l∧g147_0 pf s l≤15000)
  (hcl:∀ place s k fd,0≤place→place≤way→0≤s→s≤15000→0≤k→k≤3000000→P118 place s k down way tr br fd) :
  Calls Tryz.prog 117 #[.agg #[.int .i64 pf.1,.int .i64 pf.2.1,.int .i64 pf.2.2.1,.int .i64 pf.2.2.2.1],.int .i64 way,.func (.func 118) #[] #[ptr72 S,ptr72 D,ptr72 Wy,ptr72 T,ptr72 Bk,ptr72 F]] W fun e w'=>e = .returned (.tuple #[])∧Kept [S,F] W w' ∧
   Fin72 w' S F (rideL (g147_0 pf) (bad72 tr br down way) way fu 0 0 0):=by
 have lS:=hS.lt
 have lF:=hF.lt
 have HG:Aside (GOk W [S,F]):=hgo
 have HD:Aside (PtrAt W (Am.Good W [S,F]) .bool down (ptr72 D)):=hD
 have HW:Aside (PtrAt W (Am.Good W [S,F]) (.int .i64) way (ptr72 Wy)):=hW
 have HT:Aside (PtrAt W (Am.Good W [S,F]) TY72 tr (ptr72 T)):=hT
 have HB:Aside (PtrAt W (Am.Good W [S,F]) BY72 br (ptr72 Bk)):=hB
 have HS0:Aside (Box72 W S (.int .i64 0)):=hS
 have HF0:Aside (Box72 W F (.bool false)):=hF
 clear hgo hD hW hT hB hS hF
 go_enter Tryz.func117,Tryz.ntmps117
 go_wp2
 go_loopw [6,7] (fun pl sp wr=>∃ (place speed k:Int) (f:Nat),pl = .int .i64 place∧sp = .int .i64 speed∧(0≤place∧place≤way)∧(0≤speed∧speed≤15000)∧(0≤k∧k≤place)∧way - place≤(f:Int)∧Kept [S,F] W wr ∧
   wr.heap[W.heap.size]? = some (.cells #[.int .i64 pf.1,.int .i64 pf.2.1,.int .i64 pf.2.2.1,.int .i64 pf.2.2.2.1] 45)∧Box72 wr S (.int .i64 k)∧Box72 wr F (.bool false) ∧
   rideL (g147_0 pf) (bad72 tr br down way) way f place speed k=rideL (g147_0 pf) (bad72 tr br down way) way fu 0 0 0) (fun pl _ _=>(way - intOf pl).toNat)
 case atStart=>exact ⟨0,0,0,fu,rfl,rfl,by omega,by omega,by omega,by omega,(Kept.refl _ W).alloc _,heap_alloc_new W _,HS0.out.keep (Below.heap_alloc _ _ _ lS),HF0.out.keep (Below.heap_alloc _ _ _ lF),rfl⟩
 case round =>
  obtain ⟨place,speed,k,f,rfl,rfl,hpl,hsp,hk,hf,hkp,hpb,hbs,hbf,hr⟩:=hrel
  have HK:Aside (Kept [S,F] W wr):=hkp
  have HBS:Aside (Box72 wr S (.int .i64 k)):=hbs
  have HBF:Aside (Box72 wr F (.bool false)):=hbf
  have HR:Aside (rideL (g147_0 pf) (bad72 tr br down way) way f place speed k=rideL (g147_0 pf) (bad72 tr br down way) way fu 0 0 0):=hr
  have lS2:S<wr.heap.size:=hbs.lt
  have lF2:F<wr.heap.size:=hbf.lt
  have G1:Aside (GOk wr []):=⟨(gokK72 HG.out hkp).inv,(gokK72 HG.out hkp).size,fun b h=>by cases h⟩
  have lW:W.heap.size<wr.heap.size:=(Array.getElem?_eq_some_iff.1 hpb).1
  have q0:wr.cell? ⟨W.heap.size,0,none⟩=some (.int .i64 pf.1):=cel72 hpb 0 _ rfl
  have q1:wr.cell? ⟨W.heap.size,1,none⟩=some (.int .i64 pf.2.1):=cel72 hpb 1 _ rfl
  have q2:wr.cell? ⟨W.heap.size,2,none⟩=some (.int .i64 pf.2.2.1):=cel72 hpb 2 _ rfl
  have q3:wr.cell? ⟨W.heap.size,3,none⟩=some (.int .i64 pf.2.2.2.1):=cel72 hpb 3 _ rfl
  have HPB:Aside (wr.heap[W.heap.size]? = some (.cells #[.int .i64 pf.1,.int .i64 pf.2.1,.int .i64 pf.2.2.1,.int .i64 pf.2.2.2.1] 45)):=hpb
  clear hkp hbs hbf hr hpb
  by_cases hlt:place<way
  ·obtain ⟨np,n1,n2,n3⟩:=hnx speed (way - place) hsp.1 hsp.2 (by omega) (by omega)
   have HN:Aside (∀ W1,GOk W1 []→Calls Tryz.prog 147 #[.agg #[.int .i64 pf.1,.int .i64 pf.2.1,.int .i64 pf.2.2.1,.int .i64 pf.2.2.2.1],.int .i64 speed,.int .i64 (way - place)] W1 fun e w'=>e = .returned (.int .i64 (g147_0 pf speed (way - place)))∧Below W1.heap.size W1 w'):=fun W1 h=>nxt72 W1 pf speed (way - place) h hw (by rw [i64_iff];omega) (by rw [i64_iff];omega) np
   obtain ⟨f,rfl⟩:∃ f',f=f'+1:=⟨f - 1,by omega⟩
   have HR2:Aside (rideL (g147_0 pf) (bad72 tr br down way) way fu 0 0 0=if (decide (place+g147_0 pf speed (way - place)<way)&&bad72 tr br down way (place+g147_0 pf speed (way - place)) (g147_0 pf speed (way - place)))=true then some (k+1) else rideL (g147_0 pf) (bad72 tr br down way) way f (place+g147_0 pf speed (way - place)) (g147_0 pf speed (way - place)) (k+1)):=by
    have h:=HR.out
    rw [rideL,if_pos hlt] at h
    exact h.symm
   generalize g147_0 pf speed (way - place)=s at *
   have HC:Aside (∀ W2,Kept [S,F] W W2→Box72 W2 S (.int .i64 k)→Box72 W2 F (.bool false)→Calls Tryz.prog 118 #[.int .i64 (place+s),.int .i64 s,ptr72 S,ptr72 D,ptr72 Wy,ptr72 T,ptr72 Bk,ptr72 F] W2 fun e w'=>e = .returned (.bool (!(decide (place+s<way)&&bad72 tr br down way (place+s) s)))∧Kept [S,F] W2 w'∧Box72 w' S (.int .i64 (k+1))∧Box72 w' F (.bool (decide (place+s<way)&&bad72 tr br down way (place+s) s))) :=
    fun W2 hk2 h1 h2=>clo72 W2 S D Wy T Bk F (place+s) s k false down way tr br (gokK72 HG.out hk2) hne h1 (by rw [i64_iff];omega) h2 (ptrK72 hk2 HD.out) (ptrK72 hk2 HW.out) (ptrK72 hk2 HT.out) (ptrK72 hk2 HB.out) (by rw [i64_iff];omega) (by rw [i64_iff];omega) (hcl _ _ _ _ (by omega) (by omega) (by omega) (by omega) (by omega) (by omega))
   have hq1:IntKind.i64.wrap (way - place)=way - place:=by rw [IntKind.wrap_i64];omega
   have hq2:IntKind.i64.wrap (place+s)=place+s:=by rw [IntKind.wrap_i64];omega
   have hnx:True:=trivial
   have hcl:True:=trivial
   generalize (decide (place+s<way)&&bad72 tr br down way (place+s) s)=bb at *
   cases bb with
   | true =>
    go_wp2_with (first
     | (go_at_call 147;refine (HN.out wr G1.out).mono ?_;rintro e w4 ⟨rfl,b4⟩;have K4:Aside (Kept [S,F] W w4):=HK.out.trans (Kept.of_below b4).of_nil;have S4:Aside (Box72 w4 S (.int .i64 k)):=HBS.out.keep (b4.block S lS2);have F4:Aside (Box72 w4 F (.bool false)):=HBF.out.keep (b4.block F lF2))
     | (go_at_call 118;refine (HC.out w4 K4.out S4.out F4.out).mono ?_;rintro e w5 ⟨rfl,k5,s5,f5⟩;have K5:Aside (Kept [S,F] W w5):=K4.out.trans k5;have S5:Aside (Box72 w5 S (.int .i64 (k+1))):=s5;have F5:Aside (Box72 w5 F (.bool true)):=f5;clear k5 s5 f5))
    (try simp only [Exit.inBlock,Exit.then])
    refine bodyPost_ret (results_none rfl _ _ _) rfl ?_
    exact ⟨rfl,K5.out,by rw [HR2.out,if_pos (by first | exact rfl | exact trivial)];exact ⟨S5.out,F5.out⟩⟩
   | false =>
    go_wp2_with (first
     | (go_at_call 147;refine (HN.out wr G1.out).mono ?_;rintro e w4 ⟨rfl,b4⟩;have K4:Aside (Kept [S,F] W w4):=HK.out.trans (Kept.of_below b4).of_nil;have S4:Aside (Box72 w4 S (.int .i64 k)):=HBS.out.keep (b4.block S lS2);have F4:Aside (Box72 w4 F (.bool false)):=HBF.out.keep (b4.block F lF2);have P4:Aside (w4.heap[W.heap.size]? = some (.cells #[.int .i64 pf.1,.int .i64 pf.2.1,.int .i64 pf.2.2.1,.int .i64 pf.2.2.2.1] 45)):=(b4.block _ lW).trans HPB.out;have lW4:W.heap.size<w4.heap.size:=Nat.lt_of_lt_of_le lW b4.size)
     | (go_at_call 118;refine (HC.out w4 K4.out S4.out F4.out).mono ?_;rintro e w5 ⟨rfl,k5,s5,f5⟩;have K5:Aside (Kept [S,F] W w5):=K4.out.trans k5;have S5:Aside (Box72 w5 S (.int .i64 (k+1))):=s5;have F5:Aside (Box72 w5 F (.bool false)):=f5;have P5:Aside (w5.heap[W.heap.size]? = some (.cells #[.int .i64 pf.1,.int .i64 pf.2.1,.int .i64 pf.2.2.1,.int .i64 pf.2.2.2.1] 45)):=(k5.block _ lW4 (by simp;omega)).trans P4.out;clear k5 s5 f5))
    exact ⟨⟨place+s,s,k+1,f,rfl,rfl,by omega,by omega,by omega,by omega,K5.out,P5.out,S5.out,F5.out,by rw [HR2.out,if_neg (by simp)]⟩,by simp [intOf];omega⟩
  ·go_wp2
   go_end0
   exact ⟨rfl,HK.out,by rw [← HR.out,rideEnd72 _ _ _ _ _ _ _ (by omega)];exact HBF.out⟩
def P72 (x0:TR72) (x1:BR72) (x2:PR72) (x3:Bool):Prop:=g103_0 x0=true→g105_0 x1=true→g106_0 x2=true→P114 x0∧(0≤g114_0 x0∧g114_0 x0≤3000000) ∧
 (∀ s l,0≤s→s≤15000→1≤l→l≤g114_0 x0→P147 x2 s l∧1≤g147_0 x2 s l∧g147_0 x2 s l≤l∧g147_0 x2 s l≤15000) ∧
 (∀ place s k fd,0≤place→place≤g114_0 x0→0≤s→s≤15000→0≤k→k≤3000000→P118 place s k x3 (g114_0 x0) x0 x1 fd)
def code72:Option Int→Int
 | some _=>0
 | none=>3
def run72 (x0:TR72) (x1:BR72) (x2:PR72) (x3:Bool):Option Int:=rideL (g147_0 x2) (bad72 x0 x1 x3 (g114_0 x0)) (g114_0 x0) (g114_0 x0).toNat 0 0 0
def g72_0 (x0:TR72) (x1:BR72) (x2:PR72) (x3:Bool):Int:=if (g103_0 x0&&g105_0 x1&&g106_0 x2)=true then (run72 x0 x1 x2 x3).getD 0 else 0
def g72_1 (x0:TR72) (x1:BR72) (x2:PR72) (x3:Bool):Int:=if (g103_0 x0&&g105_0 x1&&g106_0 x2)=true then code72 (run72 x0 x1 x2 x3) else 1
theorem rideNon72 {nx:Int→Int→Int} {bad:Int→Int→Bool} {n:Int}:∀ {f:Nat} {p s k r:Int},0≤k→rideL nx bad n f p s k=some r→0≤r∧r≤k+(f:Int)
 | 0,_,_,_,_,_,h=>by cases h
 | f+1,p,s,k,r,hk,h=>by
  rw [rideL] at h
  split at h
  ·split at h
   ·cases h;omega
   ·have:=rideNon72 (by omega) h
    omega
  ·cases h
theorem trk72 (W:World) (tr:TR72) (v:Value) (hgo:GOk W []) (hv:∃ cs,v = .agg cs.toArray∧RepC W (Am.Good W []) TY72 tr cs) :
  Calls Tryz.prog 103 #[v] W fun e w'=>e = .returned (.bool (g103_0 tr))∧Below W.heap.size W w':=by
 have h:=con103.down rfl W (tr,()) [v] [[]] hgo trivial ⟨_,_,_,_,rfl,rfl,⟨rfl,hv⟩,rfl,rfl⟩ (by simp)
 refine h.mono ?_
 rintro e w' ⟨rs,ubs,rbs,rfl,hk,⟨u,s,b1,bs1,cs,rfl,rfl,ho,hv,rfl,rfl⟩,_⟩
 obtain ⟨ho,_⟩:=ho
 have hv:cs=[u]:=hv
 rw [ho] at hv
 cases hv
 exact ⟨rfl,hk.below⟩
theorem len72 (W:World) (tr:TR72) (v:Value) (hgo:GOk W []) (hv:∃ cs,v = .agg cs.toArray∧RepC W (Am.Good W []) TY72 tr cs) (hp:P114 tr) :
  Calls Tryz.prog 114 #[v] W fun e w'=>e = .returned (.int .i64 (g114_0 tr))∧Below W.heap.size W w':=by
 have h:=con114.down rfl W (tr,()) [v] [[]] hgo hp ⟨_,_,_,_,rfl,rfl,⟨rfl,hv⟩,rfl,rfl⟩ (by simp)
 refine h.mono ?_
 rintro e w' ⟨rs,ubs,rbs,rfl,hk,⟨u,s,b1,bs1,cs,rfl,rfl,ho,hv,rfl,rfl⟩,_⟩
 obtain ⟨ho,_⟩:=ho
 have hv:cs=[u]:=hv
 rw [ho] at hv
 cases hv
 exact ⟨rfl,hk.below⟩
theorem brk72 (W:World) (br:BR72) (hgo:GOk W []) (hw:Wf BY72 br) :
  Calls Tryz.prog 105 #[.agg #[.int .i64 br.1,.int .i64 br.2.1]] W fun e w'=>e = .returned (.bool (g105_0 br))∧Below W.heap.size W w':=by
 have hr:RepC W (Am.Good W []) BY72 br (fcells BY72 br):=(OwnC.flat (w:=W) (w':=W) (G:=Am.Good W []) rfl (own_of_wf rfl hw)).1
 have h:=con105.down rfl W (br,()) [.agg #[.int .i64 br.1,.int .i64 br.2.1]] [[]] hgo trivial ⟨_,_,_,_,rfl,rfl,⟨rfl,fcells BY72 br,rfl,hr⟩,rfl,rfl⟩ (by simp)
 refine h.mono ?_
 rintro e w' ⟨rs,ubs,rbs,rfl,hk,⟨u,s,b1,bs1,cs,rfl,rfl,ho,hv,rfl,rfl⟩,_⟩
 obtain ⟨ho,_⟩:=ho
 have hv:cs=[u]:=hv
 rw [ho] at hv
 cases hv
 exact ⟨rfl,hk.below⟩
theorem prf72 (W:World) (pf:PR72) (hgo:GOk W []) (hw:Wf PY72 pf) :
  Calls Tryz.prog 106 #[.agg #[.int .i64 pf.1,.int .i64 pf.2.1,.int .i64 pf.2.2.1,.int .i64 pf.2.2.2.1]] W fun e w'=>e = .returned (.bool (g106_0 pf))∧Below W.heap.size W w':=by
 have hr:RepC W (Am.Good W []) PY72 pf (fcells PY72 pf):=(OwnC.flat (w:=W) (w':=W) (G:=Am.Good W []) rfl (own_of_wf rfl hw)).1
 have h:=con106.down rfl W (pf,()) [.agg #[.int .i64 pf.1,.int .i64 pf.2.1,.int .i64 pf.2.2.1,.int .i64 pf.2.2.2.1]] [[]] hgo trivial ⟨_,_,_,_,rfl,rfl,⟨rfl,fcells PY72 pf,rfl,hr⟩,rfl,rfl⟩ (by simp)
 refine h.mono ?_
 rintro e w' ⟨rs,ubs,rbs,rfl,hk,⟨u,s,b1,bs1,cs,rfl,rfl,ho,hv,rfl,rfl⟩,_⟩
 obtain ⟨ho,_⟩:=ho
 have hv:cs=[u]:=hv
 rw [ho] at hv
 cases hv
 exact ⟨rfl,hk.below⟩
theorem gokB72 {w W:World} (h:GOk w []) (hb:Below w.heap.size w W):GOk W []:=gokK72 h (Kept.of_below hb)
theorem trkB72 {w W:World} (hb:Below w.heap.size w W) {tr:TR72} {v:Value} (hv:∃ cs,v = .agg cs.toArray∧RepC w (Am.Good w []) TY72 tr cs):∃ cs,v = .agg cs.toArray∧RepC W (Am.Good W []) TY72 tr cs:=by
 obtain ⟨cs,rfl,h⟩:=hv
 exact ⟨cs,rfl,h.keep (good72 (Kept.of_below hb)) (fun b hb'=>hb.block b hb'.1)⟩
structure Env72 (w:World) (sl:Value) (tr:TR72) (br:BR72) (pf:PR72) (down:Bool) (W:World):Prop where
 low:Below w.heap.size w W
 t:W.heap[w.heap.size]? = some (.cells #[sl,.int .i64 tr.2.1,.int .i64 tr.2.2.1] 43)
 b:W.heap[w.heap.size+1]? = some (.cells #[.int .i64 br.1,.int .i64 br.2.1] 44)
 p:W.heap[w.heap.size+1+1]? = some (.cells #[.int .i64 pf.1,.int .i64 pf.2.1,.int .i64 pf.2.2.1,.int .i64 pf.2.2.2.1] 45)
 d:W.heap[w.heap.size+1+1+1]? = some (.cells #[.bool down] 4)
theorem Env72.keep {w W W':World} {sl:Value} {tr:TR72} {br:BR72} {pf:PR72} {down:Bool} (h:Env72 w sl tr br pf down W) (hb:Below W.heap.size W W'):Env72 w sl tr br pf down W' where
 low:=h.low.trans (hb.mono h.low.size)
 t:=(hb.block _ (Array.getElem?_eq_some_iff.1 h.t).1).trans h.t
 b:=(hb.block _ (Array.getElem?_eq_some_iff.1 h.b).1).trans h.b
 p:=(hb.block _ (Array.getElem?_eq_some_iff.1 h.p).1).trans h.p
 d:=(hb.block _ (Array.getElem?_eq_some_iff.1 h.d).1).trans h.d
theorem new72 (w:World) (o:Obj) (n:Nat) (hn:w.heap.size=n):(w.alloc o).heap[n]? = some o:=by
 subst hn
 exact heap_alloc_new w o
abbrev W472 (w:World) (sl:Value) (tr:TR72) (br:BR72) (pf:PR72) (down:Bool):World:=((((w.alloc (.cells #[sl,.int .i64 tr.2.1,.int .i64 tr.2.2.1] 43)).alloc (.cells #[.int .i64 br.1,.int .i64 br.2.1] 44)).alloc (.cells #[.int .i64 pf.1,.int .i64 pf.2.1,.int .i64 pf.2.2.1,.int .i64 pf.2.2.2.1] 45)).alloc (.cells #[.bool down] 4))
theorem env72 (w:World) (sl:Value) (tr:TR72) (br:BR72) (pf:PR72) (down:Bool) :
  Env72 w sl tr br pf down (W472 w sl tr br pf down):=by
 refine ⟨((((Below.refl _ w).alloc (Nat.le_refl _) _).alloc (by simp) _).alloc (by simp <;> omega) _).alloc (by simp <;> omega) _,?_,?_,?_,?_⟩
 ·rw [Below.heap_alloc _ _ _ (by simp <;> omega),Below.heap_alloc _ _ _ (by simp <;> omega),Below.heap_alloc _ _ _ (by simp)]
  exact heap_alloc_new w _
 ·rw [Below.heap_alloc _ _ _ (by simp <;> omega),Below.heap_alloc _ _ _ (by simp)]
  exact new72 _ _ _ (by simp)
 ·rw [Below.heap_alloc _ _ _ (by simp)]
  exact new72 _ _ _ (by simp)
 ·exact new72 _ _ _ (by simp)
theorem boxOf72 {W:World} {b:Nat} {u:Value} {ty:TypeId} (h:W.heap[b]? = some (.cells #[u] ty)):Box72 W b u:=⟨#[u],ty,(0,0),h,rfl,fun j _ hj=>by have:=hj.2;omega,.inl rfl⟩
abbrev W772 (w4:World) (way:Int):World:=((w4.alloc (.cells #[.int .i64 way] 2)).alloc (.cells #[.int .i64 0] 2)).alloc (.cells #[.bool false] 4)
theorem low772 (w4:World) (way:Int):Below w4.heap.size w4 (W772 w4 way):=(((Below.refl _ w4).alloc (Nat.le_refl _) _).alloc (by simp) _).alloc (by simp <;> omega) _
theorem way772 (w4:World) (way:Int):(W772 w4 way).heap[w4.heap.size]? = some (.cells #[.int .i64 way] 2):=by
 rw [Below.heap_alloc _ _ _ (by simp <;> omega),Below.heap_alloc _ _ _ (by simp)]
 exact heap_alloc_new w4 _
theorem sec772 (w4:World) (way:Int):(W772 w4 way).heap[w4.heap.size+1]? = some (.cells #[.int .i64 0] 2):=by
 rw [Below.heap_alloc _ _ _ (by simp)]
 exact new72 _ _ _ (by simp)
theorem fnd772 (w4:World) (way:Int):(W772 w4 way).heap[w4.heap.size+1+1]? = some (.cells #[.bool false] 4):=new72 _ _ _ (by simp)
theorem call72 {w w4:World} {sl:Value} {tr:TR72} {br:BR72} {pf:PR72} {down:Bool} (E4:Env72 w sl tr br pf down w4) (hgo:GOk w []) (hv:∃ cs,Value.agg #[sl,.int .i64 tr.2.1,.int .i64 tr.2.2.1] = .agg cs.toArray∧RepC w (Am.Good w []) TY72 tr cs) (hw1:Wf BY72 br) (hw2:Wf PY72 pf)
  (p2:0≤g114_0 tr∧g114_0 tr≤3000000)
  (p3:∀ s l,0≤s→s≤15000→1≤l→l≤g114_0 tr→P147 pf s l∧1≤g147_0 pf s l∧g147_0 pf s l≤l∧g147_0 pf s l≤15000)
  (p4:∀ place s k fd,0≤place→place≤g114_0 tr→0≤s→s≤15000→0≤k→k≤3000000→P118 place s k down (g114_0 tr) tr br fd) :
  Calls Tryz.prog 117 #[.agg #[.int .i64 pf.1,.int .i64 pf.2.1,.int .i64 pf.2.2.1,.int .i64 pf.2.2.2.1],.int .i64 (g114_0 tr),.func (.func 118) #[] #[ptr72 (w4.heap.size+1),ptr72 (w.heap.size+1+1+1),ptr72 w4.heap.size,ptr72 w.heap.size,ptr72 (w.heap.size+1),ptr72 (w4.heap.size+1+1)]] (W772 w4 (g114_0 tr)) fun e w' =>
   e = .returned (.tuple #[])∧Below w.heap.size w w'∧Fin72 w' (w4.heap.size+1) (w4.heap.size+1+1) (run72 tr br pf down):=by
 have low:=low772 w4 (g114_0 tr)
 have E7:=E4.keep low
 have ls:(W772 w4 (g114_0 tr)).heap.size=w4.heap.size+3:=by simp
 have l4:w.heap.size+4≤w4.heap.size:=by have:=(Array.getElem?_eq_some_iff.1 E4.d).1;omega
 have g7:GOk (W772 w4 (g114_0 tr)) []:=gokB72 hgo E7.low
 have g4:GOk w4 []:=gokB72 hgo E4.low
 have gs:=g4.size
 obtain ⟨cs,hcs,hrep⟩:=hv
 obtain rfl:cs=[sl,.int .i64 tr.2.1,.int .i64 tr.2.2.1]:=by
  have:=congrArg Value.cells hcs
  simpa [Value.cells] using congrArg Array.toList (show cs.toArray = #[sl,.int .i64 tr.2.1,.int .i64 tr.2.2.1] by cases hcs;rfl)
 have hr:=ride72 (W772 w4 (g114_0 tr)) (w4.heap.size+1) (w.heap.size+1+1+1) w4.heap.size w.heap.size (w.heap.size+1) (w4.heap.size+1+1) down (g114_0 tr) tr br pf (g114_0 tr).toNat
  ⟨g7.inv,g7.size,fun b hb=>by simp at hb;omega⟩ (by omega) (boxOf72 (sec772 _ _)) (boxOf72 (fnd772 _ _))
  ⟨_,_,[.bool down],rfl,⟨by rw [ls];omega,by simp <;> omega⟩,fun j c hj => ?_,rfl⟩
  ⟨_,_,[.int .i64 (g114_0 tr)],rfl,⟨by rw [ls];omega,by simp <;> omega⟩,fun j c hj => ?_,rfl,by rw [i64_iff];omega⟩
  ⟨_,_,[sl,.int .i64 tr.2.1,.int .i64 tr.2.2.1],rfl,⟨by rw [ls];omega,by simp <;> omega⟩,fun j c hj => ?_,hrep.keep (fun b hb=>⟨by rw [ls];have:=hb.1;omega,by have:=hb.1;simp;omega⟩) (fun b hb=>E7.low.block b hb.1)⟩
  ⟨_,_,fcells BY72 br,rfl,⟨by rw [ls];omega,by simp <;> omega⟩,fun j c hj => ?_,(OwnC.flat (w:=w) (G:=Am.Good (W772 w4 (g114_0 tr)) [w4.heap.size+1,w4.heap.size+1+1]) rfl (own_of_wf rfl hw1)).1⟩
  hw2 p2 (by omega) p3 p4
 ·refine hr.mono ?_
  rintro e w' ⟨rfl,hk,hf⟩
  refine ⟨rfl,⟨hk.os.trans E7.low.os,hk.tape.trans E7.low.tape,hk.output.trans E7.low.output,Nat.le_trans E7.low.size hk.size,fun q hq => ?_⟩,hf⟩
  exact (hk.block q (by rw [ls];omega) (by simp <;> omega)).trans (E7.low.block q hq)
 ·rcases j with _ | j
  ·simp at hj;subst hj
   exact cel72 E7.d 0 _ rfl
  ·simp at hj
 ·rcases j with _ | j
  ·simp at hj;subst hj
   exact cel72 (way772 _ _) 0 _ rfl
  ·simp at hj
 ·rw [Nat.zero_add]
  exact cel72 E7.t j c (by simpa using hj)
 ·rw [Nat.zero_add]
  exact cel72 E7.b j c (by simpa [fcells] using hj)
set_option maxHeartbeats 8000000 in
theorem walk72 (w:World) (sl:Value) (tr:TR72) (br:BR72) (pf:PR72) (down:Bool) (hgo:GOk w []) (hv:∃ cs,Value.agg #[sl,.int .i64 tr.2.1,.int .i64 tr.2.2.1] = .agg cs.toArray∧RepC w (Am.Good w []) TY72 tr cs) (hw1:Wf BY72 br) (hw2:Wf PY72 pf)
  (h1:g103_0 tr=true) (h2:g105_0 br=true) (h3:g106_0 pf=true) (hp:P72 tr br pf down) :
  Calls Tryz.prog 72 #[.agg #[sl,.int .i64 tr.2.1,.int .i64 tr.2.2.1],.agg #[.int .i64 br.1,.int .i64 br.2.1],.agg #[.int .i64 pf.1,.int .i64 pf.2.1,.int .i64 pf.2.2.1,.int .i64 pf.2.2.2.1],.bool down] w fun e w' =>
   e = .returned (.tuple #[.int .i64 ((run72 tr br pf down).getD 0),.int .i64 (code72 (run72 tr br pf down))])∧Below w.heap.size w w':=by
 obtain ⟨p1,p2,p3,p4⟩:=hp h1 h2 h3
 have HG:Aside (GOk w []):=hgo
 have HV:Aside (∃ cs,Value.agg #[sl,.int .i64 tr.2.1,.int .i64 tr.2.2.1] = .agg cs.toArray∧RepC w (Am.Good w []) TY72 tr cs):=hv
 clear hgo hv hp
 have hmf:∀ (fn:Fn) (first cap:Array Value) (w:World),(Instr.makeFunc fn first cap).run Tryz.prog w = .ok (.func fn first cap) w:=fun _ _ _ _=>rfl
 go_enter Tryz.func72,Tryz.ntmps72
 have E0:Aside (Env72 w sl tr br pf down (W472 w sl tr br pf down)):=env72 w sl tr br pf down
 go_wp2_with (go_at_call 103;refine (trk72 _ tr _ (gokB72 HG.out E0.out.low) (trkB72 E0.out.low HV.out)).mono ?_;rintro e w1 ⟨rfl,b1⟩;rw [h1];have E1:Aside (Env72 w sl tr br pf down w1):=E0.out.keep b1;clear b1;have c0:w1.cell? ⟨w.heap.size+1,0,none⟩=some (.int .i64 br.1):=cel72 E1.out.b 0 _ rfl;have c1:w1.cell? ⟨w.heap.size+1,1,none⟩=some (.int .i64 br.2.1):=cel72 E1.out.b 1 _ rfl)
 go_wp2_with (go_at_call 105;refine (brk72 w1 br (gokB72 HG.out E1.out.low) hw1).mono ?_;rintro e w2 ⟨rfl,b2⟩;rw [h2];have E2:Aside (Env72 w sl tr br pf down w2):=E1.out.keep b2;clear b2 c0 c1;have c0:w2.cell? ⟨w.heap.size+1+1,0,none⟩=some (.int .i64 pf.1):=cel72 E2.out.p 0 _ rfl;have c1:w2.cell? ⟨w.heap.size+1+1,1,none⟩=some (.int .i64 pf.2.1):=cel72 E2.out.p 1 _ rfl;have c2:w2.cell? ⟨w.heap.size+1+1,2,none⟩=some (.int .i64 pf.2.2.1):=cel72 E2.out.p 2 _ rfl;have c3:w2.cell? ⟨w.heap.size+1+1,3,none⟩=some (.int .i64 pf.2.2.2.1):=cel72 E2.out.p 3 _ rfl)
 go_wp2_with (go_at_call 106;refine (prf72 w2 pf (gokB72 HG.out E2.out.low) hw2).mono ?_;rintro e w3 ⟨rfl,b3⟩;rw [h3];have E3:Aside (Env72 w sl tr br pf down w3):=E2.out.keep b3;clear b3 c0 c1 c2 c3;have c0:w3.cell? ⟨w.heap.size,0,none⟩=some sl:=cel72 E3.out.t 0 _ rfl;have c1:w3.cell? ⟨w.heap.size,1,none⟩=some (.int .i64 tr.2.1):=cel72 E3.out.t 1 _ rfl;have c2:w3.cell? ⟨w.heap.size,2,none⟩=some (.int .i64 tr.2.2.1):=cel72 E3.out.t 2 _ rfl)
 go_wp2_with (go_at_call 114;refine (len72 w3 tr _ (gokB72 HG.out E3.out.low) (trkB72 E3.out.low HV.out) p1).mono ?_;rintro e w4 ⟨rfl,b4⟩;have E4:Aside (Env72 w sl tr br pf down w4):=E3.out.keep b4;clear b4 c0 c1 c2;have E7:Aside (Env72 w sl tr br pf down (W772 w4 (g114_0 tr))):=E4.out.keep (low772 w4 _);have c0:(W772 w4 (g114_0 tr)).cell? ⟨w.heap.size+1+1,0,none⟩=some (.int .i64 pf.1):=cel72 E7.out.p 0 _ rfl;have c1:(W772 w4 (g114_0 tr)).cell? ⟨w.heap.size+1+1,1,none⟩=some (.int .i64 pf.2.1):=cel72 E7.out.p 1 _ rfl;have c2:(W772 w4 (g114_0 tr)).cell? ⟨w.heap.size+1+1,2,none⟩=some (.int .i64 pf.2.2.1):=cel72 E7.out.p 2 _ rfl;have c3:(W772 w4 (g114_0 tr)).cell? ⟨w.heap.size+1+1,3,none⟩=some (.int .i64 pf.2.2.2.1):=cel72 E7.out.p 3 _ rfl;have c4:(W772 w4 (g114_0 tr)).cell? ⟨w4.heap.size,0,none⟩=some (.int .i64 (g114_0 tr)):=cel72 (way772 w4 _) 0 _ rfl)
 cases hrun:run72 tr br pf down with
 | none =>
  go_wp2_with (go_at_call 117;refine (call72 E4.out HG.out HV.out hw1 hw2 p2 p3 p4).mono ?_;rintro e w5 ⟨rfl,b5,f5⟩;rw [hrun] at f5;have B5:Aside (Below w.heap.size w w5):=b5;have c5:w5.cell? ⟨w4.heap.size+1+1,0,none⟩=some (.bool false):=Box72.cell f5;clear b5 f5)
  go_ret2
  exact ⟨by rw [hrun];rfl,B5.out⟩
 | some r =>
  go_wp2_with (go_at_call 117;refine (call72 E4.out HG.out HV.out hw1 hw2 p2 p3 p4).mono ?_;rintro e w5 ⟨rfl,b5,f5⟩;rw [hrun] at f5;have B5:Aside (Below w.heap.size w w5):=b5;have c5:w5.cell? ⟨w4.heap.size+1+1,0,none⟩=some (.bool true):=Box72.cell f5.2;have c6:w5.cell? ⟨w4.heap.size+1,0,none⟩=some (.int .i64 r):=Box72.cell f5.1;clear b5 f5)
  go_ret2
  exact ⟨by rw [hrun];rfl,B5.out⟩
set_option maxHeartbeats 4000000 in
theorem bad172 (w:World) (sl:Value) (tr:TR72) (br:BR72) (pf:PR72) (down:Bool) (hgo:GOk w []) (hv:∃ cs,Value.agg #[sl,.int .i64 tr.2.1,.int .i64 tr.2.2.1] = .agg cs.toArray∧RepC w (Am.Good w []) TY72 tr cs) (h1:g103_0 tr=false) :
  Calls Tryz.prog 72 #[.agg #[sl,.int .i64 tr.2.1,.int .i64 tr.2.2.1],.agg #[.int .i64 br.1,.int .i64 br.2.1],.agg #[.int .i64 pf.1,.int .i64 pf.2.1,.int .i64 pf.2.2.1,.int .i64 pf.2.2.2.1],.bool down] w fun e w'=>e = .returned (.tuple #[.int .i64 0,.int .i64 1])∧Below w.heap.size w w':=by
 have HG:Aside (GOk w []):=hgo
 have HV:Aside (∃ cs,Value.agg #[sl,.int .i64 tr.2.1,.int .i64 tr.2.2.1] = .agg cs.toArray∧RepC w (Am.Good w []) TY72 tr cs):=hv
 clear hgo hv
 go_enter Tryz.func72,Tryz.ntmps72
 have E0:Aside (Env72 w sl tr br pf down (W472 w sl tr br pf down)):=env72 w sl tr br pf down
 go_wp2_with (go_at_call 103;refine (trk72 _ tr _ (gokB72 HG.out E0.out.low) (trkB72 E0.out.low HV.out)).mono ?_;rintro e w1 ⟨rfl,b1⟩;rw [h1];have E1:Aside (Env72 w sl tr br pf down w1):=E0.out.keep b1;clear b1)
 go_ret2
 exact ⟨rfl,E1.out.low⟩
set_option maxHeartbeats 4000000 in
theorem bad272 (w:World) (sl:Value) (tr:TR72) (br:BR72) (pf:PR72) (down:Bool) (hgo:GOk w []) (hv:∃ cs,Value.agg #[sl,.int .i64 tr.2.1,.int .i64 tr.2.2.1] = .agg cs.toArray∧RepC w (Am.Good w []) TY72 tr cs) (hw1:Wf BY72 br) (h1:g103_0 tr=true) (h2:g105_0 br=false) :
  Calls Tryz.prog 72 #[.agg #[sl,.int .i64 tr.2.1,.int .i64 tr.2.2.1],.agg #[.int .i64 br.1,.int .i64 br.2.1],.agg #[.int .i64 pf.1,.int .i64 pf.2.1,.int .i64 pf.2.2.1,.int .i64 pf.2.2.2.1],.bool down] w fun e w'=>e = .returned (.tuple #[.int .i64 0,.int .i64 1])∧Below w.heap.size w w':=by
 have HG:Aside (GOk w []):=hgo
 have HV:Aside (∃ cs,Value.agg #[sl,.int .i64 tr.2.1,.int .i64 tr.2.2.1] = .agg cs.toArray∧RepC w (Am.Good w []) TY72 tr cs):=hv
 clear hgo hv
 go_enter Tryz.func72,Tryz.ntmps72
 have E0:Aside (Env72 w sl tr br pf down (W472 w sl tr br pf down)):=env72 w sl tr br pf down
 go_wp2_with (go_at_call 103;refine (trk72 _ tr _ (gokB72 HG.out E0.out.low) (trkB72 E0.out.low HV.out)).mono ?_;rintro e w1 ⟨rfl,b1⟩;rw [h1];have E1:Aside (Env72 w sl tr br pf down w1):=E0.out.keep b1;clear b1;have c0:w1.cell? ⟨w.heap.size+1,0,none⟩=some (.int .i64 br.1):=cel72 E1.out.b 0 _ rfl;have c1:w1.cell? ⟨w.heap.size+1,1,none⟩=some (.int .i64 br.2.1):=cel72 E1.out.b 1 _ rfl)
 go_wp2_with (go_at_call 105;refine (brk72 w1 br (gokB72 HG.out E1.out.low) hw1).mono ?_;rintro e w2 ⟨rfl,b2⟩;rw [h2];have E2:Aside (Env72 w sl tr br pf down w2):=E1.out.keep b2;clear b2 c0 c1)
 go_ret2
 exact ⟨rfl,E2.out.low⟩
set_option maxHeartbeats 4000000 in
theorem bad372 (w:World) (sl:Value) (tr:TR72) (br:BR72) (pf:PR72) (down:Bool) (hgo:GOk w []) (hv:∃ cs,Value.agg #[sl,.int .i64 tr.2.1,.int .i64 tr.2.2.1] = .agg cs.toArray∧RepC w (Am.Good w []) TY72 tr cs) (hw1:Wf BY72 br) (hw2:Wf PY72 pf) (h1:g103_0 tr=true) (h2:g105_0 br=true) (h3:g106_0 pf=false) :
  Calls Tryz.prog 72 #[.agg #[sl,.int .i64 tr.2.1,.int .i64 tr.2.2.1],.agg #[.int .i64 br.1,.int .i64 br.2.1],.agg #[.int .i64 pf.1,.int .i64 pf.2.1,.int .i64 pf.2.2.1,.int .i64 pf.2.2.2.1],.bool down] w fun e w'=>e = .returned (.tuple #[.int .i64 0,.int .i64 1])∧Below w.heap.size w w':=by
 have HG:Aside (GOk w []):=hgo
 have HV:Aside (∃ cs,Value.agg #[sl,.int .i64 tr.2.1,.int .i64 tr.2.2.1] = .agg cs.toArray∧RepC w (Am.Good w []) TY72 tr cs):=hv
 clear hgo hv
 go_enter Tryz.func72,Tryz.ntmps72
 have E0:Aside (Env72 w sl tr br pf down (W472 w sl tr br pf down)):=env72 w sl tr br pf down
 go_wp2_with (go_at_call 103;refine (trk72 _ tr _ (gokB72 HG.out E0.out.low) (trkB72 E0.out.low HV.out)).mono ?_;rintro e w1 ⟨rfl,b1⟩;rw [h1];have E1:Aside (Env72 w sl tr br pf down w1):=E0.out.keep b1;clear b1;have c0:w1.cell? ⟨w.heap.size+1,0,none⟩=some (.int .i64 br.1):=cel72 E1.out.b 0 _ rfl;have c1:w1.cell? ⟨w.heap.size+1,1,none⟩=some (.int .i64 br.2.1):=cel72 E1.out.b 1 _ rfl)
 go_wp2_with (go_at_call 105;refine (brk72 w1 br (gokB72 HG.out E1.out.low) hw1).mono ?_;rintro e w2 ⟨rfl,b2⟩;rw [h2];have E2:Aside (Env72 w sl tr br pf down w2):=E1.out.keep b2;clear b2 c0 c1;have c0:w2.cell? ⟨w.heap.size+1+1,0,none⟩=some (.int .i64 pf.1):=cel72 E2.out.p 0 _ rfl;have c1:w2.cell? ⟨w.heap.size+1+1,1,none⟩=some (.int .i64 pf.2.1):=cel72 E2.out.p 1 _ rfl;have c2:w2.cell? ⟨w.heap.size+1+1,2,none⟩=some (.int .i64 pf.2.2.1):=cel72 E2.out.p 2 _ rfl;have c3:w2.cell? ⟨w.heap.size+1+1,3,none⟩=some (.int .i64 pf.2.2.2.1):=cel72 E2.out.p 3 _ rfl)
 go_wp2_with (go_at_call 106;refine (prf72 w2 pf (gokB72 HG.out E2.out.low) hw2).mono ?_;rintro e w3 ⟨rfl,b3⟩;rw [h3];have E3:Aside (Env72 w sl tr br pf down w3):=E2.out.keep b3;clear b3 c0 c1 c2 c3)
 go_ret2
 exact ⟨rfl,E3.out.low⟩
def sig72:List AT:=[AT.v TY72,AT.v BY72,AT.v PY72,AT.v Ty.bool]
def S72:Am.Spec:={ sig:=sig72,pre:=fun ⟨x0,x1,x2,x3,_⟩=>P72 x0 x1 x2 x3,res:=fun ⟨x0,x1,x2,x3,_⟩=>[⟨.int .i64,g72_0 x0 x1 x2 x3⟩,⟨.int .i64,g72_1 x0 x1 x2 x3⟩] }
theorem rng72 (x0:TR72) (x1:BR72) (x2:PR72) (x3:Bool) (hp:P72 x0 x1 x2 x3):InR .i64 (g72_0 x0 x1 x2 x3)∧InR .i64 (g72_1 x0 x1 x2 x3):=by
 unfold g72_0 g72_1
 by_cases h:(g103_0 x0&&g105_0 x1&&g106_0 x2)=true
 ·rw [if_pos h,if_pos h]
  simp only [Bool.and_eq_true] at h
  obtain ⟨_,p2,_⟩:=hp h.1.1 h.1.2 h.2
  cases hr:run72 x0 x1 x2 x3 with
  | none=>exact ⟨by rw [i64_iff];show _≤(0:Int)∧(0:Int)≤_;omega,by rw [i64_iff];show _≤(3:Int)∧(3:Int)≤_;omega⟩
  | some r =>
   have:=rideNon72 (Int.le_refl 0) hr
   exact ⟨by rw [i64_iff];show _≤r∧r≤_;omega,by rw [i64_iff];show _≤(0:Int)∧(0:Int)≤_;omega⟩
 ·rw [if_neg h,if_neg h]
  exact ⟨by rw [i64_iff];omega,by rw [i64_iff];omega⟩
theorem core72 (w:World) (x0:TR72) (x1:BR72) (x2:PR72) (x3:Bool) (v v1 v2:Value) (hgo:GOk w []) (hp:P72 x0 x1 x2 x3) (h0:∃ cs,v = .agg cs.toArray∧RepC w (Am.Good w []) TY72 x0 cs) (h1:∃ cs,v1 = .agg cs.toArray∧RepC w (Am.Good w []) BY72 x1 cs) (h2:∃ cs,v2 = .agg cs.toArray∧RepC w (Am.Good w []) PY72 x2 cs) :
  Calls Tryz.prog 72 #[v,v1,v2,.bool x3] w fun e w'=>e = .returned (.tuple #[.int .i64 (g72_0 x0 x1 x2 x3),.int .i64 (g72_1 x0 x1 x2 x3)])∧Below w.heap.size w w':=by
 obtain ⟨cs,rfl,c1,c2,rfl,⟨sl,rfl,hsl⟩,c3,c4,rfl,⟨rfl,ia⟩,c5,c6,rfl,⟨rfl,ib⟩,rfl⟩:=h0
 obtain ⟨cs1,rfl,d1,d2,rfl,⟨rfl,ic⟩,d3,d4,rfl,⟨rfl,id⟩,rfl⟩:=h1
 obtain ⟨cs2,rfl,e1,e2,rfl,⟨rfl,ie⟩,e3,e4,rfl,⟨rfl,if'⟩,e5,e6,rfl,⟨rfl,ig⟩,e7,e8,rfl,⟨rfl,ih⟩,rfl⟩:=h2
 have hv:∃ cs,Value.agg #[sl,.int .i64 x0.2.1,.int .i64 x0.2.2.1] = .agg cs.toArray∧RepC w (Am.Good w []) TY72 x0 cs:=⟨_,rfl,_,_,rfl,⟨sl,rfl,hsl⟩,_,_,rfl,⟨rfl,ia⟩,_,_,rfl,⟨rfl,ib⟩,rfl⟩
 have hw1:Wf BY72 x1:=⟨ic,id,trivial⟩
 have hw2:Wf PY72 x2:=⟨ie,if',ig,ih,trivial⟩
 unfold g72_0 g72_1
 cases t1:g103_0 x0 with
 | false=>exact bad172 w sl x0 x1 x2 x3 hgo hv t1
 | true =>
  cases t2:g105_0 x1 with
  | false=>exact bad272 w sl x0 x1 x2 x3 hgo hv hw1 t1 t2
  | true =>
   cases t3:g106_0 x2 with
   | false=>exact bad372 w sl x0 x1 x2 x3 hgo hv hw1 hw2 t1 t2 t3
   | true=>exact walk72 w sl x0 x1 x2 x3 hgo hv hw1 hw2 t1 t2 t3 hp
theorem con72:Contract Tryz.prog 72 S72:=by
 refine Contract0.up rfl rfl ?_
 rintro w ⟨x0,x1,x2,x3,u⟩ vs bss hgo hp ⟨v,s,b,bs,rfl,rfl,⟨rfl,h0⟩,v1,s1,b1,bs1,rfl,rfl,⟨rfl,h1⟩,v2,s2,b2,bs2,rfl,rfl,⟨rfl,h2⟩,v3,s3,b3,bs3,rfl,rfl,⟨rfl,h3⟩,rfl,rfl⟩ hnd
 obtain ⟨rfl,_⟩:v3 = .bool x3∧True:=⟨h3.1,trivial⟩
 refine (core72 w x0 x1 x2 x3 v v1 v2 hgo hp h0 h1 h2).mono ?_
 rintro e w' ⟨rfl,hb⟩
 have hi:InR .i64 (g72_0 x0 x1 x2 x3)∧InR .i64 (g72_1 x0 x1 x2 x3):=rng72 x0 x1 x2 x3 hp
 exact ⟨[.int .i64 (g72_0 x0 x1 x2 x3),.int .i64 (g72_1 x0 x1 x2 x3)],[],[[],[]],rfl,Kept.of_below hb,⟨_,_,_,_,_,rfl,rfl,⟨rfl,hi.1,rfl⟩,rfl,_,_,_,_,_,rfl,rfl,⟨rfl,hi.2,rfl⟩,rfl,rfl,rfl⟩,⟨rfl,rfl⟩,by simp,fun b hb=>by simp at hb⟩
noncomputable section
def ext29:Ext:=[(69,S69),(70,S70),(71,S71),(72,S72)]
theorem ext29Ok:ExtOk Tryz.prog ext29:=⟨⟨ca69,con69⟩,⟨ca70,con70⟩,⟨ca71,con71⟩,⟨ca72,con72⟩,trivial⟩
def b29:Code:=bodyOf Tryz.f29
theorem hb29:Tryz.f29.body=some b29:=by kernel_rfl
def sig29:List AT:=[AT.v YA0]
def tys29:List Ty:=[.sl YA8]
def kds29:List RK:=[]
def oks29:List AT:=owns sig29
def E29_6 (v30:Int) (h1:List TyB3) (x0:TyA0):Env:=[(1,.a (.optr 0 0 [])),(3,.a (.osl 1 Option.none)),(28,.a (.osl 2 Option.none)),(29,.a (.val (.int .i64 2))),(30,.a (.val (.int .i64 v30)))]
def L29_6 (v30:Int) (h1:List TyB3) (x0:TyA0):Heap:=[Option.some (Arr.mk YA0 [x0] true Option.none (Option.some false)),Option.some (Arr.mk YA8 h1 false Option.none Option.none),Option.some (Arr.mk .str [ByteArray.mk #[117,112],ByteArray.mk #[100,111,119,110]] false Option.none Option.none)]
mutual
def R29:Nat→TyA0→List Dyn→Prop
 | 0,_,_=>False
 | n+1,x0,ds=>((P69 x0.1 x0.2.1)∧(if (!g69_0 x0.1 x0.2.1)=true then ((P70 x0.1)∧((P71 (g70_0 x0.1))∧(R29_6 n (0) ([(1,ByteArray.mk #[99,97,114,115],g71_0 (g70_0 x0.1),())]) (x0) ds))) else (R29_6 n (0) ([]) (x0) ds)))
def R29_6:Nat→Int→List TyB3→TyA0→List Dyn→Prop
 | 0,_,_,_,_=>False
 | n+1,v30,h1,x0,ds=>(if (decide (v30<2))=true then ((0≤v30)∧(v30<2)∧((P72 x0.1 x0.2.2.1 x0.2.2.2.1 (ByteArray.toList (List.getD [ByteArray.mk #[117,112],ByteArray.mk #[100,111,119,110]] (Int.toNat v30) ByteArray.empty)==ByteArray.toList (ByteArray.mk #[100,111,119,110])))∧(if (g72_1 x0.1 x0.2.2.1 x0.2.2.2.1 (ByteArray.toList (List.getD [ByteArray.mk #[117,112],ByteArray.mk #[100,111,119,110]] (Int.toNat v30) ByteArray.empty)==ByteArray.toList (ByteArray.mk #[100,111,119,110]))==0)=true then ((P71 (g72_0 x0.1 x0.2.2.1 x0.2.2.2.1 (ByteArray.toList (List.getD [ByteArray.mk #[117,112],ByteArray.mk #[100,111,119,110]] (Int.toNat v30) ByteArray.empty)==ByteArray.toList (ByteArray.mk #[100,111,119,110]))))∧(((List.length h1+1)*40≤140737488355328)∧((InR .i64 (v30+1))∧(R29_6 n (v30+1) (h1++[(2,List.getD [ByteArray.mk #[117,112],ByteArray.mk #[100,111,119,110]] (Int.toNat v30) ByteArray.empty,g71_0 (g72_0 x0.1 x0.2.2.1 x0.2.2.2.1 (ByteArray.toList (List.getD [ByteArray.mk #[117,112],ByteArray.mk #[100,111,119,110]] (Int.toNat v30) ByteArray.empty)==ByteArray.toList (ByteArray.mk #[100,111,119,110]))),())]) (x0) ds)))) else ((InR .i64 (v30+1))∧(R29_6 n (v30+1) (h1) (x0) ds))))) else (ds=[Dyn.mk (.sl YA8) h1]))
end
theorem snd29:∀ n,(∀ (x0:TyA0) ds,R29 n x0 ds→∀ K q,AtV Tryz.prog 29 (PostR kds29 oks29 ds [] [] q K) 57 K q [] [.code b29] (entE 0 0 sig29 (x0,())) (entL sig29 (x0,())))∧(∀ (v30:Int) (h1:List TyB3) (x0:TyA0) ds,R29_6 n v30 h1 x0 ds→∀ K q,AtV Tryz.prog 29 (PostR kds29 oks29 ds [] [] q K) 57 K q [] (cutAt b29 6) (E29_6 v30 h1 x0) (L29_6 v30 h1 x0)):=by
 intro n
 induction n with
 | zero=>exact ⟨fun _ _ h=>by simp only [R29] at h,fun _ _ _ _ h=>by simp only [R29_6] at h⟩
 | succ n ih =>
 obtain ⟨ih,ih6⟩:=ih
 refine ⟨?_,?_⟩
 ·intro x0 ds h K q
  rw [R29] at h
  obtain ⟨s0,h⟩:=h
  by_cases b0:(!g69_0 x0.1 x0.2.1)=true
  ·rw [if_pos b0] at h
   obtain ⟨s1,h⟩:=h
   obtain ⟨s2,h⟩:=h
   exact AtV.go tabOk ext29Ok mixed false [] [(3,.cons (.int .i64) YA10)] [1,3,28,29,30] [0,2,3] [true] (a1 s0 (a1 b0 (a1 s1 (a1 s2 (a1 ((by decide):(1:Nat)*(40:Nat)≤(140737488355328:Nat)) trivial))))) (ih6 _ _ _ _ h K q) (by kernel_rfl)
  ·rw [if_neg b0] at h
   replace b0:=bf_ b0
   exact AtV.go tabOk ext29Ok mixed false [] [(3,.cons (.int .i64) YA10)] [1,3,28,29,30] [0,2,1] [false] (a1 s0 (a1 b0 trivial)) (ih6 _ _ _ _ h K q) (by kernel_rfl)
 ·intro v30 h1 x0 ds h K q
  rw [R29_6] at h
  by_cases b0:(decide (v30<2))=true
  ·rw [if_pos b0] at h
   obtain ⟨s0,s1,h⟩:=h
   obtain ⟨s2,h⟩:=h
   by_cases b1:(g72_1 x0.1 x0.2.2.1 x0.2.2.2.1 (ByteArray.toList (List.getD [ByteArray.mk #[117,112],ByteArray.mk #[100,111,119,110]] (Int.toNat v30) ByteArray.empty)==ByteArray.toList (ByteArray.mk #[100,111,119,110]))==0)=true
   ·rw [if_pos b1] at h
    obtain ⟨s3,h⟩:=h
    obtain ⟨s4,h⟩:=h
    obtain ⟨s5,h⟩:=h
    exact AtV.go tabOk ext29Ok mixed false [] [(3,.cons (.int .i64) YA10)] [1,3,28,29,30] [0,1,2] [true,true] (a1 b0 (a1 s0 (a1 s1 (a1 s2 (a1 b1 (a1 s3 (a1 s4 (a1 s5 trivial)))))))) (ih6 _ _ _ _ h K q) (by kernel_rfl)
   ·rw [if_neg b1] at h
    replace b1:=bf_ b1
    obtain ⟨s3,h⟩:=h
    exact AtV.go tabOk ext29Ok mixed false [] [(3,.cons (.int .i64) YA10)] [1,3,28,29,30] [0,1,2] [true,false] (a1 b0 (a1 s0 (a1 s1 (a1 s2 (a1 b1 (a1 s3 trivial)))))) (ih6 _ _ _ _ h K q) (by kernel_rfl)
  ·rw [if_neg b0] at h
   replace b0:=bf_ b0
   subst h
   exact AtV.ret Tryz.func29 tabOk ext29Ok mixed false [] tys29 [false] (a1 b0 trivial) (by kernel_rfl)
def one29 (x0:(TyA0)) (who:ByteArray) (d:Bool):List TyB3:=if (g72_1 x0.1 x0.2.2.1 x0.2.2.2.1 d==0)=true then [(2,who,g71_0 (g72_0 x0.1 x0.2.2.1 x0.2.2.2.1 d),())] else []
def trk029 (x0:(TyA0)):List TyB3:=if (!g69_0 x0.1 x0.2.1)=true then [(1,ByteArray.mk #[99,97,114,115],g71_0 (g70_0 x0.1),())] else []
def g29_0 (x0:(TyA0)):List TyB3:=trk029 x0++one29 x0 (ByteArray.mk #[117,112]) false++one29 x0 (ByteArray.mk #[100,111,119,110]) true
def Pd29 (x0:(TyA0)) (d:Bool):Prop:=P72 x0.1 x0.2.2.1 x0.2.2.2.1 d∧((g72_1 x0.1 x0.2.2.1 x0.2.2.2.1 d==0)=true→P71 (g72_0 x0.1 x0.2.2.1 x0.2.2.2.1 d))
def P29 (x0:(TyA0)):Prop:=P69 x0.1 x0.2.1∧((!g69_0 x0.1 x0.2.1)=true→P70 x0.1∧P71 (g70_0 x0.1))∧Pd29 x0 false∧Pd29 x0 true
theorem r229 (n:Nat) (h:List TyB3) (x0:(TyA0)):R29_6 (n+1) 2 h x0 [⟨.sl (.cons (.int .i64) (.cons .str (.cons .str .unit))),h⟩]:=by
 rw [R29_6,if_neg (by decide)]
theorem r129 (n:Nat) (h:List TyB3) (x0:(TyA0)) (hl:h.length≤5) (hp:Pd29 x0 true):R29_6 (n+1+1) 1 h x0 [⟨.sl (.cons (.int .i64) (.cons .str (.cons .str .unit))),h++one29 x0 (ByteArray.mk #[100,111,119,110]) true⟩]:=by
 have e1:List.getD [ByteArray.mk #[117,112],ByteArray.mk #[100,111,119,110]] (Int.toNat 1) ByteArray.empty=ByteArray.mk #[100,111,119,110]:=rfl
 have e2:(ByteArray.toList (ByteArray.mk #[100,111,119,110])==ByteArray.toList (ByteArray.mk #[100,111,119,110]))=true:=by rw [beq_self_eq_true]
 rw [R29_6,if_pos (by decide),e1,e2]
 refine ⟨by decide,by decide,hp.1,?_⟩
 unfold one29
 by_cases c:(g72_1 x0.1 x0.2.2.1 x0.2.2.2.1 true==0)=true
 ·rw [if_pos c,if_pos c]
  exact ⟨hp.2 c,by omega,by rw [i64_iff];omega,r229 n _ x0⟩
 ·rw [if_neg c,if_neg c,List.append_nil]
  exact ⟨by rw [i64_iff];omega,r229 n _ x0⟩
theorem r029 (n:Nat) (h:List TyB3) (x0:(TyA0)) (hl:h.length≤4) (hp0:Pd29 x0 false) (hp:Pd29 x0 true):R29_6 (n+1+1+1) 0 h x0 [⟨.sl (.cons (.int .i64) (.cons .str (.cons .str .unit))),h++one29 x0 (ByteArray.mk #[117,112]) false++one29 x0 (ByteArray.mk #[100,111,119,110]) true⟩]:=by
 have e1:List.getD [ByteArray.mk #[117,112],ByteArray.mk #[100,111,119,110]] (Int.toNat 0) ByteArray.empty=ByteArray.mk #[117,112]:=rfl
 have e2:(ByteArray.toList (ByteArray.mk #[117,112])==ByteArray.toList (ByteArray.mk #[100,111,119,110]))=false:=by
  rw [Bool.eq_false_iff]
  intro h
  rw [bytes_eq] at h
  exact absurd (congrArg (fun b=>b.data.size) h) (by decide)
 rw [R29_6,if_pos (by decide),e1,e2]
 refine ⟨by decide,by decide,hp0.1,?_⟩
 by_cases c:(g72_1 x0.1 x0.2.2.1 x0.2.2.2.1 false==0)=true
 ·have eo:one29 x0 (ByteArray.mk #[117,112]) false=[(2,ByteArray.mk #[117,112],g71_0 (g72_0 x0.1 x0.2.2.1 x0.2.2.2.1 false),())]:=by
   unfold one29
   rw [if_pos c]
  rw [if_pos c,eo]
  exact ⟨hp0.2 c,by omega,by rw [i64_iff];omega,r129 n _ x0 (by rw [List.length_append,List.length_singleton];omega) hp⟩
 ·have eo:one29 x0 (ByteArray.mk #[117,112]) false=[]:=by
   unfold one29
   rw [if_neg c]
  rw [if_neg c,eo,List.append_nil]
  exact ⟨by rw [i64_iff];omega,r129 n _ x0 (by omega) hp⟩
theorem top29 (x0:(TyA0)) (h:P29 x0):R29 5 x0 [⟨.sl (.cons (.int .i64) (.cons .str (.cons .str .unit))),g29_0 x0⟩]:=by
 obtain ⟨p1,p2,p3,p4⟩:=h
 rw [R29]
 refine ⟨p1,?_⟩
 unfold g29_0 trk029
 by_cases c:(!g69_0 x0.1 x0.2.1)=true
 ·rw [if_pos c,if_pos c]
  exact ⟨(p2 c).1,(p2 c).2,r029 1 _ x0 (by simp) p3 p4⟩
 ·rw [if_neg c,if_neg c]
  exact r029 1 _ x0 (by simp) p3 p4
def S29:Am.Spec:={ sig:=sig29,pre:=fun ⟨x0,_⟩=>P29 x0,res:=fun ⟨x0,_⟩=>[⟨.sl (.cons (.int .i64) (.cons .str (.cons .str .unit))),g29_0 x0⟩] }
theorem con29:Contract Tryz.prog 29 S29:=contract_of Tryz.func29 hb29 (bl_ (by kernel_rfl)) (fun ⟨x0,_⟩ h hwf K q =>
 (snd29 _).1 x0 _ (top29 x0 h) K q)
end
noncomputable section
def ext74:Ext:=[]
theorem ext74Ok:ExtOk Tryz.prog ext74:=trivial
def b74:Code:=bodyOf Tryz.f74
theorem hb74:Tryz.f74.body=some b74:=by kernel_rfl
def sig74:List AT:=[AT.v YA5]
def tys74:List Ty:=[.cons (.int .i64) YA9]
def kds74:List RK:=[]
def oks74:List AT:=owns sig74
def P74 (x0:ByteArray×Int×Int×Int×Unit):Prop:=((InR .i64 (75*x0.2.1))∧((InR .i64 (15*x0.2.2.1))∧((InR .i64 (75*x0.2.1+15*x0.2.2.1))∧((InR .i64 (75*x0.2.1+15*x0.2.2.1+x0.2.2.2.1))∧True))))
def g74_0 (x0:ByteArray×Int×Int×Int×Unit):Int×Int×Int×Unit:=(x0.2.1,x0.2.2.1,75*x0.2.1+15*x0.2.2.1+x0.2.2.2.1,())
theorem at74 (x0:ByteArray×Int×Int×Int×Unit) (h:P74 x0) (K:Ctx) (q:Nat→Value):AtV Tryz.prog 74 (PostR kds74 oks74 [⟨.cons (.int .i64) YA9,g74_0 x0⟩] [] [] q K) 18 K q [] [.code b74] (entE 0 0 sig74 (x0,())) (entL sig74 (x0,())):=by
 unfold P74 at h
 unfold g74_0
 obtain ⟨s0,h⟩:=h
 obtain ⟨s1,h⟩:=h
 obtain ⟨s2,h⟩:=h
 obtain ⟨s3,h⟩:=h
 exact AtV.ret Tryz.func74 tabOk ext74Ok mixed false [] tys74 [] (a1 s0 (a1 s1 (a1 s2 (a1 s3 trivial)))) (by kernel_rfl)
def S74:Am.Spec:={ sig:=sig74,pre:=fun ⟨x0,_⟩=>P74 x0,res:=fun ⟨x0,_⟩=>[⟨.cons (.int .i64) YA9,g74_0 x0⟩],kds:=kds74 }
theorem con74:Contract Tryz.prog 74 S74:=contract_of Tryz.func74 hb74 (bl_ (by kernel_rfl)) (fun ⟨x0,_⟩ h _ K q=>at74 x0 h K q)
end
noncomputable section
def ext73:Ext:=[]
theorem ext73Ok:ExtOk Tryz.prog ext73:=trivial
def b73:Code:=bodyOf Tryz.f73
theorem hb73:Tryz.f73.body=some b73:=by kernel_rfl
def sig73:List AT:=[AT.v YA7,AT.v YA7]
def tys73:List Ty:=[.bool]
def kds73:List RK:=[]
def oks73:List AT:=owns sig73
def P73 (x0:Int×Int×Int×Unit) (x1:Int×Int×Int×Unit):Prop:=True
def g73_0 (x0:Int×Int×Int×Unit) (x1:Int×Int×Int×Unit):Bool:=(if (decide (x0.1≤x1.1))=true then (if (decide (x0.2.1≤x1.2.1))=true then decide (x0.2.2.1≤x1.2.2.1) else false) else false)
theorem at73 (x0:Int×Int×Int×Unit) (x1:Int×Int×Int×Unit) (h:P73 x0 x1) (K:Ctx) (q:Nat→Value):AtV Tryz.prog 73 (PostR kds73 oks73 [⟨.bool,g73_0 x0 x1⟩] [] [] q K) 24 K q [] [.code b73] (entE 0 0 sig73 (x0,x1,())) (entL sig73 (x0,x1,())):=by
 unfold P73 at h
 unfold g73_0
 by_cases b0:(decide (x0.1≤x1.1))=true
 ·try simp only [if_pos b0] at h ⊢
  by_cases b1:(decide (x0.2.1≤x1.2.1))=true
  ·try simp only [if_pos b1] at h ⊢
   exact AtV.ret Tryz.func73 tabOk ext73Ok mixed false [] tys73 [true,true] (a1 b0 (a1 b1 trivial)) (by kernel_rfl)
  ·try simp only [if_neg b1] at h ⊢
   replace b1:=bf_ b1
   exact AtV.ret Tryz.func73 tabOk ext73Ok mixed false [] tys73 [true,false] (a1 b0 (a1 b1 trivial)) (by kernel_rfl)
 ·try simp only [if_neg b0] at h ⊢
  replace b0:=bf_ b0
  exact AtV.ret Tryz.func73 tabOk ext73Ok mixed false [] tys73 [false,false] (a1 b0 (a1 (rfl:false=false) trivial)) (by kernel_rfl)
def S73:Am.Spec:={ sig:=sig73,pre:=fun ⟨x0,x1,_⟩=>P73 x0 x1,res:=fun ⟨x0,x1,_⟩=>[⟨.bool,g73_0 x0 x1⟩],kds:=kds73 }
theorem con73:Contract Tryz.prog 73 S73:=contract_of Tryz.func73 hb73 (bl_ (by kernel_rfl)) (fun ⟨x0,x1,_⟩ h _ K q=>at73 x0 x1 h K q)
end
noncomputable section
def ext120:Ext:=[]
theorem ext120Ok:ExtOk Tryz.prog ext120:=trivial
def b120:Code:=bodyOf Tryz.f120
theorem hb120:Tryz.f120.body=some b120:=by kernel_rfl
def sig120:List AT:=[AT.v YA3,AT.v (.int .i64),AT.v (.int .i64)]
def tys120:List Ty:=[.int .i64,.int .i64]
def kds120:List RK:=[]
def oks120:List AT:=owns sig120
def P120 (x0:ByteArray×Int×Int×Int×Int×Unit) (x1:Int) (x2:Int):Prop:=((InR .i64 (x0.2.2.2.1+x0.2.1))∧((InR .i64 (x0.2.2.2.1+x0.2.1 - x1))∧((InR .i64 (x0.2.2.2.2.1+x0.2.2.1))∧((InR .i64 (x0.2.2.2.2.1+x0.2.2.1 - x2))∧True))))
def g120_0 (x0:ByteArray×Int×Int×Int×Int×Unit) (x1:Int) (x2:Int):Int:=x0.2.2.2.1+x0.2.1 - x1
def g120_1 (x0:ByteArray×Int×Int×Int×Int×Unit) (x1:Int) (x2:Int):Int:=x0.2.2.2.2.1+x0.2.2.1 - x2
theorem at120 (x0:ByteArray×Int×Int×Int×Int×Unit) (x1:Int) (x2:Int) (h:P120 x0 x1 x2) (K:Ctx) (q:Nat→Value):AtV Tryz.prog 120 (PostR kds120 oks120 [⟨.int .i64,g120_0 x0 x1 x2⟩,⟨.int .i64,g120_1 x0 x1 x2⟩] [] [] q K) 22 K q [] [.code b120] (entE 0 0 sig120 (x0,x1,x2,())) (entL sig120 (x0,x1,x2,())):=by
 unfold P120 at h
 unfold g120_0 g120_1
 obtain ⟨s0,h⟩:=h
 obtain ⟨s1,h⟩:=h
 obtain ⟨s2,h⟩:=h
 obtain ⟨s3,h⟩:=h
 exact AtV.ret Tryz.func120 tabOk ext120Ok mixed false [] tys120 [] (a1 s0 (a1 s1 (a1 s2 (a1 s3 trivial)))) (by kernel_rfl)
def S120:Am.Spec:={ sig:=sig120,pre:=fun ⟨x0,x1,x2,_⟩=>P120 x0 x1 x2,res:=fun ⟨x0,x1,x2,_⟩=>[⟨.int .i64,g120_0 x0 x1 x2⟩,⟨.int .i64,g120_1 x0 x1 x2⟩],kds:=kds120 }
theorem con120:Contract Tryz.prog 120 S120:=contract_of Tryz.func120 hb120 (bl_ (by kernel_rfl)) (fun ⟨x0,x1,x2,_⟩ h _ K q=>at120 x0 x1 x2 h K q)
end
noncomputable section
def ext75:Ext:=[(120,S120)]
theorem ext75Ok:ExtOk Tryz.prog ext75:=⟨⟨ca120,con120⟩,trivial⟩
def b75:Code:=bodyOf Tryz.f75
theorem hb75:Tryz.f75.body=some b75:=by kernel_rfl
def sig75:List AT:=[AT.v YA3,AT.v (.int .i64),AT.v (.int .i64)]
def tys75:List Ty:=[.bool]
def kds75:List RK:=[]
def oks75:List AT:=owns sig75
def P75 (x0:ByteArray×Int×Int×Int×Int×Unit) (x1:Int) (x2:Int):Prop:=((P120 x0 x1 x2)∧True)
def g75_0 (x0:ByteArray×Int×Int×Int×Int×Unit) (x1:Int) (x2:Int):Bool:=(if (decide (g120_0 x0 x1 x2<0))=true then true else decide (g120_1 x0 x1 x2<0))
theorem at75 (x0:ByteArray×Int×Int×Int×Int×Unit) (x1:Int) (x2:Int) (h:P75 x0 x1 x2) (K:Ctx) (q:Nat→Value):AtV Tryz.prog 75 (PostR kds75 oks75 [⟨.bool,g75_0 x0 x1 x2⟩] [] [] q K) 22 K q [] [.code b75] (entE 0 0 sig75 (x0,x1,x2,())) (entL sig75 (x0,x1,x2,())):=by
 unfold P75 at h
 unfold g75_0
 obtain ⟨s0,h⟩:=h
 by_cases b0:(decide (g120_0 x0 x1 x2<0))=true
 ·try simp only [if_pos b0] at h ⊢
  exact AtV.ret Tryz.func75 tabOk ext75Ok mixed false [] tys75 [true] (a1 s0 (a1 b0 trivial)) (by kernel_rfl)
 ·try simp only [if_neg b0] at h ⊢
  replace b0:=bf_ b0
  exact AtV.ret Tryz.func75 tabOk ext75Ok mixed false [] tys75 [false] (a1 s0 (a1 b0 trivial)) (by kernel_rfl)
def S75:Am.Spec:={ sig:=sig75,pre:=fun ⟨x0,x1,x2,_⟩=>P75 x0 x1 x2,res:=fun ⟨x0,x1,x2,_⟩=>[⟨.bool,g75_0 x0 x1 x2⟩],kds:=kds75 }
theorem con75:Contract Tryz.prog 75 S75:=contract_of Tryz.func75 hb75 (bl_ (by kernel_rfl)) (fun ⟨x0,x1,x2,_⟩ h _ K q=>at75 x0 x1 x2 h K q)
end
noncomputable section
def ext121:Ext:=[(110,S110)]
theorem ext121Ok:ExtOk Tryz.prog ext121:=⟨⟨ca110,con110⟩,trivial⟩
def b121:Code:=bodyOf Tryz.f121
theorem hb121:Tryz.f121.body=some b121:=by kernel_rfl
def sig121:List AT:=[AT.v (.sl YA9),AT.v (.bool)]
def tys121:List Ty:=[.int .i64]
def kds121:List RK:=[]
def oks121:List AT:=owns sig121
def P121 (x0:List TyB4) (x1:Bool):Prop:=True
def g121_0 (x0:List TyB4) (x1:Bool):Int:=(if (!g110_0 x0)=true then 1 else (if (!x1)=true then 2 else 0))
theorem at121 (x0:List TyB4) (x1:Bool) (h:P121 x0 x1) (K:Ctx) (q:Nat→Value):AtV Tryz.prog 121 (PostR kds121 oks121 [⟨.int .i64,g121_0 x0 x1⟩] [] [] q K) 12 K q [] [.code b121] (entE 0 0 sig121 (x0,x1,())) (entL sig121 (x0,x1,())):=by
 unfold P121 at h
 unfold g121_0
 by_cases b0:(!g110_0 x0)=true
 ·try simp only [if_pos b0] at h ⊢
  exact AtV.ret Tryz.func121 tabOk ext121Ok mixed false [] tys121 [true] (a1 trivial (a1 b0 trivial)) (by kernel_rfl)
 ·try simp only [if_neg b0] at h ⊢
  replace b0:=bf_ b0
  by_cases b1:(!x1)=true
  ·try simp only [if_pos b1] at h ⊢
   exact AtV.ret Tryz.func121 tabOk ext121Ok mixed false [] tys121 [false,true] (a1 trivial (a1 b0 (a1 b1 trivial))) (by kernel_rfl)
  ·try simp only [if_neg b1] at h ⊢
   replace b1:=bf_ b1
   exact AtV.ret Tryz.func121 tabOk ext121Ok mixed false [] tys121 [false,false] (a1 trivial (a1 b0 (a1 b1 trivial))) (by kernel_rfl)
def S121:Am.Spec:={ sig:=sig121,pre:=fun ⟨x0,x1,_⟩=>P121 x0 x1,res:=fun ⟨x0,x1,_⟩=>[⟨.int .i64,g121_0 x0 x1⟩],kds:=kds121 }
theorem con121:Contract Tryz.prog 121 S121:=contract_of Tryz.func121 hb121 (bl_ (by kernel_rfl)) (fun ⟨x0,x1,_⟩ h _ K q=>at121 x0 x1 h K q)
end
noncomputable section
def ext76:Ext:=[(111,S111),(121,S121),(122,S122)]
theorem ext76Ok:ExtOk Tryz.prog ext76:=⟨⟨ca111,con111⟩,⟨ca121,con121⟩,⟨ca122,con122⟩,trivial⟩
def b76:Code:=bodyOf Tryz.f76
theorem hb76:Tryz.f76.body=some b76:=by kernel_rfl
def sig76:List AT:=[AT.v (.sl YA9),AT.v (.int .i64)]
def tys76:List Ty:=[.sl (.int .i64),.int .i64]
def kds76:List RK:=[]
def oks76:List AT:=owns sig76
def E76_6 (v8:Int) (h0:List Int) (x0:List TyB4) (x1:Int):Env:=[(0,.a (.sl YA9 x0)),(1,.a (.val (.int .i64 x1))),(7,.a (.osl 0 Option.none)),(8,.a (.val (.int .i64 v8)))]
def L76_6 (v8:Int) (h0:List Int) (x0:List TyB4) (x1:Int):Heap:=[Option.some (Arr.mk (.int .i64) h0 false Option.none Option.none)]
mutual
def R76:Nat→List TyB4→Int→List Dyn→Prop
 | 0,_,_,_=>False
 | n+1,x0,x1,ds=>(if (g121_0 x0 (g111_0 x1) != 0)=true then (ds=[Dyn.mk (.sl (.int .i64)) [],Dyn.mk (.int .i64) (g121_0 x0 (g111_0 x1))]) else (R76_6 n (1) ([]) (x0) (x1) ds))
def R76_6:Nat→Int→List Int→List TyB4→Int→List Dyn→Prop
 | 0,_,_,_,_,_=>False
 | n+1,v8,h0,x0,x1,ds=>(if (decide (v8<(x0.length:Int)))=true then ((0≤v8)∧(v8<(x0.length:Int))∧((InR .i64 (v8 - 1))∧((0≤v8 - 1)∧(v8 - 1<(x0.length:Int))∧((P122 (List.getD x0 (Int.toNat (v8 - 1)) (0,0,())))∧((InR .i64 ((List.getD x0 (Int.toNat v8) (0,0,())).1 - g122_0 (List.getD x0 (Int.toNat (v8 - 1)) (0,0,()))))∧((InR .i64 ((List.getD x0 (Int.toNat v8) (0,0,())).1 - g122_0 (List.getD x0 (Int.toNat (v8 - 1)) (0,0,())) - x1))∧(((List.length h0+1)*8≤140737488355328)∧((InR .i64 (v8+1))∧(R76_6 n (v8+1) (h0++[(List.getD x0 (Int.toNat v8) (0,0,())).1 - g122_0 (List.getD x0 (Int.toNat (v8 - 1)) (0,0,())) - x1]) (x0) (x1) ds))))))))) else (ds=[Dyn.mk (.sl (.int .i64)) h0,Dyn.mk (.int .i64) 0]))
end
theorem snd76:∀ n,(∀ (x0:List TyB4) (x1:Int) ds,R76 n x0 x1 ds→∀ K q,AtV Tryz.prog 76 (PostR kds76 oks76 ds [] [] q K) 40 K q [] [.code b76] (entE 0 0 sig76 (x0,x1,())) (entL sig76 (x0,x1,())))∧(∀ (v8:Int) (h0:List Int) (x0:List TyB4) (x1:Int) ds,R76_6 n v8 h0 x0 x1 ds→∀ K q,AtV Tryz.prog 76 (PostR kds76 oks76 ds [] [] q K) 40 K q [] (cutAt b76 6) (E76_6 v8 h0 x0 x1) (L76_6 v8 h0 x0 x1)):=by
 intro n
 induction n with
 | zero=>exact ⟨fun _ _ _ h=>by simp only [R76] at h,fun _ _ _ _ _ h=>by simp only [R76_6] at h⟩
 | succ n ih =>
 obtain ⟨ih,ih6⟩:=ih
 refine ⟨?_,?_⟩
 ·intro x0 x1 ds h K q
  rw [R76] at h
  by_cases b0:(g121_0 x0 (g111_0 x1) != 0)=true
  ·rw [if_pos b0] at h
   subst h
   exact AtV.ret Tryz.func76 tabOk ext76Ok mixed false [] tys76 [true] (a1 trivial (a1 trivial (a1 b0 trivial))) (by kernel_rfl)
  ·rw [if_neg b0] at h
   replace b0:=bf_ b0
   exact AtV.go tabOk ext76Ok mixed false [] [(7,.int .i64)] [0,1,7,8] [0] [false] (a1 trivial (a1 trivial (a1 b0 trivial))) (ih6 _ _ _ _ _ h K q) (by kernel_rfl)
 ·intro v8 h0 x0 x1 ds h K q
  rw [R76_6] at h
  by_cases b0:(decide (v8<(x0.length:Int)))=true
  ·rw [if_pos b0] at h
   obtain ⟨s0,s1,h⟩:=h
   obtain ⟨s2,h⟩:=h
   obtain ⟨s3,s4,h⟩:=h
   obtain ⟨s5,h⟩:=h
   obtain ⟨s6,h⟩:=h
   obtain ⟨s7,h⟩:=h
   obtain ⟨s8,h⟩:=h
   obtain ⟨s9,h⟩:=h
   exact AtV.go tabOk ext76Ok mixed false [] [(7,.int .i64)] [0,1,7,8] [0] [true] (a1 b0 (a1 s0 (a1 s1 (a1 s2 (a1 s3 (a1 s4 (a1 s5 (a1 s6 (a1 s7 (a1 s8 (a1 s9 trivial))))))))))) (ih6 _ _ _ _ _ h K q) (by kernel_rfl)
  ·rw [if_neg b0] at h
   replace b0:=bf_ b0
   subst h
   exact AtV.ret Tryz.func76 tabOk ext76Ok mixed false [] tys76 [false] (a1 b0 trivial) (by kernel_rfl)
def sk76 (x1:Int):List TyB4→List Int
 | x :: y :: r=>(y.1 - g122_0 x - x1) :: sk76 x1 (y :: r)
 | _=>[]
def g76_0 (x0:List TyB4) (x1:Int):List Int:=if (g121_0 x0 (g111_0 x1) != 0)=true then [] else sk76 x1 x0
def g76_1 (x0:List TyB4) (x1:Int):Int:=if (g121_0 x0 (g111_0 x1) != 0)=true then g121_0 x0 (g111_0 x1) else 0
def ok76 (x:Int×Int×Unit):Prop:=P122 x∧0≤x.1∧x.1≤100000∧0≤g122_0 x∧g122_0 x≤1000000
def P76 (x0:List TyB4) (x1:Int):Prop:=(g121_0 x0 (g111_0 x1) != 0)=true∨x0.length≤1048576∧0≤x1∧x1≤100000∧∀ x∈x0,ok76 x
theorem run76 (x0:List TyB4) (x1:Int) (hl:x0.length≤1048576) (h0:0≤x1) (h1:x1≤100000) (hp:∀ x∈x0,ok76 x):∀ (k i:Nat) (h:List Int),i+k=x0.length→1≤i→h.length≤i →
  R76_6 (k+1) (i:Int) h x0 x1 [⟨.sl (.int .i64),h++sk76 x1 (x0.drop (i - 1))⟩,⟨.int .i64,(0:Int)⟩]:=by
 intro k
 induction k with
 | zero =>
  intro i h hi h2 hh
  have e:=drop_get x0 (i - 1) ((0:Int),(0:Int),()) (by omega)
  rw [show i - 1+1=i by omega,drop_end x0 i (by omega)] at e
  rw [R76_6,if_neg (by simp only [decide_eq_true_eq];omega),e]
  simp [sk76]
 | succ k ih =>
  intro i h hi h2 hh
  have hlt:i<x0.length:=by omega
  have hm:x0.length≤maxLen:=Nat.le_trans hl (by decide)
  have e:=drop_get x0 (i - 1) ((0:Int),(0:Int),()) (by omega)
  rw [show i - 1+1=i by omega] at e
  have e2:=drop_get x0 i ((0:Int),(0:Int),()) hlt
  have et:((i:Int) - 1).toNat=i - 1:=by omega
  obtain ⟨p1,a1,a2,a3,a4⟩:=hp _ (mem_getD x0 (i - 1) ((0:Int),(0:Int),()) (by omega))
  obtain ⟨q1,b1,b2,b3,b4⟩:=hp _ (mem_getD x0 i ((0:Int),(0:Int),()) hlt)
  have h3:=ih (i+1) (h++[(x0.getD i ((0:Int),(0:Int),())).1 - g122_0 (x0.getD (i - 1) ((0:Int),(0:Int),())) - x1]) (by omega) (by omega) (by simp;omega)
  rw [R76_6,if_pos (by simp only [decide_eq_true_eq];omega),e,e2]
  simp only [Int.toNat_natCast,et,sk76]
  rw [show i+1 - 1=i by omega,e2,List.append_assoc] at h3
  exact ⟨by omega,by omega,by rw [i64_iff];omega,by omega,by omega,p1,by rw [i64_iff];omega,by rw [i64_iff];omega,by omega,inR_up hm hlt,h3⟩
theorem top76 (x0:List TyB4) (x1:Int) (h:P76 x0 x1):∃ n,R76 n x0 x1 [⟨.sl (.int .i64),g76_0 x0 x1⟩,⟨.int .i64,g76_1 x0 x1⟩]:=by
 unfold g76_0 g76_1
 by_cases hc:(g121_0 x0 (g111_0 x1) != 0)=true
 ·exact ⟨1,by rw [R76,if_pos hc,if_pos hc,if_pos hc]⟩
 ·rw [if_neg hc,if_neg hc]
  obtain ⟨h1,h2,h3,h4⟩:=h.resolve_left hc
  cases x0 with
  | nil=>exact ⟨2,by rw [R76,if_neg hc,R76_6,if_neg (by simp)];rfl⟩
  | cons x r =>
   have:=run76 (x :: r) x1 h1 h2 h3 h4 r.length 1 [] (by simp;omega) (by omega) (by simp)
   simp only [List.nil_append,Nat.sub_self,List.drop_zero] at this
   exact ⟨r.length+1+1,by rw [R76,if_neg hc];exact this⟩
def S76:Am.Spec:={ sig:=sig76,pre:=fun ⟨x0,x1,_⟩=>P76 x0 x1,res:=fun ⟨x0,x1,_⟩=>[⟨.sl (.int .i64),g76_0 x0 x1⟩,⟨.int .i64,g76_1 x0 x1⟩] }
theorem con76:Contract Tryz.prog 76 S76:=contract_of Tryz.func76 hb76 (bl_ (by kernel_rfl)) (fun ⟨x0,x1,_⟩ h hwf K q =>
 let ⟨_,hn⟩:=top76 x0 x1 h
 (snd76 _).1 x0 x1 _ hn K q)
end
noncomputable section
def ext30:Ext:=[(74,S74),(73,S73),(71,S71),(75,S75),(76,S76)]
theorem ext30Ok:ExtOk Tryz.prog ext30:=⟨⟨ca74,con74⟩,⟨ca73,con73⟩,⟨ca71,con71⟩,⟨ca75,con75⟩,⟨ca76,con76⟩,trivial⟩
def b30:Code:=bodyOf Tryz.f30
theorem hb30:Tryz.f30.body=some b30:=by kernel_rfl
def sig30:List AT:=[AT.v YA0]
def tys30:List Ty:=[.sl YA8]
def kds30:List RK:=[]
def oks30:List AT:=owns sig30
def E30_3 (v15:Int) (h1:List TyB3) (x0:TyA0):Env:=[(1,.a (.optr 0 0 [])),(3,.a (.osl 1 Option.none)),(13,.a (.sl YA5 x0.2.2.2.2.1)),(14,.a (.val (.int .i64 (x0.2.2.2.2.1.length:Int)))),(15,.a (.val (.int .i64 v15)))]
def L30_3 (v15:Int) (h1:List TyB3) (x0:TyA0):Heap:=[Option.some (Arr.mk YA0 [x0] true Option.none (Option.some false)),Option.some (Arr.mk YA8 h1 false Option.none Option.none)]
def E30_9 (v39:Int) (h1:List TyB3) (x0:TyA0):Env:=[(1,.a (.optr 0 0 [])),(3,.a (.osl 1 Option.none)),(37,.a (.sl YA3 x0.2.2.2.2.2.2.1)),(38,.a (.val (.int .i64 (x0.2.2.2.2.2.2.1.length:Int)))),(39,.a (.val (.int .i64 v39)))]
def L30_9 (v39:Int) (h1:List TyB3) (x0:TyA0):Heap:=[Option.some (Arr.mk YA0 [x0] true Option.none (Option.some false)),Option.some (Arr.mk YA8 h1 false Option.none Option.none)]
def E30_16 (v66:Int) (h0:List TyB3) (x0:TyA0):Env:=[(3,.a (.osl 0 Option.none)),(64,.a (.osl 1 Option.none)),(65,.a (.val (.int .i64 (↑(List.length (g76_0 x0.2.2.2.2.2.2.2.2.2.1 x0.2.2.2.2.2.2.2.2.2.2.1)):Int)))),(66,.a (.val (.int .i64 v66)))]
def L30_16 (v66:Int) (h0:List TyB3) (x0:TyA0):Heap:=[Option.some (Arr.mk YA8 h0 false Option.none Option.none),Option.some (Arr.mk (.int .i64) (g76_0 x0.2.2.2.2.2.2.2.2.2.1 x0.2.2.2.2.2.2.2.2.2.2.1) false Option.none Option.none)]
mutual
def R30:Nat→TyA0→List Dyn→Prop
 | 0,_,_=>False
 | n+1,x0,ds=>(R30_3 n (0) ([]) (x0) ds)
def R30_3:Nat→Int→List TyB3→TyA0→List Dyn→Prop
 | 0,_,_,_,_=>False
 | n+1,v15,h1,x0,ds=>(if (decide (v15<(x0.2.2.2.2.1.length:Int)))=true then ((0≤v15)∧(v15<(x0.2.2.2.2.1.length:Int))∧((P74 (List.getD x0.2.2.2.2.1 (Int.toNat v15) (ByteArray.empty,0,0,0,())))∧(if (!g73_0 ((List.getD x0.2.2.2.2.1 (Int.toNat v15) (ByteArray.empty,0,0,0,())).2.1,(List.getD x0.2.2.2.2.1 (Int.toNat v15) (ByteArray.empty,0,0,0,())).2.2.1,75*(List.getD x0.2.2.2.2.1 (Int.toNat v15) (ByteArray.empty,0,0,0,())).2.1+15*(List.getD x0.2.2.2.2.1 (Int.toNat v15) (ByteArray.empty,0,0,0,())).2.2.1+(List.getD x0.2.2.2.2.1 (Int.toNat v15) (ByteArray.empty,0,0,0,())).2.2.2.1,()) x0.2.2.2.2.2.1)=true then ((P74 (List.getD x0.2.2.2.2.1 (Int.toNat v15) (ByteArray.empty,0,0,0,())))∧((P71 (75*(List.getD x0.2.2.2.2.1 (Int.toNat v15) (ByteArray.empty,0,0,0,())).2.1+15*(List.getD x0.2.2.2.2.1 (Int.toNat v15) (ByteArray.empty,0,0,0,())).2.2.1+(List.getD x0.2.2.2.2.1 (Int.toNat v15) (ByteArray.empty,0,0,0,())).2.2.2.1))∧(((List.length h1+1)*40≤140737488355328)∧((InR .i64 (v15+1))∧(R30_3 n (v15+1) (h1++[(3,(List.getD x0.2.2.2.2.1 (Int.toNat v15) (ByteArray.empty,0,0,0,())).1,g71_0 (75*(List.getD x0.2.2.2.2.1 (Int.toNat v15) (ByteArray.empty,0,0,0,())).2.1+15*(List.getD x0.2.2.2.2.1 (Int.toNat v15) (ByteArray.empty,0,0,0,())).2.2.1+(List.getD x0.2.2.2.2.1 (Int.toNat v15) (ByteArray.empty,0,0,0,())).2.2.2.1),())]) (x0) ds))))) else ((InR .i64 (v15+1))∧(R30_3 n (v15+1) (h1) (x0) ds))))) else (R30_9 n (0) (h1) (x0) ds))
def R30_9:Nat→Int→List TyB3→TyA0→List Dyn→Prop
 | 0,_,_,_,_=>False
 | n+1,v39,h1,x0,ds=>(if (decide (v39<(x0.2.2.2.2.2.2.1.length:Int)))=true then ((0≤v39)∧(v39<(x0.2.2.2.2.2.2.1.length:Int))∧((P75 (List.getD x0.2.2.2.2.2.2.1 (Int.toNat v39) (ByteArray.empty,0,0,0,0,())) x0.2.2.2.2.2.2.2.1 x0.2.2.2.2.2.2.2.2.1)∧(if (g75_0 (List.getD x0.2.2.2.2.2.2.1 (Int.toNat v39) (ByteArray.empty,0,0,0,0,())) x0.2.2.2.2.2.2.2.1 x0.2.2.2.2.2.2.2.2.1)=true then (((List.length h1+1)*40≤140737488355328)∧((InR .i64 (v39+1))∧(R30_9 n (v39+1) (h1++[(4,(List.getD x0.2.2.2.2.2.2.1 (Int.toNat v39) (ByteArray.empty,0,0,0,0,())).1,ByteArray.mk #[111,118,101,114,100,117,101],())]) (x0) ds))) else ((InR .i64 (v39+1))∧(R30_9 n (v39+1) (h1) (x0) ds))))) else ((P76 x0.2.2.2.2.2.2.2.2.2.1 x0.2.2.2.2.2.2.2.2.2.2.1)∧(R30_16 n (0) (h1) (x0) ds)))
def R30_16:Nat→Int→List TyB3→TyA0→List Dyn→Prop
 | 0,_,_,_,_=>False
 | n+1,v66,h0,x0,ds=>(if (decide (v66<(↑(List.length (g76_0 x0.2.2.2.2.2.2.2.2.2.1 x0.2.2.2.2.2.2.2.2.2.2.1)):Int)))=true then ((0≤v66)∧(v66<(↑(List.length (g76_0 x0.2.2.2.2.2.2.2.2.2.1 x0.2.2.2.2.2.2.2.2.2.2.1)):Int))∧(if (decide (List.getD (g76_0 x0.2.2.2.2.2.2.2.2.2.1 x0.2.2.2.2.2.2.2.2.2.2.1) (Int.toNat v66) 0<0))=true then ((InR .i64 (v66+1))∧((P71 (v66+1))∧((P71 (List.getD (g76_0 x0.2.2.2.2.2.2.2.2.2.1 x0.2.2.2.2.2.2.2.2.2.2.1) (Int.toNat v66) 0))∧(((List.length h0+1)*40≤140737488355328)∧((InR .i64 (v66+1))∧(R30_16 n (v66+1) (h0++[(5,g71_0 (v66+1),g71_0 (List.getD (g76_0 x0.2.2.2.2.2.2.2.2.2.1 x0.2.2.2.2.2.2.2.2.2.2.1) (Int.toNat v66) 0),())]) (x0) ds)))))) else ((InR .i64 (v66+1))∧(R30_16 n (v66+1) (h0) (x0) ds)))) else (ds=[Dyn.mk (.sl YA8) h0]))
end
theorem snd30:∀ n,(∀ (x0:TyA0) ds,R30 n x0 ds→∀ K q,AtV Tryz.prog 30 (PostR kds30 oks30 ds [] [] q K) 84 K q [] [.code b30] (entE 0 0 sig30 (x0,())) (entL sig30 (x0,())))∧(∀ (v15:Int) (h1:List TyB3) (x0:TyA0) ds,R30_3 n v15 h1 x0 ds→∀ K q,AtV Tryz.prog 30 (PostR kds30 oks30 ds [] [] q K) 84 K q [] (cutAt b30 3) (E30_3 v15 h1 x0) (L30_3 v15 h1 x0))∧(∀ (v39:Int) (h1:List TyB3) (x0:TyA0) ds,R30_9 n v39 h1 x0 ds→∀ K q,AtV Tryz.prog 30 (PostR kds30 oks30 ds [] [] q K) 84 K q [] (cutAt b30 9) (E30_9 v39 h1 x0) (L30_9 v39 h1 x0))∧(∀ (v66:Int) (h0:List TyB3) (x0:TyA0) ds,R30_16 n v66 h0 x0 ds→∀ K q,AtV Tryz.prog 30 (PostR kds30 oks30 ds [] [] q K) 84 K q [] (cutAt b30 16) (E30_16 v66 h0 x0) (L30_16 v66 h0 x0)):=by
 intro n
 induction n with
 | zero=>exact ⟨fun _ _ h=>by simp only [R30] at h,fun _ _ _ _ h=>by simp only [R30_3] at h,fun _ _ _ _ h=>by simp only [R30_9] at h,fun _ _ _ _ h=>by simp only [R30_16] at h⟩
 | succ n ih =>
 obtain ⟨ih,ih3,ih9,ih16⟩:=ih
 refine ⟨?_,?_,?_,?_⟩
 ·intro x0 ds h K q
  rw [R30] at h
  exact AtV.go tabOk ext30Ok mixed false [] [(3,.cons (.int .i64) YA10)] [1,3,13,14,15] [0,1] [] trivial (ih3 _ _ _ _ h K q) (by kernel_rfl)
 ·intro v15 h1 x0 ds h K q
  rw [R30_3] at h
  by_cases b0:(decide (v15<(x0.2.2.2.2.1.length:Int)))=true
  ·rw [if_pos b0] at h
   obtain ⟨s0,s1,h⟩:=h
   obtain ⟨s2,h⟩:=h
   by_cases b1:(!g73_0 ((List.getD x0.2.2.2.2.1 (Int.toNat v15) (ByteArray.empty,0,0,0,())).2.1,(List.getD x0.2.2.2.2.1 (Int.toNat v15) (ByteArray.empty,0,0,0,())).2.2.1,75*(List.getD x0.2.2.2.2.1 (Int.toNat v15) (ByteArray.empty,0,0,0,())).2.1+15*(List.getD x0.2.2.2.2.1 (Int.toNat v15) (ByteArray.empty,0,0,0,())).2.2.1+(List.getD x0.2.2.2.2.1 (Int.toNat v15) (ByteArray.empty,0,0,0,())).2.2.2.1,()) x0.2.2.2.2.2.1)=true
   ·rw [if_pos b1] at h
    obtain ⟨s3,h⟩:=h
    obtain ⟨s4,h⟩:=h
    obtain ⟨s5,h⟩:=h
    obtain ⟨s6,h⟩:=h
    exact AtV.go tabOk ext30Ok mixed false [] [(3,.cons (.int .i64) YA10)] [1,3,13,14,15] [0,1] [true,true] (a1 b0 (a1 s0 (a1 s1 (a1 s2 (a1 trivial (a1 b1 (a1 s3 (a1 s4 (a1 s5 (a1 s6 trivial)))))))))) (ih3 _ _ _ _ h K q) (by kernel_rfl)
   ·rw [if_neg b1] at h
    replace b1:=bf_ b1
    obtain ⟨s3,h⟩:=h
    exact AtV.go tabOk ext30Ok mixed false [] [(3,.cons (.int .i64) YA10)] [1,3,13,14,15] [0,1] [true,false] (a1 b0 (a1 s0 (a1 s1 (a1 s2 (a1 trivial (a1 b1 (a1 s3 trivial))))))) (ih3 _ _ _ _ h K q) (by kernel_rfl)
  ·rw [if_neg b0] at h
   replace b0:=bf_ b0
   exact AtV.go tabOk ext30Ok mixed false [] [(3,.cons (.int .i64) YA10)] [1,3,37,38,39] [0,1] [false] (a1 b0 trivial) (ih9 _ _ _ _ h K q) (by kernel_rfl)
 ·intro v39 h1 x0 ds h K q
  rw [R30_9] at h
  by_cases b0:(decide (v39<(x0.2.2.2.2.2.2.1.length:Int)))=true
  ·rw [if_pos b0] at h
   obtain ⟨s0,s1,h⟩:=h
   obtain ⟨s2,h⟩:=h
   by_cases b1:(g75_0 (List.getD x0.2.2.2.2.2.2.1 (Int.toNat v39) (ByteArray.empty,0,0,0,0,())) x0.2.2.2.2.2.2.2.1 x0.2.2.2.2.2.2.2.2.1)=true
   ·rw [if_pos b1] at h
    obtain ⟨s3,h⟩:=h
    obtain ⟨s4,h⟩:=h
    exact AtV.go tabOk ext30Ok mixed false [] [(3,.cons (.int .i64) YA10)] [1,3,37,38,39] [0,1] [true,true] (a1 b0 (a1 s0 (a1 s1 (a1 s2 (a1 b1 (a1 s3 (a1 s4 trivial))))))) (ih9 _ _ _ _ h K q) (by kernel_rfl)
   ·rw [if_neg b1] at h
    replace b1:=bf_ b1
    obtain ⟨s3,h⟩:=h
    exact AtV.go tabOk ext30Ok mixed false [] [(3,.cons (.int .i64) YA10)] [1,3,37,38,39] [0,1] [true,false] (a1 b0 (a1 s0 (a1 s1 (a1 s2 (a1 b1 (a1 s3 trivial)))))) (ih9 _ _ _ _ h K q) (by kernel_rfl)
  ·rw [if_neg b0] at h
   replace b0:=bf_ b0
   obtain ⟨s0,h⟩:=h
   exact AtV.go tabOk ext30Ok mixed false [] [(3,.cons (.int .i64) YA10)] [3,64,65,66] [1,2] [false] (a1 b0 (a1 s0 trivial)) (ih16 _ _ _ _ h K q) (by kernel_rfl)
 ·intro v66 h0 x0 ds h K q
  rw [R30_16] at h
  by_cases b0:(decide (v66<(↑(List.length (g76_0 x0.2.2.2.2.2.2.2.2.2.1 x0.2.2.2.2.2.2.2.2.2.2.1)):Int)))=true
  ·rw [if_pos b0] at h
   obtain ⟨s0,s1,h⟩:=h
   by_cases b1:(decide (List.getD (g76_0 x0.2.2.2.2.2.2.2.2.2.1 x0.2.2.2.2.2.2.2.2.2.2.1) (Int.toNat v66) 0<0))=true
   ·rw [if_pos b1] at h
    obtain ⟨s2,h⟩:=h
    obtain ⟨s3,h⟩:=h
    obtain ⟨s4,h⟩:=h
    obtain ⟨s5,h⟩:=h
    obtain ⟨s6,h⟩:=h
    exact AtV.go tabOk ext30Ok mixed false [] [(3,.cons (.int .i64) YA10)] [3,64,65,66] [0,1] [true,true] (a1 b0 (a1 s0 (a1 s1 (a1 b1 (a1 s2 (a1 s3 (a1 s4 (a1 s5 (a1 s6 trivial))))))))) (ih16 _ _ _ _ h K q) (by kernel_rfl)
   ·rw [if_neg b1] at h
    replace b1:=bf_ b1
    obtain ⟨s2,h⟩:=h
    exact AtV.go tabOk ext30Ok mixed false [] [(3,.cons (.int .i64) YA10)] [3,64,65,66] [0,1] [true,false] (a1 b0 (a1 s0 (a1 s1 (a1 b1 (a1 s2 trivial))))) (ih16 _ _ _ _ h K q) (by kernel_rfl)
  ·rw [if_neg b0] at h
   replace b0:=bf_ b0
   subst h
   exact AtV.ret Tryz.func30 tabOk ext30Ok mixed false [] tys30 [false] (a1 b0 trivial) (by kernel_rfl)
def fG30 (r:Int×Int×Int×Unit) (_:Nat) (x:ByteArray×Int×Int×Int×Unit):List TyB3 :=
 if (!g73_0 (x.2.1,x.2.2.1,75*x.2.1+15*x.2.2.1+x.2.2.2.1,()) r)=true then [(3,x.1,g71_0 (75*x.2.1+15*x.2.2.1+x.2.2.2.1),())] else []
def fC30 (d r:Int) (_:Nat) (x:TyB0):List TyB3:=if g75_0 x d r=true then [(4,x.1,ByteArray.mk #[111,118,101,114,100,117,101],())] else []
def fS30 (i:Nat) (n:Int):List TyB3:=if decide (n<0)=true then [(5,g71_0 ((i:Int)+1),g71_0 n,())] else []
def g30_0 (x0:(TyA0)):List TyB3 :=
 bl (fG30 x0.2.2.2.2.2.1) 0 x0.2.2.2.2.1++bl (fC30 x0.2.2.2.2.2.2.2.1 x0.2.2.2.2.2.2.2.2.1) 0 x0.2.2.2.2.2.2.1++bl fS30 0 (g76_0 x0.2.2.2.2.2.2.2.2.2.1 x0.2.2.2.2.2.2.2.2.2.2.1)
def P30 (x0:(TyA0)):Prop:=x0.2.2.2.2.1.length≤1048576∧x0.2.2.2.2.2.2.1.length≤1048576∧(g76_0 x0.2.2.2.2.2.2.2.2.2.1 x0.2.2.2.2.2.2.2.2.2.2.1).length≤1048576 ∧
 (∀ x∈x0.2.2.2.2.1,P74 x)∧(∀ x∈x0.2.2.2.2.2.2.1,P75 x x0.2.2.2.2.2.2.2.1 x0.2.2.2.2.2.2.2.2.1)∧P76 x0.2.2.2.2.2.2.2.2.2.1 x0.2.2.2.2.2.2.2.2.2.2.1
theorem dec30 (n:Int):P71 n:=⟨rfl,trivial⟩
theorem top30 (x0:(TyA0)) (h:P30 x0):∃ n,R30 n x0 [⟨.sl (.cons (.int .i64) (.cons .str (.cons .str .unit))),g30_0 x0⟩]:=by
 obtain ⟨h1,h2,h3,h4,h5,h6⟩:=h
 have hm:1048576≤maxLen:=by decide
 have hmx:maxLen≤9223372036854775807:=by decide
 have l1:∀ i x,(fG30 x0.2.2.2.2.2.1 i x).length≤1:=fun i x=>by unfold fG30;split <;> simp
 have l2:∀ i x,(fC30 x0.2.2.2.2.2.2.2.1 x0.2.2.2.2.2.2.2.2.1 i x).length≤1:=fun i x=>by unfold fC30;split <;> simp
 have l3:∀ i x,(fS30 i x).length≤1:=fun i x=>by unfold fS30;split <;> simp
 have b1:=bl_len _ l1 x0.2.2.2.2.1 0
 have b2:=bl_len _ l2 x0.2.2.2.2.2.2.1 0
 have k3:=loop_build0 (g76_0 x0.2.2.2.2.2.2.2.2.2.1 x0.2.2.2.2.2.2.2.2.2.2.1) 0 fS30 l3 2097152 (fun n i h=>R30_16 n i h x0 [⟨.sl (.cons (.int .i64) (.cons .str (.cons .str .unit))),g30_0 x0⟩]) (fun n i h hi hh hr=>by
  rw [R30_16,if_pos (by simp only [decide_eq_true_eq];omega)]
  simp only [Int.toNat_natCast]
  refine ⟨by omega,by omega,?_⟩
  unfold fS30 at hr
  by_cases hc:decide ((g76_0 x0.2.2.2.2.2.2.2.2.2.1 x0.2.2.2.2.2.2.2.2.2.2.1).getD i 0<0)=true
  ·rw [if_pos hc] at hr ⊢
   exact ⟨by rw [i64_iff];omega,dec30 _,dec30 _,by omega,by rw [i64_iff];omega,hr⟩
  ·rw [if_neg hc] at hr ⊢
   rw [List.append_nil] at hr
   exact ⟨by rw [i64_iff];omega,hr⟩) 1 (bl (fG30 x0.2.2.2.2.2.1) 0 x0.2.2.2.2.1++bl (fC30 x0.2.2.2.2.2.2.2.1 x0.2.2.2.2.2.2.2.2.1) 0 x0.2.2.2.2.2.2.1) (by simp only [List.length_append];omega) (by
  rw [R30_16,if_neg (by simp)]
  rfl)
 have k2:=loop_build0 x0.2.2.2.2.2.2.1 (ByteArray.empty,(0:Int),(0:Int),(0:Int),(0:Int),()) (fC30 x0.2.2.2.2.2.2.2.1 x0.2.2.2.2.2.2.2.2.1) l2 1048576 (fun n i h=>R30_9 n i h x0 [⟨.sl (.cons (.int .i64) (.cons .str (.cons .str .unit))),g30_0 x0⟩]) (fun n i h hi hh hr=>by
  rw [R30_9,if_pos (by simp only [decide_eq_true_eq];omega)]
  simp only [Int.toNat_natCast]
  refine ⟨by omega,by omega,h5 _ (mem_getD _ i (ByteArray.empty,(0:Int),(0:Int),(0:Int),(0:Int),()) hi),?_⟩
  unfold fC30 at hr
  by_cases hc:g75_0 (x0.2.2.2.2.2.2.1.getD i (ByteArray.empty,(0:Int),(0:Int),(0:Int),(0:Int),())) x0.2.2.2.2.2.2.2.1 x0.2.2.2.2.2.2.2.2.1=true
  ·rw [if_pos hc] at hr ⊢
   exact ⟨by omega,by rw [i64_iff];omega,hr⟩
  ·rw [if_neg hc] at hr ⊢
   rw [List.append_nil] at hr
   exact ⟨by rw [i64_iff];omega,hr⟩) (1+(g76_0 x0.2.2.2.2.2.2.2.2.2.1 x0.2.2.2.2.2.2.2.2.2.2.1).length+1) (bl (fG30 x0.2.2.2.2.2.1) 0 x0.2.2.2.2.1) (by omega) (by
  rw [R30_9,if_neg (by simp)]
  exact ⟨h6,k3⟩)
 have k1:=loop_build0 x0.2.2.2.2.1 (ByteArray.empty,(0:Int),(0:Int),(0:Int),()) (fG30 x0.2.2.2.2.2.1) l1 0 (fun n i h=>R30_3 n i h x0 [⟨.sl (.cons (.int .i64) (.cons .str (.cons .str .unit))),g30_0 x0⟩]) (fun n i h hi hh hr=>by
  rw [R30_3,if_pos (by simp only [decide_eq_true_eq];omega)]
  simp only [Int.toNat_natCast]
  have p:=h4 _ (mem_getD _ i (ByteArray.empty,(0:Int),(0:Int),(0:Int),()) hi)
  refine ⟨by omega,by omega,p,?_⟩
  unfold fG30 at hr
  generalize hy:x0.2.2.2.2.1.getD i (ByteArray.empty,(0:Int),(0:Int),(0:Int),())=y at p hr ⊢
  by_cases hc:(!g73_0 (y.2.1,y.2.2.1,75*y.2.1+15*y.2.2.1+y.2.2.2.1,()) x0.2.2.2.2.2.1)=true
  ·rw [if_pos hc] at hr ⊢
   exact ⟨p,dec30 _,by omega,by rw [i64_iff];omega,hr⟩
  ·rw [if_neg hc] at hr ⊢
   rw [List.append_nil] at hr
   exact ⟨by rw [i64_iff];omega,hr⟩) (1+(g76_0 x0.2.2.2.2.2.2.2.2.2.1 x0.2.2.2.2.2.2.2.2.2.2.1).length+1+x0.2.2.2.2.2.2.1.length+1) [] (by simp) (by
  rw [R30_3,if_neg (by simp)]
  exact k2)
 exact ⟨1+(g76_0 x0.2.2.2.2.2.2.2.2.2.1 x0.2.2.2.2.2.2.2.2.2.2.1).length+1+x0.2.2.2.2.2.2.1.length+1+x0.2.2.2.2.1.length+1,by rw [R30];exact k1⟩
def S30:Am.Spec:={ sig:=sig30,pre:=fun ⟨x0,_⟩=>P30 x0,res:=fun ⟨x0,_⟩=>[⟨.sl (.cons (.int .i64) (.cons .str (.cons .str .unit))),g30_0 x0⟩] }
theorem con30:Contract Tryz.prog 30 S30:=contract_of Tryz.func30 hb30 (bl_ (by kernel_rfl)) (fun ⟨x0,_⟩ h hwf K q =>
 let ⟨_,hn⟩:=top30 x0 h
 (snd30 _).1 x0 _ hn K q)
end
set_option maxHeartbeats 2000000 in
theorem nil150 (w:World):Calls Tryz.prog 150 #[.slice none 0 0] w fun e w'=>e = .returned (.slice none 0 0)∧w'=w:=by
 have mixed:=mixed
 have q22:∀ (w:World) (a:Option Addr) (n c n' c':Nat),(binOp .eql 50 (.slice a n c) (.slice none n' c')).run Tryz.prog w = .ok (.bool a.isNone) w:=fun w a n c n' c'=>Lib.run_eql_slice_nil w _ _ a n c n' c' Tryz.underlying50
 go_enter Tryz.func150,Tryz.ntmps150
 go_wp2
 go_ret
 exact ⟨rfl,rfl⟩
set_option maxHeartbeats 4000000 in
theorem some150 (w:World) (a:Addr) (n c:Nat) (news:List Value) (hl:news.length=n*(Ty.size YA6)) (hn:n≤1048576) (hc:∀ (j:Nat) (u:Value),news[j]? = some u→w.cell? (a.add j)=some u) (h1:∀ u∈news,u.oneCell'=true) :
  Calls Tryz.prog 150 #[.slice (some a) n c] w fun r w'=>∃ v',r = .returned v'∧w'.ownsRow w.heap.size 126 (Ty.size YA6) v' n news∧Go.RowKit.Below w.heap.size w w':=by
 have mixed:=mixed
 have q22:∀ (w:World) (a:Option Addr) (n c n' c':Nat),(binOp .eql 50 (.slice a n c) (.slice none n' c')).run Tryz.prog w = .ok (.bool a.isNone) w:=fun w a n c n' c'=>Lib.run_eql_slice_nil w _ _ a n c n' c' Tryz.underlying50
 have hinfo:TIOk Tryz.prog 50 (tabGet tab 50):=tabOk 50
 obtain ⟨_,_,⟨_,⟨i0,hi0,hz1,z,hz0,hzs,_⟩⟩,hby⟩:=hinfo
 rw [hi0] at hby
 simp only [Option.map_some,Option.some.injEq] at hby
 have hzs':z.cells.size=Ty.size YA6:=by rw [← Array.length_toList,hzs];rfl
 have A:Aside (∀ (j:Nat) (u:Value),news[j]? = some u→w.cell? (a.add j)=some u):=hc
 clear hc
 go_enter Tryz.func150,Tryz.ntmps150
 go_wp2_with (at_builtin;refine wpList_append_own _ rfl _ _ 50 rfl w.heap.size 126 i0 z (Ty.size YA6) i0.bytes Tryz.underlying50 hi0 hz0 hz1 rfl hzs' (by decide) _ _ _ rfl (World.ownsRow_made w #[] 0 (Nat.le_refl _) (Nat.zero_le _) (by simp)) a n c news rfl ?qc1 ?qc2 ?qc3 ?qc4 ?qc5 ?qc6 ?_)
 case qc1=>exact hl
 case qc2=>intro j u hj;exact Lib.cell?_alloc_some _ (A.out j u hj)
 case qc3=>exact h1
 case qc4=>unfold maxLen;omega
 case qc5=>rw [hby];omega
 case qc6=>simp
 intro v' w1 hown hgrow hnil
 go_wp2
 go_ret
 exact ⟨v',rfl,by simpa using hown,((Go.RowKit.Below.refl _ w).alloc (Nat.le_refl _) _).grown hgrow (by simp) (by intro k hk;simp [Value.ownBlock] at hk;omega)⟩
def sig150:List AT:=[AT.v (Ty.sl YA6)]
def g150_0 (x0:List TyB2):List TyB2:=x0
def P150 (x0:List TyB2):Prop:=x0.length≤1048576
def S150:Am.Spec:={ sig:=sig150,pre:=fun ⟨x0,_⟩=>P150 x0,res:=fun ⟨x0,_⟩=>[⟨Ty.sl YA6,g150_0 x0⟩] }
theorem con150:Contract Tryz.prog 150 S150:=clone_contract (t:=YA6) (e:=126) rfl nil150 some150
noncomputable section
def ext177:Ext:=[(71,S71)]
theorem ext177Ok:ExtOk Tryz.prog ext177:=⟨⟨ca71,con71⟩,trivial⟩
def b177:Code:=bodyOf Tryz.f177
theorem hb177:Tryz.f177.body=some b177:=by kernel_rfl
def sig177:List AT:=[AT.v YA6]
def tys177:List Ty:=[.str]
def kds177:List RK:=[]
def oks177:List AT:=owns sig177
def P177 (x0:Int×Int×ByteArray×Int×Unit):Prop:=((P71 x0.1)∧((ByteArray.size (g71_0 x0.1)+1≤9223372036854775807)∧((P71 x0.2.1)∧((ByteArray.size (g71_0 x0.1++ByteArray.mk #[32])+ByteArray.size (g71_0 x0.2.1)≤9223372036854775807)∧((ByteArray.size (g71_0 x0.1++ByteArray.mk #[32]++g71_0 x0.2.1)+1≤9223372036854775807)∧((ByteArray.size (g71_0 x0.1++ByteArray.mk #[32]++g71_0 x0.2.1++ByteArray.mk #[32])+ByteArray.size x0.2.2.1≤9223372036854775807)∧True))))))
def g177_0 (x0:Int×Int×ByteArray×Int×Unit):ByteArray:=g71_0 x0.1++ByteArray.mk #[32]++g71_0 x0.2.1++ByteArray.mk #[32]++x0.2.2.1
theorem at177 (x0:Int×Int×ByteArray×Int×Unit) (h:P177 x0) (K:Ctx) (q:Nat→Value):AtV Tryz.prog 177 (PostR kds177 oks177 [⟨.str,g177_0 x0⟩] [] [] q K) 15 K q [] [.code b177] (entE 0 0 sig177 (x0,())) (entL sig177 (x0,())):=by
 unfold P177 at h
 unfold g177_0
 obtain ⟨s0,h⟩:=h
 obtain ⟨s1,h⟩:=h
 obtain ⟨s2,h⟩:=h
 obtain ⟨s3,h⟩:=h
 obtain ⟨s4,h⟩:=h
 obtain ⟨s5,h⟩:=h
 exact AtV.ret Tryz.func177 tabOk ext177Ok mixed false [] tys177 [] (a1 s0 (a1 s1 (a1 s2 (a1 s3 (a1 s4 (a1 s5 trivial)))))) (by kernel_rfl)
def S177:Am.Spec:={ sig:=sig177,pre:=fun ⟨x0,_⟩=>P177 x0,res:=fun ⟨x0,_⟩=>[⟨.str,g177_0 x0⟩],kds:=kds177 }
theorem con177:Contract Tryz.prog 177 S177:=contract_of Tryz.func177 hb177 (bl_ (by kernel_rfl)) (fun ⟨x0,_⟩ h _ K q=>at177 x0 h K q)
end
noncomputable section
def ext176:Ext:=[(134,S134)]
theorem ext176Ok:ExtOk Tryz.prog ext176:=⟨⟨ca134,con134⟩,trivial⟩
def b176:Code:=bodyOf Tryz.f176
theorem hb176:Tryz.f176.body=some b176:=by kernel_rfl
def sig176:List AT:=[AT.v (.str),AT.v (.int .i64)]
def tys176:List Ty:=[.int .i64]
def kds176:List RK:=[]
def oks176:List AT:=owns sig176
def E176_5 (v15:Int) (x1:Int) (x0:ByteArray):Env:=[(5,.a (.val (.int .i64 x1))),(13,.a (.osl 0 Option.none)),(14,.a (.val (.int .i64 (↑(List.length (bytesOf x0)):Int)))),(15,.a (.val (.int .i64 v15)))]
def L176_5 (v15:Int) (x1:Int) (x0:ByteArray):Heap:=[Option.some (Arr.mk (.int .u8) (bytesOf x0) false Option.none Option.none)]
def E176_9 (v5:Int) (v24:Int) (x0:ByteArray) (v15:Int):Env:=[(5,.a (.val (.int .i64 v5))),(13,.a (.osl 0 Option.none)),(14,.a (.val (.int .i64 (↑(List.length (bytesOf x0)):Int)))),(15,.a (.val (.int .i64 v15))),(24,.a (.val (.int .i64 v24)))]
def L176_9 (v5:Int) (v24:Int) (x0:ByteArray) (v15:Int):Heap:=[Option.some (Arr.mk (.int .u8) (bytesOf x0) false Option.none Option.none)]
mutual
def R176:Nat→ByteArray→Int→List Dyn→Prop
 | 0,_,_,_=>False
 | n+1,x0,x1,ds=>(if (!g134_0 x1 0 65535)=true then (ds=[Dyn.mk (.int .i64) 0]) else (R176_5 n (0) (x1) (x0) ds))
def R176_5:Nat→Int→Int→ByteArray→List Dyn→Prop
 | 0,_,_,_,_=>False
 | n+1,v15,x1,x0,ds=>(if (decide (v15<(↑(List.length (bytesOf x0)):Int)))=true then ((0≤v15)∧(v15<(↑(List.length (bytesOf x0)):Int))∧((InR .i64 (List.getD (bytesOf x0) (Int.toNat v15) 0))∧(R176_9 n (IntKind.wrap IntKind.i64 (↑(BitVec.toNat (BitVec.ofInt 64 x1 ^^^ BitVec.ofInt 64 (IntKind.wrap IntKind.i64 (List.getD (bytesOf x0) (Int.toNat v15) 0*256)))):Int)) (0) (x0) (v15) ds))) else (ds=[Dyn.mk (.int .i64) x1]))
def R176_9:Nat→Int→Int→ByteArray→Int→List Dyn→Prop
 | 0,_,_,_,_,_=>False
 | n+1,v5,v24,x0,v15,ds=>(if (decide (v24<8))=true then (if (decide (IntKind.wrap IntKind.i64 (v5*2)>65535))=true then ((InR .i64 (v24+1))∧(R176_9 n (IntKind.wrap IntKind.i64 (↑(BitVec.toNat (BitVec.ofInt 64 (IntKind.wrap IntKind.i64 (↑(BitVec.toNat (BitVec.ofInt 64 (IntKind.wrap IntKind.i64 (v5*2)) &&& BitVec.ofInt 64 65535)):Int)) ^^^ BitVec.ofInt 64 4129)):Int)) (v24+1) (x0) (v15) ds)) else ((InR .i64 (v24+1))∧(R176_9 n (IntKind.wrap IntKind.i64 (v5*2)) (v24+1) (x0) (v15) ds))) else ((InR .i64 (v15+1))∧(R176_5 n (v15+1) (v5) (x0) ds)))
end
theorem snd176:∀ n,(∀ (x0:ByteArray) (x1:Int) ds,R176 n x0 x1 ds→∀ K q,AtV Tryz.prog 176 (PostR kds176 oks176 ds [] [] q K) 36 K q [] [.code b176] (entE 0 0 sig176 (x0,x1,())) (entL sig176 (x0,x1,())))∧(∀ (v15:Int) (x1:Int) (x0:ByteArray) ds,R176_5 n v15 x1 x0 ds→∀ K q,AtV Tryz.prog 176 (PostR kds176 oks176 ds [] [] q K) 36 K q [] (cutAt b176 5) (E176_5 v15 x1 x0) (L176_5 v15 x1 x0))∧(∀ (v5:Int) (v24:Int) (x0:ByteArray) (v15:Int) ds,R176_9 n v5 v24 x0 v15 ds→∀ K q,AtV Tryz.prog 176 (PostR kds176 oks176 ds [] [] q K) 36 K q [] (cutAt b176 9) (E176_9 v5 v24 x0 v15) (L176_9 v5 v24 x0 v15)):=by
 intro n
 induction n with
 | zero=>exact ⟨fun _ _ _ h=>by simp only [R176] at h,fun _ _ _ _ h=>by simp only [R176_5] at h,fun _ _ _ _ _ h=>by simp only [R176_9] at h⟩
 | succ n ih =>
 obtain ⟨ih,ih5,ih9⟩:=ih
 refine ⟨?_,?_,?_⟩
 ·intro x0 x1 ds h K q
  rw [R176] at h
  by_cases b0:(!g134_0 x1 0 65535)=true
  ·rw [if_pos b0] at h
   subst h
   exact AtV.ret Tryz.func176 tabOk ext176Ok mixed false [] tys176 [true] (a1 trivial (a1 b0 trivial)) (by kernel_rfl)
  ·rw [if_neg b0] at h
   replace b0:=bf_ b0
   exact AtV.go tabOk ext176Ok mixed false [] [] [5,13,14,15] [0] [false] (a1 trivial (a1 b0 trivial)) (ih5 _ _ _ _ h K q) (by kernel_rfl)
 ·intro v15 x1 x0 ds h K q
  rw [R176_5] at h
  by_cases b0:(decide (v15<(↑(List.length (bytesOf x0)):Int)))=true
  ·rw [if_pos b0] at h
   obtain ⟨s0,s1,h⟩:=h
   obtain ⟨s2,h⟩:=h
   exact AtV.go tabOk ext176Ok mixed false [] [] [5,13,14,15,24] [0] [true] (a1 b0 (a1 s0 (a1 s1 (a1 s2 (a1 ((by decide):(0:Int)≤(8:Int)) trivial))))) (ih9 _ _ _ _ _ h K q) (by kernel_rfl)
  ·rw [if_neg b0] at h
   replace b0:=bf_ b0
   subst h
   exact AtV.ret Tryz.func176 tabOk ext176Ok mixed false [] tys176 [false] (a1 b0 trivial) (by kernel_rfl)
 ·intro v5 v24 x0 v15 ds h K q
  rw [R176_9] at h
  by_cases b0:(decide (v24<8))=true
  ·rw [if_pos b0] at h
   by_cases b1:(decide (IntKind.wrap IntKind.i64 (v5*2)>65535))=true
   ·rw [if_pos b1] at h
    obtain ⟨s0,h⟩:=h
    exact AtV.go tabOk ext176Ok mixed false [] [] [5,13,14,15,24] [0] [true,true] (a1 b0 (a1 ((by decide):(0:Int)≤(1:Int)) (a1 b1 (a1 s0 trivial)))) (ih9 _ _ _ _ _ h K q) (by kernel_rfl)
   ·rw [if_neg b1] at h
    replace b1:=bf_ b1
    obtain ⟨s0,h⟩:=h
    exact AtV.go tabOk ext176Ok mixed false [] [] [5,13,14,15,24] [0] [true,false] (a1 b0 (a1 ((by decide):(0:Int)≤(1:Int)) (a1 b1 (a1 s0 trivial)))) (ih9 _ _ _ _ _ h K q) (by kernel_rfl)
  ·rw [if_neg b0] at h
   replace b0:=bf_ b0
   obtain ⟨s0,h⟩:=h
   exact AtV.go tabOk ext176Ok mixed false [] [] [5,13,14,15] [0] [false] (a1 b0 (a1 s0 trivial)) (ih5 _ _ _ _ h K q) (by kernel_rfl)
def bit176 (s:Int):Int:=if (decide (IntKind.wrap IntKind.i64 (s*2)>65535))=true then (IntKind.wrap IntKind.i64 (↑(BitVec.toNat (BitVec.ofInt 64 (IntKind.wrap IntKind.i64 (↑(BitVec.toNat (BitVec.ofInt 64 (IntKind.wrap IntKind.i64 (s*2)) &&& BitVec.ofInt 64 65535)):Int)) ^^^ BitVec.ofInt 64 4129)):Int)) else (IntKind.wrap IntKind.i64 (s*2))
def bits176:Nat→Int→Int
 | 0,s=>s
 | k+1,s=>bits176 k (bit176 s)
def byte176 (s c:Int):Int:=bits176 8 (IntKind.wrap IntKind.i64 (↑(BitVec.toNat (BitVec.ofInt 64 s ^^^ BitVec.ofInt 64 (IntKind.wrap IntKind.i64 (c*256)))):Int))
def g176_0 (x0:ByteArray) (x1:Int):Int:=if (!g134_0 x1 0 65535)=true then 0 else (bytesOf x0).foldl byte176 x1
def P176 (x0:ByteArray) (x1:Int):Prop:=True
theorem inner176 (x0:ByteArray) (hm:(bytesOf x0).length≤maxLen) (i n:Nat) (hi:i<(bytesOf x0).length) (ds:List Dyn):∀ (k j:Nat) (s:Int),j+k=8→R176_5 n ((i:Int)+1) (bits176 k s) x0 ds→R176_9 (n+1+k) s (j:Int) x0 (i:Int) ds:=by
 intro k
 induction k with
 | zero =>
  intro j s hj hr
  rw [R176_9,if_neg (by simp;omega)]
  exact ⟨inR_up hm hi,hr⟩
 | succ k ih =>
  intro j s hj hr
  have e2:(j:Int)+1=((j+1:Nat):Int):=by omega
  rw [show n+1+(k+1)=(n+1+k)+1 by omega,R176_9,if_pos (by simp;omega)]
  unfold bits176 bit176 at hr
  by_cases hc:(decide (IntKind.wrap IntKind.i64 (s*2)>65535))=true
  ·rw [if_pos hc] at hr ⊢
   rw [e2]
   exact ⟨by rw [i64_iff];omega,ih (j+1) _ (by omega) hr⟩
  ·rw [if_neg hc] at hr ⊢
   rw [e2]
   exact ⟨by rw [i64_iff];omega,ih (j+1) _ (by omega) hr⟩
theorem run176 (x0:ByteArray) (hm:x0.size≤maxLen):∀ (k i:Nat) (s:Int),i+k=x0.size→∃ n,R176_5 n (i:Int) s x0 [⟨.int .i64,((bytesOf x0).drop i).foldl byte176 s⟩]:=by
 intro k
 have hl:=bytesOf_length x0
 induction k with
 | zero =>
  intro i s hi
  refine ⟨1,?_⟩
  rw [R176_5,if_neg (by rw [hl];simp;omega),List.drop_of_length_le (by omega)]
  rfl
 | succ k ih =>
  intro i s hi
  have hlt:i<(bytesOf x0).length:=by omega
  have hcons:=drop_get (bytesOf x0) i 0 hlt
  obtain ⟨n,hn⟩:=ih (i+1) (byte176 s ((bytesOf x0).getD i 0)) (by omega)
  refine ⟨n+1+8+1,?_⟩
  have hb:=bytesOf_range x0 _ (mem_getD (bytesOf x0) i 0 hlt)
  rw [R176_5,if_pos (by rw [hl];simp;omega)]
  simp only [Int.toNat_natCast]
  rw [hcons,List.foldl_cons]
  exact ⟨by omega,by omega,by rw [i64_iff];omega,inner176 x0 (by rw [hl];exact hm) i n hlt _ 8 0 _ (by omega) hn⟩
theorem top176 (x0:ByteArray) (x1:Int) (hm:x0.size≤maxLen):∃ n,R176 n x0 x1 [⟨.int .i64,g176_0 x0 x1⟩]:=by
 obtain ⟨n,hn⟩:=run176 x0 hm x0.size 0 x1 (by omega)
 refine ⟨n+1,?_⟩
 rw [R176]
 unfold g176_0
 by_cases hc:(!g134_0 x1 0 65535)=true
 ·rw [if_pos hc,if_pos hc]
 ·rw [if_neg hc,if_neg hc]
  exact hn
def S176:Am.Spec:={ sig:=sig176,pre:=fun ⟨x0,x1,_⟩=>P176 x0 x1,res:=fun ⟨x0,x1,_⟩=>[⟨.int .i64,g176_0 x0 x1⟩] }
theorem con176:Contract Tryz.prog 176 S176:=contract_of Tryz.func176 hb176 (bl_ (by kernel_rfl)) (fun ⟨x0,x1,_⟩ h hwf K q =>
 let ⟨n,hn⟩:=top176 x0 x1 hwf.1
 (snd176 n).1 x0 x1 _ hn K q)
end
noncomputable section
def ext151:Ext:=[(177,S177),(176,S176)]
theorem ext151Ok:ExtOk Tryz.prog ext151:=⟨⟨ca177,con177⟩,⟨ca176,con176⟩,trivial⟩
def b151:Code:=bodyOf Tryz.f151
theorem hb151:Tryz.f151.body=some b151:=by kernel_rfl
def sig151:List AT:=[AT.v (.int .i64),AT.v YA6]
def tys151:List Ty:=[.int .i64]
def kds151:List RK:=[]
def oks151:List AT:=owns sig151
def P151 (x0:Int) (x1:Int×Int×ByteArray×Int×Unit):Prop:=((P177 x1)∧True)
def g151_0 (x0:Int) (x1:Int×Int×ByteArray×Int×Unit):Int:=g176_0 (g177_0 x1) x0
theorem at151 (x0:Int) (x1:Int×Int×ByteArray×Int×Unit) (h:P151 x0 x1) (K:Ctx) (q:Nat→Value):AtV Tryz.prog 151 (PostR kds151 oks151 [⟨.int .i64,g151_0 x0 x1⟩] [] [] q K) 9 K q [] [.code b151] (entE 0 0 sig151 (x0,x1,())) (entL sig151 (x0,x1,())):=by
 unfold P151 at h
 unfold g151_0
 obtain ⟨s0,h⟩:=h
 exact AtV.ret Tryz.func151 tabOk ext151Ok mixed false [] tys151 [] (a1 s0 (a1 trivial trivial)) (by kernel_rfl)
def S151:Am.Spec:={ sig:=sig151,pre:=fun ⟨x0,x1,_⟩=>P151 x0 x1,res:=fun ⟨x0,x1,_⟩=>[⟨.int .i64,g151_0 x0 x1⟩],kds:=kds151 }
theorem con151:Contract Tryz.prog 151 S151:=contract_of Tryz.func151 hb151 (bl_ (by kernel_rfl)) (fun ⟨x0,x1,_⟩ h _ K q=>at151 x0 x1 h K q)
end
noncomputable section
def ext123:Ext:=[(150,S150),(151,S151)]
theorem ext123Ok:ExtOk Tryz.prog ext123:=⟨⟨ca150,con150⟩,⟨ca151,con151⟩,trivial⟩
def b123:Code:=bodyOf Tryz.f123
theorem hb123:Tryz.f123.body=some b123:=by kernel_rfl
def sig123:List AT:=[AT.v (.sl YA6)]
def tys123:List Ty:=[.sl YA6]
def kds123:List RK:=[]
def oks123:List AT:=owns sig123
def E123_4 (v4:Int) (v11:Int) (h0:List TyB2) (x0:List TyB2):Env:=[(3,.a (.osl 0 Option.none)),(4,.a (.val (.int .i64 v4))),(9,.a (.osl 0 Option.none)),(10,.a (.val (.int .i64 (↑(List.length (g150_0 x0)):Int)))),(11,.a (.val (.int .i64 v11)))]
def L123_4 (v4:Int) (v11:Int) (h0:List TyB2) (x0:List TyB2):Heap:=[Option.some (Arr.mk YA6 h0 false Option.none Option.none)]
mutual
def R123:Nat→List TyB2→List Dyn→Prop
 | 0,_,_=>False
 | n+1,x0,ds=>((P150 x0)∧(R123_4 n (65535) (0) (g150_0 x0) (x0) ds))
def R123_4:Nat→Int→Int→List TyB2→List TyB2→List Dyn→Prop
 | 0,_,_,_,_,_=>False
 | n+1,v4,v11,h0,x0,ds=>(if (decide (v11<(↑(List.length (g150_0 x0)):Int)))=true then ((0≤v11)∧(v11<(h0.length:Int))∧((P151 v4 (List.getD h0 (Int.toNat v11) (0,0,ByteArray.empty,0,())))∧((0≤v11)∧(v11<(h0.length:Int))∧((InR .i64 (v11+1))∧(R123_4 n (g151_0 v4 (List.getD h0 (Int.toNat v11) (0,0,ByteArray.empty,0,()))) (v11+1) (List.set h0 (Int.toNat v11) ((List.getD h0 (Int.toNat v11) (0,0,ByteArray.empty,0,())).1,(List.getD h0 (Int.toNat v11) (0,0,ByteArray.empty,0,())).2.1,(List.getD h0 (Int.toNat v11) (0,0,ByteArray.empty,0,())).2.2.1,g151_0 v4 (List.getD h0 (Int.toNat v11) (0,0,ByteArray.empty,0,())),(List.getD h0 (Int.toNat v11) (0,0,ByteArray.empty,0,())).2.2.2.2)) (x0) ds))))) else (ds=[Dyn.mk (.sl YA6) h0]))
end
theorem snd123:∀ n,(∀ (x0:List TyB2) ds,R123 n x0 ds→∀ K q,AtV Tryz.prog 123 (PostR kds123 oks123 ds [] [] q K) 26 K q [] [.code b123] (entE 0 0 sig123 (x0,())) (entL sig123 (x0,())))∧(∀ (v4:Int) (v11:Int) (h0:List TyB2) (x0:List TyB2) ds,R123_4 n v4 v11 h0 x0 ds→∀ K q,AtV Tryz.prog 123 (PostR kds123 oks123 ds [] [] q K) 26 K q [] (cutAt b123 4) (E123_4 v4 v11 h0 x0) (L123_4 v4 v11 h0 x0)):=by
 intro n
 induction n with
 | zero=>exact ⟨fun _ _ h=>by simp only [R123] at h,fun _ _ _ _ _ h=>by simp only [R123_4] at h⟩
 | succ n ih =>
 obtain ⟨ih,ih4⟩:=ih
 refine ⟨?_,?_⟩
 ·intro x0 ds h K q
  rw [R123] at h
  obtain ⟨s0,h⟩:=h
  exact AtV.go tabOk ext123Ok mixed false [] [] [3,4,9,10,11] [0] [] (a1 s0 trivial) (ih4 _ _ _ _ _ h K q) (by kernel_rfl)
 ·intro v4 v11 h0 x0 ds h K q
  rw [R123_4] at h
  by_cases b0:(decide (v11<(↑(List.length (g150_0 x0)):Int)))=true
  ·rw [if_pos b0] at h
   obtain ⟨s0,s1,h⟩:=h
   obtain ⟨s2,h⟩:=h
   obtain ⟨s3,s4,h⟩:=h
   obtain ⟨s5,h⟩:=h
   exact AtV.go tabOk ext123Ok mixed false [] [] [3,4,9,10,11] [0] [true] (a1 b0 (a1 s0 (a1 s1 (a1 s2 (a1 s3 (a1 s4 (a1 s5 trivial))))))) (ih4 _ _ _ _ _ h K q) (by kernel_rfl)
  ·rw [if_neg b0] at h
   replace b0:=bf_ b0
   subst h
   exact AtV.ret Tryz.func123 tabOk ext123Ok mixed false [] tys123 [false] (a1 b0 trivial) (by kernel_rfl)
def sl123 (c:Int):List TyB2→List TyB2
 | []=>[]
 | x :: r=>(x.1,x.2.1,x.2.2.1,g151_0 c x,x.2.2.2.2) :: sl123 (g151_0 c x) r
def g123_0 (x0:List TyB2):List TyB2:=sl123 65535 x0
def P123 (x0:List TyB2):Prop:=x0.length≤1048576∧∀ x∈x0,∀ c,P151 c x
theorem set_take123 {α:Type} (l:List α) (i:Nat) (y:α) (h:i<l.length):(l.set i y).take (i+1)=l.take i++[y]:=by
 rw [List.set_eq_take_append_cons_drop,if_pos h,List.take_append,List.length_take,Nat.min_eq_left (Nat.le_of_lt h),List.take_of_length_le (by rw [List.length_take];omega),Nat.add_sub_cancel_left]
 rfl
theorem set_drop123 {α:Type} (l:List α) (i:Nat) (y:α):(l.set i y).drop (i+1)=l.drop (i+1):=by
 rw [List.drop_set_of_lt (by omega)]
theorem run123 (x0:List TyB2) (hm:x0.length≤maxLen) (hx:∀ x∈x0,∀ c,P151 c x):∀ (k i:Nat) (c:Int) (h0:List TyB2),i+k=x0.length→h0.length=x0.length→h0.drop i=x0.drop i →
  R123_4 (k+1) c (i:Int) h0 x0 [⟨.sl (.cons (.int .i64) (.cons (.int .i64) (.cons .str (.cons (.int .i64) .unit)))),h0.take i++sl123 c (x0.drop i)⟩]:=by
 intro k
 induction k with
 | zero =>
  intro i c h0 hi hl hd
  rw [R123_4,if_neg (by simp only [decide_eq_true_eq];show ¬ (i:Int)<(x0.length:Int);omega),drop_end x0 _ (by omega)]
  rw [List.take_of_length_le (by omega)]
  simp [sl123]
 | succ k ih =>
  intro i c h0 hi hl hd
  have hlt:i<x0.length:=by omega
  have e0:=drop_get x0 i ((0:Int),(0:Int),ByteArray.empty,(0:Int),()) hlt
  have e1:=drop_get h0 i ((0:Int),(0:Int),ByteArray.empty,(0:Int),()) (by omega)
  have hp:=hx _ (mem_getD x0 i ((0:Int),(0:Int),ByteArray.empty,(0:Int),()) hlt) c
  have e2:h0.getD i ((0:Int),(0:Int),ByteArray.empty,(0:Int),())=x0.getD i ((0:Int),(0:Int),ByteArray.empty,(0:Int),())∧h0.drop (i+1)=x0.drop (i+1):=by
   rw [e0,e1] at hd
   exact List.cons.inj hd
  rw [R123_4,if_pos (by simp only [decide_eq_true_eq];show (i:Int)<(x0.length:Int);omega),e0]
  simp only [Int.toNat_natCast,e2.1]
  generalize hy:x0.getD i ((0:Int),(0:Int),ByteArray.empty,(0:Int),())=y at hp
  refine ⟨by omega,by omega,hp,by omega,by omega,inR_up hm hlt,?_⟩
  have h:=ih (i+1) (g151_0 c y) (h0.set i (y.1,y.2.1,y.2.2.1,g151_0 c y,y.2.2.2.2)) (by omega) (by rw [List.length_set];exact hl) (by rw [set_drop123];exact e2.2)
  rw [set_take123 _ _ _ (by omega),List.append_assoc] at h
  exact h
theorem top123 (x0:List TyB2) (hm:x0.length≤maxLen) (hx:P123 x0):R123 (x0.length+1+1) x0 [⟨.sl (.cons (.int .i64) (.cons (.int .i64) (.cons .str (.cons (.int .i64) .unit)))),g123_0 x0⟩]:=by
 rw [R123]
 exact ⟨hx.1,by simpa [g123_0,g150_0] using run123 x0 hm hx.2 x0.length 0 65535 x0 (by omega) rfl rfl⟩
def S123:Am.Spec:={ sig:=sig123,pre:=fun ⟨x0,_⟩=>P123 x0,res:=fun ⟨x0,_⟩=>[⟨.sl (.cons (.int .i64) (.cons (.int .i64) (.cons .str (.cons (.int .i64) .unit)))),g123_0 x0⟩] }
theorem con123:Contract Tryz.prog 123 S123:=contract_of Tryz.func123 hb123 (bl_ (by kernel_rfl)) (fun ⟨x0,_⟩ h hwf K q =>
 (snd123 _).1 x0 _ (top123 x0 hwf.1.1 h) K q)
theorem sl123_len:∀ (l:List TyB2) (c:Int),(sl123 c l).length=l.length
 | [],_=>rfl
 | x :: r,c=>by simp [sl123,sl123_len r]
end
noncomputable section
def ext77:Ext:=[(112,S112),(123,S123)]
theorem ext77Ok:ExtOk Tryz.prog ext77:=⟨⟨ca112,con112⟩,⟨ca123,con123⟩,trivial⟩
def b77:Code:=bodyOf Tryz.f77
theorem hb77:Tryz.f77.body=some b77:=by kernel_rfl
def sig77:List AT:=[AT.v (.sl YA6)]
def tys77:List Ty:=[.int .i64,.int .i64]
def kds77:List RK:=[]
def oks77:List AT:=owns sig77
def E77_4 (v12:Int) (x0:List TyB2):Env:=[(0,.a (.sl YA6 x0)),(10,.a (.osl 0 Option.none)),(11,.a (.val (.int .i64 (↑(List.length (g123_0 x0)):Int)))),(12,.a (.val (.int .i64 v12)))]
def L77_4 (v12:Int) (x0:List TyB2):Heap:=[Option.some (Arr.mk YA6 (g123_0 x0) false Option.none Option.none)]
mutual
def R77:Nat→List TyB2→List Dyn→Prop
 | 0,_,_=>False
 | n+1,x0,ds=>(if (!g112_0 x0)=true then (ds=[Dyn.mk (.int .i64) 0,Dyn.mk (.int .i64) 1]) else ((P123 x0)∧(R77_4 n (0) (x0) ds)))
def R77_4:Nat→Int→List TyB2→List Dyn→Prop
 | 0,_,_,_=>False
 | n+1,v12,x0,ds=>(if (decide (v12<(↑(List.length (g123_0 x0)):Int)))=true then ((0≤v12)∧(v12<(↑(List.length (g123_0 x0)):Int))∧((0≤v12)∧(v12<(x0.length:Int))∧(if (!eqD YA6 (List.getD x0 (Int.toNat v12) (0,0,ByteArray.empty,0,())) (List.getD (g123_0 x0) (Int.toNat v12) (0,0,ByteArray.empty,0,())))=true then (ds=[Dyn.mk (.int .i64) v12,Dyn.mk (.int .i64) 0]) else ((InR .i64 (v12+1))∧(R77_4 n (v12+1) (x0) ds))))) else (ds=[Dyn.mk (.int .i64) 0,Dyn.mk (.int .i64) 3]))
end
theorem snd77:∀ n,(∀ (x0:List TyB2) ds,R77 n x0 ds→∀ K q,AtV Tryz.prog 77 (PostR kds77 oks77 ds [] [] q K) 25 K q [] [.code b77] (entE 0 0 sig77 (x0,())) (entL sig77 (x0,())))∧(∀ (v12:Int) (x0:List TyB2) ds,R77_4 n v12 x0 ds→∀ K q,AtV Tryz.prog 77 (PostR kds77 oks77 ds [] [] q K) 25 K q [] (cutAt b77 4) (E77_4 v12 x0) (L77_4 v12 x0)):=by
 intro n
 induction n with
 | zero=>exact ⟨fun _ _ h=>by simp only [R77] at h,fun _ _ _ h=>by simp only [R77_4] at h⟩
 | succ n ih =>
 obtain ⟨ih,ih4⟩:=ih
 refine ⟨?_,?_⟩
 ·intro x0 ds h K q
  rw [R77] at h
  by_cases b0:(!g112_0 x0)=true
  ·rw [if_pos b0] at h
   subst h
   exact AtV.ret Tryz.func77 tabOk ext77Ok mixed false [] tys77 [true] (a1 trivial (a1 b0 trivial)) (by kernel_rfl)
  ·rw [if_neg b0] at h
   replace b0:=bf_ b0
   obtain ⟨s0,h⟩:=h
   exact AtV.go tabOk ext77Ok mixed false [] [] [0,10,11,12] [0] [false] (a1 trivial (a1 b0 (a1 s0 trivial))) (ih4 _ _ _ h K q) (by kernel_rfl)
 ·intro v12 x0 ds h K q
  rw [R77_4] at h
  by_cases b0:(decide (v12<(↑(List.length (g123_0 x0)):Int)))=true
  ·rw [if_pos b0] at h
   obtain ⟨s0,s1,h⟩:=h
   obtain ⟨s2,s3,h⟩:=h
   by_cases b1:(!eqD YA6 (List.getD x0 (Int.toNat v12) (0,0,ByteArray.empty,0,())) (List.getD (g123_0 x0) (Int.toNat v12) (0,0,ByteArray.empty,0,())))=true
   ·rw [if_pos b1] at h
    subst h
    exact AtV.ret Tryz.func77 tabOk ext77Ok mixed false [] tys77 [true,true] (a1 b0 (a1 s0 (a1 s1 (a1 s2 (a1 s3 (a1 b1 trivial)))))) (by kernel_rfl)
   ·rw [if_neg b1] at h
    replace b1:=bf_ b1
    obtain ⟨s4,h⟩:=h
    exact AtV.go tabOk ext77Ok mixed false [] [] [0,10,11,12] [0] [true,false] (a1 b0 (a1 s0 (a1 s1 (a1 s2 (a1 s3 (a1 b1 (a1 s4 trivial))))))) (ih4 _ _ _ h K q) (by kernel_rfl)
  ·rw [if_neg b0] at h
   replace b0:=bf_ b0
   subst h
   exact AtV.ret Tryz.func77 tabOk ext77Ok mixed false [] tys77 [false] (a1 b0 trivial) (by kernel_rfl)
def fb77 (i:Int):List TyB2→List TyB2→Option Int
 | x :: r,y :: s=>if (!eqD YA6 x y)=true then some i else fb77 (i+1) r s
 | _,_=>none
def out77:Option Int→List Dyn
 | some k=>[⟨.int .i64,k⟩,⟨.int .i64,(0:Int)⟩]
 | none=>[⟨.int .i64,(0:Int)⟩,⟨.int .i64,(3:Int)⟩]
def g77_0 (x0:List TyB2):Int:=if g112_0 x0=true then (match fb77 0 x0 (g123_0 x0) with | some k=>k | none=>0) else 0
def g77_1 (x0:List TyB2):Int:=if g112_0 x0=true then (match fb77 0 x0 (g123_0 x0) with | some _=>0 | none=>3) else 1
def P77 (x0:List TyB2):Prop:=g112_0 x0=true→P123 x0
theorem run77 (x0:List TyB2) (hm:x0.length≤maxLen):∀ (k i:Nat),i+k=x0.length→R77_4 (k+1) (i:Int) x0 (out77 (fb77 i (x0.drop i) ((g123_0 x0).drop i))):=by
 have hl:(g123_0 x0).length=x0.length:=sl123_len x0 _
 intro k
 induction k with
 | zero =>
  intro i hi
  rw [R77_4,if_neg (by simp only [decide_eq_true_eq];omega),drop_end x0 _ (by omega)]
  rfl
 | succ k ih =>
  intro i hi
  have hlt:i<x0.length:=by omega
  rw [R77_4,if_pos (by simp only [decide_eq_true_eq];omega),drop_get x0 i ((0:Int),(0:Int),ByteArray.empty,(0:Int),()) hlt,drop_get (g123_0 x0) i ((0:Int),(0:Int),ByteArray.empty,(0:Int),()) (by omega)]
  simp only [Int.toNat_natCast]
  have h:=ih (i+1) (by omega)
  refine ⟨by omega,by omega,by omega,by omega,?_⟩
  simp only [fb77]
  by_cases hc:(!eqD YA6 (x0.getD i ((0:Int),(0:Int),ByteArray.empty,(0:Int),())) ((g123_0 x0).getD i ((0:Int),(0:Int),ByteArray.empty,(0:Int),())))=true
  ·rw [if_pos hc,if_pos hc];rfl
  ·rw [if_neg hc,if_neg hc]
   exact ⟨inR_up hm hlt,by simpa using h⟩
theorem top77 (x0:List TyB2) (hm:x0.length≤maxLen) (hx:P77 x0):R77 (x0.length+1+1) x0 [⟨.int .i64,g77_0 x0⟩,⟨.int .i64,g77_1 x0⟩]:=by
 rw [R77]
 unfold g77_0 g77_1
 by_cases hv:g112_0 x0=true
 ·rw [if_neg (by rw [hv];simp),if_pos hv,if_pos hv]
  refine ⟨hx hv,?_⟩
  have h:=run77 x0 hm x0.length 0 (by omega)
  simp only [List.drop_zero] at h
  revert h
  show R77_4 _ _ _ (out77 (fb77 0 x0 (g123_0 x0)))→_
  cases fb77 0 x0 (g123_0 x0) <;> exact fun h=>h
 ·rw [if_pos (by rw [bf_ hv];rfl),if_neg hv,if_neg hv]
def S77:Am.Spec:={ sig:=sig77,pre:=fun ⟨x0,_⟩=>P77 x0,res:=fun ⟨x0,_⟩=>[⟨.int .i64,g77_0 x0⟩,⟨.int .i64,g77_1 x0⟩] }
theorem con77:Contract Tryz.prog 77 S77:=contract_of Tryz.func77 hb77 (bl_ (by kernel_rfl)) (fun ⟨x0,_⟩ h hwf K q =>
 (snd77 _).1 x0 _ (top77 x0 hwf.1.1 h) K q)
end
noncomputable section
def ext31:Ext:=[(77,S77),(71,S71)]
theorem ext31Ok:ExtOk Tryz.prog ext31:=⟨⟨ca77,con77⟩,⟨ca71,con71⟩,trivial⟩
def b31:Code:=bodyOf Tryz.f31
theorem hb31:Tryz.f31.body=some b31:=by kernel_rfl
def sig31:List AT:=[AT.v YA0]
def tys31:List Ty:=[.sl YA8]
def kds31:List RK:=[]
def oks31:List AT:=owns sig31
def P31 (x0:TyA0):Prop:=((P77 x0.2.2.2.2.2.2.2.2.2.2.2.1)∧(if (g77_1 x0.2.2.2.2.2.2.2.2.2.2.2.1 != 0)=true then True else ((P71 (g77_0 x0.2.2.2.2.2.2.2.2.2.2.2.1))∧((0≤g77_0 x0.2.2.2.2.2.2.2.2.2.2.2.1)∧(g77_0 x0.2.2.2.2.2.2.2.2.2.2.2.1<(x0.2.2.2.2.2.2.2.2.2.2.2.1.length:Int))∧((P71 (List.getD x0.2.2.2.2.2.2.2.2.2.2.2.1 (Int.toNat (g77_0 x0.2.2.2.2.2.2.2.2.2.2.2.1)) (0,0,ByteArray.empty,0,())).2.2.2.1)∧True)))))
def g31_0 (x0:TyA0):List TyB3:=(if (g77_1 x0.2.2.2.2.2.2.2.2.2.2.2.1 != 0)=true then [] else [(6,g71_0 (g77_0 x0.2.2.2.2.2.2.2.2.2.2.2.1),g71_0 (List.getD x0.2.2.2.2.2.2.2.2.2.2.2.1 (Int.toNat (g77_0 x0.2.2.2.2.2.2.2.2.2.2.2.1)) (0,0,ByteArray.empty,0,())).2.2.2.1,())])
theorem at31 (x0:TyA0) (h:P31 x0) (K:Ctx) (q:Nat→Value):AtV Tryz.prog 31 (PostR kds31 oks31 [⟨.sl YA8,g31_0 x0⟩] [] [] q K) 24 K q [] [.code b31] (entE 0 0 sig31 (x0,())) (entL sig31 (x0,())):=by
 unfold P31 at h
 unfold g31_0
 obtain ⟨s0,h⟩:=h
 by_cases b0:(g77_1 x0.2.2.2.2.2.2.2.2.2.2.2.1 != 0)=true
 ·try simp only [if_pos b0] at h ⊢
  exact AtV.ret Tryz.func31 tabOk ext31Ok mixed false [] tys31 [true] (a1 s0 (a1 b0 trivial)) (by kernel_rfl)
 ·try simp only [if_neg b0] at h ⊢
  replace b0:=bf_ b0
  obtain ⟨s1,h⟩:=h
  obtain ⟨s2,s3,h⟩:=h
  obtain ⟨s4,h⟩:=h
  exact AtV.ret Tryz.func31 tabOk ext31Ok mixed false [] tys31 [false] (a1 s0 (a1 b0 (a1 s1 (a1 s2 (a1 s3 (a1 s4 trivial)))))) (by kernel_rfl)
def S31:Am.Spec:={ sig:=sig31,pre:=fun ⟨x0,_⟩=>P31 x0,res:=fun ⟨x0,_⟩=>[⟨.sl YA8,g31_0 x0⟩],kds:=kds31 }
theorem con31:Contract Tryz.prog 31 S31:=contract_of Tryz.func31 hb31 (bl_ (by kernel_rfl)) (fun ⟨x0,_⟩ h _ K q=>at31 x0 h K q)
end
noncomputable section
def ext28c29c30c31:Ext:=[(68,S68),(29,S29),(30,S30),(31,S31)]
theorem ext28c29c30c31Ok:ExtOk Tryz.prog ext28c29c30c31:=⟨⟨ca68,con68⟩,⟨ca29,con29⟩,⟨ca30,con30⟩,⟨ca31,con31⟩,trivial⟩
def b28c29c30c31:Code:=bodyOf Tryz.f28
theorem hb28c29c30c31:Tryz.f28.body=some b28c29c30c31:=by kernel_rfl
def sig28c29c30c31:List AT:=[AT.v YA0,AT.fns [29,30,31]]
def tys28c29c30c31:List Ty:=[.sl YA8,.int .i64]
def kds28c29c30c31:List RK:=[]
def oks28c29c30c31:List AT:=owns sig28c29c30c31
def P28c29c30c31 (x0:TyA0):Prop:=(if (!g68_0 x0)=true then True else ((P29 x0)∧((List.length (g29_0 x0)*40≤140737488355328)∧((P30 x0)∧(((List.length (g29_0 x0)+List.length (g30_0 x0))*40≤140737488355328)∧((P31 x0)∧(((List.length (g29_0 x0++g30_0 x0)+List.length (g31_0 x0))*40≤140737488355328)∧True)))))))
def g28c29c30c31_0 (x0:TyA0):List TyB3:=(if (!g68_0 x0)=true then [] else g29_0 x0++g30_0 x0++g31_0 x0)
def g28c29c30c31_1 (x0:TyA0):Int:=(if (!g68_0 x0)=true then 1 else 0)
theorem at28c29c30c31 (x0:TyA0) (h:P28c29c30c31 x0) (K:Ctx) (q:Nat→Value):AtV Tryz.prog 28 (PostR kds28c29c30c31 oks28c29c30c31 [⟨.sl YA8,g28c29c30c31_0 x0⟩,⟨.int .i64,g28c29c30c31_1 x0⟩] [] [] q K) 25 K q [] [.code b28c29c30c31] (entE 0 0 sig28c29c30c31 (x0,(),())) (entL sig28c29c30c31 (x0,(),())):=by
 unfold P28c29c30c31 at h
 unfold g28c29c30c31_0 g28c29c30c31_1
 by_cases b0:(!g68_0 x0)=true
 ·try simp only [if_pos b0] at h ⊢
  exact AtV.ret Tryz.func28 tabOk ext28c29c30c31Ok mixed false [1000007] tys28c29c30c31 [true] (a1 trivial (a1 b0 trivial)) (by kernel_rfl)
 ·try simp only [if_neg b0] at h ⊢
  replace b0:=bf_ b0
  obtain ⟨s0,h⟩:=h
  obtain ⟨s1,h⟩:=h
  obtain ⟨s2,h⟩:=h
  obtain ⟨s3,h⟩:=h
  obtain ⟨s4,h⟩:=h
  obtain ⟨s5,h⟩:=h
  exact AtV.ret Tryz.func28 tabOk ext28c29c30c31Ok mixed false [1000007] tys28c29c30c31 [false,true,true,true,false] (a1 trivial (a1 b0 (a1 (rfl:true=true) (a1 ((by decide):(0:Int)≤(0:Int)) (a1 ((by decide):(0:Int)<(3:Int)) (a1 s0 (a1 s1 (a1 ((by decide):InR .i64 1) (a1 (rfl:true=true) (a1 ((by decide):(0:Int)≤(1:Int)) (a1 ((by decide):(1:Int)<(3:Int)) (a1 s2 (a1 s3 (a1 ((by decide):InR .i64 2) (a1 (rfl:true=true) (a1 ((by decide):(0:Int)≤(2:Int)) (a1 ((by decide):(2:Int)<(3:Int)) (a1 s4 (a1 s5 (a1 ((by decide):InR .i64 3) (a1 (rfl:false=false) trivial))))))))))))))))))))) (by kernel_rfl)
def S28c29c30c31:Am.Spec:={ sig:=sig28c29c30c31,pre:=fun ⟨x0,_⟩=>P28c29c30c31 x0,res:=fun ⟨x0,_⟩=>[⟨.sl YA8,g28c29c30c31_0 x0⟩,⟨.int .i64,g28c29c30c31_1 x0⟩],kds:=kds28c29c30c31 }
theorem con28c29c30c31:Contract Tryz.prog 28 S28c29c30c31:=contract_of Tryz.func28 hb28c29c30c31 (bl_ (by kernel_rfl)) (fun ⟨x0,_⟩ h _ K q=>at28c29c30c31 x0 h K q)
end
noncomputable section
def ext7:Ext:=[(28,S28c29c30c31)]
theorem ext7Ok:ExtOk Tryz.prog ext7:=⟨⟨ca28,con28c29c30c31⟩,trivial⟩
def b7:Code:=bodyOf Tryz.f7
theorem hb7:Tryz.f7.body=some b7:=by kernel_rfl
def sig7:List AT:=[AT.v YA0]
def tys7:List Ty:=[.sl YA8,.int .i64]
def kds7:List RK:=[]
def oks7:List AT:=owns sig7
def P7 (x0:TyA0):Prop:=((P28c29c30c31 x0)∧True)
def g7_0 (x0:TyA0):List TyB3:=g28c29c30c31_0 x0
def g7_1 (x0:TyA0):Int:=g28c29c30c31_1 x0
theorem at7 (x0:TyA0) (h:P7 x0) (K:Ctx) (q:Nat→Value):AtV Tryz.prog 7 (PostR kds7 oks7 [⟨.sl YA8,g7_0 x0⟩,⟨.int .i64,g7_1 x0⟩] [] [] q K) 9 K q [] [.code b7] (entE 0 0 sig7 (x0,())) (entL sig7 (x0,())):=by
 unfold P7 at h
 unfold g7_0 g7_1
 obtain ⟨s0,h⟩:=h
 exact AtV.ret Tryz.func7 tabOk ext7Ok mixed false [] tys7 [] (a1 s0 trivial) (by kernel_rfl)
def S7:Am.Spec:={ sig:=sig7,pre:=fun ⟨x0,_⟩=>P7 x0,res:=fun ⟨x0,_⟩=>[⟨.sl YA8,g7_0 x0⟩,⟨.int .i64,g7_1 x0⟩],kds:=kds7 }
theorem con7:Contract Tryz.prog 7 S7:=contract_of Tryz.func7 hb7 (bl_ (by kernel_rfl)) (fun ⟨x0,_⟩ h _ K q=>at7 x0 h K q)
end
noncomputable section
def ext32:Ext:=[]
theorem ext32Ok:ExtOk Tryz.prog ext32:=trivial
def b32:Code:=bodyOf Tryz.f32
theorem hb32:Tryz.f32.body=some b32:=by kernel_rfl
def sig32:List AT:=[AT.v YA8,AT.v YA8]
def tys32:List Ty:=[.bool]
def kds32:List RK:=[]
def oks32:List AT:=owns sig32
def P32 (x0:Int×ByteArray×ByteArray×Unit) (x1:Int×ByteArray×ByteArray×Unit):Prop:=True
def g32_0 (x0:Int×ByteArray×ByteArray×Unit) (x1:Int×ByteArray×ByteArray×Unit):Bool:=(if (x0.1 != x1.1)=true then false else (if (!ByteArray.toList x0.2.1==ByteArray.toList x1.2.1)=true then false else (if (!ByteArray.toList x0.2.2.1==ByteArray.toList x1.2.2.1)=true then false else true)))
theorem at32 (x0:Int×ByteArray×ByteArray×Unit) (x1:Int×ByteArray×ByteArray×Unit) (h:P32 x0 x1) (K:Ctx) (q:Nat→Value):AtV Tryz.prog 32 (PostR kds32 oks32 [⟨.bool,g32_0 x0 x1⟩] [] [] q K) 20 K q [] [.code b32] (entE 0 0 sig32 (x0,x1,())) (entL sig32 (x0,x1,())):=by
 unfold P32 at h
 unfold g32_0
 by_cases b0:(x0.1 != x1.1)=true
 ·try simp only [if_pos b0] at h ⊢
  exact AtV.ret Tryz.func32 tabOk ext32Ok mixed false [] tys32 [true] (a1 b0 trivial) (by kernel_rfl)
 ·try simp only [if_neg b0] at h ⊢
  replace b0:=bf_ b0
  by_cases b1:(!ByteArray.toList x0.2.1==ByteArray.toList x1.2.1)=true
  ·try simp only [if_pos b1] at h ⊢
   exact AtV.ret Tryz.func32 tabOk ext32Ok mixed false [] tys32 [false,true] (a1 b0 (a1 b1 trivial)) (by kernel_rfl)
  ·try simp only [if_neg b1] at h ⊢
   replace b1:=bf_ b1
   by_cases b2:(!ByteArray.toList x0.2.2.1==ByteArray.toList x1.2.2.1)=true
   ·try simp only [if_pos b2] at h ⊢
    exact AtV.ret Tryz.func32 tabOk ext32Ok mixed false [] tys32 [false,false,true] (a1 b0 (a1 b1 (a1 b2 trivial))) (by kernel_rfl)
   ·try simp only [if_neg b2] at h ⊢
    replace b2:=bf_ b2
    exact AtV.ret Tryz.func32 tabOk ext32Ok mixed false [] tys32 [false,false,false] (a1 b0 (a1 b1 (a1 b2 trivial))) (by kernel_rfl)
def S32:Am.Spec:={ sig:=sig32,pre:=fun ⟨x0,x1,_⟩=>P32 x0 x1,res:=fun ⟨x0,x1,_⟩=>[⟨.bool,g32_0 x0 x1⟩],kds:=kds32 }
theorem con32:Contract Tryz.prog 32 S32:=contract_of Tryz.func32 hb32 (bl_ (by kernel_rfl)) (fun ⟨x0,x1,_⟩ h _ K q=>at32 x0 x1 h K q)
theorem eqd32 (x y:TyB3):g32_0 x y=true↔x=y:=by
 obtain ⟨a,b,c,u⟩:=x
 obtain ⟨a',b',c',u'⟩:=y
 unfold g32_0
 simp only [Bool.not_eq_true',bytes_ne,bne_iff_ne,ne_eq,ite_not]
 by_cases h0:a=a'
 ·by_cases h1:b=b'
  ·by_cases h2:c=c'
   ·simp [h0,h1,h2]
   ·simp [h0,h1,h2]
  ·simp [h0,h1]
 ·simp [h0]
end
noncomputable section
def ext8:Ext:=[(32,S32)]
theorem ext8Ok:ExtOk Tryz.prog ext8:=⟨⟨ca32,con32⟩,trivial⟩
def b8:Code:=bodyOf Tryz.f8
theorem hb8:Tryz.f8.body=some b8:=by kernel_rfl
def sig8:List AT:=[AT.v (.sl YA8),AT.v (.sl YA8)]
def tys8:List Ty:=[.bool]
def kds8:List RK:=[]
def oks8:List AT:=owns sig8
def E8_4 (v5:Int) (x0:List TyB3) (x1:List TyB3):Env:=[(0,.a (.sl YA8 x0)),(1,.a (.sl YA8 x1)),(5,.a (.val (.int .i64 v5)))]
def L8_4 (v5:Int) (x0:List TyB3) (x1:List TyB3):Heap:=[]
mutual
def R8:Nat→List TyB3→List TyB3→List Dyn→Prop
 | 0,_,_,_=>False
 | n+1,x0,x1,ds=>(if ((x0.length:Int) != (x1.length:Int))=true then (ds=[Dyn.mk .bool false]) else (R8_4 n (0) (x0) (x1) ds))
def R8_4:Nat→Int→List TyB3→List TyB3→List Dyn→Prop
 | 0,_,_,_,_=>False
 | n+1,v5,x0,x1,ds=>(if (decide (v5<(x0.length:Int)))=true then ((0≤v5)∧(v5<(x0.length:Int))∧((0≤v5)∧(v5<(x1.length:Int))∧(if (!g32_0 (List.getD x0 (Int.toNat v5) (0,ByteArray.empty,ByteArray.empty,())) (List.getD x1 (Int.toNat v5) (0,ByteArray.empty,ByteArray.empty,())))=true then (ds=[Dyn.mk .bool false]) else ((InR .i64 (v5+1))∧(R8_4 n (v5+1) (x0) (x1) ds))))) else (ds=[Dyn.mk .bool true]))
end
theorem snd8:∀ n,(∀ (x0:List TyB3) (x1:List TyB3) ds,R8 n x0 x1 ds→∀ K q,AtV Tryz.prog 8 (PostR kds8 oks8 ds [] [] q K) 27 K q [] [.code b8] (entE 0 0 sig8 (x0,x1,())) (entL sig8 (x0,x1,())))∧(∀ (v5:Int) (x0:List TyB3) (x1:List TyB3) ds,R8_4 n v5 x0 x1 ds→∀ K q,AtV Tryz.prog 8 (PostR kds8 oks8 ds [] [] q K) 27 K q [] (cutAt b8 4) (E8_4 v5 x0 x1) (L8_4 v5 x0 x1)):=by
 intro n
 induction n with
 | zero=>exact ⟨fun _ _ _ h=>by simp only [R8] at h,fun _ _ _ _ h=>by simp only [R8_4] at h⟩
 | succ n ih =>
 obtain ⟨ih,ih4⟩:=ih
 refine ⟨?_,?_⟩
 ·intro x0 x1 ds h K q
  rw [R8] at h
  by_cases b0:((x0.length:Int) != (x1.length:Int))=true
  ·rw [if_pos b0] at h
   subst h
   exact AtV.ret Tryz.func8 tabOk ext8Ok mixed false [] tys8 [true] (a1 b0 trivial) (by kernel_rfl)
  ·rw [if_neg b0] at h
   replace b0:=bf_ b0
   exact AtV.go tabOk ext8Ok mixed false [] [] [0,1,5] [] [false] (a1 b0 trivial) (ih4 _ _ _ _ h K q) (by kernel_rfl)
 ·intro v5 x0 x1 ds h K q
  rw [R8_4] at h
  by_cases b0:(decide (v5<(x0.length:Int)))=true
  ·rw [if_pos b0] at h
   obtain ⟨s0,s1,h⟩:=h
   obtain ⟨s2,s3,h⟩:=h
   by_cases b1:(!g32_0 (List.getD x0 (Int.toNat v5) (0,ByteArray.empty,ByteArray.empty,())) (List.getD x1 (Int.toNat v5) (0,ByteArray.empty,ByteArray.empty,())))=true
   ·rw [if_pos b1] at h
    subst h
    exact AtV.ret Tryz.func8 tabOk ext8Ok mixed false [] tys8 [true,true] (a1 b0 (a1 s0 (a1 s1 (a1 s2 (a1 s3 (a1 trivial (a1 b1 trivial))))))) (by kernel_rfl)
   ·rw [if_neg b1] at h
    replace b1:=bf_ b1
    obtain ⟨s4,h⟩:=h
    exact AtV.go tabOk ext8Ok mixed false [] [] [0,1,5] [] [true,false] (a1 b0 (a1 s0 (a1 s1 (a1 s2 (a1 s3 (a1 trivial (a1 b1 (a1 s4 trivial)))))))) (ih4 _ _ _ _ h K q) (by kernel_rfl)
  ·rw [if_neg b0] at h
   replace b0:=bf_ b0
   subst h
   exact AtV.ret Tryz.func8 tabOk ext8Ok mixed false [] tys8 [false] (a1 b0 trivial) (by kernel_rfl)
theorem eq8 (x0 x1:List TyB3) (hl:x0.length=x1.length) (hm:x0.length≤maxLen):∀ k i:Nat,i+k=x0.length→R8_4 (k+1) (i:Int) x0 x1 [⟨.bool,decide (x0.drop i=x1.drop i)⟩]:=by
 intro k
 induction k with
 | zero =>
  intro i hi
  have h1:¬ (i:Int)<(x0.length:Int):=by omega
  rw [R8_4,if_neg (by simpa using h1),drop_end x0 i (by omega),drop_end x1 i (by omega)]
  simp
 | succ k ih =>
  intro i hi
  have h1:(i:Int)<(x0.length:Int):=by omega
  rw [R8_4,if_pos (by simpa using h1)]
  refine ⟨by omega,h1,by omega,by omega,?_⟩
  simp only [Int.toNat_natCast]
  rw [drop_get x0 i ((0:Int),ByteArray.empty,ByteArray.empty,()) (by omega),drop_get x1 i ((0:Int),ByteArray.empty,ByteArray.empty,()) (by omega)]
  by_cases he:x0.getD i ((0:Int),ByteArray.empty,ByteArray.empty,())=x1.getD i ((0:Int),ByteArray.empty,ByteArray.empty,())
  ·have hd:=(eqd32 _ _).2 he
   rw [if_neg (by rw [hd];simp)]
   refine ⟨inR_up hm (by omega),?_⟩
   have:=ih (i+1) (by omega)
   simp only [he,List.cons.injEq,true_and]
   exact this
  ·have hd:g32_0 (x0.getD i ((0:Int),ByteArray.empty,ByteArray.empty,())) (x1.getD i ((0:Int),ByteArray.empty,ByteArray.empty,()))=false :=
    bf_ fun h=>he ((eqd32 _ _).1 h)
   rw [if_pos (by rw [hd];rfl)]
   simp only [he,List.cons.injEq,false_and,decide_false]
def g8_0 (x0 x1:List TyB3):Bool:=decide (x0=x1)
def P8 (x0 x1:List TyB3):Prop:=True
def S8:Am.Spec:={ sig:=sig8,pre:=fun ⟨x0,x1,_⟩=>P8 x0 x1,res:=fun ⟨x0,x1,_⟩=>[⟨.bool,g8_0 x0 x1⟩] }
theorem con8:Contract Tryz.prog 8 S8:=contract_of Tryz.func8 hb8 (bl_ (by kernel_rfl)) (fun ⟨x0,x1,_⟩ h hwf K q=>by
 refine (snd8 (x0.length+2)).1 x0 x1 _ ?_ K q
 show R8 (x0.length+1+1) x0 x1 [⟨.bool,decide (x0=x1)⟩]
 rw [R8]
 by_cases hl:x0.length=x1.length
 ·rw [if_neg (by simp [hl])]
  have:=eq8 x0 x1 hl hwf.1.1 x0.length 0 (by omega)
  simpa using this
 ·rw [if_pos (by simp;omega)]
  have:x0≠x1:=fun h=>hl (by rw [h])
  simp [this])
end
end Go.Proofs.YtmfkgabclbbdhaaGreatDoor
