/- Several texts in one: the functions that this law reaches, and their laws. -/
import Derived.Test.YtfobhngpafbfdaaGreatDoorZ3A
import Derived.Test.YtfobhngpafbfdaaGreatDoorZ3B
import Derived.Test.YtfobhngpafbfdaaGreatDoorZ3C
import Derived.Test.YtfobhngpafbfdaaGreatDoorZ3D
import Derived.Shelf.Utf8.RuneCount
import Derived.Shelf.Strconv.Itoa0
import Derived.Shelf.Strconv.Itoa1
import Derived.Shelf.LaysM
import Derived.Shelf.Strconv.Itoa2
import Derived.Shelf.Strconv.Itoa3
import Derived.Shelf.Strconv.Itoa4
import Derived.Shelf.Strings.Search1
import Derived.Shelf.Strings.Search2
import Derived.Shelf.Strings.Search3
import Derived.Shelf.Strings.Count
import Derived.Shelf.Strings.Shaped
import Derived.Shelf.Strings.Split
import Derived.Shelf.Strings.SplitShaped
import Derived.Shelf.Unicode.Decode
import Derived.Shelf.Strings.RuneCount
import Derived.Shelf.Strings.Explode
import Derived.Shelf.Unicode.DecodeSlow
import Derived.Shelf.Unicode.DecodeAny
import Derived.Ground.SlgfProg
import Derived.Shelf.SlicesE.IndexFunc
import Derived.WalkKit
import Derived.Lib.Walk
import Derived.Lib.SliceRun
import Derived.Laws.AppendOwn
import Derived.Laws.OwnMore
import Derived.Deep.LoopGhost
import Derived.Shelf.RegionOpenPlain
set_option linter.unusedVariables false
set_option linter.unusedSimpArgs false
set_option maxRecDepth 100000
namespace Go.Proofs.YtfobhngpafbfdaaGreatDoor
open Go Go.Am Go.Proofs
noncomputable section
def ext155:Ext:=[(154,S154),(134,S134),(139,S139),(138,S138)]
theorem ext155Ok:ExtOk Tryz.prog ext155:=⟨⟨ca154,con154⟩,⟨ca134,con134⟩,⟨ca139,con139⟩,⟨ca138,con138⟩,trivial⟩
def b155:Code:=bodyOf Tryz.f155
theorem hb155:Tryz.f155.body=some b155:=by kernel_rfl
def sig155:List AT:=[AT.v YA3]
def tys155:List Ty:=[.bool]
def kds155:List RK:=[]
def oks155:List AT:=owns sig155
def P155 (x0:ByteArray×Int×Int×Int×Int×Unit):Prop:=True
def g155_0 (x0:ByteArray×Int×Int×Int×Int×Unit):Bool:=(if (g154_0 x0.1)=true then (if (g134_0 x0.2.1 1 100000)=true then (if (g134_0 x0.2.2.1 1 1000000)=true then (if (g139_0 x0.2.2.2.1)=true then g138_0 x0.2.2.2.2.1 else false) else false) else false) else false)
theorem at155 (x0:ByteArray×Int×Int×Int×Int×Unit) (h:P155 x0) (K:Ctx) (q:Nat→Value):AtV Tryz.prog 155 (PostR kds155 oks155 [⟨.bool,g155_0 x0⟩] [] [] q K) 26 K q [] [.code b155] (entE 0 0 sig155 (x0,())) (entL sig155 (x0,())):=by
 unfold P155 at h
 unfold g155_0
 by_cases b0:(g154_0 x0.1)=true
 ·try simp only [if_pos b0] at h ⊢
  by_cases b1:(g134_0 x0.2.1 1 100000)=true
  ·try simp only [if_pos b1] at h ⊢
   by_cases b2:(g134_0 x0.2.2.1 1 1000000)=true
   ·try simp only [if_pos b2] at h ⊢
    by_cases b3:(g139_0 x0.2.2.2.1)=true
    ·try simp only [if_pos b3] at h ⊢
     exact AtV.ret Tryz.func155 tabOk ext155Ok mixed false [] tys155 [true,true,true,true] (a1 trivial (a1 b0 (a1 trivial (a1 b1 (a1 trivial (a1 b2 (a1 trivial (a1 b3 (a1 trivial trivial))))))))) (by kernel_rfl)
    ·try simp only [if_neg b3] at h ⊢
     replace b3:=bf_ b3
     exact AtV.ret Tryz.func155 tabOk ext155Ok mixed false [] tys155 [true,true,true,false] (a1 trivial (a1 b0 (a1 trivial (a1 b1 (a1 trivial (a1 b2 (a1 trivial (a1 b3 trivial)))))))) (by kernel_rfl)
   ·try simp only [if_neg b2] at h ⊢
    replace b2:=bf_ b2
    exact AtV.ret Tryz.func155 tabOk ext155Ok mixed false [] tys155 [true,true,false,false] (a1 trivial (a1 b0 (a1 trivial (a1 b1 (a1 trivial (a1 b2 (a1 (rfl:false=false) trivial))))))) (by kernel_rfl)
  ·try simp only [if_neg b1] at h ⊢
   replace b1:=bf_ b1
   exact AtV.ret Tryz.func155 tabOk ext155Ok mixed false [] tys155 [true,false,false,false] (a1 trivial (a1 b0 (a1 trivial (a1 b1 (a1 (rfl:false=false) (a1 (rfl:false=false) trivial)))))) (by kernel_rfl)
 ·try simp only [if_neg b0] at h ⊢
  replace b0:=bf_ b0
  exact AtV.ret Tryz.func155 tabOk ext155Ok mixed false [] tys155 [false,false,false,false] (a1 trivial (a1 b0 (a1 (rfl:false=false) (a1 (rfl:false=false) (a1 (rfl:false=false) trivial))))) (by kernel_rfl)
def S155:Am.Spec:={ sig:=sig155,pre:=fun ⟨x0,_⟩=>P155 x0,res:=fun ⟨x0,_⟩=>[⟨.bool,g155_0 x0⟩],kds:=kds155 }
theorem con155:Contract Tryz.prog 155 S155:=contract_of Tryz.func155 hb155 (bl_ (by kernel_rfl)) (fun ⟨x0,_⟩ h _ K q=>at155 x0 h K q)
end
noncomputable section
def ext137:Ext:=[(155,S155)]
theorem ext137Ok:ExtOk Tryz.prog ext137:=⟨⟨ca155,con155⟩,trivial⟩
def b137:Code:=bodyOf Tryz.f137
theorem hb137:Tryz.f137.body=some b137:=by kernel_rfl
def sig137:List AT:=[AT.v (.sl YA3)]
def tys137:List Ty:=[.bool]
def kds137:List RK:=[]
def oks137:List AT:=owns sig137
def E137_2 (v7:Int) (x0:List TyB0):Env:=[(0,.a (.sl YA3 x0)),(5,.a (.sl YA3 x0)),(6,.a (.val (.int .i64 (x0.length:Int)))),(7,.a (.val (.int .i64 v7)))]
def L137_2 (v7:Int) (x0:List TyB0):Heap:=[]
mutual
def R137:Nat→List TyB0→List Dyn→Prop
 | 0,_,_=>False
 | n+1,x0,ds=>(R137_2 n (0) (x0) ds)
def R137_2:Nat→Int→List TyB0→List Dyn→Prop
 | 0,_,_,_=>False
 | n+1,v7,x0,ds=>(if (decide (v7<(x0.length:Int)))=true then ((0≤v7)∧(v7<(x0.length:Int))∧(if (!g155_0 (List.getD x0 (Int.toNat v7) (ByteArray.empty,0,0,0,0,())))=true then (ds=[Dyn.mk .bool false]) else (if (decide (v7>0))=true then ((InR .i64 (v7 - 1))∧((0≤v7 - 1)∧(v7 - 1<(x0.length:Int))∧(if (Op.bytesLess (ByteArray.toList (List.getD x0 (Int.toNat v7) (ByteArray.empty,0,0,0,0,())).1) (ByteArray.toList (List.getD x0 (Int.toNat (v7 - 1)) (ByteArray.empty,0,0,0,0,())).1)||ByteArray.toList (List.getD x0 (Int.toNat v7) (ByteArray.empty,0,0,0,0,())).1==ByteArray.toList (List.getD x0 (Int.toNat (v7 - 1)) (ByteArray.empty,0,0,0,0,())).1)=true then (ds=[Dyn.mk .bool false]) else ((InR .i64 (v7+1))∧(R137_2 n (v7+1) (x0) ds))))) else ((InR .i64 (v7+1))∧(R137_2 n (v7+1) (x0) ds))))) else (ds=[Dyn.mk .bool (decide ((x0.length:Int)≤16))]))
end
theorem snd137:∀ n,(∀ (x0:List TyB0) ds,R137 n x0 ds→∀ K q,AtV Tryz.prog 137 (PostR kds137 oks137 ds [] [] q K) 34 K q [] [.code b137] (entE 0 0 sig137 (x0,())) (entL sig137 (x0,())))∧(∀ (v7:Int) (x0:List TyB0) ds,R137_2 n v7 x0 ds→∀ K q,AtV Tryz.prog 137 (PostR kds137 oks137 ds [] [] q K) 34 K q [] (cutAt b137 2) (E137_2 v7 x0) (L137_2 v7 x0)):=by
 intro n
 induction n with
 | zero=>exact ⟨fun _ _ h=>by simp only [R137] at h,fun _ _ _ h=>by simp only [R137_2] at h⟩
 | succ n ih =>
 obtain ⟨ih,ih2⟩:=ih
 refine ⟨?_,?_⟩
 ·intro x0 ds h K q
  rw [R137] at h
  exact AtV.go tabOk ext137Ok mixed false [] [] [0,5,6,7] [] [] trivial (ih2 _ _ _ h K q) (by kernel_rfl)
 ·intro v7 x0 ds h K q
  rw [R137_2] at h
  by_cases b0:(decide (v7<(x0.length:Int)))=true
  ·rw [if_pos b0] at h
   obtain ⟨s0,s1,h⟩:=h
   by_cases b1:(!g155_0 (List.getD x0 (Int.toNat v7) (ByteArray.empty,0,0,0,0,())))=true
   ·rw [if_pos b1] at h
    subst h
    exact AtV.ret Tryz.func137 tabOk ext137Ok mixed false [] tys137 [true,true,true] (a1 b0 (a1 s0 (a1 s1 (a1 trivial (a1 b1 (a1 (rfl:true=true) trivial)))))) (by kernel_rfl)
   ·rw [if_neg b1] at h
    replace b1:=bf_ b1
    by_cases b2:(decide (v7>0))=true
    ·rw [if_pos b2] at h
     obtain ⟨s2,h⟩:=h
     obtain ⟨s3,s4,h⟩:=h
     by_cases b3:(Op.bytesLess (ByteArray.toList (List.getD x0 (Int.toNat v7) (ByteArray.empty,0,0,0,0,())).1) (ByteArray.toList (List.getD x0 (Int.toNat (v7 - 1)) (ByteArray.empty,0,0,0,0,())).1)||ByteArray.toList (List.getD x0 (Int.toNat v7) (ByteArray.empty,0,0,0,0,())).1==ByteArray.toList (List.getD x0 (Int.toNat (v7 - 1)) (ByteArray.empty,0,0,0,0,())).1)=true
     ·rw [if_pos b3] at h
      subst h
      exact AtV.ret Tryz.func137 tabOk ext137Ok mixed false [] tys137 [true,false,true,true] (a1 b0 (a1 s0 (a1 s1 (a1 trivial (a1 b1 (a1 b2 (a1 s2 (a1 s3 (a1 s4 (a1 b3 trivial)))))))))) (by kernel_rfl)
     ·rw [if_neg b3] at h
      replace b3:=bf_ b3
      obtain ⟨s5,h⟩:=h
      exact AtV.go tabOk ext137Ok mixed false [] [] [0,5,6,7] [] [true,false,true,false] (a1 b0 (a1 s0 (a1 s1 (a1 trivial (a1 b1 (a1 b2 (a1 s2 (a1 s3 (a1 s4 (a1 b3 (a1 s5 trivial))))))))))) (ih2 _ _ _ h K q) (by kernel_rfl)
    ·rw [if_neg b2] at h
     replace b2:=bf_ b2
     obtain ⟨s2,h⟩:=h
     exact AtV.go tabOk ext137Ok mixed false [] [] [0,5,6,7] [] [true,false,false,false] (a1 b0 (a1 s0 (a1 s1 (a1 trivial (a1 b1 (a1 b2 (a1 (rfl:false=false) (a1 s2 trivial)))))))) (ih2 _ _ _ h K q) (by kernel_rfl)
  ·rw [if_neg b0] at h
   replace b0:=bf_ b0
   subst h
   exact AtV.ret Tryz.func137 tabOk ext137Ok mixed false [] tys137 [false] (a1 b0 trivial) (by kernel_rfl)
def ok137 (x0:List TyB0) (i:Nat) (x:TyB0):Bool :=
 g155_0 x&&(i==0 || !(Op.bytesLess (ByteArray.toList x.1) (ByteArray.toList (x0.getD (i - 1) (ByteArray.empty,(0:Int),(0:Int),(0:Int),(0:Int),())).1)||ByteArray.toList x.1==ByteArray.toList (x0.getD (i - 1) (ByteArray.empty,(0:Int),(0:Int),(0:Int),(0:Int),())).1))
def g137_0 (x0:List TyB0):Bool:=allI (ok137 x0) 0 x0&&decide (x0.length≤16)
def P137 (x0:List TyB0):Prop:=True
theorem step137 (n i : Nat) (x0 : List TyB0) (hm : x0.length ≤ maxLen) (hi : i < x0.length) (ds : List Dyn) :
    (if ok137 x0 i (x0.getD i (ByteArray.empty, (0 : Int), (0 : Int), (0 : Int), (0 : Int), ())) = true then R137_2 n ((i : Int) + 1) x0 ds else ds = [⟨.bool, false⟩]) → R137_2 (n + 1) (i : Int) x0 ds := by
  intro h
  have hu := inR_up hm hi
  rw [R137_2, if_pos (by simp; omega)]
  refine ⟨by omega, by omega, ?_⟩
  simp only [Int.toNat_natCast]
  unfold ok137 at h
  by_cases h1 : g155_0 (x0.getD i (ByteArray.empty, (0 : Int), (0 : Int), (0 : Int), (0 : Int), ())) = true
  case neg =>
    have h1 := bf_ h1
    rw [h1] at h
    rw [if_pos (by rw [h1]; rfl)]
    simpa using h
  case pos =>
    rw [h1] at h
    rw [if_neg (by rw [h1]; simp)]
    by_cases h0 : (i : Int) > 0
    · rw [if_pos (by simpa using h0)]
      have hi0 : (i == 0) = false := by simp; omega
      have e : ((i : Int) - 1).toNat = i - 1 := by omega
      refine ⟨by rw [i64_iff]; have : maxLen ≤ 9223372036854775807 := by decide
                 omega, by omega, by omega, ?_⟩
      rw [e]
      by_cases h2 : (Op.bytesLess (ByteArray.toList (x0.getD i (ByteArray.empty, (0 : Int), (0 : Int), (0 : Int), (0 : Int), ())).1) (ByteArray.toList (x0.getD (i - 1) (ByteArray.empty, (0 : Int), (0 : Int), (0 : Int), (0 : Int), ())).1) || ByteArray.toList (x0.getD i (ByteArray.empty, (0 : Int), (0 : Int), (0 : Int), (0 : Int), ())).1 == ByteArray.toList (x0.getD (i - 1) (ByteArray.empty, (0 : Int), (0 : Int), (0 : Int), (0 : Int), ())).1) = true
      · rw [if_pos h2]
        rw [hi0, h2] at h
        simpa using h
      · rw [if_neg h2]
        rw [hi0, bf_ h2] at h
        exact ⟨hu, by simpa using h⟩
    · rw [if_neg (by simpa using h0)]
      have hi0 : (i == 0) = true := by simp; omega
      rw [hi0] at h
      exact ⟨hu, by simpa using h⟩
theorem top137 (x0:List TyB0) (hw:x0.length≤maxLen):R137 (x0.length+1+1) x0 [⟨.bool,g137_0 x0⟩]:=by
 rw [R137]
 have key:=loop_testI x0 (ByteArray.empty,(0:Int),(0:Int),(0:Int),(0:Int),()) (ok137 x0) [(⟨.bool,false⟩:Dyn)] [⟨.bool,decide (x0.length≤16)⟩] (fun n i ds=>R137_2 n i x0 ds) (fun n => ?_) (fun n i hi hok ds hr => ?_) (fun n i hi hok => ?_)
 ·unfold g137_0
  cases h:allI (ok137 x0) 0 x0 with
  | true=>rw [if_pos h] at key;simpa using key
  | false=>rw [if_neg (by rw [h];simp)] at key;simpa using key
 ·rw [R137_2,if_neg (by simp)]
  have hc:decide ((x0.length:Int)≤16)=decide (x0.length≤16):=by
   congr 1;exact propext ⟨fun h=>by omega,fun h=>by omega⟩
  rw [hc]
 ·exact step137 n i x0 hw hi ds (by rw [if_pos hok];exact hr)
 ·exact step137 n i x0 hw hi _ (by rw [if_neg (by rw [hok];simp)])
def S137:Am.Spec:={ sig:=sig137,pre:=fun ⟨x0,_⟩=>P137 x0,res:=fun ⟨x0,_⟩=>[⟨.bool,g137_0 x0⟩] }
theorem con137:Contract Tryz.prog 137 S137:=contract_of Tryz.func137 hb137 (bl_ (by kernel_rfl)) (fun ⟨x0,_⟩ h hwf K q =>
 (snd137 _).1 x0 _ (top137 x0 hwf.1.1) K q)
end
noncomputable section
def ext141:Ext:=[]
theorem ext141Ok:ExtOk Tryz.prog ext141:=trivial
def b141:Code:=bodyOf Tryz.f141
theorem hb141:Tryz.f141.body=some b141:=by kernel_rfl
def sig141:List AT:=[AT.v YA3,AT.p (.int .i64),AT.p (.int .i64)]
def tys141:List Ty:=[.bool]
def kds141:List RK:=[]
def oks141:List AT:=owns sig141
def P141 (x0:ByteArray×Int×Int×Int×Int×Unit) (x1:Int) (x2:Int):Prop:=True
def g141_0 (x0:ByteArray×Int×Int×Int×Int×Unit) (x1:Int) (x2:Int):Bool:=(if (decide (x0.2.2.2.1>x1))=true then true else decide (x0.2.2.2.2.1>x2))
theorem at141 (x0:ByteArray×Int×Int×Int×Int×Unit) (x1:Int) (x2:Int) (h:P141 x0 x1 x2) (K:Ctx) (q:Nat→Value):AtV Tryz.prog 141 (PostR kds141 oks141 [⟨.bool,g141_0 x0 x1 x2⟩] [] [] q K) 15 K q [] [.code b141] (entE 0 0 sig141 (x0,x1,x2,())) (entL sig141 (x0,x1,x2,())):=by
 unfold P141 at h
 unfold g141_0
 by_cases b0:(decide (x0.2.2.2.1>x1))=true
 ·try simp only [if_pos b0] at h ⊢
  exact AtV.ret Tryz.func141 tabOk ext141Ok mixed false [] tys141 [true] (a1 b0 trivial) (by kernel_rfl)
 ·try simp only [if_neg b0] at h ⊢
  replace b0:=bf_ b0
  exact AtV.ret Tryz.func141 tabOk ext141Ok mixed false [] tys141 [false] (a1 b0 trivial) (by kernel_rfl)
def S141:Am.Spec:={ sig:=sig141,pre:=fun ⟨x0,x1,x2,_⟩=>P141 x0 x1 x2,res:=fun ⟨x0,x1,x2,_⟩=>[⟨.bool,g141_0 x0 x1 x2⟩],kds:=kds141 }
theorem con141:Contract Tryz.prog 141 S141:=contract_of Tryz.func141 hb141 (bl_ (by kernel_rfl)) (fun ⟨x0,x1,x2,_⟩ h _ K q=>at141 x0 x1 x2 h K q)
end
noncomputable section
def ext156c141:Ext:=[(141,S141)]
theorem ext156c141Ok:ExtOk Tryz.prog ext156c141:=⟨⟨ca141,con141⟩,trivial⟩
def b156c141:Code:=bodyOf Tryz.f156
theorem hb156c141:Tryz.f156.body=some b156c141:=by kernel_rfl
def sig156c141:List AT:=[AT.v (.sl YA3),AT.fn 141 [(true,(.int .i64)),(true,(.int .i64))]]
def tys156c141:List Ty:=[.int .i64]
def kds156c141:List RK:=[]
def oks156c141:List AT:=owns sig156c141
def E156c141_2 (v8:Int) (x0:List TyB0) (x1:Int) (x1c:Int):Env:=[(0,.a (.sl YA3 x0)),(1,PV.fn 141 [Atom.ptr (.int .i64) x1,Atom.ptr (.int .i64) x1c]),(7,.a (.val (.int .i64 (x0.length:Int)))),(8,.a (.val (.int .i64 v8)))]
def L156c141_2 (v8:Int) (x0:List TyB0) (x1:Int) (x1c:Int):Heap:=[]
mutual
def R156c141:Nat→List TyB0→Int→Int→List Dyn→Prop
 | 0,_,_,_,_=>False
 | n+1,x0,x1,x1c,ds=>(R156c141_2 n (0) (x0) (x1) (x1c) ds)
def R156c141_2:Nat→Int→List TyB0→Int→Int→List Dyn→Prop
 | 0,_,_,_,_,_=>False
 | n+1,v8,x0,x1,x1c,ds=>(if (decide (v8<(x0.length:Int)))=true then ((0≤v8)∧(v8<(x0.length:Int))∧(if (g141_0 (List.getD x0 (Int.toNat v8) (ByteArray.empty,0,0,0,0,())) x1 x1c)=true then (ds=[Dyn.mk (.int .i64) v8]) else ((InR .i64 (v8+1))∧(R156c141_2 n (v8+1) (x0) (x1) (x1c) ds)))) else (ds=[Dyn.mk (.int .i64) (-1)]))
end
theorem snd156c141:∀ n,(∀ (x0:List TyB0) (x1:Int) (x1c:Int) ds,R156c141 n x0 x1 x1c ds→∀ K q,AtV Tryz.prog 156 (PostR kds156c141 oks156c141 ds [] [] q K) 19 K q [] [.code b156c141] (entE 0 0 sig156c141 (x0,(x1,x1c,()),())) (entL sig156c141 (x0,(x1,x1c,()),())))∧(∀ (v8:Int) (x0:List TyB0) (x1:Int) (x1c:Int) ds,R156c141_2 n v8 x0 x1 x1c ds→∀ K q,AtV Tryz.prog 156 (PostR kds156c141 oks156c141 ds [] [] q K) 19 K q [] (cutAt b156c141 2) (E156c141_2 v8 x0 x1 x1c) (L156c141_2 v8 x0 x1 x1c)):=by
 intro n
 induction n with
 | zero=>exact ⟨fun _ _ _ _ h=>by simp only [R156c141] at h,fun _ _ _ _ _ h=>by simp only [R156c141_2] at h⟩
 | succ n ih =>
 obtain ⟨ih,ih2⟩:=ih
 refine ⟨?_,?_⟩
 ·intro x0 x1 x1c ds h K q
  rw [R156c141] at h
  exact AtV.go tabOk ext156c141Ok mixed false [] [] [0,1,7,8] [] [] trivial (ih2 _ _ _ _ _ h K q) (by kernel_rfl)
 ·intro v8 x0 x1 x1c ds h K q
  rw [R156c141_2] at h
  by_cases b0:(decide (v8<(x0.length:Int)))=true
  ·rw [if_pos b0] at h
   obtain ⟨s0,s1,h⟩:=h
   by_cases b1:(g141_0 (List.getD x0 (Int.toNat v8) (ByteArray.empty,0,0,0,0,())) x1 x1c)=true
   ·rw [if_pos b1] at h
    subst h
    exact AtV.ret Tryz.func156 tabOk ext156c141Ok mixed false [] tys156c141 [true,true] (a1 b0 (a1 s0 (a1 s1 (a1 trivial (a1 b1 trivial))))) (by kernel_rfl)
   ·rw [if_neg b1] at h
    replace b1:=bf_ b1
    obtain ⟨s2,h⟩:=h
    exact AtV.go tabOk ext156c141Ok mixed false [] [] [0,1,7,8] [] [true,false] (a1 b0 (a1 s0 (a1 s1 (a1 trivial (a1 b1 (a1 s2 trivial)))))) (ih2 _ _ _ _ _ h K q) (by kernel_rfl)
  ·rw [if_neg b0] at h
   replace b0:=bf_ b0
   subst h
   exact AtV.ret Tryz.func156 tabOk ext156c141Ok mixed false [] tys156c141 [false] (a1 b0 trivial) (by kernel_rfl)
def g156c141_0 (x0:List TyB0) (y0:Int) (y1:Int):Int:=idx (x0.findIdx? (fun x=>g141_0 x y0 y1))
def P156c141 (x0:List TyB0) (y0:Int) (y1:Int):Prop:=True
theorem top156c141 (x0:List TyB0) (y0:Int) (y1:Int) (hm:x0.length≤maxLen):R156c141 (x0.length+1+1) x0 y0 y1 [⟨.int .i64,g156c141_0 x0 y0 y1⟩]:=by
 rw [R156c141]
 have key:=loop_find x0 (ByteArray.empty,(0:Int),(0:Int),(0:Int),(0:Int),()) (fun x=>g141_0 x y0 y1) [(⟨.int .i64, -1⟩:Dyn)] (fun k=>[⟨.int .i64,k⟩]) (fun n i ds=>R156c141_2 n i x0 y0 y1 ds) (fun n => ?_) (fun n i hi hok ds hr => ?_) (fun n i hi hok => ?_)
 ·unfold g156c141_0
  cases h:x0.findIdx? (fun x=>g141_0 x y0 y1) <;> rw [h] at key <;> exact key
 ·rw [R156c141_2,if_neg (by simp)]
 ·rw [R156c141_2,if_pos (by simp;omega)]
  simp only [Int.toNat_natCast]
  refine ⟨by omega,by omega,?_⟩
  rw [if_neg (by rw [hok];simp)]
  exact ⟨inR_up hm hi,hr⟩
 ·rw [R156c141_2,if_pos (by simp;omega)]
  simp only [Int.toNat_natCast]
  refine ⟨by omega,by omega,?_⟩
  rw [if_pos hok] <;> trivial
def S156c141:Am.Spec:={ sig:=sig156c141,pre:=fun ⟨x0,⟨y0,y1,_⟩,_⟩=>P156c141 x0 y0 y1,res:=fun ⟨x0,⟨y0,y1,_⟩,_⟩=>[⟨.int .i64,g156c141_0 x0 y0 y1⟩] }
theorem con156c141:Contract Tryz.prog 156 S156c141:=contract_of Tryz.func156 hb156c141 (bl_ (by kernel_rfl)) (fun ⟨x0,⟨y0,y1,_⟩,_⟩ h hwf K q =>
 (snd156c141 _).1 x0 y0 y1 _ (top156c141 x0 y0 y1 hwf.1.1) K q)
theorem any156c141 (x0:List TyB0) (y0:Int) (y1:Int):decide (g156c141_0 x0 y0 y1≥0)=x0.any (fun x=>g141_0 x y0 y1):=by
 have:=findIdx_any (fun x=>g141_0 x y0 y1) x0
 unfold g156c141_0
 cases h:x0.any (fun x=>g141_0 x y0 y1) with
 | true=>rw [h] at this;simpa using this
 | false=>rw [h] at this;simpa using this
end
noncomputable section
def ext140c141:Ext:=[(156,S156c141),(141,S141)]
theorem ext140c141Ok:ExtOk Tryz.prog ext140c141:=⟨⟨ca156,con156c141⟩,⟨ca141,con141⟩,trivial⟩
def b140c141:Code:=bodyOf Tryz.f140
theorem hb140c141:Tryz.f140.body=some b140c141:=by kernel_rfl
def sig140c141:List AT:=[AT.v (.sl YA3),AT.fn 141 [(true,(.int .i64)),(true,(.int .i64))]]
def tys140c141:List Ty:=[.bool]
def kds140c141:List RK:=[]
def oks140c141:List AT:=owns sig140c141
def P140c141 (x0:List TyB0) (x1:Int) (x1c:Int):Prop:=True
def g140c141_0 (x0:List TyB0) (x1:Int) (x1c:Int):Bool:=decide (g156c141_0 x0 x1 x1c≥0)
theorem at140c141 (x0:List TyB0) (x1:Int) (x1c:Int) (h:P140c141 x0 x1 x1c) (K:Ctx) (q:Nat→Value):AtV Tryz.prog 140 (PostR kds140c141 oks140c141 [⟨.bool,g140c141_0 x0 x1 x1c⟩] [] [] q K) 9 K q [] [.code b140c141] (entE 0 0 sig140c141 (x0,(x1,x1c,()),())) (entL sig140c141 (x0,(x1,x1c,()),())):=by
 unfold P140c141 at h
 unfold g140c141_0
 exact AtV.ret Tryz.func140 tabOk ext140c141Ok mixed false [] tys140c141 [] (a1 trivial trivial) (by kernel_rfl)
def S140c141:Am.Spec:={ sig:=sig140c141,pre:=fun ⟨x0,⟨x1,x1c,_⟩,_⟩=>P140c141 x0 x1 x1c,res:=fun ⟨x0,⟨x1,x1c,_⟩,_⟩=>[⟨.bool,g140c141_0 x0 x1 x1c⟩],kds:=kds140c141 }
theorem con140c141:Contract Tryz.prog 140 S140c141:=contract_of Tryz.func140 hb140c141 (bl_ (by kernel_rfl)) (fun ⟨x0,⟨x1,x1c,_⟩,_⟩ h _ K q=>at140c141 x0 x1 x1c h K q)
end
noncomputable section
def ext108:Ext:=[(137,S137),(138,S138),(139,S139),(140,S140c141)]
theorem ext108Ok:ExtOk Tryz.prog ext108:=⟨⟨ca137,con137⟩,⟨ca138,con138⟩,⟨ca139,con139⟩,⟨ca140,con140c141⟩,trivial⟩
def b108:Code:=bodyOf Tryz.f108
theorem hb108:Tryz.f108.body=some b108:=by kernel_rfl
def sig108:List AT:=[AT.v (.sl YA3),AT.v (.int .i64),AT.v (.int .i64),AT.v (.int .i64)]
def tys108:List Ty:=[.int .i64]
def kds108:List RK:=[]
def oks108:List AT:=owns sig108
def P108 (x0:List TyB0) (x1:Int) (x2:Int) (x3:Int):Prop:=True
def g108_0 (x0:List TyB0) (x1:Int) (x2:Int) (x3:Int):Int:=(if (!g137_0 x0)=true then 1 else (if (!g138_0 x3)=true then 2 else (if (!g139_0 x1)=true then 2 else (if (!g138_0 x2)=true then 2 else (if (g140c141_0 x0 x1 x2)=true then 6 else 0)))))
theorem at108 (x0:List TyB0) (x1:Int) (x2:Int) (x3:Int) (h:P108 x0 x1 x2 x3) (K:Ctx) (q:Nat→Value):AtV Tryz.prog 108 (PostR kds108 oks108 [⟨.int .i64,g108_0 x0 x1 x2 x3⟩] [] [] q K) 31 K q [] [.code b108] (entE 0 0 sig108 (x0,x1,x2,x3,())) (entL sig108 (x0,x1,x2,x3,())):=by
 unfold P108 at h
 unfold g108_0
 by_cases b0:(!g137_0 x0)=true
 ·try simp only [if_pos b0] at h ⊢
  exact AtV.ret Tryz.func108 tabOk ext108Ok mixed false [] tys108 [true] (a1 trivial (a1 b0 trivial)) (by kernel_rfl)
 ·try simp only [if_neg b0] at h ⊢
  replace b0:=bf_ b0
  by_cases b1:(!g138_0 x3)=true
  ·try simp only [if_pos b1] at h ⊢
   exact AtV.ret Tryz.func108 tabOk ext108Ok mixed false [] tys108 [false,true,true,true] (a1 trivial (a1 b0 (a1 trivial (a1 b1 (a1 (rfl:true=true) (a1 (rfl:true=true) trivial)))))) (by kernel_rfl)
  ·try simp only [if_neg b1] at h ⊢
   replace b1:=bf_ b1
   by_cases b2:(!g139_0 x1)=true
   ·try simp only [if_pos b2] at h ⊢
    exact AtV.ret Tryz.func108 tabOk ext108Ok mixed false [] tys108 [false,false,true,true] (a1 trivial (a1 b0 (a1 trivial (a1 b1 (a1 trivial (a1 b2 (a1 (rfl:true=true) trivial))))))) (by kernel_rfl)
   ·try simp only [if_neg b2] at h ⊢
    replace b2:=bf_ b2
    by_cases b3:(!g138_0 x2)=true
    ·try simp only [if_pos b3] at h ⊢
     exact AtV.ret Tryz.func108 tabOk ext108Ok mixed false [] tys108 [false,false,false,true] (a1 trivial (a1 b0 (a1 trivial (a1 b1 (a1 trivial (a1 b2 (a1 trivial (a1 b3 trivial)))))))) (by kernel_rfl)
    ·try simp only [if_neg b3] at h ⊢
     replace b3:=bf_ b3
     by_cases b4:(g140c141_0 x0 x1 x2)=true
     ·try simp only [if_pos b4] at h ⊢
      exact AtV.ret Tryz.func108 tabOk ext108Ok mixed false [] tys108 [false,false,false,false,true] (a1 trivial (a1 b0 (a1 trivial (a1 b1 (a1 trivial (a1 b2 (a1 trivial (a1 b3 (a1 trivial (a1 b4 trivial)))))))))) (by kernel_rfl)
     ·try simp only [if_neg b4] at h ⊢
      replace b4:=bf_ b4
      exact AtV.ret Tryz.func108 tabOk ext108Ok mixed false [] tys108 [false,false,false,false,false] (a1 trivial (a1 b0 (a1 trivial (a1 b1 (a1 trivial (a1 b2 (a1 trivial (a1 b3 (a1 trivial (a1 b4 trivial)))))))))) (by kernel_rfl)
def S108:Am.Spec:={ sig:=sig108,pre:=fun ⟨x0,x1,x2,x3,_⟩=>P108 x0 x1 x2 x3,res:=fun ⟨x0,x1,x2,x3,_⟩=>[⟨.int .i64,g108_0 x0 x1 x2 x3⟩],kds:=kds108 }
theorem con108:Contract Tryz.prog 108 S108:=contract_of Tryz.func108 hb108 (bl_ (by kernel_rfl)) (fun ⟨x0,x1,x2,x3,_⟩ h _ K q=>at108 x0 x1 x2 x3 h K q)
end
noncomputable section
def ext110:Ext:=[(134,S134)]
theorem ext110Ok:ExtOk Tryz.prog ext110:=⟨⟨ca134,con134⟩,trivial⟩
def b110:Code:=bodyOf Tryz.f110
theorem hb110:Tryz.f110.body=some b110:=by kernel_rfl
def sig110:List AT:=[AT.v (.int .i64)]
def tys110:List Ty:=[.bool]
def kds110:List RK:=[]
def oks110:List AT:=owns sig110
def P110 (x0:Int):Prop:=True
def g110_0 (x0:Int):Bool:=g134_0 x0 0 1440
theorem at110 (x0:Int) (h:P110 x0) (K:Ctx) (q:Nat→Value):AtV Tryz.prog 110 (PostR kds110 oks110 [⟨.bool,g110_0 x0⟩] [] [] q K) 5 K q [] [.code b110] (entE 0 0 sig110 (x0,())) (entL sig110 (x0,())):=by
 unfold P110 at h
 unfold g110_0
 exact AtV.ret Tryz.func110 tabOk ext110Ok mixed false [] tys110 [] (a1 trivial trivial) (by kernel_rfl)
def S110:Am.Spec:={ sig:=sig110,pre:=fun ⟨x0,_⟩=>P110 x0,res:=fun ⟨x0,_⟩=>[⟨.bool,g110_0 x0⟩],kds:=kds110 }
theorem con110:Contract Tryz.prog 110 S110:=contract_of Tryz.func110 hb110 (bl_ (by kernel_rfl)) (fun ⟨x0,_⟩ h _ K q=>at110 x0 h K q)
end
noncomputable section
def ext142:Ext:=[(110,S110),(134,S134)]
theorem ext142Ok:ExtOk Tryz.prog ext142:=⟨⟨ca110,con110⟩,⟨ca134,con134⟩,trivial⟩
def b142:Code:=bodyOf Tryz.f142
theorem hb142:Tryz.f142.body=some b142:=by kernel_rfl
def sig142:List AT:=[AT.v YA9]
def tys142:List Ty:=[.bool]
def kds142:List RK:=[]
def oks142:List AT:=owns sig142
def P142 (x0:Int×Int×Unit):Prop:=(if (g110_0 x0.1)=true then (if (g134_0 x0.2.1 1 1440)=true then ((InR .i64 (x0.1+x0.2.1))∧True) else True) else True)
def g142_0 (x0:Int×Int×Unit):Bool:=(if (g110_0 x0.1)=true then (if (g134_0 x0.2.1 1 1440)=true then decide (x0.1+x0.2.1≤1440) else false) else false)
theorem at142 (x0:Int×Int×Unit) (h:P142 x0) (K:Ctx) (q:Nat→Value):AtV Tryz.prog 142 (PostR kds142 oks142 [⟨.bool,g142_0 x0⟩] [] [] q K) 19 K q [] [.code b142] (entE 0 0 sig142 (x0,())) (entL sig142 (x0,())):=by
 unfold P142 at h
 unfold g142_0
 by_cases b0:(g110_0 x0.1)=true
 ·try simp only [if_pos b0] at h ⊢
  by_cases b1:(g134_0 x0.2.1 1 1440)=true
  ·try simp only [if_pos b1] at h ⊢
   obtain ⟨s0,h⟩:=h
   exact AtV.ret Tryz.func142 tabOk ext142Ok mixed false [] tys142 [true,true] (a1 trivial (a1 b0 (a1 trivial (a1 b1 (a1 s0 trivial))))) (by kernel_rfl)
  ·try simp only [if_neg b1] at h ⊢
   replace b1:=bf_ b1
   exact AtV.ret Tryz.func142 tabOk ext142Ok mixed false [] tys142 [true,false] (a1 trivial (a1 b0 (a1 trivial (a1 b1 trivial)))) (by kernel_rfl)
 ·try simp only [if_neg b0] at h ⊢
  replace b0:=bf_ b0
  exact AtV.ret Tryz.func142 tabOk ext142Ok mixed false [] tys142 [false,false] (a1 trivial (a1 b0 (a1 (rfl:false=false) trivial))) (by kernel_rfl)
def S142:Am.Spec:={ sig:=sig142,pre:=fun ⟨x0,_⟩=>P142 x0,res:=fun ⟨x0,_⟩=>[⟨.bool,g142_0 x0⟩],kds:=kds142 }
theorem con142:Contract Tryz.prog 142 S142:=contract_of Tryz.func142 hb142 (bl_ (by kernel_rfl)) (fun ⟨x0,_⟩ h _ K q=>at142 x0 h K q)
end
noncomputable section
def ext121:Ext:=[]
theorem ext121Ok:ExtOk Tryz.prog ext121:=trivial
def b121:Code:=bodyOf Tryz.f121
theorem hb121:Tryz.f121.body=some b121:=by kernel_rfl
def sig121:List AT:=[AT.v YA9]
def tys121:List Ty:=[.int .i64]
def kds121:List RK:=[]
def oks121:List AT:=owns sig121
def P121 (x0:Int×Int×Unit):Prop:=((InR .i64 (x0.1+x0.2.1))∧True)
def g121_0 (x0:Int×Int×Unit):Int:=x0.1+x0.2.1
theorem at121 (x0:Int×Int×Unit) (h:P121 x0) (K:Ctx) (q:Nat→Value):AtV Tryz.prog 121 (PostR kds121 oks121 [⟨.int .i64,g121_0 x0⟩] [] [] q K) 8 K q [] [.code b121] (entE 0 0 sig121 (x0,())) (entL sig121 (x0,())):=by
 unfold P121 at h
 unfold g121_0
 obtain ⟨s0,h⟩:=h
 exact AtV.ret Tryz.func121 tabOk ext121Ok mixed false [] tys121 [] (a1 s0 trivial) (by kernel_rfl)
def S121:Am.Spec:={ sig:=sig121,pre:=fun ⟨x0,_⟩=>P121 x0,res:=fun ⟨x0,_⟩=>[⟨.int .i64,g121_0 x0⟩],kds:=kds121 }
theorem con121:Contract Tryz.prog 121 S121:=contract_of Tryz.func121 hb121 (bl_ (by kernel_rfl)) (fun ⟨x0,_⟩ h _ K q=>at121 x0 h K q)
end
noncomputable section
def ext109:Ext:=[(142,S142),(121,S121)]
theorem ext109Ok:ExtOk Tryz.prog ext109:=⟨⟨ca142,con142⟩,⟨ca121,con121⟩,trivial⟩
def b109:Code:=bodyOf Tryz.f109
theorem hb109:Tryz.f109.body=some b109:=by kernel_rfl
def sig109:List AT:=[AT.v (.sl YA9)]
def tys109:List Ty:=[.bool]
def kds109:List RK:=[]
def oks109:List AT:=owns sig109
def E109_2 (v7:Int) (x0:List TyB4):Env:=[(0,.a (.sl YA9 x0)),(5,.a (.sl YA9 x0)),(6,.a (.val (.int .i64 (x0.length:Int)))),(7,.a (.val (.int .i64 v7)))]
def L109_2 (v7:Int) (x0:List TyB4):Heap:=[]
mutual
def R109:Nat→List TyB4→List Dyn→Prop
 | 0,_,_=>False
 | n+1,x0,ds=>(R109_2 n (0) (x0) ds)
def R109_2:Nat→Int→List TyB4→List Dyn→Prop
 | 0,_,_,_=>False
 | n+1,v7,x0,ds=>(if (decide (v7<(x0.length:Int)))=true then ((0≤v7)∧(v7<(x0.length:Int))∧((P142 (List.getD x0 (Int.toNat v7) (0,0,())))∧(if (!g142_0 (List.getD x0 (Int.toNat v7) (0,0,())))=true then (ds=[Dyn.mk .bool false]) else (if (decide (v7>0))=true then ((InR .i64 (v7 - 1))∧((0≤v7 - 1)∧(v7 - 1<(x0.length:Int))∧((P121 (List.getD x0 (Int.toNat (v7 - 1)) (0,0,())))∧(if (decide ((List.getD x0 (Int.toNat v7) (0,0,())).1<g121_0 (List.getD x0 (Int.toNat (v7 - 1)) (0,0,()))))=true then (ds=[Dyn.mk .bool false]) else ((InR .i64 (v7+1))∧(R109_2 n (v7+1) (x0) ds)))))) else ((InR .i64 (v7+1))∧(R109_2 n (v7+1) (x0) ds)))))) else (ds=[Dyn.mk .bool (decide ((x0.length:Int)≤24))]))
end
theorem snd109:∀ n,(∀ (x0:List TyB4) ds,R109 n x0 ds→∀ K q,AtV Tryz.prog 109 (PostR kds109 oks109 ds [] [] q K) 34 K q [] [.code b109] (entE 0 0 sig109 (x0,())) (entL sig109 (x0,())))∧(∀ (v7:Int) (x0:List TyB4) ds,R109_2 n v7 x0 ds→∀ K q,AtV Tryz.prog 109 (PostR kds109 oks109 ds [] [] q K) 34 K q [] (cutAt b109 2) (E109_2 v7 x0) (L109_2 v7 x0)):=by
 intro n
 induction n with
 | zero=>exact ⟨fun _ _ h=>by simp only [R109] at h,fun _ _ _ h=>by simp only [R109_2] at h⟩
 | succ n ih =>
 obtain ⟨ih,ih2⟩:=ih
 refine ⟨?_,?_⟩
 ·intro x0 ds h K q
  rw [R109] at h
  exact AtV.go tabOk ext109Ok mixed false [] [] [0,5,6,7] [] [] trivial (ih2 _ _ _ h K q) (by kernel_rfl)
 ·intro v7 x0 ds h K q
  rw [R109_2] at h
  by_cases b0:(decide (v7<(x0.length:Int)))=true
  ·rw [if_pos b0] at h
   obtain ⟨s0,s1,h⟩:=h
   obtain ⟨s2,h⟩:=h
   by_cases b1:(!g142_0 (List.getD x0 (Int.toNat v7) (0,0,())))=true
   ·rw [if_pos b1] at h
    subst h
    exact AtV.ret Tryz.func109 tabOk ext109Ok mixed false [] tys109 [true,true,true] (a1 b0 (a1 s0 (a1 s1 (a1 s2 (a1 b1 (a1 (rfl:true=true) trivial)))))) (by kernel_rfl)
   ·rw [if_neg b1] at h
    replace b1:=bf_ b1
    by_cases b2:(decide (v7>0))=true
    ·rw [if_pos b2] at h
     obtain ⟨s3,h⟩:=h
     obtain ⟨s4,s5,h⟩:=h
     obtain ⟨s6,h⟩:=h
     by_cases b3:(decide ((List.getD x0 (Int.toNat v7) (0,0,())).1<g121_0 (List.getD x0 (Int.toNat (v7 - 1)) (0,0,()))))=true
     ·rw [if_pos b3] at h
      subst h
      exact AtV.ret Tryz.func109 tabOk ext109Ok mixed false [] tys109 [true,false,true,true] (a1 b0 (a1 s0 (a1 s1 (a1 s2 (a1 b1 (a1 b2 (a1 s3 (a1 s4 (a1 s5 (a1 s6 (a1 b3 trivial))))))))))) (by kernel_rfl)
     ·rw [if_neg b3] at h
      replace b3:=bf_ b3
      obtain ⟨s7,h⟩:=h
      exact AtV.go tabOk ext109Ok mixed false [] [] [0,5,6,7] [] [true,false,true,false] (a1 b0 (a1 s0 (a1 s1 (a1 s2 (a1 b1 (a1 b2 (a1 s3 (a1 s4 (a1 s5 (a1 s6 (a1 b3 (a1 s7 trivial)))))))))))) (ih2 _ _ _ h K q) (by kernel_rfl)
    ·rw [if_neg b2] at h
     replace b2:=bf_ b2
     obtain ⟨s3,h⟩:=h
     exact AtV.go tabOk ext109Ok mixed false [] [] [0,5,6,7] [] [true,false,false,false] (a1 b0 (a1 s0 (a1 s1 (a1 s2 (a1 b1 (a1 b2 (a1 (rfl:false=false) (a1 s3 trivial)))))))) (ih2 _ _ _ h K q) (by kernel_rfl)
  ·rw [if_neg b0] at h
   replace b0:=bf_ b0
   subst h
   exact AtV.ret Tryz.func109 tabOk ext109Ok mixed false [] tys109 [false] (a1 b0 trivial) (by kernel_rfl)
def one109 (x:TyB4):Bool:=g142_0 x
def ok109 (x0:List TyB4) (i:Nat) (x:TyB4):Bool:=one109 x&&(i==0||decide ((x0.getD (i - 1) ((0:Int),(0:Int),())).1+(x0.getD (i - 1) ((0:Int),(0:Int),())).2.1≤x.1))
def g109_0 (x0:List TyB4):Bool:=allI (ok109 x0) 0 x0&&decide ((x0.length:Int)≤24)
def P109 (x0:List TyB4):Prop:=True
theorem in109 {x a b:Int}:g134_0 x a b=true↔a≤x∧x≤b:=by
 unfold g134_0
 by_cases c1:x≥a
 ·by_cases c2:x≤b
  ·simp [c1,c2]
  ·simp [c1,c2]
 ·have:¬ a≤x:=c1
  simp [c1,this]
theorem one109_pre (x:TyB4):P142 x:=by
 unfold P142
 split
 ·rename_i h1
  split
  ·rename_i h2
   have h1:=in109.1 (show g134_0 x.1 0 1440=true from h1)
   have h2:=in109.1 (show g134_0 x.2.1 1 1440=true from h2)
   exact ⟨by rw [i64_iff];omega,trivial⟩
  ·trivial
 ·trivial
theorem one109_b {x:TyB4} (h:one109 x=true):(0≤x.1∧x.1≤1440)∧(1≤x.2.1∧x.2.1≤1440):=by
 unfold one109 g142_0 at h
 split at h
 ·rename_i h0
  split at h
  ·rename_i h1
   exact ⟨in109.1 h0,in109.1 h1⟩
  ·cases h
 ·cases h
theorem run109 (x0:List TyB4) (hm:x0.length≤maxLen):∀ (k i:Nat),i+k=x0.length→(∀ j,j<i→one109 (x0.getD j ((0:Int),(0:Int),()))=true) →
  R109_2 (k+1) (i:Int) x0 [⟨.bool,allI (ok109 x0) i (x0.drop i)&&decide ((x0.length:Int)≤24)⟩]:=by
 intro k
 induction k with
 | zero =>
  intro i hi _
  rw [R109_2,if_neg (by simp only [decide_eq_true_eq];omega),drop_end _ _ (by omega)]
  rfl
 | succ k ih =>
  intro i hi hp
  have hlt:i<x0.length:=by omega
  have hu:=inR_up hm hlt
  have hmx:maxLen≤9223372036854775807:=by decide
  rw [R109_2,if_pos (by simp only [decide_eq_true_eq];omega),drop_get x0 i ((0:Int),(0:Int),()) hlt]
  simp only [Int.toNat_natCast,allI]
  refine ⟨by omega,by omega,one109_pre _,?_⟩
  cases h1:one109 (x0.getD i ((0:Int),(0:Int),())) with
  | false =>
   unfold one109 at h1
   rw [if_pos (by rw [h1];rfl)]
   have:ok109 x0 i (x0.getD i ((0:Int),(0:Int),()))=false:=by unfold ok109 one109;rw [h1];rfl
   rw [this];rfl
  | true =>
   have h1':=h1
   unfold one109 at h1
   rw [if_neg (by rw [h1];simp)]
   have hnext:=ih (i+1) (by omega) (fun j hj=>by
    rcases Nat.lt_or_ge j i with h | h
    ·exact hp j h
    ·have:j=i:=by omega
     subst this;exact h1')
   have e1:(((i+1:Nat)):Int)=(i:Int)+1:=by omega
   rw [e1] at hnext
   by_cases h0:(i:Int)>0
   ·rw [if_pos (by simpa using h0)]
    have hi0:(i==0)=false:=by simp;omega
    have e:((i:Int) - 1).toNat=i - 1:=by omega
    obtain ⟨b1,b2⟩:=one109_b (hp (i - 1) (by omega))
    have hd:InR .i64 ((i:Int) - 1):=by rw [i64_iff];omega
    simp only [e]
    refine ⟨hd,by omega,by omega,⟨by rw [i64_iff];show _≤(x0.getD (i - 1) ((0:Int),(0:Int),())).1+(x0.getD (i - 1) ((0:Int),(0:Int),())).2.1∧_;omega,trivial⟩,?_⟩
    by_cases hc:(x0.getD (i - 1) ((0:Int),(0:Int),())).1+(x0.getD (i - 1) ((0:Int),(0:Int),())).2.1≤(x0.getD i ((0:Int),(0:Int),())).1
    ·rw [if_neg (by show ¬ decide ((x0.getD i ((0:Int),(0:Int),())).1<(x0.getD (i - 1) ((0:Int),(0:Int),())).1+(x0.getD (i - 1) ((0:Int),(0:Int),())).2.1)=true;rw [decide_eq_true_eq];omega)]
     have:ok109 x0 i (x0.getD i ((0:Int),(0:Int),()))=true:=by unfold ok109;rw [h1',hi0,decide_eq_true hc];rfl
     rw [this,Bool.true_and]
     exact ⟨hu,hnext⟩
    ·rw [if_pos (by show decide ((x0.getD i ((0:Int),(0:Int),())).1<(x0.getD (i - 1) ((0:Int),(0:Int),())).1+(x0.getD (i - 1) ((0:Int),(0:Int),())).2.1)=true;rw [decide_eq_true_eq];omega)]
     have:ok109 x0 i (x0.getD i ((0:Int),(0:Int),()))=false:=by unfold ok109;rw [hi0,decide_eq_false hc,Bool.or_false,Bool.and_false]
     rw [this,Bool.false_and,Bool.false_and]
   ·rw [if_neg (by simpa using h0)]
    have hi0:(i==0)=true:=by simp;omega
    have:ok109 x0 i (x0.getD i ((0:Int),(0:Int),()))=true:=by unfold ok109;rw [h1',hi0];rfl
    rw [this,Bool.true_and]
    exact ⟨hu,hnext⟩
theorem top109 (x0:List TyB4) (hw:x0.length≤maxLen):R109 (x0.length+1+1) x0 [⟨.bool,g109_0 x0⟩]:=by
 rw [R109]
 exact run109 x0 hw x0.length 0 (by omega) (fun j hj=>by omega)
def S109:Am.Spec:={ sig:=sig109,pre:=fun ⟨x0,_⟩=>P109 x0,res:=fun ⟨x0,_⟩=>[⟨.bool,g109_0 x0⟩] }
theorem con109:Contract Tryz.prog 109 S109:=contract_of Tryz.func109 hb109 (bl_ (by kernel_rfl)) (fun ⟨x0,_⟩ h hwf K q =>
 (snd109 _).1 x0 _ (top109 x0 hwf.1.1) K q)
end
noncomputable section
def ext157:Ext:=[(134,S134)]
theorem ext157Ok:ExtOk Tryz.prog ext157:=⟨⟨ca134,con134⟩,trivial⟩
def b157:Code:=bodyOf Tryz.f157
theorem hb157:Tryz.f157.body=some b157:=by kernel_rfl
def sig157:List AT:=[AT.v (.int .i64)]
def tys157:List Ty:=[.bool]
def kds157:List RK:=[]
def oks157:List AT:=owns sig157
def P157 (x0:Int):Prop:=True
def g157_0 (x0:Int):Bool:=g134_0 x0 0 1439
theorem at157 (x0:Int) (h:P157 x0) (K:Ctx) (q:Nat→Value):AtV Tryz.prog 157 (PostR kds157 oks157 [⟨.bool,g157_0 x0⟩] [] [] q K) 5 K q [] [.code b157] (entE 0 0 sig157 (x0,())) (entL sig157 (x0,())):=by
 unfold P157 at h
 unfold g157_0
 exact AtV.ret Tryz.func157 tabOk ext157Ok mixed false [] tys157 [] (a1 trivial trivial) (by kernel_rfl)
def S157:Am.Spec:={ sig:=sig157,pre:=fun ⟨x0,_⟩=>P157 x0,res:=fun ⟨x0,_⟩=>[⟨.bool,g157_0 x0⟩],kds:=kds157 }
theorem con157:Contract Tryz.prog 157 S157:=contract_of Tryz.func157 hb157 (bl_ (by kernel_rfl)) (fun ⟨x0,_⟩ h _ K q=>at157 x0 h K q)
end
end Go.Proofs.YtfobhngpafbfdaaGreatDoor
set_option linter.unusedVariables false
set_option maxRecDepth 100000
namespace Go.Proofs
open Go.Shelf
def Tryz.laysM173_ren:Go.Shelf.Ren:=⟨fun | 173=>115 | 246=>146 | 283=>160 | 284=>161 | 285=>162 | 286=>163 | 129=>177 | 317=>176 | 318=>178 | 319=>179 | 320=>180 | 337=>188 | 338=>189 | n=>n,fun | 2=>2 | 3=>3 | 9=>9 | 4=>4 | 171=>208 | 0=>0 | 53=>209 | 37=>164 | 5=>5 | 173=>212 | 212=>223 | 51=>224 | 20=>20 | 213=>225 | 46=>205 | 232=>236 | 233=>237 | n=>n,fun | 17=>0 | 18=>1 | 19=>2 | n=>n⟩
theorem Tryz.laysM173:Go.Proofs.LaysM.n173 Tryz.prog Tryz.laysM173_ren:={
 mixed:=by kernel_rfl
 f129:=Tryz.func177.trans (congrArg some (by kernel_rfl))
 f173:=Tryz.func115.trans (congrArg some (by kernel_rfl))
 f246:=Tryz.func146.trans (congrArg some (by kernel_rfl))
 f283:=Tryz.func160.trans (congrArg some (by kernel_rfl))
 f284:=Tryz.func161.trans (congrArg some (by kernel_rfl))
 f285:=Tryz.func162.trans (congrArg some (by kernel_rfl))
 f286:=Tryz.func163.trans (congrArg some (by kernel_rfl))
 f317:=Tryz.func176.trans (congrArg some (by kernel_rfl))
 f318:=Tryz.func178.trans (congrArg some (by kernel_rfl))
 f319:=Tryz.func179.trans (congrArg some (by kernel_rfl))
 f320:=Tryz.func180.trans (congrArg some (by kernel_rfl))
 f337:=Tryz.func188.trans (congrArg some (by kernel_rfl))
 f338:=Tryz.func189.trans (congrArg some (by kernel_rfl))
 t0:=Tryz.underlying0
 a0:=Tryz.isAgg0
 z0:=Tryz.sizeOf0
 v0:=Tryz.zeroValue0
 t2:=Tryz.underlying2
 a2:=Tryz.isAgg2
 z2:=Tryz.sizeOf2
 v2:=Tryz.zeroValue2
 t3:=Tryz.underlying3
 a3:=Tryz.isAgg3
 z3:=Tryz.sizeOf3
 v3:=Tryz.zeroValue3
 t4:=Tryz.underlying4
 a4:=Tryz.isAgg4
 z4:=Tryz.sizeOf4
 v4:=Tryz.zeroValue4
 t5:=Tryz.underlying5
 a5:=Tryz.isAgg5
 z5:=Tryz.sizeOf5
 v5:=Tryz.zeroValue5
 t9:=Tryz.underlying9
 a9:=Tryz.isAgg9
 z9:=Tryz.sizeOf9
 v9:=Tryz.zeroValue9
 t20:=Tryz.underlying20
 a20:=Tryz.isAgg20
 z20:=Tryz.sizeOf20
 v20:=Tryz.zeroValue20
 t37:=Tryz.underlying164
 a37:=Tryz.isAgg164
 z37:=Tryz.sizeOf164
 v37:=Tryz.zeroValue164
 t46:=Tryz.underlying205
 a46:=Tryz.isAgg205
 z46:=Tryz.sizeOf205
 v46:=Tryz.zeroValue205
 t51:=Tryz.underlying224
 a51:=Tryz.isAgg224
 z51:=Tryz.sizeOf224
 v51:=Tryz.zeroValue224
 t53:=Tryz.underlying209
 a53:=Tryz.isAgg209
 z53:=Tryz.sizeOf209
 v53:=Tryz.zeroValue209
 t171:=Tryz.underlying208
 a171:=Tryz.isAgg208
 z171:=Tryz.sizeOf208
 v171:=Tryz.zeroValue208
 t173:=Tryz.underlying212
 a173:=Tryz.isAgg212
 z173:=Tryz.sizeOf212
 v173:=Tryz.zeroValue212
 t212:=Tryz.underlying223
 a212:=Tryz.isAgg223
 z212:=Tryz.sizeOf223
 v212:=Tryz.zeroValue223
 t213:=Tryz.underlying225
 a213:=Tryz.isAgg225
 z213:=Tryz.sizeOf225
 t232:=Tryz.underlying236
 a232:=Tryz.isAgg236
 z232:=Tryz.sizeOf236
 v232:=Tryz.zeroValue236
 t233:=Tryz.underlying237
 a233:=Tryz.isAgg237
 z233:=Tryz.sizeOf237
 v233:=Tryz.zeroValue237
 g17:=by kernel_rfl
 g18:=by kernel_rfl
 g19:=by kernel_rfl
 i0:=by kernel_rfl
 i2:=by kernel_rfl
 i3:=by kernel_rfl
 i4:=by kernel_rfl
 i5:=by kernel_rfl
 i9:=by kernel_rfl
 i20:=by kernel_rfl
 i37:=by kernel_rfl
 i46:=by kernel_rfl
 i51:=by kernel_rfl
 i53:=by kernel_rfl
 i171:=by kernel_rfl
 i173:=by kernel_rfl
 i212:=by kernel_rfl
 i232:=by kernel_rfl
 i233:=by kernel_rfl
 m17:=by kernel_rfl
 m18:=by kernel_rfl
 m19:=by kernel_rfl }
open Go.RowKit Go.Sort Go.Lib in theorem Tryz.strconv_FormatInt_10 (n : Int) (h0 : -9223372036854775808 ≤ n) (h1 : n ≤ 9223372036854775807) (w : World) (htab : Lib.TabIs Tryz.prog w "internal/strconv.uint64pow10" .u64 Lib.pow10Tab) :
    Calls Tryz.prog 115 #[.int .i64 n, .int .i64 10] w fun e w' => e = .returned (.string ⟨(Lib.itoa n).toArray⟩) ∧ ∃ k os, w' = grow (w.drewN k) os := Any.strconv_FormatInt_10 Tryz.laysM173 n h0 h1 w htab
def Tryz.lays146_ren:Go.Shelf.Ren:=⟨fun | 146=>173 | 221=>185 | 268=>191 | 138=>192 | 143=>193 | 195=>195 | 197=>196 | 218=>197 | 219=>198 | 260=>199 | 217=>200 | 225=>201 | 224=>202 | 267=>203 | 266=>204 | 314=>205 | n=>n,fun | 9=>9 | 31=>142 | 3=>3 | 4=>4 | 0=>0 | 105=>239 | 21=>21 | 5=>5 | 46=>205 | 119=>242 | 139=>245 | 138=>244 | 146=>246 | 51=>224 | n=>n,fun | 1=>3 | 3=>4 | 4=>5 | n=>n⟩
theorem Tryz.lays146:Go.Proofs.Lays.n146 Tryz.prog Tryz.lays146_ren:={
 mixed:=by kernel_rfl
 f138:=Tryz.func192.trans (congrArg some (by kernel_rfl))
 f143:=Tryz.func193.trans (congrArg some (by kernel_rfl))
 f146:=Tryz.func173.trans (congrArg some (by kernel_rfl))
 f195:=Tryz.func195.trans (congrArg some (by kernel_rfl))
 f197:=Tryz.func196.trans (congrArg some (by kernel_rfl))
 f217:=Tryz.func200.trans (congrArg some (by kernel_rfl))
 f218:=Tryz.func197.trans (congrArg some (by kernel_rfl))
 f219:=Tryz.func198.trans (congrArg some (by kernel_rfl))
 f221:=Tryz.func185.trans (congrArg some (by kernel_rfl))
 f224:=Tryz.func202.trans (congrArg some (by kernel_rfl))
 f225:=Tryz.func201.trans (congrArg some (by kernel_rfl))
 f260:=Tryz.func199.trans (congrArg some (by kernel_rfl))
 f266:=Tryz.func204.trans (congrArg some (by kernel_rfl))
 f267:=Tryz.func203.trans (congrArg some (by kernel_rfl))
 f268:=Tryz.func191.trans (congrArg some (by kernel_rfl))
 f314:=Tryz.func205.trans (congrArg some (by kernel_rfl))
 t0:=Tryz.underlying0
 a0:=Tryz.isAgg0
 z0:=Tryz.sizeOf0
 v0:=Tryz.zeroValue0
 t3:=Tryz.underlying3
 a3:=Tryz.isAgg3
 z3:=Tryz.sizeOf3
 v3:=Tryz.zeroValue3
 t4:=Tryz.underlying4
 a4:=Tryz.isAgg4
 z4:=Tryz.sizeOf4
 v4:=Tryz.zeroValue4
 t5:=Tryz.underlying5
 a5:=Tryz.isAgg5
 z5:=Tryz.sizeOf5
 v5:=Tryz.zeroValue5
 t9:=Tryz.underlying9
 a9:=Tryz.isAgg9
 z9:=Tryz.sizeOf9
 v9:=Tryz.zeroValue9
 t21:=Tryz.underlying21
 a21:=Tryz.isAgg21
 z21:=Tryz.sizeOf21
 v21:=Tryz.zeroValue21
 t31:=Tryz.underlying142
 a31:=Tryz.isAgg142
 z31:=Tryz.sizeOf142
 v31:=Tryz.zeroValue142
 t46:=Tryz.underlying205
 a46:=Tryz.isAgg205
 z46:=Tryz.sizeOf205
 v46:=Tryz.zeroValue205
 t51:=Tryz.underlying224
 a51:=Tryz.isAgg224
 z51:=Tryz.sizeOf224
 v51:=Tryz.zeroValue224
 t105:=Tryz.underlying239
 a105:=Tryz.isAgg239
 z105:=Tryz.sizeOf239
 v105:=Tryz.zeroValue239
 t119:=Tryz.underlying242
 a119:=Tryz.isAgg242
 z119:=Tryz.sizeOf242
 t138:=Tryz.underlying244
 a138:=Tryz.isAgg244
 z138:=Tryz.sizeOf244
 v138:=Tryz.zeroValue244
 t139:=Tryz.underlying245
 a139:=Tryz.isAgg245
 z139:=Tryz.sizeOf245
 v139:=Tryz.zeroValue245
 t146:=Tryz.underlying246
 a146:=Tryz.isAgg246
 z146:=Tryz.sizeOf246
 v146:=Tryz.zeroValue246
 g1:=by kernel_rfl
 g3:=by kernel_rfl
 g4:=by kernel_rfl }
open Go.RowKit Go.Lib in theorem Tryz.strings_Split (s sep : ByteArray) (m : Int) (w : World) (hs : s.size < 4294967281) (hm : w.cell? ⟨3, 0, none⟩ = some (.int .i64 m)) (h1 : 1 ≤ sep.size) :
    Calls Tryz.prog 173 #[.string s, .string sep] w fun e w' =>
      e = .returned (.slice (some ⟨w.heap.size, 0, none⟩) (Lib.countB s sep + 1) (Lib.countB s sep + 1)) ∧ w' = w.alloc (.cells ((Lib.splitB sep 0 (Lib.countB s sep) s).map Value.string).toArray 9) := Any.strings_Split Tryz.lays146 (by kernel_rfl) s sep m w hs hm h1
end Go.Proofs
set_option linter.unusedVariables false
set_option linter.unusedSimpArgs false
set_option maxRecDepth 100000
namespace Go.Proofs.YtfobhngpafbfdaaGreatDoor
open Go Go.Am Go.Proofs
def sig173:List AT:=[AT.v Ty.str,AT.v Ty.str]
def g173_0 (x0 x1:ByteArray):List ByteArray:=Lib.splitB x1 0 (Lib.countB x0 x1) x0
def P173 (x0 x1:ByteArray):Prop:=x0.size<4294967281∧1≤x1.size
def S173:Am.Spec:={ sig:=sig173,pre:=fun ⟨x0,x1,_⟩=>P173 x0 x1,res:=fun ⟨x0,x1,_⟩=>[⟨Ty.sl Ty.str,g173_0 x0 x1⟩] }
theorem con173:Contract Tryz.prog 173 S173:=by
 refine Contract0.up rfl rfl ?_
 rintro w ⟨x0,x1,u⟩ vs bss hgo hp ⟨v0,s0,b0,bs0,rfl,rfl,⟨rfl,rfl,_⟩,v1,s1,b1,bs1,rfl,rfl,⟨rfl,rfl,_⟩,rfl,rfl⟩ hn
 obtain ⟨hs,h1⟩:x0.size<4294967281∧1≤x1.size:=hp
 obtain ⟨m,hm⟩:=maxLenG hgo.inv
 refine (Tryz.strings_Split x0 x1 m w hs hm h1).mono ?_
 rintro e w' ⟨rfl,rfl⟩
 have hlen:(g173_0 x0 x1).length=Lib.countB x0 x1+1:=Lib.splitB_all x1 h1 0 _ _ rfl
 have hle:=Lib.countB_le x1 h1 x0.size x0 (Nat.le_refl _)
 have hparts:∀ y∈g173_0 x0 x1,y.size≤maxLen:=fun y hy=>by
  have:=splitB_part x1 0 _ _ y hy
  unfold maxLen;omega
 have e1:∀ xs:List ByteArray,fcs .str xs=xs.map Value.string:=by
  intro xs
  induction xs with
  | nil=>rfl
  | cons a r ih=>unfold fcs at ih ⊢;rw [List.map_cons,List.flatten_cons,ih];rfl
 have ho:OwnC (w.alloc (.cells ((g173_0 x0 x1).map Value.string).toArray 9)) (.sl .str) (g173_0 x0 x1) [.slice (some ⟨w.heap.size,0,none⟩) (Lib.countB x0 x1+1) (Lib.countB x0 x1+1)] [w.heap.size] :=
  own_flat_mk rfl hparts hlen.symm (Nat.le_of_eq hlen) (by unfold maxLen;omega) (by rw [List.size_toArray,List.length_map,hlen];simp [Ty.size]) (heap_new w _) (freeS_zero _ _) (fun j u hj=>by
   rw [e1] at hj
   rw [Nat.zero_add, ← Array.getElem?_toList]
   exact hj)
 refine ⟨[_],[],[[w.heap.size]],rfl,(Kept.refl _ _).alloc _,⟨_,_,_,_,_,rfl,rfl,ho,rfl,rfl,rfl⟩,⟨rfl,rfl⟩,by simp,fun b hb hg => ?_⟩
 simp at hb
 have:=hg.1
 omega
noncomputable section
def ext187:Ext:=[]
theorem ext187Ok:ExtOk Tryz.prog ext187:=trivial
def b187:Code:=bodyOf Tryz.f187
theorem hb187:Tryz.f187.body=some b187:=by kernel_rfl
def sig187:List AT:=[AT.v (.int .u8)]
def tys187:List Ty:=[.bool]
def kds187:List RK:=[]
def oks187:List AT:=owns sig187
def P187 (x0:Int):Prop:=True
def g187_0 (x0:Int):Bool:=(if (decide (x0<97))=true then (if (decide (x0<48))=true then true else decide (x0>57)) else (if (decide (x0>122))=true then (if (decide (x0<48))=true then true else decide (x0>57)) else false))
theorem at187 (x0:Int) (h:P187 x0) (K:Ctx) (q:Nat→Value):AtV Tryz.prog 187 (PostR kds187 oks187 [⟨.bool,g187_0 x0⟩] [] [] q K) 17 K q [] [.code b187] (entE 0 0 sig187 (x0,())) (entL sig187 (x0,())):=by
 unfold P187 at h
 unfold g187_0
 by_cases b0:(decide (x0<97))=true
 ·try simp only [if_pos b0] at h ⊢
  by_cases b1:(decide (x0<48))=true
  ·try simp only [if_pos b1] at h ⊢
   exact AtV.ret Tryz.func187 tabOk ext187Ok mixed false [] tys187 [true,true,true] (a1 b0 (a1 (rfl:true=true) (a1 b1 trivial))) (by kernel_rfl)
  ·try simp only [if_neg b1] at h ⊢
   replace b1:=bf_ b1
   exact AtV.ret Tryz.func187 tabOk ext187Ok mixed false [] tys187 [true,true,false] (a1 b0 (a1 (rfl:true=true) (a1 b1 trivial))) (by kernel_rfl)
 ·try simp only [if_neg b0] at h ⊢
  replace b0:=bf_ b0
  by_cases b1:(decide (x0>122))=true
  ·try simp only [if_pos b1] at h ⊢
   by_cases b2:(decide (x0<48))=true
   ·try simp only [if_pos b2] at h ⊢
    exact AtV.ret Tryz.func187 tabOk ext187Ok mixed false [] tys187 [false,true,true] (a1 b0 (a1 b1 (a1 b2 trivial))) (by kernel_rfl)
   ·try simp only [if_neg b2] at h ⊢
    replace b2:=bf_ b2
    exact AtV.ret Tryz.func187 tabOk ext187Ok mixed false [] tys187 [false,true,false] (a1 b0 (a1 b1 (a1 b2 trivial))) (by kernel_rfl)
  ·try simp only [if_neg b1] at h ⊢
   replace b1:=bf_ b1
   exact AtV.ret Tryz.func187 tabOk ext187Ok mixed false [] tys187 [false,false] (a1 b0 (a1 b1 trivial)) (by kernel_rfl)
def S187:Am.Spec:={ sig:=sig187,pre:=fun ⟨x0,_⟩=>P187 x0,res:=fun ⟨x0,_⟩=>[⟨.bool,g187_0 x0⟩],kds:=kds187 }
theorem con187:Contract Tryz.prog 187 S187:=contract_of Tryz.func187 hb187 (bl_ (by kernel_rfl)) (fun ⟨x0,_⟩ h _ K q=>at187 x0 h K q)
end
noncomputable section
def ext194c187:Ext:=[(187,S187)]
theorem ext194c187Ok:ExtOk Tryz.prog ext194c187:=⟨⟨ca187,con187⟩,trivial⟩
def b194c187:Code:=bodyOf Tryz.f194
theorem hb194c187:Tryz.f194.body=some b194c187:=by kernel_rfl
def sig194c187:List AT:=[AT.v (.sl (.int .u8)),AT.fn 187 []]
def tys194c187:List Ty:=[.int .i64]
def kds194c187:List RK:=[]
def oks194c187:List AT:=owns sig194c187
def E194c187_2 (v8:Int) (x0:List Int):Env:=[(0,.a (.sl (.int .u8) x0)),(1,PV.fn 187 []),(7,.a (.val (.int .i64 (x0.length:Int)))),(8,.a (.val (.int .i64 v8)))]
def L194c187_2 (v8:Int) (x0:List Int):Heap:=[]
mutual
def R194c187:Nat→List Int→List Dyn→Prop
 | 0,_,_=>False
 | n+1,x0,ds=>(R194c187_2 n (0) (x0) ds)
def R194c187_2:Nat→Int→List Int→List Dyn→Prop
 | 0,_,_,_=>False
 | n+1,v8,x0,ds=>(if (decide (v8<(x0.length:Int)))=true then ((0≤v8)∧(v8<(x0.length:Int))∧(if (g187_0 (List.getD x0 (Int.toNat v8) 0))=true then (ds=[Dyn.mk (.int .i64) v8]) else ((InR .i64 (v8+1))∧(R194c187_2 n (v8+1) (x0) ds)))) else (ds=[Dyn.mk (.int .i64) (-1)]))
end
theorem snd194c187:∀ n,(∀ (x0:List Int) ds,R194c187 n x0 ds→∀ K q,AtV Tryz.prog 194 (PostR kds194c187 oks194c187 ds [] [] q K) 19 K q [] [.code b194c187] (entE 0 0 sig194c187 (x0,(),())) (entL sig194c187 (x0,(),())))∧(∀ (v8:Int) (x0:List Int) ds,R194c187_2 n v8 x0 ds→∀ K q,AtV Tryz.prog 194 (PostR kds194c187 oks194c187 ds [] [] q K) 19 K q [] (cutAt b194c187 2) (E194c187_2 v8 x0) (L194c187_2 v8 x0)):=by
 intro n
 induction n with
 | zero=>exact ⟨fun _ _ h=>by simp only [R194c187] at h,fun _ _ _ h=>by simp only [R194c187_2] at h⟩
 | succ n ih =>
 obtain ⟨ih,ih2⟩:=ih
 refine ⟨?_,?_⟩
 ·intro x0 ds h K q
  rw [R194c187] at h
  exact AtV.go tabOk ext194c187Ok mixed false [] [] [0,1,7,8] [] [] trivial (ih2 _ _ _ h K q) (by kernel_rfl)
 ·intro v8 x0 ds h K q
  rw [R194c187_2] at h
  by_cases b0:(decide (v8<(x0.length:Int)))=true
  ·rw [if_pos b0] at h
   obtain ⟨s0,s1,h⟩:=h
   by_cases b1:(g187_0 (List.getD x0 (Int.toNat v8) 0))=true
   ·rw [if_pos b1] at h
    subst h
    exact AtV.ret Tryz.func194 tabOk ext194c187Ok mixed false [] tys194c187 [true,true] (a1 b0 (a1 s0 (a1 s1 (a1 trivial (a1 b1 trivial))))) (by kernel_rfl)
   ·rw [if_neg b1] at h
    replace b1:=bf_ b1
    obtain ⟨s2,h⟩:=h
    exact AtV.go tabOk ext194c187Ok mixed false [] [] [0,1,7,8] [] [true,false] (a1 b0 (a1 s0 (a1 s1 (a1 trivial (a1 b1 (a1 s2 trivial)))))) (ih2 _ _ _ h K q) (by kernel_rfl)
  ·rw [if_neg b0] at h
   replace b0:=bf_ b0
   subst h
   exact AtV.ret Tryz.func194 tabOk ext194c187Ok mixed false [] tys194c187 [false] (a1 b0 trivial) (by kernel_rfl)
def g194c187_0 (x0:List (Int)):Int:=idx (x0.findIdx? g187_0)
def P194c187 (x0:List (Int)):Prop:=True
theorem top194c187 (x0:List (Int)) (hm:x0.length≤maxLen):R194c187 (x0.length+1+1) x0 [⟨.int .i64,g194c187_0 x0⟩]:=by
 rw [R194c187]
 have key:=loop_find x0 (0:Int) g187_0 [(⟨.int .i64, -1⟩:Dyn)] (fun k=>[⟨.int .i64,k⟩]) (fun n i ds=>R194c187_2 n i x0 ds) (fun n => ?_) (fun n i hi hok ds hr => ?_) (fun n i hi hok => ?_)
 ·unfold g194c187_0
  cases h:x0.findIdx? g187_0 <;> rw [h] at key <;> exact key
 ·rw [R194c187_2,if_neg (by simp)]
 ·rw [R194c187_2,if_pos (by simp;omega)]
  simp only [Int.toNat_natCast]
  refine ⟨by omega,by omega,?_⟩
  rw [if_neg (by rw [hok];simp)]
  exact ⟨inR_up hm hi,hr⟩
 ·rw [R194c187_2,if_pos (by simp;omega)]
  simp only [Int.toNat_natCast]
  refine ⟨by omega,by omega,?_⟩
  rw [if_pos hok] <;> trivial
def S194c187:Am.Spec:={ sig:=sig194c187,pre:=fun ⟨x0,_⟩=>P194c187 x0,res:=fun ⟨x0,_⟩=>[⟨.int .i64,g194c187_0 x0⟩] }
theorem con194c187:Contract Tryz.prog 194 S194c187:=contract_of Tryz.func194 hb194c187 (bl_ (by kernel_rfl)) (fun ⟨x0,_⟩ h hwf K q =>
 (snd194c187 _).1 x0 _ (top194c187 x0 hwf.1.1) K q)
theorem any194c187 (x0:List (Int)):decide (g194c187_0 x0≥0)=x0.any g187_0:=by
 have:=findIdx_any g187_0 x0
 unfold g194c187_0
 cases h:x0.any g187_0 with
 | true=>rw [h] at this;simpa using this
 | false=>rw [h] at this;simpa using this
end
noncomputable section
def ext186c187:Ext:=[(194,S194c187),(187,S187)]
theorem ext186c187Ok:ExtOk Tryz.prog ext186c187:=⟨⟨ca194,con194c187⟩,⟨ca187,con187⟩,trivial⟩
def b186c187:Code:=bodyOf Tryz.f186
theorem hb186c187:Tryz.f186.body=some b186c187:=by kernel_rfl
def sig186c187:List AT:=[AT.v (.sl (.int .u8)),AT.fn 187 []]
def tys186c187:List Ty:=[.bool]
def kds186c187:List RK:=[]
def oks186c187:List AT:=owns sig186c187
def P186c187 (x0:List Int):Prop:=True
def g186c187_0 (x0:List Int):Bool:=decide (g194c187_0 x0≥0)
theorem at186c187 (x0:List Int) (h:P186c187 x0) (K:Ctx) (q:Nat→Value):AtV Tryz.prog 186 (PostR kds186c187 oks186c187 [⟨.bool,g186c187_0 x0⟩] [] [] q K) 9 K q [] [.code b186c187] (entE 0 0 sig186c187 (x0,(),())) (entL sig186c187 (x0,(),())):=by
 unfold P186c187 at h
 unfold g186c187_0
 exact AtV.ret Tryz.func186 tabOk ext186c187Ok mixed false [] tys186c187 [] (a1 trivial trivial) (by kernel_rfl)
def S186c187:Am.Spec:={ sig:=sig186c187,pre:=fun ⟨x0,_⟩=>P186c187 x0,res:=fun ⟨x0,_⟩=>[⟨.bool,g186c187_0 x0⟩],kds:=kds186c187 }
theorem con186c187:Contract Tryz.prog 186 S186c187:=contract_of Tryz.func186 hb186c187 (bl_ (by kernel_rfl)) (fun ⟨x0,_⟩ h _ K q=>at186c187 x0 h K q)
end
noncomputable section
def ext175:Ext:=[(186,S186c187)]
theorem ext175Ok:ExtOk Tryz.prog ext175:=⟨⟨ca186,con186c187⟩,trivial⟩
def b175:Code:=bodyOf Tryz.f175
theorem hb175:Tryz.f175.body=some b175:=by kernel_rfl
def sig175:List AT:=[AT.v (.str)]
def tys175:List Ty:=[.bool]
def kds175:List RK:=[]
def oks175:List AT:=owns sig175
def P175 (x0:ByteArray):Prop:=True
def g175_0 (x0:ByteArray):Bool:=(if (!ByteArray.toList x0==ByteArray.toList (ByteArray.mk #[]))=true then !g186c187_0 (bytesOf x0) else false)
theorem at175 (x0:ByteArray) (h:P175 x0) (K:Ctx) (q:Nat→Value):AtV Tryz.prog 175 (PostR kds175 oks175 [⟨.bool,g175_0 x0⟩] [] [] q K) 11 K q [] [.code b175] (entE 0 0 sig175 (x0,())) (entL sig175 (x0,())):=by
 unfold P175 at h
 unfold g175_0
 by_cases b0:(!ByteArray.toList x0==ByteArray.toList (ByteArray.mk #[]))=true
 ·try simp only [if_pos b0] at h ⊢
  exact AtV.ret Tryz.func175 tabOk ext175Ok mixed false [] tys175 [true] (a1 b0 (a1 trivial trivial)) (by kernel_rfl)
 ·try simp only [if_neg b0] at h ⊢
  replace b0:=bf_ b0
  exact AtV.ret Tryz.func175 tabOk ext175Ok mixed false [] tys175 [false] (a1 b0 trivial) (by kernel_rfl)
def S175:Am.Spec:={ sig:=sig175,pre:=fun ⟨x0,_⟩=>P175 x0,res:=fun ⟨x0,_⟩=>[⟨.bool,g175_0 x0⟩],kds:=kds175 }
theorem con175:Contract Tryz.prog 175 S175:=contract_of Tryz.func175 hb175 (bl_ (by kernel_rfl)) (fun ⟨x0,_⟩ h _ K q=>at175 x0 h K q)
end
noncomputable section
def ext174:Ext:=[(175,S175)]
theorem ext174Ok:ExtOk Tryz.prog ext174:=⟨⟨ca175,con175⟩,trivial⟩
def b174:Code:=bodyOf Tryz.f174
theorem hb174:Tryz.f174.body=some b174:=by kernel_rfl
def sig174:List AT:=[AT.v (.str)]
def tys174:List Ty:=[.bool]
def kds174:List RK:=[]
def oks174:List AT:=owns sig174
def P174 (x0:ByteArray):Prop:=True
def g174_0 (x0:ByteArray):Bool := !g175_0 x0
theorem at174 (x0:ByteArray) (h:P174 x0) (K:Ctx) (q:Nat→Value):AtV Tryz.prog 174 (PostR kds174 oks174 [⟨.bool,g174_0 x0⟩] [] [] q K) 6 K q [] [.code b174] (entE 0 0 sig174 (x0,())) (entL sig174 (x0,())):=by
 unfold P174 at h
 unfold g174_0
 exact AtV.ret Tryz.func174 tabOk ext174Ok mixed false [] tys174 [] (a1 trivial trivial) (by kernel_rfl)
def S174:Am.Spec:={ sig:=sig174,pre:=fun ⟨x0,_⟩=>P174 x0,res:=fun ⟨x0,_⟩=>[⟨.bool,g174_0 x0⟩],kds:=kds174 }
theorem con174:Contract Tryz.prog 174 S174:=contract_of Tryz.func174 hb174 (bl_ (by kernel_rfl)) (fun ⟨x0,_⟩ h _ K q=>at174 x0 h K q)
end
noncomputable section
def ext184c174:Ext:=[(174,S174)]
theorem ext184c174Ok:ExtOk Tryz.prog ext184c174:=⟨⟨ca174,con174⟩,trivial⟩
def b184c174:Code:=bodyOf Tryz.f184
theorem hb184c174:Tryz.f184.body=some b184c174:=by kernel_rfl
def sig184c174:List AT:=[AT.v (.sl .str),AT.fn 174 []]
def tys184c174:List Ty:=[.int .i64]
def kds184c174:List RK:=[]
def oks184c174:List AT:=owns sig184c174
def E184c174_2 (v8:Int) (x0:List ByteArray):Env:=[(0,.a (.sl .str x0)),(1,PV.fn 174 []),(7,.a (.val (.int .i64 (x0.length:Int)))),(8,.a (.val (.int .i64 v8)))]
def L184c174_2 (v8:Int) (x0:List ByteArray):Heap:=[]
mutual
def R184c174:Nat→List ByteArray→List Dyn→Prop
 | 0,_,_=>False
 | n+1,x0,ds=>(R184c174_2 n (0) (x0) ds)
def R184c174_2:Nat→Int→List ByteArray→List Dyn→Prop
 | 0,_,_,_=>False
 | n+1,v8,x0,ds=>(if (decide (v8<(x0.length:Int)))=true then ((0≤v8)∧(v8<(x0.length:Int))∧(if (g174_0 (List.getD x0 (Int.toNat v8) ByteArray.empty))=true then (ds=[Dyn.mk (.int .i64) v8]) else ((InR .i64 (v8+1))∧(R184c174_2 n (v8+1) (x0) ds)))) else (ds=[Dyn.mk (.int .i64) (-1)]))
end
theorem snd184c174:∀ n,(∀ (x0:List ByteArray) ds,R184c174 n x0 ds→∀ K q,AtV Tryz.prog 184 (PostR kds184c174 oks184c174 ds [] [] q K) 19 K q [] [.code b184c174] (entE 0 0 sig184c174 (x0,(),())) (entL sig184c174 (x0,(),())))∧(∀ (v8:Int) (x0:List ByteArray) ds,R184c174_2 n v8 x0 ds→∀ K q,AtV Tryz.prog 184 (PostR kds184c174 oks184c174 ds [] [] q K) 19 K q [] (cutAt b184c174 2) (E184c174_2 v8 x0) (L184c174_2 v8 x0)):=by
 intro n
 induction n with
 | zero=>exact ⟨fun _ _ h=>by simp only [R184c174] at h,fun _ _ _ h=>by simp only [R184c174_2] at h⟩
 | succ n ih =>
 obtain ⟨ih,ih2⟩:=ih
 refine ⟨?_,?_⟩
 ·intro x0 ds h K q
  rw [R184c174] at h
  exact AtV.go tabOk ext184c174Ok mixed false [] [] [0,1,7,8] [] [] trivial (ih2 _ _ _ h K q) (by kernel_rfl)
 ·intro v8 x0 ds h K q
  rw [R184c174_2] at h
  by_cases b0:(decide (v8<(x0.length:Int)))=true
  ·rw [if_pos b0] at h
   obtain ⟨s0,s1,h⟩:=h
   by_cases b1:(g174_0 (List.getD x0 (Int.toNat v8) ByteArray.empty))=true
   ·rw [if_pos b1] at h
    subst h
    exact AtV.ret Tryz.func184 tabOk ext184c174Ok mixed false [] tys184c174 [true,true] (a1 b0 (a1 s0 (a1 s1 (a1 trivial (a1 b1 trivial))))) (by kernel_rfl)
   ·rw [if_neg b1] at h
    replace b1:=bf_ b1
    obtain ⟨s2,h⟩:=h
    exact AtV.go tabOk ext184c174Ok mixed false [] [] [0,1,7,8] [] [true,false] (a1 b0 (a1 s0 (a1 s1 (a1 trivial (a1 b1 (a1 s2 trivial)))))) (ih2 _ _ _ h K q) (by kernel_rfl)
  ·rw [if_neg b0] at h
   replace b0:=bf_ b0
   subst h
   exact AtV.ret Tryz.func184 tabOk ext184c174Ok mixed false [] tys184c174 [false] (a1 b0 trivial) (by kernel_rfl)
def g184c174_0 (x0:List (ByteArray)):Int:=idx (x0.findIdx? g174_0)
def P184c174 (x0:List (ByteArray)):Prop:=True
theorem top184c174 (x0:List (ByteArray)) (hm:x0.length≤maxLen):R184c174 (x0.length+1+1) x0 [⟨.int .i64,g184c174_0 x0⟩]:=by
 rw [R184c174]
 have key:=loop_find x0 ByteArray.empty g174_0 [(⟨.int .i64, -1⟩:Dyn)] (fun k=>[⟨.int .i64,k⟩]) (fun n i ds=>R184c174_2 n i x0 ds) (fun n => ?_) (fun n i hi hok ds hr => ?_) (fun n i hi hok => ?_)
 ·unfold g184c174_0
  cases h:x0.findIdx? g174_0 <;> rw [h] at key <;> exact key
 ·rw [R184c174_2,if_neg (by simp)]
 ·rw [R184c174_2,if_pos (by simp;omega)]
  simp only [Int.toNat_natCast]
  refine ⟨by omega,by omega,?_⟩
  rw [if_neg (by rw [hok];simp)]
  exact ⟨inR_up hm hi,hr⟩
 ·rw [R184c174_2,if_pos (by simp;omega)]
  simp only [Int.toNat_natCast]
  refine ⟨by omega,by omega,?_⟩
  rw [if_pos hok] <;> trivial
def S184c174:Am.Spec:={ sig:=sig184c174,pre:=fun ⟨x0,_⟩=>P184c174 x0,res:=fun ⟨x0,_⟩=>[⟨.int .i64,g184c174_0 x0⟩] }
theorem con184c174:Contract Tryz.prog 184 S184c174:=contract_of Tryz.func184 hb184c174 (bl_ (by kernel_rfl)) (fun ⟨x0,_⟩ h hwf K q =>
 (snd184c174 _).1 x0 _ (top184c174 x0 hwf.1.1) K q)
theorem any184c174 (x0:List (ByteArray)):decide (g184c174_0 x0≥0)=x0.any g174_0:=by
 have:=findIdx_any g174_0 x0
 unfold g184c174_0
 cases h:x0.any g174_0 with
 | true=>rw [h] at this;simpa using this
 | false=>rw [h] at this;simpa using this
end
noncomputable section
def ext172c174:Ext:=[(184,S184c174),(174,S174)]
theorem ext172c174Ok:ExtOk Tryz.prog ext172c174:=⟨⟨ca184,con184c174⟩,⟨ca174,con174⟩,trivial⟩
def b172c174:Code:=bodyOf Tryz.f172
theorem hb172c174:Tryz.f172.body=some b172c174:=by kernel_rfl
def sig172c174:List AT:=[AT.v (.sl .str),AT.fn 174 []]
def tys172c174:List Ty:=[.bool]
def kds172c174:List RK:=[]
def oks172c174:List AT:=owns sig172c174
def P172c174 (x0:List ByteArray):Prop:=True
def g172c174_0 (x0:List ByteArray):Bool:=decide (g184c174_0 x0≥0)
theorem at172c174 (x0:List ByteArray) (h:P172c174 x0) (K:Ctx) (q:Nat→Value):AtV Tryz.prog 172 (PostR kds172c174 oks172c174 [⟨.bool,g172c174_0 x0⟩] [] [] q K) 9 K q [] [.code b172c174] (entE 0 0 sig172c174 (x0,(),())) (entL sig172c174 (x0,(),())):=by
 unfold P172c174 at h
 unfold g172c174_0
 exact AtV.ret Tryz.func172 tabOk ext172c174Ok mixed false [] tys172c174 [] (a1 trivial trivial) (by kernel_rfl)
def S172c174:Am.Spec:={ sig:=sig172c174,pre:=fun ⟨x0,_⟩=>P172c174 x0,res:=fun ⟨x0,_⟩=>[⟨.bool,g172c174_0 x0⟩],kds:=kds172c174 }
theorem con172c174:Contract Tryz.prog 172 S172c174:=contract_of Tryz.func172 hb172c174 (bl_ (by kernel_rfl)) (fun ⟨x0,_⟩ h _ K q=>at172c174 x0 h K q)
end
noncomputable section
def ext158:Ext:=[(173,S173),(172,S172c174)]
theorem ext158Ok:ExtOk Tryz.prog ext158:=⟨⟨ca173,con173⟩,⟨ca172,con172c174⟩,trivial⟩
def b158:Code:=bodyOf Tryz.f158
theorem hb158:Tryz.f158.body=some b158:=by kernel_rfl
def sig158:List AT:=[AT.v (.str)]
def tys158:List Ty:=[.bool]
def kds158:List RK:=[]
def oks158:List AT:=owns sig158
def P158 (x0:ByteArray):Prop:=(if (decide ((↑(ByteArray.size x0):Int)≤40))=true then ((P173 x0 (ByteArray.mk #[32]))∧True) else True)
def g158_0 (x0:ByteArray):Bool:=(if (decide ((↑(ByteArray.size x0):Int)≤40))=true then !g172c174_0 (g173_0 x0 (ByteArray.mk #[32])) else false)
theorem at158 (x0:ByteArray) (h:P158 x0) (K:Ctx) (q:Nat→Value):AtV Tryz.prog 158 (PostR kds158 oks158 [⟨.bool,g158_0 x0⟩] [] [] q K) 12 K q [] [.code b158] (entE 0 0 sig158 (x0,())) (entL sig158 (x0,())):=by
 unfold P158 at h
 unfold g158_0
 by_cases b0:(decide ((↑(ByteArray.size x0):Int)≤40))=true
 ·try simp only [if_pos b0] at h ⊢
  obtain ⟨s0,h⟩:=h
  exact AtV.ret Tryz.func158 tabOk ext158Ok mixed false [] tys158 [true] (a1 b0 (a1 s0 (a1 trivial trivial))) (by kernel_rfl)
 ·try simp only [if_neg b0] at h ⊢
  replace b0:=bf_ b0
  exact AtV.ret Tryz.func158 tabOk ext158Ok mixed false [] tys158 [false] (a1 b0 trivial) (by kernel_rfl)
def S158:Am.Spec:={ sig:=sig158,pre:=fun ⟨x0,_⟩=>P158 x0,res:=fun ⟨x0,_⟩=>[⟨.bool,g158_0 x0⟩],kds:=kds158 }
theorem con158:Contract Tryz.prog 158 S158:=contract_of Tryz.func158 hb158 (bl_ (by kernel_rfl)) (fun ⟨x0,_⟩ h _ K q=>at158 x0 h K q)
end
noncomputable section
def ext159:Ext:=[(134,S134)]
theorem ext159Ok:ExtOk Tryz.prog ext159:=⟨⟨ca134,con134⟩,trivial⟩
def b159:Code:=bodyOf Tryz.f159
theorem hb159:Tryz.f159.body=some b159:=by kernel_rfl
def sig159:List AT:=[AT.v (.int .i64)]
def tys159:List Ty:=[.bool]
def kds159:List RK:=[]
def oks159:List AT:=owns sig159
def P159 (x0:Int):Prop:=True
def g159_0 (x0:Int):Bool:=g134_0 x0 0 65535
theorem at159 (x0:Int) (h:P159 x0) (K:Ctx) (q:Nat→Value):AtV Tryz.prog 159 (PostR kds159 oks159 [⟨.bool,g159_0 x0⟩] [] [] q K) 5 K q [] [.code b159] (entE 0 0 sig159 (x0,())) (entL sig159 (x0,())):=by
 unfold P159 at h
 unfold g159_0
 exact AtV.ret Tryz.func159 tabOk ext159Ok mixed false [] tys159 [] (a1 trivial trivial) (by kernel_rfl)
def S159:Am.Spec:={ sig:=sig159,pre:=fun ⟨x0,_⟩=>P159 x0,res:=fun ⟨x0,_⟩=>[⟨.bool,g159_0 x0⟩],kds:=kds159 }
theorem con159:Contract Tryz.prog 159 S159:=contract_of Tryz.func159 hb159 (bl_ (by kernel_rfl)) (fun ⟨x0,_⟩ h _ K q=>at159 x0 h K q)
end
noncomputable section
def ext143:Ext:=[(139,S139),(157,S157),(158,S158),(159,S159)]
theorem ext143Ok:ExtOk Tryz.prog ext143:=⟨⟨ca139,con139⟩,⟨ca157,con157⟩,⟨ca158,con158⟩,⟨ca159,con159⟩,trivial⟩
def b143:Code:=bodyOf Tryz.f143
theorem hb143:Tryz.f143.body=some b143:=by kernel_rfl
def sig143:List AT:=[AT.v YA6]
def tys143:List Ty:=[.bool]
def kds143:List RK:=[]
def oks143:List AT:=owns sig143
def P143 (x0:Int×Int×ByteArray×Int×Unit):Prop:=(if (g139_0 x0.1)=true then (if (g157_0 x0.2.1)=true then ((P158 x0.2.2.1)∧True) else True) else True)
def g143_0 (x0:Int×Int×ByteArray×Int×Unit):Bool:=(if (g139_0 x0.1)=true then (if (g157_0 x0.2.1)=true then (if (g158_0 x0.2.2.1)=true then g159_0 x0.2.2.2.1 else false) else false) else false)
theorem at143 (x0:Int×Int×ByteArray×Int×Unit) (h:P143 x0) (K:Ctx) (q:Nat→Value):AtV Tryz.prog 143 (PostR kds143 oks143 [⟨.bool,g143_0 x0⟩] [] [] q K) 21 K q [] [.code b143] (entE 0 0 sig143 (x0,())) (entL sig143 (x0,())):=by
 unfold P143 at h
 unfold g143_0
 by_cases b0:(g139_0 x0.1)=true
 ·try simp only [if_pos b0] at h ⊢
  by_cases b1:(g157_0 x0.2.1)=true
  ·try simp only [if_pos b1] at h ⊢
   obtain ⟨s0,h⟩:=h
   by_cases b2:(g158_0 x0.2.2.1)=true
   ·try simp only [if_pos b2] at h ⊢
    exact AtV.ret Tryz.func143 tabOk ext143Ok mixed false [] tys143 [true,true,true] (a1 trivial (a1 b0 (a1 trivial (a1 b1 (a1 s0 (a1 b2 (a1 trivial trivial))))))) (by kernel_rfl)
   ·try simp only [if_neg b2] at h ⊢
    replace b2:=bf_ b2
    exact AtV.ret Tryz.func143 tabOk ext143Ok mixed false [] tys143 [true,true,false] (a1 trivial (a1 b0 (a1 trivial (a1 b1 (a1 s0 (a1 b2 trivial)))))) (by kernel_rfl)
  ·try simp only [if_neg b1] at h ⊢
   replace b1:=bf_ b1
   exact AtV.ret Tryz.func143 tabOk ext143Ok mixed false [] tys143 [true,false,false] (a1 trivial (a1 b0 (a1 trivial (a1 b1 (a1 (rfl:false=false) trivial))))) (by kernel_rfl)
 ·try simp only [if_neg b0] at h ⊢
  replace b0:=bf_ b0
  exact AtV.ret Tryz.func143 tabOk ext143Ok mixed false [] tys143 [false,false,false] (a1 trivial (a1 b0 (a1 (rfl:false=false) (a1 (rfl:false=false) trivial)))) (by kernel_rfl)
def S143:Am.Spec:={ sig:=sig143,pre:=fun ⟨x0,_⟩=>P143 x0,res:=fun ⟨x0,_⟩=>[⟨.bool,g143_0 x0⟩],kds:=kds143 }
theorem con143:Contract Tryz.prog 143 S143:=contract_of Tryz.func143 hb143 (bl_ (by kernel_rfl)) (fun ⟨x0,_⟩ h _ K q=>at143 x0 h K q)
end
noncomputable section
def ext144:Ext:=[]
theorem ext144Ok:ExtOk Tryz.prog ext144:=trivial
def b144:Code:=bodyOf Tryz.f144
theorem hb144:Tryz.f144.body=some b144:=by kernel_rfl
def sig144:List AT:=[AT.v YA6,AT.v YA6]
def tys144:List Ty:=[.bool]
def kds144:List RK:=[]
def oks144:List AT:=owns sig144
def P144 (x0:Int×Int×ByteArray×Int×Unit) (x1:Int×Int×ByteArray×Int×Unit):Prop:=True
def g144_0 (x0:Int×Int×ByteArray×Int×Unit) (x1:Int×Int×ByteArray×Int×Unit):Bool:=(if (decide (x0.1>x1.1))=true then true else (if (x0.1==x1.1)=true then decide (x0.2.1>x1.2.1) else false))
theorem at144 (x0:Int×Int×ByteArray×Int×Unit) (x1:Int×Int×ByteArray×Int×Unit) (h:P144 x0 x1) (K:Ctx) (q:Nat→Value):AtV Tryz.prog 144 (PostR kds144 oks144 [⟨.bool,g144_0 x0 x1⟩] [] [] q K) 24 K q [] [.code b144] (entE 0 0 sig144 (x0,x1,())) (entL sig144 (x0,x1,())):=by
 unfold P144 at h
 unfold g144_0
 by_cases b0:(decide (x0.1>x1.1))=true
 ·try simp only [if_pos b0] at h ⊢
  exact AtV.ret Tryz.func144 tabOk ext144Ok mixed false [] tys144 [true] (a1 b0 trivial) (by kernel_rfl)
 ·try simp only [if_neg b0] at h ⊢
  replace b0:=bf_ b0
  by_cases b1:(x0.1==x1.1)=true
  ·try simp only [if_pos b1] at h ⊢
   exact AtV.ret Tryz.func144 tabOk ext144Ok mixed false [] tys144 [false,true] (a1 b0 (a1 b1 trivial)) (by kernel_rfl)
  ·try simp only [if_neg b1] at h ⊢
   replace b1:=bf_ b1
   exact AtV.ret Tryz.func144 tabOk ext144Ok mixed false [] tys144 [false,false] (a1 b0 (a1 b1 trivial)) (by kernel_rfl)
def S144:Am.Spec:={ sig:=sig144,pre:=fun ⟨x0,x1,_⟩=>P144 x0 x1,res:=fun ⟨x0,x1,_⟩=>[⟨.bool,g144_0 x0 x1⟩],kds:=kds144 }
theorem con144:Contract Tryz.prog 144 S144:=contract_of Tryz.func144 hb144 (bl_ (by kernel_rfl)) (fun ⟨x0,x1,_⟩ h _ K q=>at144 x0 x1 h K q)
end
noncomputable section
def ext111:Ext:=[(143,S143),(144,S144)]
theorem ext111Ok:ExtOk Tryz.prog ext111:=⟨⟨ca143,con143⟩,⟨ca144,con144⟩,trivial⟩
def b111:Code:=bodyOf Tryz.f111
theorem hb111:Tryz.f111.body=some b111:=by kernel_rfl
def sig111:List AT:=[AT.v (.sl YA6)]
def tys111:List Ty:=[.bool]
def kds111:List RK:=[]
def oks111:List AT:=owns sig111
def E111_2 (v7:Int) (x0:List TyB2):Env:=[(0,.a (.sl YA6 x0)),(5,.a (.sl YA6 x0)),(6,.a (.val (.int .i64 (x0.length:Int)))),(7,.a (.val (.int .i64 v7)))]
def L111_2 (v7:Int) (x0:List TyB2):Heap:=[]
mutual
def R111:Nat→List TyB2→List Dyn→Prop
 | 0,_,_=>False
 | n+1,x0,ds=>(R111_2 n (0) (x0) ds)
def R111_2:Nat→Int→List TyB2→List Dyn→Prop
 | 0,_,_,_=>False
 | n+1,v7,x0,ds=>(if (decide (v7<(x0.length:Int)))=true then ((0≤v7)∧(v7<(x0.length:Int))∧((P143 (List.getD x0 (Int.toNat v7) (0,0,ByteArray.empty,0,())))∧(if (!g143_0 (List.getD x0 (Int.toNat v7) (0,0,ByteArray.empty,0,())))=true then (ds=[Dyn.mk .bool false]) else (if (decide (v7>0))=true then ((InR .i64 (v7 - 1))∧((0≤v7 - 1)∧(v7 - 1<(x0.length:Int))∧(if (g144_0 (List.getD x0 (Int.toNat (v7 - 1)) (0,0,ByteArray.empty,0,())) (List.getD x0 (Int.toNat v7) (0,0,ByteArray.empty,0,())))=true then (ds=[Dyn.mk .bool false]) else ((InR .i64 (v7+1))∧(R111_2 n (v7+1) (x0) ds))))) else ((InR .i64 (v7+1))∧(R111_2 n (v7+1) (x0) ds)))))) else (ds=[Dyn.mk .bool (decide ((x0.length:Int)≤40))]))
end
theorem snd111:∀ n,(∀ (x0:List TyB2) ds,R111 n x0 ds→∀ K q,AtV Tryz.prog 111 (PostR kds111 oks111 ds [] [] q K) 32 K q [] [.code b111] (entE 0 0 sig111 (x0,())) (entL sig111 (x0,())))∧(∀ (v7:Int) (x0:List TyB2) ds,R111_2 n v7 x0 ds→∀ K q,AtV Tryz.prog 111 (PostR kds111 oks111 ds [] [] q K) 32 K q [] (cutAt b111 2) (E111_2 v7 x0) (L111_2 v7 x0)):=by
 intro n
 induction n with
 | zero=>exact ⟨fun _ _ h=>by simp only [R111] at h,fun _ _ _ h=>by simp only [R111_2] at h⟩
 | succ n ih =>
 obtain ⟨ih,ih2⟩:=ih
 refine ⟨?_,?_⟩
 ·intro x0 ds h K q
  rw [R111] at h
  exact AtV.go tabOk ext111Ok mixed false [] [] [0,5,6,7] [] [] trivial (ih2 _ _ _ h K q) (by kernel_rfl)
 ·intro v7 x0 ds h K q
  rw [R111_2] at h
  by_cases b0:(decide (v7<(x0.length:Int)))=true
  ·rw [if_pos b0] at h
   obtain ⟨s0,s1,h⟩:=h
   obtain ⟨s2,h⟩:=h
   by_cases b1:(!g143_0 (List.getD x0 (Int.toNat v7) (0,0,ByteArray.empty,0,())))=true
   ·rw [if_pos b1] at h
    subst h
    exact AtV.ret Tryz.func111 tabOk ext111Ok mixed false [] tys111 [true,true,true] (a1 b0 (a1 s0 (a1 s1 (a1 s2 (a1 b1 (a1 (rfl:true=true) trivial)))))) (by kernel_rfl)
   ·rw [if_neg b1] at h
    replace b1:=bf_ b1
    by_cases b2:(decide (v7>0))=true
    ·rw [if_pos b2] at h
     obtain ⟨s3,h⟩:=h
     obtain ⟨s4,s5,h⟩:=h
     by_cases b3:(g144_0 (List.getD x0 (Int.toNat (v7 - 1)) (0,0,ByteArray.empty,0,())) (List.getD x0 (Int.toNat v7) (0,0,ByteArray.empty,0,())))=true
     ·rw [if_pos b3] at h
      subst h
      exact AtV.ret Tryz.func111 tabOk ext111Ok mixed false [] tys111 [true,false,true,true] (a1 b0 (a1 s0 (a1 s1 (a1 s2 (a1 b1 (a1 b2 (a1 s3 (a1 s4 (a1 s5 (a1 trivial (a1 b3 trivial))))))))))) (by kernel_rfl)
     ·rw [if_neg b3] at h
      replace b3:=bf_ b3
      obtain ⟨s6,h⟩:=h
      exact AtV.go tabOk ext111Ok mixed false [] [] [0,5,6,7] [] [true,false,true,false] (a1 b0 (a1 s0 (a1 s1 (a1 s2 (a1 b1 (a1 b2 (a1 s3 (a1 s4 (a1 s5 (a1 trivial (a1 b3 (a1 s6 trivial)))))))))))) (ih2 _ _ _ h K q) (by kernel_rfl)
    ·rw [if_neg b2] at h
     replace b2:=bf_ b2
     obtain ⟨s3,h⟩:=h
     exact AtV.go tabOk ext111Ok mixed false [] [] [0,5,6,7] [] [true,false,false,false] (a1 b0 (a1 s0 (a1 s1 (a1 s2 (a1 b1 (a1 b2 (a1 (rfl:false=false) (a1 s3 trivial)))))))) (ih2 _ _ _ h K q) (by kernel_rfl)
  ·rw [if_neg b0] at h
   replace b0:=bf_ b0
   subst h
   exact AtV.ret Tryz.func111 tabOk ext111Ok mixed false [] tys111 [false] (a1 b0 trivial) (by kernel_rfl)
def ok111 (x0:List TyB2) (i:Nat) (x:TyB2):Bool:=g143_0 x&&(i==0 || !g144_0 (x0.getD (i - 1) ((0:Int),(0:Int),ByteArray.empty,(0:Int),())) x)
def g111_0 (x0:List TyB2):Bool:=allI (ok111 x0) 0 x0&&decide ((x0.length:Int)≤40)
def P111 (x0:List TyB2):Prop:=True
theorem one111_pre (x:TyB2):P143 x:=by
 unfold P143
 split
 ·split
  ·refine ⟨?_,trivial⟩
   unfold P158
   split
   ·rename_i h
    have h:(x.2.2.1.size:Int)≤40:=by simpa using h
    have h':x.2.2.1.size≤281474976710656:=by omega
    repeat' (first | apply And.intro | exact trivial | split)
    all_goals (first | omega | decide | trivial)
   ·trivial
  ·trivial
 ·trivial
theorem step111 (n i:Nat) (x0:List TyB2) (hm:x0.length≤maxLen) (hi:i<x0.length) (ds:List Dyn)
  (h:if ok111 x0 i (x0.getD i ((0:Int),(0:Int),ByteArray.empty,(0:Int),()))=true then R111_2 n ((i:Int)+1) x0 ds else ds=[⟨.bool,false⟩]):R111_2 (n+1) (i:Int) x0 ds:=by
 have hu:=inR_up hm hi
 have hmx:maxLen≤9223372036854775807:=by decide
 rw [R111_2,if_pos (by simp only [decide_eq_true_eq];omega)]
 simp only [Int.toNat_natCast]
 refine ⟨by omega,by omega,one111_pre _,?_⟩
 unfold ok111 at h
 by_cases hv:g143_0 (x0.getD i ((0:Int),(0:Int),ByteArray.empty,(0:Int),()))=true
 case neg=>rw [bf_ hv] at h;rw [if_pos (by rw [bf_ hv];rfl)];simpa using h
 rw [if_neg (by rw [hv];simp)]
 rw [hv] at h
 by_cases h0:(i:Int)>0
 case neg =>
  rw [if_neg (by simpa using h0)]
  have hi0:(i==0)=true:=by simp;omega
  rw [hi0] at h
  exact ⟨hu,by simpa using h⟩
 rw [if_pos (by simpa using h0)]
 have hi0:(i==0)=false:=by simp;omega
 have e:((i:Int) - 1).toNat=i - 1:=by omega
 have hd:InR .i64 ((i:Int) - 1):=by rw [i64_iff];omega
 rw [hi0] at h
 simp only [e]
 refine ⟨hd,by omega,by omega,?_⟩
 by_cases c0:g144_0 (x0.getD (i - 1) ((0:Int),(0:Int),ByteArray.empty,(0:Int),())) (x0.getD i ((0:Int),(0:Int),ByteArray.empty,(0:Int),()))=true
 ·rw [if_pos c0]
  rw [c0] at h
  simpa using h
 ·rw [if_neg c0]
  rw [bf_ c0] at h
  exact ⟨hu,by simpa using h⟩
theorem top111 (x0:List TyB2) (hw:x0.length≤maxLen):R111 (x0.length+1+1) x0 [⟨.bool,g111_0 x0⟩]:=by
 rw [R111]
 have key:=loop_testI x0 ((0:Int),(0:Int),ByteArray.empty,(0:Int),()) (ok111 x0) [(⟨.bool,false⟩:Dyn)] [⟨.bool,decide ((x0.length:Int)≤40)⟩] (fun n i ds=>R111_2 n i x0 ds) (fun n => ?_) (fun n i hi hok ds hr => ?_) (fun n i hi hok => ?_)
 ·unfold g111_0
  cases h:allI (ok111 x0) 0 x0 with
  | true=>rw [if_pos h] at key;simpa using key
  | false=>rw [if_neg (by rw [h];simp)] at key;simpa using key
 ·rw [R111_2,if_neg (by simp)]
 ·exact step111 n i x0 hw hi ds (by rw [if_pos hok];exact hr)
 ·exact step111 n i x0 hw hi _ (by rw [if_neg (by rw [hok];simp)])
def S111:Am.Spec:={ sig:=sig111,pre:=fun ⟨x0,_⟩=>P111 x0,res:=fun ⟨x0,_⟩=>[⟨.bool,g111_0 x0⟩] }
theorem con111:Contract Tryz.prog 111 S111:=contract_of Tryz.func111 hb111 (bl_ (by kernel_rfl)) (fun ⟨x0,_⟩ h hwf K q =>
 (snd111 _).1 x0 _ (top111 x0 hwf.1.1) K q)
end
noncomputable section
def ext82:Ext:=[(102,S102),(103,S103),(104,S104),(105,S105),(106,S106),(107,S107),(108,S108),(109,S109),(110,S110),(111,S111)]
theorem ext82Ok:ExtOk Tryz.prog ext82:=⟨⟨ca102,con102⟩,⟨ca103,con103⟩,⟨ca104,con104⟩,⟨ca105,con105⟩,⟨ca106,con106⟩,⟨ca107,con107⟩,⟨ca108,con108⟩,⟨ca109,con109⟩,⟨ca110,con110⟩,⟨ca111,con111⟩,trivial⟩
def b82:Code:=bodyOf Tryz.f82
theorem hb82:Tryz.f82.body=some b82:=by kernel_rfl
def sig82:List AT:=[AT.v YA0]
def tys82:List Ty:=[.bool]
def kds82:List RK:=[]
def oks82:List AT:=owns sig82
def P82 (x0:TyA0):Prop:=True
def g82_0 (x0:TyA0):Bool:=(if (g102_0 x0.1)=true then (if (g103_0 x0.2.1)=true then (if (g104_0 x0.2.2.1)=true then (if (g106_0 x0.2.2.2.2.1)=true then (if (g107_0 x0.2.2.2.2.2.1)=true then (if (g105_0 x0.2.2.2.1)=true then (if (g108_0 x0.2.2.2.2.2.2.1 x0.2.2.2.2.2.2.2.1 x0.2.2.2.2.2.2.2.2.1 0==0)=true then (if (g109_0 x0.2.2.2.2.2.2.2.2.2.1)=true then (if (g110_0 x0.2.2.2.2.2.2.2.2.2.2.1)=true then g111_0 x0.2.2.2.2.2.2.2.2.2.2.2.1 else false) else false) else false) else false) else (if (g105_0 x0.2.2.2.1)=true then false else false)) else (if (g105_0 x0.2.2.2.1)=true then false else false)) else (if (g106_0 x0.2.2.2.2.1)=true then (if (g107_0 x0.2.2.2.2.2.1)=true then false else false) else false)) else (if (g106_0 x0.2.2.2.2.1)=true then (if (g107_0 x0.2.2.2.2.2.1)=true then false else false) else false)) else (if (g106_0 x0.2.2.2.2.1)=true then (if (g107_0 x0.2.2.2.2.2.1)=true then false else false) else false))
theorem at82 (x0:TyA0) (h:P82 x0) (K:Ctx) (q:Nat→Value):AtV Tryz.prog 82 (PostR kds82 oks82 [⟨.bool,g82_0 x0⟩] [] [] q K) 60 K q [] [.code b82] (entE 0 0 sig82 (x0,())) (entL sig82 (x0,())):=by
 unfold P82 at h
 unfold g82_0
 by_cases b0:(g102_0 x0.1)=true
 ·try simp only [if_pos b0] at h ⊢
  by_cases b1:(g103_0 x0.2.1)=true
  ·try simp only [if_pos b1] at h ⊢
   by_cases b2:(g104_0 x0.2.2.1)=true
   ·try simp only [if_pos b2] at h ⊢
    by_cases b3:(g106_0 x0.2.2.2.2.1)=true
    ·try simp only [if_pos b3] at h ⊢
     by_cases b4:(g107_0 x0.2.2.2.2.2.1)=true
     ·try simp only [if_pos b4] at h ⊢
      by_cases b5:(g105_0 x0.2.2.2.1)=true
      ·try simp only [if_pos b5] at h ⊢
       by_cases b6:(g108_0 x0.2.2.2.2.2.2.1 x0.2.2.2.2.2.2.2.1 x0.2.2.2.2.2.2.2.2.1 0==0)=true
       ·try simp only [if_pos b6] at h ⊢
        by_cases b7:(g109_0 x0.2.2.2.2.2.2.2.2.2.1)=true
        ·try simp only [if_pos b7] at h ⊢
         by_cases b8:(g110_0 x0.2.2.2.2.2.2.2.2.2.2.1)=true
         ·try simp only [if_pos b8] at h ⊢
          exact AtV.ret Tryz.func82 tabOk ext82Ok mixed false [] tys82 [true,true,true,true,true,true,true,true,true] (a1 trivial (a1 b0 (a1 trivial (a1 b1 (a1 trivial (a1 b2 (a1 trivial (a1 trivial (a1 b3 (a1 trivial (a1 b4 (a1 trivial (a1 b5 (a1 b6 (a1 trivial (a1 b7 (a1 trivial (a1 b8 (a1 trivial trivial))))))))))))))))))) (by kernel_rfl)
         ·try simp only [if_neg b8] at h ⊢
          replace b8:=bf_ b8
          exact AtV.ret Tryz.func82 tabOk ext82Ok mixed false [] tys82 [true,true,true,true,true,true,true,true,false] (a1 trivial (a1 b0 (a1 trivial (a1 b1 (a1 trivial (a1 b2 (a1 trivial (a1 trivial (a1 b3 (a1 trivial (a1 b4 (a1 trivial (a1 b5 (a1 b6 (a1 trivial (a1 b7 (a1 trivial (a1 b8 trivial)))))))))))))))))) (by kernel_rfl)
        ·try simp only [if_neg b7] at h ⊢
         replace b7:=bf_ b7
         exact AtV.ret Tryz.func82 tabOk ext82Ok mixed false [] tys82 [true,true,true,true,true,true,true,false,false] (a1 trivial (a1 b0 (a1 trivial (a1 b1 (a1 trivial (a1 b2 (a1 trivial (a1 trivial (a1 b3 (a1 trivial (a1 b4 (a1 trivial (a1 b5 (a1 b6 (a1 trivial (a1 b7 (a1 (rfl:false=false) trivial))))))))))))))))) (by kernel_rfl)
       ·try simp only [if_neg b6] at h ⊢
        replace b6:=bf_ b6
        exact AtV.ret Tryz.func82 tabOk ext82Ok mixed false [] tys82 [true,true,true,true,true,true,false,false,false] (a1 trivial (a1 b0 (a1 trivial (a1 b1 (a1 trivial (a1 b2 (a1 trivial (a1 trivial (a1 b3 (a1 trivial (a1 b4 (a1 trivial (a1 b5 (a1 b6 (a1 (rfl:false=false) (a1 (rfl:false=false) trivial)))))))))))))))) (by kernel_rfl)
      ·try simp only [if_neg b5] at h ⊢
       replace b5:=bf_ b5
       exact AtV.ret Tryz.func82 tabOk ext82Ok mixed false [] tys82 [true,true,true,true,true,false,false,false,false] (a1 trivial (a1 b0 (a1 trivial (a1 b1 (a1 trivial (a1 b2 (a1 trivial (a1 trivial (a1 b3 (a1 trivial (a1 b4 (a1 trivial (a1 b5 (a1 (rfl:false=false) (a1 (rfl:false=false) (a1 (rfl:false=false) trivial)))))))))))))))) (by kernel_rfl)
     ·try simp only [if_neg b4] at h ⊢
      replace b4:=bf_ b4
      by_cases b5:(g105_0 x0.2.2.2.1)=true
      ·try simp only [if_pos b5] at h ⊢
       exact AtV.ret Tryz.func82 tabOk ext82Ok mixed false [] tys82 [true,true,true,true,false,true,false,false,false] (a1 trivial (a1 b0 (a1 trivial (a1 b1 (a1 trivial (a1 b2 (a1 trivial (a1 trivial (a1 b3 (a1 trivial (a1 b4 (a1 b5 (a1 (rfl:false=false) (a1 (rfl:false=false) (a1 (rfl:false=false) trivial))))))))))))))) (by kernel_rfl)
      ·try simp only [if_neg b5] at h ⊢
       replace b5:=bf_ b5
       exact AtV.ret Tryz.func82 tabOk ext82Ok mixed false [] tys82 [true,true,true,true,false,false,false,false,false] (a1 trivial (a1 b0 (a1 trivial (a1 b1 (a1 trivial (a1 b2 (a1 trivial (a1 trivial (a1 b3 (a1 trivial (a1 b4 (a1 b5 (a1 (rfl:false=false) (a1 (rfl:false=false) (a1 (rfl:false=false) trivial))))))))))))))) (by kernel_rfl)
    ·try simp only [if_neg b3] at h ⊢
     replace b3:=bf_ b3
     by_cases b4:(g105_0 x0.2.2.2.1)=true
     ·try simp only [if_pos b4] at h ⊢
      exact AtV.ret Tryz.func82 tabOk ext82Ok mixed false [] tys82 [true,true,true,false,false,true,false,false,false] (a1 trivial (a1 b0 (a1 trivial (a1 b1 (a1 trivial (a1 b2 (a1 trivial (a1 trivial (a1 b3 (a1 (rfl:false=false) (a1 b4 (a1 (rfl:false=false) (a1 (rfl:false=false) (a1 (rfl:false=false) trivial)))))))))))))) (by kernel_rfl)
     ·try simp only [if_neg b4] at h ⊢
      replace b4:=bf_ b4
      exact AtV.ret Tryz.func82 tabOk ext82Ok mixed false [] tys82 [true,true,true,false,false,false,false,false,false] (a1 trivial (a1 b0 (a1 trivial (a1 b1 (a1 trivial (a1 b2 (a1 trivial (a1 trivial (a1 b3 (a1 (rfl:false=false) (a1 b4 (a1 (rfl:false=false) (a1 (rfl:false=false) (a1 (rfl:false=false) trivial)))))))))))))) (by kernel_rfl)
   ·try simp only [if_neg b2] at h ⊢
    replace b2:=bf_ b2
    by_cases b3:(g106_0 x0.2.2.2.2.1)=true
    ·try simp only [if_pos b3] at h ⊢
     by_cases b4:(g107_0 x0.2.2.2.2.2.1)=true
     ·try simp only [if_pos b4] at h ⊢
      exact AtV.ret Tryz.func82 tabOk ext82Ok mixed false [] tys82 [true,true,false,true,true,false,false,false,false] (a1 trivial (a1 b0 (a1 trivial (a1 b1 (a1 trivial (a1 b2 (a1 trivial (a1 b3 (a1 trivial (a1 b4 (a1 trivial (a1 (rfl:false=false) (a1 (rfl:false=false) (a1 (rfl:false=false) (a1 (rfl:false=false) trivial))))))))))))))) (by kernel_rfl)
     ·try simp only [if_neg b4] at h ⊢
      replace b4:=bf_ b4
      exact AtV.ret Tryz.func82 tabOk ext82Ok mixed false [] tys82 [true,true,false,true,false,false,false,false,false] (a1 trivial (a1 b0 (a1 trivial (a1 b1 (a1 trivial (a1 b2 (a1 trivial (a1 b3 (a1 trivial (a1 b4 (a1 (rfl:false=false) (a1 (rfl:false=false) (a1 (rfl:false=false) (a1 (rfl:false=false) trivial)))))))))))))) (by kernel_rfl)
    ·try simp only [if_neg b3] at h ⊢
     replace b3:=bf_ b3
     exact AtV.ret Tryz.func82 tabOk ext82Ok mixed false [] tys82 [true,true,false,false,false,false,false,false,false] (a1 trivial (a1 b0 (a1 trivial (a1 b1 (a1 trivial (a1 b2 (a1 trivial (a1 b3 (a1 (rfl:false=false) (a1 (rfl:false=false) (a1 (rfl:false=false) (a1 (rfl:false=false) (a1 (rfl:false=false) trivial))))))))))))) (by kernel_rfl)
  ·try simp only [if_neg b1] at h ⊢
   replace b1:=bf_ b1
   by_cases b2:(g106_0 x0.2.2.2.2.1)=true
   ·try simp only [if_pos b2] at h ⊢
    by_cases b3:(g107_0 x0.2.2.2.2.2.1)=true
    ·try simp only [if_pos b3] at h ⊢
     exact AtV.ret Tryz.func82 tabOk ext82Ok mixed false [] tys82 [true,false,false,true,true,false,false,false,false] (a1 trivial (a1 b0 (a1 trivial (a1 b1 (a1 (rfl:false=false) (a1 trivial (a1 b2 (a1 trivial (a1 b3 (a1 trivial (a1 (rfl:false=false) (a1 (rfl:false=false) (a1 (rfl:false=false) (a1 (rfl:false=false) trivial)))))))))))))) (by kernel_rfl)
    ·try simp only [if_neg b3] at h ⊢
     replace b3:=bf_ b3
     exact AtV.ret Tryz.func82 tabOk ext82Ok mixed false [] tys82 [true,false,false,true,false,false,false,false,false] (a1 trivial (a1 b0 (a1 trivial (a1 b1 (a1 (rfl:false=false) (a1 trivial (a1 b2 (a1 trivial (a1 b3 (a1 (rfl:false=false) (a1 (rfl:false=false) (a1 (rfl:false=false) (a1 (rfl:false=false) trivial))))))))))))) (by kernel_rfl)
   ·try simp only [if_neg b2] at h ⊢
    replace b2:=bf_ b2
    exact AtV.ret Tryz.func82 tabOk ext82Ok mixed false [] tys82 [true,false,false,false,false,false,false,false,false] (a1 trivial (a1 b0 (a1 trivial (a1 b1 (a1 (rfl:false=false) (a1 trivial (a1 b2 (a1 (rfl:false=false) (a1 (rfl:false=false) (a1 (rfl:false=false) (a1 (rfl:false=false) (a1 (rfl:false=false) trivial)))))))))))) (by kernel_rfl)
 ·try simp only [if_neg b0] at h ⊢
  replace b0:=bf_ b0
  by_cases b1:(g106_0 x0.2.2.2.2.1)=true
  ·try simp only [if_pos b1] at h ⊢
   by_cases b2:(g107_0 x0.2.2.2.2.2.1)=true
   ·try simp only [if_pos b2] at h ⊢
    exact AtV.ret Tryz.func82 tabOk ext82Ok mixed false [] tys82 [false,false,false,true,true,false,false,false,false] (a1 trivial (a1 b0 (a1 (rfl:false=false) (a1 (rfl:false=false) (a1 trivial (a1 b1 (a1 trivial (a1 b2 (a1 trivial (a1 (rfl:false=false) (a1 (rfl:false=false) (a1 (rfl:false=false) (a1 (rfl:false=false) trivial))))))))))))) (by kernel_rfl)
   ·try simp only [if_neg b2] at h ⊢
    replace b2:=bf_ b2
    exact AtV.ret Tryz.func82 tabOk ext82Ok mixed false [] tys82 [false,false,false,true,false,false,false,false,false] (a1 trivial (a1 b0 (a1 (rfl:false=false) (a1 (rfl:false=false) (a1 trivial (a1 b1 (a1 trivial (a1 b2 (a1 (rfl:false=false) (a1 (rfl:false=false) (a1 (rfl:false=false) (a1 (rfl:false=false) trivial)))))))))))) (by kernel_rfl)
  ·try simp only [if_neg b1] at h ⊢
   replace b1:=bf_ b1
   exact AtV.ret Tryz.func82 tabOk ext82Ok mixed false [] tys82 [false,false,false,false,false,false,false,false,false] (a1 trivial (a1 b0 (a1 (rfl:false=false) (a1 (rfl:false=false) (a1 trivial (a1 b1 (a1 (rfl:false=false) (a1 (rfl:false=false) (a1 (rfl:false=false) (a1 (rfl:false=false) (a1 (rfl:false=false) trivial))))))))))) (by kernel_rfl)
def S82:Am.Spec:={ sig:=sig82,pre:=fun ⟨x0,_⟩=>P82 x0,res:=fun ⟨x0,_⟩=>[⟨.bool,g82_0 x0⟩],kds:=kds82 }
theorem con82:Contract Tryz.prog 82 S82:=contract_of Tryz.func82 hb82 (bl_ (by kernel_rfl)) (fun ⟨x0,_⟩ h _ K q=>at82 x0 h K q)
end
noncomputable section
def ext112:Ext:=[(113,S113)]
theorem ext112Ok:ExtOk Tryz.prog ext112:=⟨⟨ca113,con113⟩,trivial⟩
def b112:Code:=bodyOf Tryz.f112
theorem hb112:Tryz.f112.body=some b112:=by kernel_rfl
def sig112:List AT:=[AT.v YA2]
def tys112:List Ty:=[.int .i64,.int .i64,.bool]
def kds112:List RK:=[]
def oks112:List AT:=owns sig112
def P112 (x0:List TyB4×Int×Int×Unit):Prop:=((P113 x0)∧((InR .i64 (g113_0 x0 - x0.2.2.1))∧((P113 x0)∧((InR .i64 (g113_0 x0 - x0.2.1))∧True))))
def g112_0 (x0:List TyB4×Int×Int×Unit):Int:=if x0.2.1<g113_0 x0 - x0.2.2.1 then g113_0 x0 - x0.2.2.1 else x0.2.1
def g112_1 (x0:List TyB4×Int×Int×Unit):Int:=if g113_0 x0 - x0.2.1<x0.2.2.1 then g113_0 x0 - x0.2.1 else x0.2.2.1
def g112_2 (x0:List TyB4×Int×Int×Unit):Bool:=decide ((if x0.2.1<g113_0 x0 - x0.2.2.1 then g113_0 x0 - x0.2.2.1 else x0.2.1)≤if g113_0 x0 - x0.2.1<x0.2.2.1 then g113_0 x0 - x0.2.1 else x0.2.2.1)
theorem at112 (x0:List TyB4×Int×Int×Unit) (h:P112 x0) (K:Ctx) (q:Nat→Value):AtV Tryz.prog 112 (PostR kds112 oks112 [⟨.int .i64,g112_0 x0⟩,⟨.int .i64,g112_1 x0⟩,⟨.bool,g112_2 x0⟩] [] [] q K) 28 K q [] [.code b112] (entE 0 0 sig112 (x0,())) (entL sig112 (x0,())):=by
 unfold P112 at h
 unfold g112_0 g112_1 g112_2
 obtain ⟨s0,h⟩:=h
 obtain ⟨s1,h⟩:=h
 obtain ⟨s2,h⟩:=h
 obtain ⟨s3,h⟩:=h
 exact AtV.ret Tryz.func112 tabOk ext112Ok mixed false [] tys112 [] (a1 s0 (a1 s1 (a1 s2 (a1 s3 trivial)))) (by kernel_rfl)
def S112:Am.Spec:={ sig:=sig112,pre:=fun ⟨x0,_⟩=>P112 x0,res:=fun ⟨x0,_⟩=>[⟨.int .i64,g112_0 x0⟩,⟨.int .i64,g112_1 x0⟩,⟨.bool,g112_2 x0⟩],kds:=kds112 }
theorem con112:Contract Tryz.prog 112 S112:=contract_of Tryz.func112 hb112 (bl_ (by kernel_rfl)) (fun ⟨x0,_⟩ h _ K q=>at112 x0 h K q)
end
noncomputable section
def ext145:Ext:=[]
theorem ext145Ok:ExtOk Tryz.prog ext145:=trivial
def b145:Code:=bodyOf Tryz.f145
theorem hb145:Tryz.f145.body=some b145:=by kernel_rfl
def sig145:List AT:=[AT.v (.int .i64)]
def tys145:List Ty:=[.int .i64]
def kds145:List RK:=[]
def oks145:List AT:=owns sig145
def P145 (x0:Int):Prop:=(if (decide (x0<0))=true then ((InR .i64 (0 - x0))∧True) else True)
def g145_0 (x0:Int):Int:=(if (decide (x0<0))=true then 0 - x0 else x0)
theorem at145 (x0:Int) (h:P145 x0) (K:Ctx) (q:Nat→Value):AtV Tryz.prog 145 (PostR kds145 oks145 [⟨.int .i64,g145_0 x0⟩] [] [] q K) 8 K q [] [.code b145] (entE 0 0 sig145 (x0,())) (entL sig145 (x0,())):=by
 unfold P145 at h
 unfold g145_0
 by_cases b0:(decide (x0<0))=true
 ·try simp only [if_pos b0] at h ⊢
  obtain ⟨s0,h⟩:=h
  exact AtV.ret Tryz.func145 tabOk ext145Ok mixed false [] tys145 [true] (a1 b0 (a1 s0 trivial)) (by kernel_rfl)
 ·try simp only [if_neg b0] at h ⊢
  replace b0:=bf_ b0
  exact AtV.ret Tryz.func145 tabOk ext145Ok mixed false [] tys145 [false] (a1 b0 trivial) (by kernel_rfl)
def S145:Am.Spec:={ sig:=sig145,pre:=fun ⟨x0,_⟩=>P145 x0,res:=fun ⟨x0,_⟩=>[⟨.int .i64,g145_0 x0⟩],kds:=kds145 }
theorem con145:Contract Tryz.prog 145 S145:=contract_of Tryz.func145 hb145 (bl_ (by kernel_rfl)) (fun ⟨x0,_⟩ h _ K q=>at145 x0 h K q)
end
noncomputable section
def ext114:Ext:=[(113,S113),(145,S145)]
theorem ext114Ok:ExtOk Tryz.prog ext114:=⟨⟨ca113,con113⟩,⟨ca145,con145⟩,trivial⟩
def b114:Code:=bodyOf Tryz.f114
theorem hb114:Tryz.f114.body=some b114:=by kernel_rfl
def sig114:List AT:=[AT.v YA2,AT.v (.int .i64)]
def tys114:List Ty:=[.int .i64]
def kds114:List RK:=[]
def oks114:List AT:=owns sig114
def P114 (x0:List TyB4×Int×Int×Unit) (x1:Int):Prop:=((P113 x0)∧((InR .i64 (2*x1))∧((InR .i64 (g113_0 x0 - 2*x1))∧((P145 (g113_0 x0 - 2*x1))∧True))))
def g114_0 (x0:List TyB4×Int×Int×Unit) (x1:Int):Int:=g145_0 (g113_0 x0 - 2*x1)
theorem at114 (x0:List TyB4×Int×Int×Unit) (x1:Int) (h:P114 x0 x1) (K:Ctx) (q:Nat→Value):AtV Tryz.prog 114 (PostR kds114 oks114 [⟨.int .i64,g114_0 x0 x1⟩] [] [] q K) 11 K q [] [.code b114] (entE 0 0 sig114 (x0,x1,())) (entL sig114 (x0,x1,())):=by
 unfold P114 at h
 unfold g114_0
 obtain ⟨s0,h⟩:=h
 obtain ⟨s1,h⟩:=h
 obtain ⟨s2,h⟩:=h
 obtain ⟨s3,h⟩:=h
 exact AtV.ret Tryz.func114 tabOk ext114Ok mixed false [] tys114 [] (a1 s0 (a1 s1 (a1 s2 (a1 s3 trivial)))) (by kernel_rfl)
def S114:Am.Spec:={ sig:=sig114,pre:=fun ⟨x0,x1,_⟩=>P114 x0 x1,res:=fun ⟨x0,x1,_⟩=>[⟨.int .i64,g114_0 x0 x1⟩],kds:=kds114 }
theorem con114:Contract Tryz.prog 114 S114:=contract_of Tryz.func114 hb114 (bl_ (by kernel_rfl)) (fun ⟨x0,x1,_⟩ h _ K q=>at114 x0 x1 h K q)
end
noncomputable section
def ext84:Ext:=[(112,S112),(113,S113),(114,S114)]
theorem ext84Ok:ExtOk Tryz.prog ext84:=⟨⟨ca112,con112⟩,⟨ca113,con113⟩,⟨ca114,con114⟩,trivial⟩
def b84:Code:=bodyOf Tryz.f84
theorem hb84:Tryz.f84.body=some b84:=by kernel_rfl
def sig84:List AT:=[AT.v YA2]
def tys84:List Ty:=[.int .i64,.bool]
def kds84:List RK:=[]
def oks84:List AT:=owns sig84
def P84 (x0:List TyB4×Int×Int×Unit):Prop:=((P112 x0)∧(if (!g112_2 x0)=true then ((P113 x0)∧((InR .i64 (Int.tmod (g113_0 x0) 2))∧True)) else (if (g112_0 x0==0)=true then True else ((InR .i64 (g112_0 x0 - 1))∧((P114 x0 (g112_0 x0 - 1))∧True)))))
def g84_0 (x0:List TyB4×Int×Int×Unit):Int:=(if (!g112_2 x0)=true then Int.tmod (g113_0 x0) 2 else (if (g112_0 x0==0)=true then 0 else g114_0 x0 (g112_0 x0 - 1)))
def g84_1 (x0:List TyB4×Int×Int×Unit):Bool:=(if (!g112_2 x0)=true then true else (if (g112_0 x0==0)=true then false else true))
theorem at84 (x0:List TyB4×Int×Int×Unit) (h:P84 x0) (K:Ctx) (q:Nat→Value):AtV Tryz.prog 84 (PostR kds84 oks84 [⟨.int .i64,g84_0 x0⟩,⟨.bool,g84_1 x0⟩] [] [] q K) 26 K q [] [.code b84] (entE 0 0 sig84 (x0,())) (entL sig84 (x0,())):=by
 unfold P84 at h
 unfold g84_0 g84_1
 obtain ⟨s0,h⟩:=h
 by_cases b0:(!g112_2 x0)=true
 ·try simp only [if_pos b0] at h ⊢
  obtain ⟨s1,h⟩:=h
  obtain ⟨s2,h⟩:=h
  exact AtV.ret Tryz.func84 tabOk ext84Ok mixed false [] tys84 [true] (a1 s0 (a1 b0 (a1 s1 (a1 ((by decide):(2:Int)≠(0:Int)) (a1 s2 trivial))))) (by kernel_rfl)
 ·try simp only [if_neg b0] at h ⊢
  replace b0:=bf_ b0
  by_cases b1:(g112_0 x0==0)=true
  ·try simp only [if_pos b1] at h ⊢
   exact AtV.ret Tryz.func84 tabOk ext84Ok mixed false [] tys84 [false,true] (a1 s0 (a1 b0 (a1 b1 trivial))) (by kernel_rfl)
  ·try simp only [if_neg b1] at h ⊢
   replace b1:=bf_ b1
   obtain ⟨s1,h⟩:=h
   obtain ⟨s2,h⟩:=h
   exact AtV.ret Tryz.func84 tabOk ext84Ok mixed false [] tys84 [false,false] (a1 s0 (a1 b0 (a1 b1 (a1 s1 (a1 s2 trivial))))) (by kernel_rfl)
def S84:Am.Spec:={ sig:=sig84,pre:=fun ⟨x0,_⟩=>P84 x0,res:=fun ⟨x0,_⟩=>[⟨.int .i64,g84_0 x0⟩,⟨.bool,g84_1 x0⟩],kds:=kds84 }
theorem con84:Contract Tryz.prog 84 S84:=contract_of Tryz.func84 hb84 (bl_ (by kernel_rfl)) (fun ⟨x0,_⟩ h _ K q=>at84 x0 h K q)
end
noncomputable section
def ext83:Ext:=[(112,S112),(84,S84)]
theorem ext83Ok:ExtOk Tryz.prog ext83:=⟨⟨ca112,con112⟩,⟨ca84,con84⟩,trivial⟩
def b83:Code:=bodyOf Tryz.f83
theorem hb83:Tryz.f83.body=some b83:=by kernel_rfl
def sig83:List AT:=[AT.v YA2,AT.v (.int .i64)]
def tys83:List Ty:=[.bool]
def kds83:List RK:=[]
def oks83:List AT:=owns sig83
def P83 (x0:List TyB4×Int×Int×Unit) (x1:Int):Prop:=((P112 x0)∧((P84 x0)∧True))
def g83_0 (x0:List TyB4×Int×Int×Unit) (x1:Int):Bool:=(if (g112_2 x0)=true then (if (!g84_1 x0)=true then true else decide (g84_0 x0≥x1)) else false)
theorem at83 (x0:List TyB4×Int×Int×Unit) (x1:Int) (h:P83 x0 x1) (K:Ctx) (q:Nat→Value):AtV Tryz.prog 83 (PostR kds83 oks83 [⟨.bool,g83_0 x0 x1⟩] [] [] q K) 31 K q [] [.code b83] (entE 0 0 sig83 (x0,x1,())) (entL sig83 (x0,x1,())):=by
 unfold P83 at h
 unfold g83_0
 obtain ⟨s0,h⟩:=h
 obtain ⟨s1,h⟩:=h
 by_cases b0:(g112_2 x0)=true
 ·try simp only [if_pos b0] at h ⊢
  by_cases b1:(!g84_1 x0)=true
  ·try simp only [if_pos b1] at h ⊢
   exact AtV.ret Tryz.func83 tabOk ext83Ok mixed false [] tys83 [true,true] (a1 s0 (a1 s1 (a1 b0 (a1 b1 trivial)))) (by kernel_rfl)
  ·try simp only [if_neg b1] at h ⊢
   replace b1:=bf_ b1
   exact AtV.ret Tryz.func83 tabOk ext83Ok mixed false [] tys83 [true,false] (a1 s0 (a1 s1 (a1 b0 (a1 b1 trivial)))) (by kernel_rfl)
 ·try simp only [if_neg b0] at h ⊢
  replace b0:=bf_ b0
  exact AtV.ret Tryz.func83 tabOk ext83Ok mixed false [] tys83 [false] (a1 s0 (a1 s1 (a1 b0 trivial))) (by kernel_rfl)
def S83:Am.Spec:={ sig:=sig83,pre:=fun ⟨x0,x1,_⟩=>P83 x0 x1,res:=fun ⟨x0,x1,_⟩=>[⟨.bool,g83_0 x0 x1⟩],kds:=kds83 }
theorem con83:Contract Tryz.prog 83 S83:=contract_of Tryz.func83 hb83 (bl_ (by kernel_rfl)) (fun ⟨x0,x1,_⟩ h _ K q=>at83 x0 x1 h K q)
end
def sig115:List AT:=[AT.v (Ty.int .i64),AT.v (Ty.int .i64)]
def g115_0 (x0 x1:Int):ByteArray:=numB x0
def P115 (x0 x1:Int):Prop:=x1=10
def S115:Am.Spec:={ sig:=sig115,pre:=fun ⟨x0,x1,_⟩=>P115 x0 x1,res:=fun ⟨x0,x1,_⟩=>[⟨Ty.str,g115_0 x0 x1⟩] }
theorem con115:Contract Tryz.prog 115 S115:=contract_flat rfl fun w ⟨x0,x1,_⟩ vs bss hg hp hw ha=>by
 obtain ⟨v0,s0,_,_,rfl,_,⟨_,rfl,hi⟩,v1,s1,_,_,rfl,_,⟨_,rfl,_⟩,rfl,_⟩:=ha
 obtain rfl:x1=10:=hp
 have hi:InR .i64 x0:=hi
 rw [i64_iff] at hi
 refine ⟨fun d hd => ?_,?_⟩
 ·rw [List.mem_singleton.1 hd]
  refine ⟨rfl,?_⟩
  show (numB x0).size≤maxLen
  have:=numB_size x0 hi.1 hi.2
  unfold maxLen;omega
 ·refine (Tryz.strconv_FormatInt_10 x0 hi.1 hi.2 w (pow10G hg)).mono ?_
  rintro e w' ⟨rfl,n,os,rfl⟩
  exact ⟨rfl,kept_grow _ _ _⟩
noncomputable section
def ext85:Ext:=[(115,S115)]
theorem ext85Ok:ExtOk Tryz.prog ext85:=⟨⟨ca115,con115⟩,trivial⟩
def b85:Code:=bodyOf Tryz.f85
theorem hb85:Tryz.f85.body=some b85:=by kernel_rfl
def sig85:List AT:=[AT.v (.int .i64)]
def tys85:List Ty:=[.str]
def kds85:List RK:=[]
def oks85:List AT:=owns sig85
def P85 (x0:Int):Prop:=((P115 x0 10)∧True)
def g85_0 (x0:Int):ByteArray:=g115_0 x0 10
theorem at85 (x0:Int) (h:P85 x0) (K:Ctx) (q:Nat→Value):AtV Tryz.prog 85 (PostR kds85 oks85 [⟨.str,g85_0 x0⟩] [] [] q K) 5 K q [] [.code b85] (entE 0 0 sig85 (x0,())) (entL sig85 (x0,())):=by
 unfold P85 at h
 unfold g85_0
 obtain ⟨s0,h⟩:=h
 exact AtV.ret Tryz.func85 tabOk ext85Ok mixed false [] tys85 [] (a1 s0 trivial) (by kernel_rfl)
def S85:Am.Spec:={ sig:=sig85,pre:=fun ⟨x0,_⟩=>P85 x0,res:=fun ⟨x0,_⟩=>[⟨.str,g85_0 x0⟩],kds:=kds85 }
theorem con85:Contract Tryz.prog 85 S85:=contract_of Tryz.func85 hb85 (bl_ (by kernel_rfl)) (fun ⟨x0,_⟩ h _ K q=>at85 x0 h K q)
end
noncomputable section
def ext165:Ext:=[]
theorem ext165Ok:ExtOk Tryz.prog ext165:=trivial
def b165:Code:=bodyOf Tryz.f165
theorem hb165:Tryz.f165.body=some b165:=by kernel_rfl
def sig165:List AT:=[AT.v (.int .i64),AT.p (.cons (.int .i64) (.cons (.int .i64) (.cons (.int .i64) (.cons (.int .i64) .unit)))),AT.p (.int .i64)]
def tys165:List Ty:=[.bool]
def kds165:List RK:=[]
def oks165:List AT:=owns sig165
def P165 (x0:Int) (x1:Int×Int×Int×Int×Unit) (x2:Int):Prop:=((InR .i64 (x0*x0))∧((InR .i64 (x1.2.2.1*x1.2.2.1))∧((InR .i64 (2*x1.1))∧((InR .i64 (x2 - x0))∧((InR .i64 (x2 - x0 - x1.2.2.2.1))∧((InR .i64 (2*x1.1*if 0<x2 - x0 - x1.2.2.2.1 then x2 - x0 - x1.2.2.2.1 else 0))∧((InR .i64 (x1.2.2.1*x1.2.2.1+2*x1.1*if 0<x2 - x0 - x1.2.2.2.1 then x2 - x0 - x1.2.2.2.1 else 0))∧True)))))))
def g165_0 (x0:Int) (x1:Int×Int×Int×Int×Unit) (x2:Int):Bool:=decide (x0*x0>x1.2.2.1*x1.2.2.1+2*x1.1*if 0<x2 - x0 - x1.2.2.2.1 then x2 - x0 - x1.2.2.2.1 else 0)
theorem at165 (x0:Int) (x1:Int×Int×Int×Int×Unit) (x2:Int) (h:P165 x0 x1 x2) (K:Ctx) (q:Nat→Value):AtV Tryz.prog 165 (PostR kds165 oks165 [⟨.bool,g165_0 x0 x1 x2⟩] [] [] q K) 26 K q [] [.code b165] (entE 0 0 sig165 (x0,x1,x2,())) (entL sig165 (x0,x1,x2,())):=by
 unfold P165 at h
 unfold g165_0
 obtain ⟨s0,h⟩:=h
 obtain ⟨s1,h⟩:=h
 obtain ⟨s2,h⟩:=h
 obtain ⟨s3,h⟩:=h
 obtain ⟨s4,h⟩:=h
 obtain ⟨s5,h⟩:=h
 obtain ⟨s6,h⟩:=h
 exact AtV.ret Tryz.func165 tabOk ext165Ok mixed false [] tys165 [] (a1 s0 (a1 s1 (a1 s2 (a1 s3 (a1 s4 (a1 s5 (a1 s6 trivial))))))) (by kernel_rfl)
def S165:Am.Spec:={ sig:=sig165,pre:=fun ⟨x0,x1,x2,_⟩=>P165 x0 x1 x2,res:=fun ⟨x0,x1,x2,_⟩=>[⟨.bool,g165_0 x0 x1 x2⟩],kds:=kds165 }
theorem con165:Contract Tryz.prog 165 S165:=contract_of Tryz.func165 hb165 (bl_ (by kernel_rfl)) (fun ⟨x0,x1,x2,_⟩ h _ K q=>at165 x0 x1 x2 h K q)
end
noncomputable section
def ext164c165:Ext:=[(165,S165)]
theorem ext164c165Ok:ExtOk Tryz.prog ext164c165:=⟨⟨ca165,con165⟩,trivial⟩
def b164c165:Code:=bodyOf Tryz.f164
theorem hb164c165:Tryz.f164.body=some b164c165:=by kernel_rfl
def sig164c165:List AT:=[AT.v (.int .i64),AT.v (.int .i64),AT.fn 165 [(true,(.cons (.int .i64) (.cons (.int .i64) (.cons (.int .i64) (.cons (.int .i64) .unit))))),(true,(.int .i64))]]
def tys164c165:List Ty:=[.int .i64]
def kds164c165:List RK:=[]
def oks164c165:List AT:=owns sig164c165
def E164c165_2 (v7:Int) (x0:Int) (x2:Int×Int×Int×Int×Unit) (x2c:Int):Env:=[(0,.a (.val (.int .i64 x0))),(2,PV.fn 165 [Atom.ptr YA4 x2,Atom.ptr (.int .i64) x2c]),(7,.a (.val (.int .i64 v7)))]
def L164c165_2 (v7:Int) (x0:Int) (x2:Int×Int×Int×Int×Unit) (x2c:Int):Heap:=[]
mutual
def R164c165:Nat→Int→Int→Int×Int×Int×Int×Unit→Int→List Dyn→Prop
 | 0,_,_,_,_,_=>False
 | n+1,x0,x1,x2,x2c,ds=>((InR .i64 (x1+1))∧(R164c165_2 n (x1+1) (x0) (x2) (x2c) ds))
def R164c165_2:Nat→Int→Int→Int×Int×Int×Int×Unit→Int→List Dyn→Prop
 | 0,_,_,_,_,_=>False
 | n+1,v7,x0,x2,x2c,ds=>(if (decide (x0<v7))=true then ((InR .i64 (x0+v7))∧((InR .i64 (Int.tdiv (x0+v7) 2))∧((P165 (Int.tdiv (x0+v7) 2) x2 x2c)∧(if (g165_0 (Int.tdiv (x0+v7) 2) x2 x2c)=true then (R164c165_2 n (Int.tdiv (x0+v7) 2) (x0) (x2) (x2c) ds) else ((InR .i64 (Int.tdiv (x0+v7) 2+1))∧(R164c165_2 n (v7) (Int.tdiv (x0+v7) 2+1) (x2) (x2c) ds)))))) else (ds=[Dyn.mk (.int .i64) x0]))
end
theorem snd164c165:∀ n,(∀ (x0:Int) (x1:Int) (x2:Int×Int×Int×Int×Unit) (x2c:Int) ds,R164c165 n x0 x1 x2 x2c ds→∀ K q,AtV Tryz.prog 164 (PostR kds164c165 oks164c165 ds [] [] q K) 25 K q [] [.code b164c165] (entE 0 0 sig164c165 (x0,x1,(x2,x2c,()),())) (entL sig164c165 (x0,x1,(x2,x2c,()),())))∧(∀ (v7:Int) (x0:Int) (x2:Int×Int×Int×Int×Unit) (x2c:Int) ds,R164c165_2 n v7 x0 x2 x2c ds→∀ K q,AtV Tryz.prog 164 (PostR kds164c165 oks164c165 ds [] [] q K) 25 K q [] (cutAt b164c165 2) (E164c165_2 v7 x0 x2 x2c) (L164c165_2 v7 x0 x2 x2c)):=by
 intro n
 induction n with
 | zero=>exact ⟨fun _ _ _ _ _ h=>by simp only [R164c165] at h,fun _ _ _ _ _ h=>by simp only [R164c165_2] at h⟩
 | succ n ih =>
 obtain ⟨ih,ih2⟩:=ih
 refine ⟨?_,?_⟩
 ·intro x0 x1 x2 x2c ds h K q
  rw [R164c165] at h
  obtain ⟨s0,h⟩:=h
  exact AtV.go tabOk ext164c165Ok mixed false [] [] [0,2,7] [] [] (a1 s0 trivial) (ih2 _ _ _ _ _ h K q) (by kernel_rfl)
 ·intro v7 x0 x2 x2c ds h K q
  rw [R164c165_2] at h
  by_cases b0:(decide (x0<v7))=true
  ·rw [if_pos b0] at h
   obtain ⟨s0,h⟩:=h
   obtain ⟨s1,h⟩:=h
   obtain ⟨s2,h⟩:=h
   by_cases b1:(g165_0 (Int.tdiv (x0+v7) 2) x2 x2c)=true
   ·rw [if_pos b1] at h
    exact AtV.go tabOk ext164c165Ok mixed false [] [] [0,2,7] [] [true,true] (a1 b0 (a1 s0 (a1 ((by decide):(2:Int)≠(0:Int)) (a1 s1 (a1 s2 (a1 b1 trivial)))))) (ih2 _ _ _ _ _ h K q) (by kernel_rfl)
   ·rw [if_neg b1] at h
    replace b1:=bf_ b1
    obtain ⟨s3,h⟩:=h
    exact AtV.go tabOk ext164c165Ok mixed false [] [] [0,2,7] [] [true,false] (a1 b0 (a1 s0 (a1 ((by decide):(2:Int)≠(0:Int)) (a1 s1 (a1 s2 (a1 b1 (a1 s3 trivial))))))) (ih2 _ _ _ _ _ h K q) (by kernel_rfl)
  ·rw [if_neg b0] at h
   replace b0:=bf_ b0
   subst h
   exact AtV.ret Tryz.func164 tabOk ext164c165Ok mixed false [] tys164c165 [false] (a1 b0 trivial) (by kernel_rfl)
def g164c165_0 (x0 x1:Int) (y0:Int×Int×Int×Int×Unit) (y1:Int):Int:=bsI (fun x=>g165_0 x y0 y1) (x1+1 - x0).toNat x0 (x1+1)
def P164c165 (x0 x1:Int) (y0:Int×Int×Int×Int×Unit) (y1:Int):Prop:=(0≤x0∧x0≤x1+1∧x1≤1000000000)∧∀ v,0≤v→v≤x1→P165 v y0 y1
theorem run164c165 (y0:Int×Int×Int×Int×Unit) (y1:Int) (e9:Int) (he:e9≤1000000000) (hp:∀ v,0≤v→v≤e9→P165 v y0 y1):∀ (k:Nat) (lo e:Int),0≤lo→lo≤e→e≤e9+1→e - lo≤(k:Int)→R164c165_2 (k+1) e lo y0 y1 [⟨.int .i64,bsI (fun x=>g165_0 x y0 y1) k lo e⟩]:=by
 intro k
 induction k with
 | zero =>
  intro lo e h0 h1 h2 h3
  rw [R164c165_2,if_neg (by simp only [decide_eq_true_eq];omega)]
  rfl
 | succ k ih =>
  intro lo e h0 h1 h2 h3
  unfold bsI
  by_cases hlt:lo<e
  ·obtain ⟨m1,m2⟩:=half_in h0 hlt
   rw [R164c165_2,if_pos (by simpa using hlt),if_pos hlt]
   refine ⟨by rw [i64_iff];omega,by rw [i64_iff];omega,hp _ (by omega) (by omega),?_⟩
   split
   ·exact ih lo _ h0 m1 (by omega) (by omega)
   ·exact ⟨by rw [i64_iff];omega,ih _ e (by omega) (by omega) h2 (by omega)⟩
  ·rw [R164c165_2,if_neg (by simpa using hlt),if_neg hlt]
theorem top164c165 (x0 x1:Int) (y0:Int×Int×Int×Int×Unit) (y1:Int) (h:P164c165 x0 x1 y0 y1):R164c165 ((x1+1 - x0).toNat+1+1) x0 x1 y0 y1 [⟨.int .i64,g164c165_0 x0 x1 y0 y1⟩]:=by
 obtain ⟨⟨h1,h2,h3⟩,hp⟩:=h
 rw [R164c165]
 exact ⟨by rw [i64_iff];omega,run164c165 y0 y1 x1 h3 hp _ _ _ h1 h2 (by omega) (by omega)⟩
def S164c165:Am.Spec:={ sig:=sig164c165,pre:=fun ⟨x0,x1,⟨y0,y1,_⟩,_⟩=>P164c165 x0 x1 y0 y1,res:=fun ⟨x0,x1,⟨y0,y1,_⟩,_⟩=>[⟨.int .i64,g164c165_0 x0 x1 y0 y1⟩] }
theorem con164c165:Contract Tryz.prog 164 S164c165:=contract_of Tryz.func164 hb164c165 (bl_ (by kernel_rfl)) (fun ⟨x0,x1,⟨y0,y1,_⟩,_⟩ h hwf K q =>
 (snd164c165 _).1 x0 x1 y0 y1 _ (top164c165 x0 x1 y0 y1 h) K q)
end
noncomputable section
def ext147:Ext:=[(164,S164c165)]
theorem ext147Ok:ExtOk Tryz.prog ext147:=⟨⟨ca164,con164c165⟩,trivial⟩
def b147:Code:=bodyOf Tryz.f147
theorem hb147:Tryz.f147.body=some b147:=by kernel_rfl
def sig147:List AT:=[AT.v YA4,AT.v (.int .i64),AT.v (.int .i64)]
def tys147:List Ty:=[.int .i64]
def kds147:List RK:=[]
def oks147:List AT:=owns sig147
def P147 (x0:Int×Int×Int×Int×Unit) (x1:Int) (x2:Int):Prop:=((InR .i64 (x1+x0.1))∧(if (decide ((if x1+x0.1<x0.2.1 then x1+x0.1 else x0.2.1)>x0.2.2.1))=true then ((P164c165 x0.2.2.1 (if x1+x0.1<x0.2.1 then x1+x0.1 else x0.2.1) x0 x2)∧((InR .i64 (g164c165_0 x0.2.2.1 (if x1+x0.1<x0.2.1 then x1+x0.1 else x0.2.1) x0 x2 - 1))∧True)) else True))
def g147_0 (x0:Int×Int×Int×Int×Unit) (x1:Int) (x2:Int):Int:=(if (decide ((if x1+x0.1<x0.2.1 then x1+x0.1 else x0.2.1)>x0.2.2.1))=true then if x2<g164c165_0 x0.2.2.1 (if x1+x0.1<x0.2.1 then x1+x0.1 else x0.2.1) x0 x2 - 1 then x2 else g164c165_0 x0.2.2.1 (if x1+x0.1<x0.2.1 then x1+x0.1 else x0.2.1) x0 x2 - 1 else if x2<x0.2.2.1 then x2 else x0.2.2.1)
theorem at147 (x0:Int×Int×Int×Int×Unit) (x1:Int) (x2:Int) (h:P147 x0 x1 x2) (K:Ctx) (q:Nat→Value):AtV Tryz.prog 147 (PostR kds147 oks147 [⟨.int .i64,g147_0 x0 x1 x2⟩] [] [] q K) 31 K q [] [.code b147] (entE 0 0 sig147 (x0,x1,x2,())) (entL sig147 (x0,x1,x2,())):=by
 unfold P147 at h
 unfold g147_0
 obtain ⟨s0,h⟩:=h
 by_cases b0:(decide ((if x1+x0.1<x0.2.1 then x1+x0.1 else x0.2.1)>x0.2.2.1))=true
 ·try simp only [if_pos b0] at h ⊢
  obtain ⟨s1,h⟩:=h
  obtain ⟨s2,h⟩:=h
  exact AtV.ret Tryz.func147 tabOk ext147Ok mixed false [] tys147 [true] (a1 s0 (a1 b0 (a1 s1 (a1 s2 trivial)))) (by kernel_rfl)
 ·try simp only [if_neg b0] at h ⊢
  replace b0:=bf_ b0
  exact AtV.ret Tryz.func147 tabOk ext147Ok mixed false [] tys147 [false] (a1 s0 (a1 b0 trivial)) (by kernel_rfl)
def S147:Am.Spec:={ sig:=sig147,pre:=fun ⟨x0,x1,x2,_⟩=>P147 x0 x1 x2,res:=fun ⟨x0,x1,x2,_⟩=>[⟨.int .i64,g147_0 x0 x1 x2⟩],kds:=kds147 }
theorem con147:Contract Tryz.prog 147 S147:=contract_of Tryz.func147 hb147 (bl_ (by kernel_rfl)) (fun ⟨x0,x1,x2,_⟩ h _ K q=>at147 x0 x1 x2 h K q)
end
noncomputable section
def ext149:Ext:=[]
theorem ext149Ok:ExtOk Tryz.prog ext149:=trivial
def b149:Code:=bodyOf Tryz.f149
theorem hb149:Tryz.f149.body=some b149:=by kernel_rfl
def sig149:List AT:=[AT.v YA2,AT.v (.bool)]
def tys149:List Ty:=[.int .i64]
def kds149:List RK:=[]
def oks149:List AT:=owns sig149
def E149_3 (v5:Int) (v16:Int) (x1:Bool) (x0:List TyB4×Int×Int×Unit):Env:=[(1,.a (.val (.bool x1))),(5,.a (.val (.int .i64 v5))),(14,.a (.sl YA9 x0.1)),(15,.a (.val (.int .i64 (x0.1.length:Int)))),(16,.a (.val (.int .i64 v16)))]
def L149_3 (v5:Int) (v16:Int) (x1:Bool) (x0:List TyB4×Int×Int×Unit):Heap:=[]
mutual
def R149:Nat→List TyB4×Int×Int×Unit→Bool→List Dyn→Prop
 | 0,_,_,_=>False
 | n+1,x0,x1,ds=>((0<(x0.1.length:Int))∧(R149_3 n (List.getD x0.1 0 (0,0,())).2.1 (0) (x1) (x0) ds))
def R149_3:Nat→Int→Int→Bool→List TyB4×Int×Int×Unit→List Dyn→Prop
 | 0,_,_,_,_,_=>False
 | n+1,v5,v16,x1,x0,ds=>(if (decide (v16<(x0.1.length:Int)))=true then ((0≤v16)∧(v16<(x0.1.length:Int))∧(if (x1)=true then ((InR .i64 (v16+1))∧(R149_3 n (if v5<(List.getD x0.1 (Int.toNat v16) (0,0,())).2.1 then (List.getD x0.1 (Int.toNat v16) (0,0,())).2.1 else v5) (v16+1) (x1) (x0) ds)) else ((InR .i64 (v16+1))∧(R149_3 n (if (List.getD x0.1 (Int.toNat v16) (0,0,())).2.1<v5 then (List.getD x0.1 (Int.toNat v16) (0,0,())).2.1 else v5) (v16+1) (x1) (x0) ds)))) else (ds=[Dyn.mk (.int .i64) v5]))
end
theorem snd149:∀ n,(∀ (x0:List TyB4×Int×Int×Unit) (x1:Bool) ds,R149 n x0 x1 ds→∀ K q,AtV Tryz.prog 149 (PostR kds149 oks149 ds [] [] q K) 31 K q [] [.code b149] (entE 0 0 sig149 (x0,x1,())) (entL sig149 (x0,x1,())))∧(∀ (v5:Int) (v16:Int) (x1:Bool) (x0:List TyB4×Int×Int×Unit) ds,R149_3 n v5 v16 x1 x0 ds→∀ K q,AtV Tryz.prog 149 (PostR kds149 oks149 ds [] [] q K) 31 K q [] (cutAt b149 3) (E149_3 v5 v16 x1 x0) (L149_3 v5 v16 x1 x0)):=by
 intro n
 induction n with
 | zero=>exact ⟨fun _ _ _ h=>by simp only [R149] at h,fun _ _ _ _ _ h=>by simp only [R149_3] at h⟩
 | succ n ih =>
 obtain ⟨ih,ih3⟩:=ih
 refine ⟨?_,?_⟩
 ·intro x0 x1 ds h K q
  rw [R149] at h
  obtain ⟨s0,h⟩:=h
  exact AtV.go tabOk ext149Ok mixed false [] [] [1,5,14,15,16] [] [] (a1 ((by decide):(0:Int)≤(0:Int)) (a1 s0 trivial)) (ih3 _ _ _ _ _ h K q) (by kernel_rfl)
 ·intro v5 v16 x1 x0 ds h K q
  rw [R149_3] at h
  by_cases b0:(decide (v16<(x0.1.length:Int)))=true
  ·rw [if_pos b0] at h
   obtain ⟨s0,s1,h⟩:=h
   by_cases b1:(x1)=true
   ·rw [if_pos b1] at h
    obtain ⟨s2,h⟩:=h
    exact AtV.go tabOk ext149Ok mixed false [] [] [1,5,14,15,16] [] [true,true] (a1 b0 (a1 s0 (a1 s1 (a1 b1 (a1 s2 trivial))))) (ih3 _ _ _ _ _ h K q) (by kernel_rfl)
   ·rw [if_neg b1] at h
    replace b1:=bf_ b1
    obtain ⟨s2,h⟩:=h
    exact AtV.go tabOk ext149Ok mixed false [] [] [1,5,14,15,16] [] [true,false] (a1 b0 (a1 s0 (a1 s1 (a1 b1 (a1 s2 trivial))))) (ih3 _ _ _ _ _ h K q) (by kernel_rfl)
  ·rw [if_neg b0] at h
   replace b0:=bf_ b0
   subst h
   exact AtV.ret Tryz.func149 tabOk ext149Ok mixed false [] tys149 [false] (a1 b0 trivial) (by kernel_rfl)
def g149_0 (x0:List TyB4×Int×Int×Unit) (x1:Bool):Int:=worstL x1 (x0.1.getD 0 ((0:Int),(0:Int),())).2.1 x0.1
def P149 (x0:List TyB4×Int×Int×Unit) (x1:Bool):Prop:=1≤x0.1.length∧x0.1.length≤1000
theorem run149 (x0:List TyB4×Int×Int×Unit) (x1:Bool) (hl:x0.1.length≤1000):∀ (k i:Nat) (g:Int),i+k=x0.1.length→R149_3 (k+1) g (i:Int) x1 x0 [⟨.int .i64,worstL x1 g (x0.1.drop i)⟩]:=by
 intro k
 induction k with
 | zero =>
  intro i g hi
  rw [R149_3,if_neg (by simp only [decide_eq_true_eq];omega),List.drop_eq_nil_of_le (by omega)]
  rfl
 | succ k ih =>
  intro i g hi
  have hlt:i<x0.1.length:=by omega
  have e:(i:Int)+1=((i+1:Nat):Int):=by omega
  rw [R149_3,if_pos (by simp only [decide_eq_true_eq];omega),List.drop_eq_getElem_cons hlt,worst_cons]
  simp only [Int.toNat_natCast,getD_lt x0.1 i _ hlt]
  refine ⟨by omega,by omega,?_⟩
  have h:=fun g=>ih (i+1) g (by omega)
  cases x1 with
  | true =>
   simp only [if_true]
   rw [e]
   exact ⟨by rw [i64_iff];omega,h _⟩
  | false =>
   simp only [Bool.false_eq_true,if_false]
   rw [e]
   exact ⟨by rw [i64_iff];omega,h _⟩
theorem top149 (x0:List TyB4×Int×Int×Unit) (x1:Bool) (h:P149 x0 x1):R149 (x0.1.length+1+1) x0 x1 [⟨.int .i64,g149_0 x0 x1⟩]:=by
 rw [R149]
 exact ⟨by have:=h.1;omega,run149 x0 x1 h.2 x0.1.length 0 _ (by omega)⟩
def S149:Am.Spec:={ sig:=sig149,pre:=fun ⟨x0,x1,_⟩=>P149 x0 x1,res:=fun ⟨x0,x1,_⟩=>[⟨.int .i64,g149_0 x0 x1⟩] }
theorem con149:Contract Tryz.prog 149 S149:=contract_of Tryz.func149 hb149 (bl_ (by kernel_rfl)) (fun ⟨x0,x1,_⟩ h hwf K q =>
 (snd149 _).1 x0 x1 _ (top149 x0 x1 h) K q)
end
noncomputable section
def ext190:Ext:=[(145,S145)]
theorem ext190Ok:ExtOk Tryz.prog ext190:=⟨⟨ca145,con145⟩,trivial⟩
def b190:Code:=bodyOf Tryz.f190
theorem hb190:Tryz.f190.body=some b190:=by kernel_rfl
def sig190:List AT:=[AT.v (.int .i64),AT.v (.int .i64)]
def tys190:List Ty:=[.int .i64]
def kds190:List RK:=[]
def oks190:List AT:=owns sig190
def P190 (x0:Int) (x1:Int):Prop:=((x1≠0)∧(InR .i64 (Int.tdiv x0 x1))∧((x1≠0)∧(InR .i64 (Int.tmod x0 x1))∧((P145 (Int.tmod x0 x1))∧((P145 x1)∧((InR .i64 (g145_0 x1 - g145_0 (Int.tmod x0 x1)))∧(if (decide (g145_0 (Int.tmod x0 x1)≥g145_0 x1 - g145_0 (Int.tmod x0 x1)))=true then (if (!decide (x0<0)==decide (x1<0))=true then ((InR .i64 (Int.tdiv x0 x1 - 1))∧True) else ((InR .i64 (Int.tdiv x0 x1+1))∧True)) else True))))))
def g190_0 (x0:Int) (x1:Int):Int:=(if (decide (g145_0 (Int.tmod x0 x1)≥g145_0 x1 - g145_0 (Int.tmod x0 x1)))=true then (if (!decide (x0<0)==decide (x1<0))=true then Int.tdiv x0 x1 - 1 else Int.tdiv x0 x1+1) else Int.tdiv x0 x1)
theorem at190 (x0:Int) (x1:Int) (h:P190 x0 x1) (K:Ctx) (q:Nat→Value):AtV Tryz.prog 190 (PostR kds190 oks190 [⟨.int .i64,g190_0 x0 x1⟩] [] [] q K) 30 K q [] [.code b190] (entE 0 0 sig190 (x0,x1,())) (entL sig190 (x0,x1,())):=by
 unfold P190 at h
 unfold g190_0
 obtain ⟨s0,s1,h⟩:=h
 obtain ⟨s2,s3,h⟩:=h
 obtain ⟨s4,h⟩:=h
 obtain ⟨s5,h⟩:=h
 obtain ⟨s6,h⟩:=h
 by_cases b0:(decide (g145_0 (Int.tmod x0 x1)≥g145_0 x1 - g145_0 (Int.tmod x0 x1)))=true
 ·try simp only [if_pos b0] at h ⊢
  by_cases b1:(!decide (x0<0)==decide (x1<0))=true
  ·try simp only [if_pos b1] at h ⊢
   obtain ⟨s7,h⟩:=h
   exact AtV.ret Tryz.func190 tabOk ext190Ok mixed false [] tys190 [true,true] (a1 s0 (a1 s1 (a1 s2 (a1 s3 (a1 s4 (a1 s5 (a1 s6 (a1 b0 (a1 b1 (a1 s7 trivial)))))))))) (by kernel_rfl)
  ·try simp only [if_neg b1] at h ⊢
   replace b1:=bf_ b1
   obtain ⟨s7,h⟩:=h
   exact AtV.ret Tryz.func190 tabOk ext190Ok mixed false [] tys190 [true,false] (a1 s0 (a1 s1 (a1 s2 (a1 s3 (a1 s4 (a1 s5 (a1 s6 (a1 b0 (a1 b1 (a1 s7 trivial)))))))))) (by kernel_rfl)
 ·try simp only [if_neg b0] at h ⊢
  replace b0:=bf_ b0
  exact AtV.ret Tryz.func190 tabOk ext190Ok mixed false [] tys190 [false] (a1 s0 (a1 s1 (a1 s2 (a1 s3 (a1 s4 (a1 s5 (a1 s6 (a1 b0 trivial)))))))) (by kernel_rfl)
def S190:Am.Spec:={ sig:=sig190,pre:=fun ⟨x0,x1,_⟩=>P190 x0 x1,res:=fun ⟨x0,x1,_⟩=>[⟨.int .i64,g190_0 x0 x1⟩],kds:=kds190 }
theorem con190:Contract Tryz.prog 190 S190:=contract_of Tryz.func190 hb190 (bl_ (by kernel_rfl)) (fun ⟨x0,x1,_⟩ h _ K q=>at190 x0 x1 h K q)
end
noncomputable section
def ext181:Ext:=[(190,S190)]
theorem ext181Ok:ExtOk Tryz.prog ext181:=⟨⟨ca190,con190⟩,trivial⟩
def b181:Code:=bodyOf Tryz.f181
theorem hb181:Tryz.f181.body=some b181:=by kernel_rfl
def sig181:List AT:=[AT.v YA9,AT.v (.int .i64),AT.v (.bool)]
def tys181:List Ty:=[.int .i64]
def kds181:List RK:=[]
def oks181:List AT:=owns sig181
def P181 (x0:Int×Int×Unit) (x1:Int) (x2:Bool):Prop:=((InR .i64 (x1*981))∧((P190 (x1*981) 100)∧(if (x2)=true then ((InR .i64 (x0.2.1 - g190_0 (x1*981) 100))∧True) else ((InR .i64 (x0.2.1+g190_0 (x1*981) 100))∧True))))
def g181_0 (x0:Int×Int×Unit) (x1:Int) (x2:Bool):Int:=(if (x2)=true then x0.2.1 - g190_0 (x1*981) 100 else x0.2.1+g190_0 (x1*981) 100)
theorem at181 (x0:Int×Int×Unit) (x1:Int) (x2:Bool) (h:P181 x0 x1 x2) (K:Ctx) (q:Nat→Value):AtV Tryz.prog 181 (PostR kds181 oks181 [⟨.int .i64,g181_0 x0 x1 x2⟩] [] [] q K) 20 K q [] [.code b181] (entE 0 0 sig181 (x0,x1,x2,())) (entL sig181 (x0,x1,x2,())):=by
 unfold P181 at h
 unfold g181_0
 obtain ⟨s0,h⟩:=h
 obtain ⟨s1,h⟩:=h
 by_cases b0:(x2)=true
 ·try simp only [if_pos b0] at h ⊢
  obtain ⟨s2,h⟩:=h
  exact AtV.ret Tryz.func181 tabOk ext181Ok mixed false [] tys181 [true] (a1 s0 (a1 s1 (a1 b0 (a1 s2 trivial)))) (by kernel_rfl)
 ·try simp only [if_neg b0] at h ⊢
  replace b0:=bf_ b0
  obtain ⟨s2,h⟩:=h
  exact AtV.ret Tryz.func181 tabOk ext181Ok mixed false [] tys181 [false] (a1 s0 (a1 s1 (a1 b0 (a1 s2 trivial)))) (by kernel_rfl)
def S181:Am.Spec:={ sig:=sig181,pre:=fun ⟨x0,x1,x2,_⟩=>P181 x0 x1 x2,res:=fun ⟨x0,x1,x2,_⟩=>[⟨.int .i64,g181_0 x0 x1 x2⟩],kds:=kds181 }
theorem con181:Contract Tryz.prog 181 S181:=contract_of Tryz.func181 hb181 (bl_ (by kernel_rfl)) (fun ⟨x0,x1,x2,_⟩ h _ K q=>at181 x0 x1 x2 h K q)
end
noncomputable section
def ext182:Ext:=[]
theorem ext182Ok:ExtOk Tryz.prog ext182:=trivial
def b182:Code:=bodyOf Tryz.f182
theorem hb182:Tryz.f182.body=some b182:=by kernel_rfl
def sig182:List AT:=[AT.v (.int .i64),AT.v (.int .i64)]
def tys182:List Ty:=[.int .i64]
def kds182:List RK:=[]
def oks182:List AT:=owns sig182
def P182 (x0:Int) (x1:Int):Prop:=((InR .i64 (x0+x1))∧((InR .i64 (x0+x1 - 1))∧((x1≠0)∧(InR .i64 (Int.tdiv (x0+x1 - 1) x1))∧True)))
def g182_0 (x0:Int) (x1:Int):Int:=Int.tdiv (x0+x1 - 1) x1
theorem at182 (x0:Int) (x1:Int) (h:P182 x0 x1) (K:Ctx) (q:Nat→Value):AtV Tryz.prog 182 (PostR kds182 oks182 [⟨.int .i64,g182_0 x0 x1⟩] [] [] q K) 11 K q [] [.code b182] (entE 0 0 sig182 (x0,x1,())) (entL sig182 (x0,x1,())):=by
 unfold P182 at h
 unfold g182_0
 obtain ⟨s0,h⟩:=h
 obtain ⟨s1,h⟩:=h
 obtain ⟨s2,s3,h⟩:=h
 exact AtV.ret Tryz.func182 tabOk ext182Ok mixed false [] tys182 [] (a1 s0 (a1 s1 (a1 s2 (a1 s3 trivial)))) (by kernel_rfl)
def S182:Am.Spec:={ sig:=sig182,pre:=fun ⟨x0,x1,_⟩=>P182 x0 x1,res:=fun ⟨x0,x1,_⟩=>[⟨.int .i64,g182_0 x0 x1⟩],kds:=kds182 }
theorem con182:Contract Tryz.prog 182 S182:=contract_of Tryz.func182 hb182 (bl_ (by kernel_rfl)) (fun ⟨x0,x1,_⟩ h _ K q=>at182 x0 x1 h K q)
end
noncomputable section
def ext166:Ext:=[(181,S181),(182,S182)]
theorem ext166Ok:ExtOk Tryz.prog ext166:=⟨⟨ca181,con181⟩,⟨ca182,con182⟩,trivial⟩
def b166:Code:=bodyOf Tryz.f166
theorem hb166:Tryz.f166.body=some b166:=by kernel_rfl
def sig166:List AT:=[AT.v YA9,AT.v (.int .i64),AT.v (.int .i64),AT.v (.bool)]
def tys166:List Ty:=[.int .i64,.bool]
def kds166:List RK:=[]
def oks166:List AT:=owns sig166
def P166 (x0:Int×Int×Unit) (x1:Int) (x2:Int) (x3:Bool):Prop:=((P181 x0 x2 x3)∧(if (decide (g181_0 x0 x2 x3≤0))=true then True else ((InR .i64 (x1*x0.1))∧((P182 (x1*x0.1) 10)∧((InR .i64 (x1*x1))∧((InR .i64 (2*g181_0 x0 x2 x3))∧((P182 (x1*x1) (2*g181_0 x0 x2 x3))∧((InR .i64 (g182_0 (x1*x0.1) 10+g182_0 (x1*x1) (2*g181_0 x0 x2 x3)))∧True))))))))
def g166_0 (x0:Int×Int×Unit) (x1:Int) (x2:Int) (x3:Bool):Int:=(if (decide (g181_0 x0 x2 x3≤0))=true then 0 else g182_0 (x1*x0.1) 10+g182_0 (x1*x1) (2*g181_0 x0 x2 x3))
def g166_1 (x0:Int×Int×Unit) (x1:Int) (x2:Int) (x3:Bool):Bool:=(if (decide (g181_0 x0 x2 x3≤0))=true then false else true)
theorem at166 (x0:Int×Int×Unit) (x1:Int) (x2:Int) (x3:Bool) (h:P166 x0 x1 x2 x3) (K:Ctx) (q:Nat→Value):AtV Tryz.prog 166 (PostR kds166 oks166 [⟨.int .i64,g166_0 x0 x1 x2 x3⟩,⟨.bool,g166_1 x0 x1 x2 x3⟩] [] [] q K) 29 K q [] [.code b166] (entE 0 0 sig166 (x0,x1,x2,x3,())) (entL sig166 (x0,x1,x2,x3,())):=by
 unfold P166 at h
 unfold g166_0 g166_1
 obtain ⟨s0,h⟩:=h
 by_cases b0:(decide (g181_0 x0 x2 x3≤0))=true
 ·try simp only [if_pos b0] at h ⊢
  exact AtV.ret Tryz.func166 tabOk ext166Ok mixed false [] tys166 [true] (a1 s0 (a1 b0 trivial)) (by kernel_rfl)
 ·try simp only [if_neg b0] at h ⊢
  replace b0:=bf_ b0
  obtain ⟨s1,h⟩:=h
  obtain ⟨s2,h⟩:=h
  obtain ⟨s3,h⟩:=h
  obtain ⟨s4,h⟩:=h
  obtain ⟨s5,h⟩:=h
  obtain ⟨s6,h⟩:=h
  exact AtV.ret Tryz.func166 tabOk ext166Ok mixed false [] tys166 [false] (a1 s0 (a1 b0 (a1 s1 (a1 s2 (a1 s3 (a1 s4 (a1 s5 (a1 s6 trivial)))))))) (by kernel_rfl)
def S166:Am.Spec:={ sig:=sig166,pre:=fun ⟨x0,x1,x2,x3,_⟩=>P166 x0 x1 x2 x3,res:=fun ⟨x0,x1,x2,x3,_⟩=>[⟨.int .i64,g166_0 x0 x1 x2 x3⟩,⟨.bool,g166_1 x0 x1 x2 x3⟩],kds:=kds166 }
theorem con166:Contract Tryz.prog 166 S166:=contract_of Tryz.func166 hb166 (bl_ (by kernel_rfl)) (fun ⟨x0,x1,x2,x3,_⟩ h _ K q=>at166 x0 x1 x2 x3 h K q)
end
noncomputable section
def ext148:Ext:=[(166,S166)]
theorem ext148Ok:ExtOk Tryz.prog ext148:=⟨⟨ca166,con166⟩,trivial⟩
def b148:Code:=bodyOf Tryz.f148
theorem hb148:Tryz.f148.body=some b148:=by kernel_rfl
def sig148:List AT:=[AT.v YA9,AT.v (.int .i64),AT.v (.int .i64),AT.v (.int .i64),AT.v (.bool)]
def tys148:List Ty:=[.bool]
def kds148:List RK:=[]
def oks148:List AT:=owns sig148
def P148 (x0:Int×Int×Unit) (x1:Int) (x2:Int) (x3:Int) (x4:Bool):Prop:=((P166 x0 x1 x3 x4)∧True)
def g148_0 (x0:Int×Int×Unit) (x1:Int) (x2:Int) (x3:Int) (x4:Bool):Bool:=(if (g166_1 x0 x1 x3 x4)=true then decide (g166_0 x0 x1 x3 x4≤x2) else false)
theorem at148 (x0:Int×Int×Unit) (x1:Int) (x2:Int) (x3:Int) (x4:Bool) (h:P148 x0 x1 x2 x3 x4) (K:Ctx) (q:Nat→Value):AtV Tryz.prog 148 (PostR kds148 oks148 [⟨.bool,g148_0 x0 x1 x2 x3 x4⟩] [] [] q K) 27 K q [] [.code b148] (entE 0 0 sig148 (x0,x1,x2,x3,x4,())) (entL sig148 (x0,x1,x2,x3,x4,())):=by
 unfold P148 at h
 unfold g148_0
 obtain ⟨s0,h⟩:=h
 by_cases b0:(g166_1 x0 x1 x3 x4)=true
 ·try simp only [if_pos b0] at h ⊢
  exact AtV.ret Tryz.func148 tabOk ext148Ok mixed false [] tys148 [true] (a1 s0 (a1 b0 trivial)) (by kernel_rfl)
 ·try simp only [if_neg b0] at h ⊢
  replace b0:=bf_ b0
  exact AtV.ret Tryz.func148 tabOk ext148Ok mixed false [] tys148 [false] (a1 s0 (a1 b0 trivial)) (by kernel_rfl)
def S148:Am.Spec:={ sig:=sig148,pre:=fun ⟨x0,x1,x2,x3,x4,_⟩=>P148 x0 x1 x2 x3 x4,res:=fun ⟨x0,x1,x2,x3,x4,_⟩=>[⟨.bool,g148_0 x0 x1 x2 x3 x4⟩],kds:=kds148 }
theorem con148:Contract Tryz.prog 148 S148:=contract_of Tryz.func148 hb148 (bl_ (by kernel_rfl)) (fun ⟨x0,x1,x2,x3,x4,_⟩ h _ K q=>at148 x0 x1 x2 x3 x4 h K q)
end
noncomputable section
def ext118:Ext:=[(113,S113),(149,S149),(148,S148)]
theorem ext118Ok:ExtOk Tryz.prog ext118:=⟨⟨ca113,con113⟩,⟨ca149,con149⟩,⟨ca148,con148⟩,trivial⟩
def b118:Code:=bodyOf Tryz.f118
theorem hb118:Tryz.f118.body=some b118:=by kernel_rfl
def sig118:List AT:=[AT.v YA2,AT.v YA9,AT.v (.int .i64),AT.v (.int .i64),AT.v (.bool)]
def tys118:List Ty:=[.bool]
def kds118:List RK:=[]
def oks118:List AT:=owns sig118
def P118 (x0:List TyB4×Int×Int×Unit) (x1:Int×Int×Unit) (x2:Int) (x3:Int) (x4:Bool):Prop:=((P113 x0)∧((InR .i64 (g113_0 x0 - x2))∧(if (x4)=true then ((P149 x0 x4)∧((P148 x1 x3 x2 (g149_0 x0 x4) x4)∧True)) else ((P149 x0 x4)∧((P148 x1 x3 (g113_0 x0 - x2) (g149_0 x0 x4) x4)∧True)))))
def g118_0 (x0:List TyB4×Int×Int×Unit) (x1:Int×Int×Unit) (x2:Int) (x3:Int) (x4:Bool):Bool:=(if (x4)=true then g148_0 x1 x3 x2 (g149_0 x0 x4) x4 else g148_0 x1 x3 (g113_0 x0 - x2) (g149_0 x0 x4) x4)
theorem at118 (x0:List TyB4×Int×Int×Unit) (x1:Int×Int×Unit) (x2:Int) (x3:Int) (x4:Bool) (h:P118 x0 x1 x2 x3 x4) (K:Ctx) (q:Nat→Value):AtV Tryz.prog 118 (PostR kds118 oks118 [⟨.bool,g118_0 x0 x1 x2 x3 x4⟩] [] [] q K) 26 K q [] [.code b118] (entE 0 0 sig118 (x0,x1,x2,x3,x4,())) (entL sig118 (x0,x1,x2,x3,x4,())):=by
 unfold P118 at h
 unfold g118_0
 obtain ⟨s0,h⟩:=h
 obtain ⟨s1,h⟩:=h
 by_cases b0:(x4)=true
 ·try simp only [if_pos b0] at h ⊢
  obtain ⟨s2,h⟩:=h
  obtain ⟨s3,h⟩:=h
  exact AtV.ret Tryz.func118 tabOk ext118Ok mixed false [] tys118 [true] (a1 s0 (a1 s1 (a1 b0 (a1 s2 (a1 s3 trivial))))) (by kernel_rfl)
 ·try simp only [if_neg b0] at h ⊢
  replace b0:=bf_ b0
  obtain ⟨s2,h⟩:=h
  obtain ⟨s3,h⟩:=h
  exact AtV.ret Tryz.func118 tabOk ext118Ok mixed false [] tys118 [false] (a1 s0 (a1 s1 (a1 b0 (a1 s2 (a1 s3 trivial))))) (by kernel_rfl)
def S118:Am.Spec:={ sig:=sig118,pre:=fun ⟨x0,x1,x2,x3,x4,_⟩=>P118 x0 x1 x2 x3 x4,res:=fun ⟨x0,x1,x2,x3,x4,_⟩=>[⟨.bool,g118_0 x0 x1 x2 x3 x4⟩],kds:=kds118 }
theorem con118:Contract Tryz.prog 118 S118:=contract_of Tryz.func118 hb118 (bl_ (by kernel_rfl)) (fun ⟨x0,x1,x2,x3,x4,_⟩ h _ K q=>at118 x0 x1 x2 x3 x4 h K q)
end
noncomputable section
def ext117:Ext:=[(118,S118)]
theorem ext117Ok:ExtOk Tryz.prog ext117:=⟨⟨ca118,con118⟩,trivial⟩
def b117:Code:=bodyOf Tryz.f117
theorem hb117:Tryz.f117.body=some b117:=by kernel_rfl
def sig117:List AT:=[AT.v (.int .i64),AT.v (.int .i64),AT.pb (.int .i64),AT.p .bool,AT.p (.int .i64),AT.p (.cons (.sl (.cons (.int .i64) (.cons (.int .i64) .unit))) (.cons (.int .i64) (.cons (.int .i64) .unit))),AT.p (.cons (.int .i64) (.cons (.int .i64) .unit)),AT.pb .bool]
def tys117:List Ty:=[.bool]
def kds117:List RK:=[]
def oks117:List AT:=owns sig117
def P117 (x0:Int) (x1:Int) (x2:Int) (x3:Bool) (x4:Int) (x5:List TyB4×Int×Int×Unit) (x6:Int×Int×Unit) (x7:Bool):Prop:=((InR .i64 (x2+1))∧(if (x3)=true then ((InR .i64 (x4 - x0))∧(if (decide (x0<x4))=true then ((P118 x5 x6 (x4 - x0) x1 x3)∧True) else True)) else (if (decide (x0<x4))=true then ((P118 x5 x6 x0 x1 x3)∧True) else True)))
def g117_0 (x0:Int) (x1:Int) (x2:Int) (x3:Bool) (x4:Int) (x5:List TyB4×Int×Int×Unit) (x6:Int×Int×Unit) (x7:Bool):Bool:=(if (x3)=true then (if (decide (x0<x4))=true then !!g118_0 x5 x6 (x4 - x0) x1 x3 else true) else (if (decide (x0<x4))=true then !!g118_0 x5 x6 x0 x1 x3 else true))
def u117_0 (x0:Int) (x1:Int) (x2:Int) (x3:Bool) (x4:Int) (x5:List TyB4×Int×Int×Unit) (x6:Int×Int×Unit) (x7:Bool):Int:=(if (x3)=true then (if (decide (x0<x4))=true then x2+1 else x2+1) else (if (decide (x0<x4))=true then x2+1 else x2+1))
def u117_1 (x0:Int) (x1:Int) (x2:Int) (x3:Bool) (x4:Int) (x5:List TyB4×Int×Int×Unit) (x6:Int×Int×Unit) (x7:Bool):Bool:=(if (x3)=true then (if (decide (x0<x4))=true then !g118_0 x5 x6 (x4 - x0) x1 x3 else false) else (if (decide (x0<x4))=true then !g118_0 x5 x6 x0 x1 x3 else false))
theorem at117 (x0:Int) (x1:Int) (x2:Int) (x3:Bool) (x4:Int) (x5:List TyB4×Int×Int×Unit) (x6:Int×Int×Unit) (x7:Bool) (h:P117 x0 x1 x2 x3 x4 x5 x6 x7) (K:Ctx) (q:Nat→Value):AtV Tryz.prog 117 (PostR kds117 oks117 [⟨.bool,g117_0 x0 x1 x2 x3 x4 x5 x6 x7⟩] [some ⟨.int .i64,[u117_0 x0 x1 x2 x3 x4 x5 x6 x7]⟩,some ⟨.bool,[u117_1 x0 x1 x2 x3 x4 x5 x6 x7]⟩] [2,7] q K) 33 K q [2,7] [.code b117] (entE 0 0 sig117 (x0,x1,x2,x3,x4,x5,x6,x7,())) (entL sig117 (x0,x1,x2,x3,x4,x5,x6,x7,())):=by
 unfold P117 at h
 unfold g117_0 u117_0 u117_1
 obtain ⟨s0,h⟩:=h
 by_cases b0:(x3)=true
 ·try simp only [if_pos b0] at h ⊢
  obtain ⟨s1,h⟩:=h
  by_cases b1:(decide (x0<x4))=true
  ·try simp only [if_pos b1] at h ⊢
   obtain ⟨s2,h⟩:=h
   exact AtV.weak (AtV.ret (us:=[Option.some (Lst.mk (.int .i64) [x2+1]),Option.some (Lst.mk .bool [!g118_0 x5 x6 (x4 - x0) x1 x3])]) Tryz.func117 tabOk ext117Ok mixed false [] tys117 [true,true] (a1 s0 (a1 b0 (a1 s1 (a1 b1 (a1 s2 trivial))))) (by kernel_rfl)) ⟨.inl rfl,.inl rfl,trivial⟩
  ·try simp only [if_neg b1] at h ⊢
   replace b1:=bf_ b1
   exact AtV.weak (AtV.ret (us:=[Option.some (Lst.mk (.int .i64) [x2+1]),Option.some (Lst.mk .bool [false])]) Tryz.func117 tabOk ext117Ok mixed false [] tys117 [true,false] (a1 s0 (a1 b0 (a1 s1 (a1 b1 trivial)))) (by kernel_rfl)) ⟨.inl rfl,.inl rfl,trivial⟩
 ·try simp only [if_neg b0] at h ⊢
  replace b0:=bf_ b0
  by_cases b1:(decide (x0<x4))=true
  ·try simp only [if_pos b1] at h ⊢
   obtain ⟨s1,h⟩:=h
   exact AtV.weak (AtV.ret (us:=[Option.some (Lst.mk (.int .i64) [x2+1]),Option.some (Lst.mk .bool [!g118_0 x5 x6 x0 x1 x3])]) Tryz.func117 tabOk ext117Ok mixed false [] tys117 [false,true] (a1 s0 (a1 b0 (a1 b1 (a1 s1 trivial)))) (by kernel_rfl)) ⟨.inl rfl,.inl rfl,trivial⟩
  ·try simp only [if_neg b1] at h ⊢
   replace b1:=bf_ b1
   exact AtV.weak (AtV.ret (us:=[Option.some (Lst.mk (.int .i64) [x2+1]),Option.some (Lst.mk .bool [false])]) Tryz.func117 tabOk ext117Ok mixed false [] tys117 [false,false] (a1 s0 (a1 b0 (a1 b1 trivial))) (by kernel_rfl)) ⟨.inl rfl,.inl rfl,trivial⟩
def S117:Am.Spec:={ sig:=sig117,pre:=fun ⟨x0,x1,x2,x3,x4,x5,x6,x7,_⟩=>P117 x0 x1 x2 x3 x4 x5 x6 x7,upd:=fun ⟨x0,x1,x2,x3,x4,x5,x6,x7,_⟩=>[some ⟨.int .i64,[u117_0 x0 x1 x2 x3 x4 x5 x6 x7]⟩,some ⟨.bool,[u117_1 x0 x1 x2 x3 x4 x5 x6 x7]⟩],res:=fun ⟨x0,x1,x2,x3,x4,x5,x6,x7,_⟩=>[⟨.bool,g117_0 x0 x1 x2 x3 x4 x5 x6 x7⟩],kds:=kds117 }
theorem con117:Contract Tryz.prog 117 S117:=contract_of Tryz.func117 hb117 (bl_ (by kernel_rfl)) (fun ⟨x0,x1,x2,x3,x4,x5,x6,x7,_⟩ h _ K q=>at117 x0 x1 x2 x3 x4 x5 x6 x7 h K q)
end
end Go.Proofs.YtfobhngpafbfdaaGreatDoor
-- facts: rideLoop
set_option linter.unusedVariables false
set_option linter.unusedSimpArgs false
set_option maxRecDepth 100000
namespace Go.Proofs.YtfobhngpafbfdaaGreatDoor
open Go Go.Am Go.Proofs Go.RowKit
abbrev TR86:=List TyB4×Int×Int×Unit
abbrev TY86:Ty := .cons (.sl (.cons (.int .i64) (.cons (.int .i64) .unit))) (.cons (.int .i64) (.cons (.int .i64) .unit))
abbrev BR86:=Int×Int×Unit
abbrev BY86:Ty := .cons (.int .i64) (.cons (.int .i64) .unit)
abbrev PR86:=Int×Int×Int×Int×Unit
abbrev PY86:Ty := .cons (.int .i64) (.cons (.int .i64) (.cons (.int .i64) (.cons (.int .i64) .unit)))
abbrev ptr86 (b:Nat):Value := .pointer (some ⟨b,0,none⟩)
def Box86 (w:World) (b:Nat) (u:Value):Prop:=∃ cur ty fz,w.heap[b]? = some (.cells cur ty fz)∧cur[0]? = some u∧FreeS 1 fz cur.size
theorem Box86.cell {w:World} {b:Nat} {u:Value} (h:Box86 w b u):w.cell? ⟨b,0,none⟩=some u:=by
 obtain ⟨cur,ty,fz,h1,h2,_⟩:=h
 unfold World.cell?
 rw [show w.heap[(⟨b,0,none⟩:Addr).block]? = _ from h1]
 exact h2
theorem Box86.lt {w:World} {b:Nat} {u:Value} (h:Box86 w b u):b<w.heap.size:=by
 obtain ⟨cur,ty,fz,h1,_⟩:=h
 exact (Array.getElem?_eq_some_iff.1 h1).1
theorem Box86.keep {w w':World} {b:Nat} {u:Value} (h:Box86 w b u) (he:w'.heap[b]? = w.heap[b]?):Box86 w' b u:=by
 obtain ⟨cur,ty,fz,h1,h2⟩:=h
 exact ⟨cur,ty,fz,he.trans h1,h2⟩
theorem Box86.pb {w:World} {G0:Nat→Prop} {b:Nat} {t:Ty} {x:t.den} {u:Value} (hs:t.size=1) (h:Box86 w b u) (hr:RepC w G0 t x [u]):PbAt w G0 t x (ptr86 b) [b]:=by
 obtain ⟨cur,ty,fz,h1,h2,h3⟩:=h
 have hc:0<cur.size:=(Array.getElem?_eq_some_iff.1 h2).1
 refine ⟨b,0,rfl,by show 1≤maxLen;decide,.inr ⟨b,0,1,cur,ty,fz,[[]],rfl,Nat.le_refl _,by decide,?_,h1,?_,rfl,rfl,fun i y bi hx hbi => ?_⟩⟩
 ·show 0+1*t.size≤cur.size
  rw [hs];omega
 ·show FreeS t.size fz cur.size
  rw [hs];exact h3
 ·rcases i with _ | i
  ·simp at hx hbi
   subst hx hbi
   refine ⟨[u],by show 1=t.size;rw [hs],fun j c hj => ?_,hr,rfl⟩
   rcases j with _ | j
   ·simp at hj;subst hj
    rw [Nat.zero_mul];exact h2
   ·simp at hj
  ·simp at hx
theorem pbBox86 {w:World} {G0:Nat→Prop} {b:Nat} {t:Ty} {x:t.den} {u:Value} {bs:List Nat} (hs:t.size=1) (h:PbAt w G0 t x (ptr86 b) bs) (hu:∀ cs,RepC w G0 t x cs→cs=[u]):Box86 w b u:=by
 obtain ⟨b',off',he,hm,h⟩:=h
 cases he
 rcases h with ⟨ad,_,h0,_⟩ | ⟨b2,off2,cap,cur,ty,fz,bss,hv,hc,_,hz,hh,hf,hl,_,hr⟩
 ·cases h0
 ·simp only [Value.slice.injEq,Option.some.injEq,Addr.mk.injEq,and_true] at hv
  obtain ⟨⟨rfl,rfl⟩,_,rfl⟩:=hv
  obtain ⟨bi,hbi⟩:∃ bi,bss[0]? = some bi:=⟨_,List.getElem?_eq_getElem (by rw [hl];exact Nat.zero_lt_one)⟩
  obtain ⟨cs,h1,h2,h3,_⟩:=hr 0 x bi rfl hbi
  rw [hu cs h3] at h2
  have h4:=h2 0 u rfl
  simp only [Nat.zero_mul,Nat.add_zero] at h4
  refine ⟨cur,ty,fz,hh,h4,?_⟩
  have:FreeS t.size fz cur.size:=hf
  rw [hs] at this
  exact this
def bad86 (tr:TR86) (br:BR86) (down:Bool) (way place speed:Int):Bool := !g118_0 tr br (if down=true then way - place else place) speed down
theorem clo86 (W:World) (S D Wy T Bk F:Nat) (place speed k:Int) (fd down:Bool) (way:Int) (tr:TR86) (br:BR86) (hgo:GOk W [S,F]) (hne:S≠F) (hS:Box86 W S (.int .i64 k)) (ik:InR .i64 k) (hF:Box86 W F (.bool fd))
  (hD:PtrAt W (Am.Good W [S,F]) .bool down (ptr86 D)) (hW:PtrAt W (Am.Good W [S,F]) (.int .i64) way (ptr86 Wy)) (hT:PtrAt W (Am.Good W [S,F]) TY86 tr (ptr86 T)) (hB:PtrAt W (Am.Good W [S,F]) BY86 br (ptr86 Bk)) (ip:InR .i64 place) (is:InR .i64 speed) (hp:P117 place speed k down way tr br fd) :
  Calls Tryz.prog 117 #[.int .i64 place,.int .i64 speed,ptr86 S,ptr86 D,ptr86 Wy,ptr86 T,ptr86 Bk,ptr86 F] W fun e w'=>e = .returned (.bool (!(decide (place<way)&&bad86 tr br down way place speed)))∧Kept [S,F] W w'∧Box86 w' S (.int .i64 (k+1))∧Box86 w' F (.bool (decide (place<way)&&bad86 tr br down way place speed)):=by
 have h:=con117 W (Am.Good W [S,F]) (Am.Good W [S,F]) (place,speed,k,down,way,tr,br,fd,()) [.int .i64 place,.int .i64 speed,ptr86 S,ptr86 D,ptr86 Wy,ptr86 T,ptr86 Bk,ptr86 F] [[],[],[S],[],[],[],[],[F]] hgo (fun _ h=>h) (fun _ h=>h) hp
  ⟨_,_,_,_,rfl,rfl,⟨rfl,rfl,ip⟩,_,_,_,_,rfl,rfl,⟨rfl,rfl,is⟩,_,_,_,_,rfl,rfl,hS.pb rfl ⟨rfl,ik⟩,_,_,_,_,rfl,rfl,⟨rfl,hD⟩,_,_,_,_,rfl,rfl,⟨rfl,hW⟩,_,_,_,_,rfl,rfl,⟨rfl,hT⟩,_,_,_,_,rfl,rfl,⟨rfl,hB⟩,_,_,_,_,rfl,rfl,hF.pb rfl rfl,rfl,rfl⟩
  (by simpa using hne)
 have eg:g117_0 place speed k down way tr br fd = !(decide (place<way)&&bad86 tr br down way place speed):=by
  unfold g117_0 bad86
  by_cases hl:place<way
  ·simp only [decide_eq_true hl,if_true,Bool.true_and]
   cases down <;> rfl
  ·simp only [decide_eq_false hl,Bool.false_eq_true,if_false,Bool.false_and]
   cases down <;> rfl
 have eu:u117_0 place speed k down way tr br fd=k+1:=by
  unfold u117_0
  split <;> split <;> rfl
 have ef:u117_1 place speed k down way tr br fd=(decide (place<way)&&bad86 tr br down way place speed):=by
  unfold u117_1 bad86
  by_cases hl:place<way
  ·simp only [decide_eq_true hl,if_true,Bool.true_and]
   cases down <;> rfl
  ·simp only [decide_eq_false hl,Bool.false_eq_true,if_false,Bool.false_and]
   cases down <;> rfl
 refine h.mono ?_
 rintro e w' ⟨rs,ubs,rbs,Fz,rfl,hk,⟨v,s,b,bs,rfl,rfl,⟨cs,ho,hi⟩,rfl,rfl⟩,⟨v1,s1,b1,bs1,hv1,rfl,⟨y1,hy1,hp1⟩,v2,s2,b2,bs2,hv2,rfl,⟨y2,hy2,hp2⟩,_⟩,_⟩
 obtain ⟨ho,_⟩:=ho
 have hi:cs=[v]:=hi
 rw [ho] at hi
 cases hi
 cases hv1
 cases hv2
 cases hy1
 cases hy2
 rw [eu] at hp1
 rw [ef] at hp2
 refine ⟨by rw [← eg];rfl,hk,pbBox86 rfl hp1 (fun cs h=>h.1),pbBox86 rfl hp2 (fun cs h=>h)⟩
theorem nxt86 (W:World) (pf:PR86) (s l:Int) (hgo:GOk W []) (hw:Wf PY86 pf) (is:InR .i64 s) (il:InR .i64 l) (hp:P147 pf s l) :
  Calls Tryz.prog 147 #[.agg #[.int .i64 pf.1,.int .i64 pf.2.1,.int .i64 pf.2.2.1,.int .i64 pf.2.2.2.1],.int .i64 s,.int .i64 l] W fun e w'=>e = .returned (.int .i64 (g147_0 pf s l))∧Below W.heap.size W w':=by
 have hr:RepC W (Am.Good W []) PY86 pf (fcells PY86 pf):=(OwnC.flat (w:=W) (w':=W) (G:=Am.Good W []) rfl (own_of_wf rfl hw)).1
 have h:=con147.down rfl W (pf,s,l,()) [.agg #[.int .i64 pf.1,.int .i64 pf.2.1,.int .i64 pf.2.2.1,.int .i64 pf.2.2.2.1],.int .i64 s,.int .i64 l] [[],[],[]] hgo hp ⟨_,_,_,_,rfl,rfl,⟨rfl,fcells PY86 pf,rfl,hr⟩,_,_,_,_,rfl,rfl,⟨rfl,rfl,is⟩,_,_,_,_,rfl,rfl,⟨rfl,rfl,il⟩,rfl,rfl⟩ (by simp)
 refine h.mono ?_
 rintro e w' ⟨rs,ubs,rbs,rfl,hk,⟨u,s,b1,bs1,cs,rfl,rfl,ho,hv,rfl,rfl⟩,_⟩
 obtain ⟨ho,_⟩:=ho
 have hv:cs=[u]:=hv
 rw [ho] at hv
 cases hv
 exact ⟨rfl,hk.below⟩
theorem gokK86 {O:List Nat} {w W:World} (h:GOk w O) (hk:Kept O w W):GOk W O where
 inv:=h.inv.keep fun b hb hs=>hk.block b hs fun ho=>by have:=h.out b ho;omega
 size:=Nat.le_trans h.size hk.size
 out:=h.out
theorem good86 {O:List Nat} {w W:World} (hk:Kept O w W):∀ b,Am.Good w O b→Am.Good W O b:=fun b h=>⟨Nat.lt_of_lt_of_le h.1 hk.size,h.2⟩
theorem ptrK86 {O:List Nat} {w W:World} (hk:Kept O w W) {t:Ty} {x:t.den} {v:Value} (h:PtrAt w (Am.Good w O) t x v):PtrAt W (Am.Good W O) t x v:=h.keepB (good86 hk) (fun b hb=>hk.block b hb.1 hb.2)
def Fin86 (w:World) (S F:Nat):Option Int→Prop
 | some r=>Box86 w S (.int .i64 r)∧Box86 w F (.bool true)
 | none=>Box86 w F (.bool false)
theorem rideEnd86 (nx:Int→Int→Int) (bad:Int→Int→Bool) (n:Int) (f:Nat) (place speed k:Int) (h:¬ place<n):rideL nx bad n f place speed k=none:=by
 cases f with
 | zero=>rfl
 | succ f=>rw [rideL,if_neg h]
theorem cel86 {w:World} {b:Nat} {cs:Array Value} {ty:TypeId} (h:w.heap[b]? = some (.cells cs ty)) (j:Nat) (u:Value) (hj:cs[j]? = some u):w.cell? ⟨b,j,none⟩=some u:=by
 unfold World.cell?
 rw [show w.heap[(⟨b,j,none⟩:Addr).block]? = _ from h]
 exact hj
set_option maxHeartbeats 4000000 in
theorem ride86 (W:World) (S D Wy T Bk F:Nat) (down:Bool) (way:Int) (tr:TR86) (br:BR86) (pf:PR86) (fu:Nat) (hgo:GOk W [S,F]) (hne:S≠F) (hS:Box86 W S (.int .i64 0)) (hF:Box86 W F (.bool false))
  (hD:PtrAt W (Am.Good W [S,F]) .bool down (ptr86 D)) (hW:PtrAt W (Am.Good W [S,F]) (.int .i64) way (ptr86 Wy)) (hT:PtrAt W (Am.Good W [S,F]) TY86 tr (ptr86 T)) (hB:PtrAt W (Am.Good W [S,F]) BY86 br (ptr86 Bk)) (hw:Wf PY86 pf) (hway:0≤way∧way≤3000000) (hfu:way≤(fu:Int))
  (hnx:∀ s l,0≤s→s≤15000→1≤l→l≤way→P147 pf s l∧1≤g147_0 pf s l∧g147_0 pf s l≤l∧g147_0 pf s l≤15000)
  (hcl:∀ place s k fd,0≤place→place≤way→0≤s→s≤15000→0≤k→k≤3000000→P117 place s k down way tr br fd) :
  Calls Tryz.prog 116 #[.agg #[.int .i64 pf.1,.int .i64 pf.2.1,.int .i64 pf.2.2.1,.int .i64 pf.2.2.2.1],.int .i64 way,.func (.func 117) #[] #[ptr86 S,ptr86 D,ptr86 Wy,ptr86 T,ptr86 Bk,ptr86 F]] W fun e w'=>e = .returned (.tuple #[])∧Kept [S,F] W w' ∧
   Fin86 w' S F (rideL (g147_0 pf) (bad86 tr br down way) way fu 0 0 0):=by
 have lS:=hS.lt
 have lF:=hF.lt
 have HG:Aside (GOk W [S,F]):=hgo
 have HD:Aside (PtrAt W (Am.Good W [S,F]) .bool down (ptr86 D)):=hD
 have HW:Aside (PtrAt W (Am.Good W [S,F]) (.int .i64) way (ptr86 Wy)):=hW
 have HT:Aside (PtrAt W (Am.Good W [S,F]) TY86 tr (ptr86 T)):=hT
 have HB:Aside (PtrAt W (Am.Good W [S,F]) BY86 br (ptr86 Bk)):=hB
 have HS0:Aside (Box86 W S (.int .i64 0)):=hS
 have HF0:Aside (Box86 W F (.bool false)):=hF
 clear hgo hD hW hT hB hS hF
 go_enter Tryz.func116,Tryz.ntmps116
 go_wp2
 go_loopw [6,7] (fun pl sp wr=>∃ (place speed k:Int) (f:Nat),pl = .int .i64 place∧sp = .int .i64 speed∧(0≤place∧place≤way)∧(0≤speed∧speed≤15000)∧(0≤k∧k≤place)∧way - place≤(f:Int)∧Kept [S,F] W wr ∧
   wr.heap[W.heap.size]? = some (.cells #[.int .i64 pf.1,.int .i64 pf.2.1,.int .i64 pf.2.2.1,.int .i64 pf.2.2.2.1] 43)∧Box86 wr S (.int .i64 k)∧Box86 wr F (.bool false) ∧
   rideL (g147_0 pf) (bad86 tr br down way) way f place speed k=rideL (g147_0 pf) (bad86 tr br down way) way fu 0 0 0) (fun pl _ _=>(way - intOf pl).toNat)
 case atStart=>exact ⟨0,0,0,fu,rfl,rfl,by omega,by omega,by omega,by omega,(Kept.refl _ W).alloc _,heap_alloc_new W _,HS0.out.keep (Below.heap_alloc _ _ _ lS),HF0.out.keep (Below.heap_alloc _ _ _ lF),rfl⟩
 case round =>
  obtain ⟨place,speed,k,f,rfl,rfl,hpl,hsp,hk,hf,hkp,hpb,hbs,hbf,hr⟩:=hrel
  have HK:Aside (Kept [S,F] W wr):=hkp
  have HBS:Aside (Box86 wr S (.int .i64 k)):=hbs
  have HBF:Aside (Box86 wr F (.bool false)):=hbf
  have HR:Aside (rideL (g147_0 pf) (bad86 tr br down way) way f place speed k=rideL (g147_0 pf) (bad86 tr br down way) way fu 0 0 0):=hr
  have lS2:S<wr.heap.size:=hbs.lt
  have lF2:F<wr.heap.size:=hbf.lt
  have G1:Aside (GOk wr []):=⟨(gokK86 HG.out hkp).inv,(gokK86 HG.out hkp).size,fun b h=>by cases h⟩
  have lW:W.heap.size<wr.heap.size:=(Array.getElem?_eq_some_iff.1 hpb).1
  have q0:wr.cell? ⟨W.heap.size,0,none⟩=some (.int .i64 pf.1):=cel86 hpb 0 _ rfl
  have q1:wr.cell? ⟨W.heap.size,1,none⟩=some (.int .i64 pf.2.1):=cel86 hpb 1 _ rfl
  have q2:wr.cell? ⟨W.heap.size,2,none⟩=some (.int .i64 pf.2.2.1):=cel86 hpb 2 _ rfl
  have q3:wr.cell? ⟨W.heap.size,3,none⟩=some (.int .i64 pf.2.2.2.1):=cel86 hpb 3 _ rfl
  have HPB:Aside (wr.heap[W.heap.size]? = some (.cells #[.int .i64 pf.1,.int .i64 pf.2.1,.int .i64 pf.2.2.1,.int .i64 pf.2.2.2.1] 43)):=hpb
  clear hkp hbs hbf hr hpb
  by_cases hlt:place<way
  ·obtain ⟨np,n1,n2,n3⟩:=hnx speed (way - place) hsp.1 hsp.2 (by omega) (by omega)
   have HN:Aside (∀ W1,GOk W1 []→Calls Tryz.prog 147 #[.agg #[.int .i64 pf.1,.int .i64 pf.2.1,.int .i64 pf.2.2.1,.int .i64 pf.2.2.2.1],.int .i64 speed,.int .i64 (way - place)] W1 fun e w'=>e = .returned (.int .i64 (g147_0 pf speed (way - place)))∧Below W1.heap.size W1 w'):=fun W1 h=>nxt86 W1 pf speed (way - place) h hw (by rw [i64_iff];omega) (by rw [i64_iff];omega) np
   obtain ⟨f,rfl⟩:∃ f',f=f'+1:=⟨f - 1,by omega⟩
   have HR2:Aside (rideL (g147_0 pf) (bad86 tr br down way) way fu 0 0 0=if (decide (place+g147_0 pf speed (way - place)<way)&&bad86 tr br down way (place+g147_0 pf speed (way - place)) (g147_0 pf speed (way - place)))=true then some (k+1) else rideL (g147_0 pf) (bad86 tr br down way) way f (place+g147_0 pf speed (way - place)) (g147_0 pf speed (way - place)) (k+1)):=by
    have h:=HR.out
    rw [rideL,if_pos hlt] at h
    exact h.symm
   generalize g147_0 pf speed (way - place)=s at *
   have HC:Aside (∀ W2,Kept [S,F] W W2→Box86 W2 S (.int .i64 k)→Box86 W2 F (.bool false)→Calls Tryz.prog 117 #[.int .i64 (place+s),.int .i64 s,ptr86 S,ptr86 D,ptr86 Wy,ptr86 T,ptr86 Bk,ptr86 F] W2 fun e w'=>e = .returned (.bool (!(decide (place+s<way)&&bad86 tr br down way (place+s) s)))∧Kept [S,F] W2 w'∧Box86 w' S (.int .i64 (k+1))∧Box86 w' F (.bool (decide (place+s<way)&&bad86 tr br down way (place+s) s))) :=
    fun W2 hk2 h1 h2=>clo86 W2 S D Wy T Bk F (place+s) s k false down way tr br (gokK86 HG.out hk2) hne h1 (by rw [i64_iff];omega) h2 (ptrK86 hk2 HD.out) (ptrK86 hk2 HW.out) (ptrK86 hk2 HT.out) (ptrK86 hk2 HB.out) (by rw [i64_iff];omega) (by rw [i64_iff];omega) (hcl _ _ _ _ (by omega) (by omega) (by omega) (by omega) (by omega) (by omega))
   have hq1:IntKind.i64.wrap (way - place)=way - place:=by rw [IntKind.wrap_i64];omega
   have hq2:IntKind.i64.wrap (place+s)=place+s:=by rw [IntKind.wrap_i64];omega
   have hnx:True:=trivial
   have hcl:True:=trivial
   generalize (decide (place+s<way)&&bad86 tr br down way (place+s) s)=bb at *
   cases bb with
   | true =>
    go_wp2_with (first
     | (go_at_call 147;refine (HN.out wr G1.out).mono ?_;rintro e w4 ⟨rfl,b4⟩;have K4:Aside (Kept [S,F] W w4):=HK.out.trans (Kept.of_below b4).of_nil;have S4:Aside (Box86 w4 S (.int .i64 k)):=HBS.out.keep (b4.block S lS2);have F4:Aside (Box86 w4 F (.bool false)):=HBF.out.keep (b4.block F lF2))
     | (go_at_call 117;refine (HC.out w4 K4.out S4.out F4.out).mono ?_;rintro e w5 ⟨rfl,k5,s5,f5⟩;have K5:Aside (Kept [S,F] W w5):=K4.out.trans k5;have S5:Aside (Box86 w5 S (.int .i64 (k+1))):=s5;have F5:Aside (Box86 w5 F (.bool true)):=f5;clear k5 s5 f5))
    (try simp only [Exit.inBlock,Exit.then])
    refine bodyPost_ret (results_none rfl _ _ _) rfl ?_
    exact ⟨rfl,K5.out,by rw [HR2.out,if_pos (by first | exact rfl | exact trivial)];exact ⟨S5.out,F5.out⟩⟩
   | false =>
    go_wp2_with (first
     | (go_at_call 147;refine (HN.out wr G1.out).mono ?_;rintro e w4 ⟨rfl,b4⟩;have K4:Aside (Kept [S,F] W w4):=HK.out.trans (Kept.of_below b4).of_nil;have S4:Aside (Box86 w4 S (.int .i64 k)):=HBS.out.keep (b4.block S lS2);have F4:Aside (Box86 w4 F (.bool false)):=HBF.out.keep (b4.block F lF2);have P4:Aside (w4.heap[W.heap.size]? = some (.cells #[.int .i64 pf.1,.int .i64 pf.2.1,.int .i64 pf.2.2.1,.int .i64 pf.2.2.2.1] 43)):=(b4.block _ lW).trans HPB.out;have lW4:W.heap.size<w4.heap.size:=Nat.lt_of_lt_of_le lW b4.size)
     | (go_at_call 117;refine (HC.out w4 K4.out S4.out F4.out).mono ?_;rintro e w5 ⟨rfl,k5,s5,f5⟩;have K5:Aside (Kept [S,F] W w5):=K4.out.trans k5;have S5:Aside (Box86 w5 S (.int .i64 (k+1))):=s5;have F5:Aside (Box86 w5 F (.bool false)):=f5;have P5:Aside (w5.heap[W.heap.size]? = some (.cells #[.int .i64 pf.1,.int .i64 pf.2.1,.int .i64 pf.2.2.1,.int .i64 pf.2.2.2.1] 43)):=(k5.block _ lW4 (by simp;omega)).trans P4.out;clear k5 s5 f5))
    exact ⟨⟨place+s,s,k+1,f,rfl,rfl,by omega,by omega,by omega,by omega,K5.out,P5.out,S5.out,F5.out,by rw [HR2.out,if_neg (by simp)]⟩,by simp [intOf];omega⟩
  ·go_wp2
   go_end0
   exact ⟨rfl,HK.out,by rw [← HR.out,rideEnd86 _ _ _ _ _ _ _ (by omega)];exact HBF.out⟩
def P86 (x0:TR86) (x1:BR86) (x2:PR86) (x3:Bool):Prop:=g102_0 x0=true→g104_0 x1=true→g105_0 x2=true→P113 x0∧(0≤g113_0 x0∧g113_0 x0≤3000000) ∧
 (∀ s l,0≤s→s≤15000→1≤l→l≤g113_0 x0→P147 x2 s l∧1≤g147_0 x2 s l∧g147_0 x2 s l≤l∧g147_0 x2 s l≤15000) ∧
 (∀ place s k fd,0≤place→place≤g113_0 x0→0≤s→s≤15000→0≤k→k≤3000000→P117 place s k x3 (g113_0 x0) x0 x1 fd)
def code86:Option Int→Int
 | some _=>0
 | none=>3
def run86 (x0:TR86) (x1:BR86) (x2:PR86) (x3:Bool):Option Int:=rideL (g147_0 x2) (bad86 x0 x1 x3 (g113_0 x0)) (g113_0 x0) (g113_0 x0).toNat 0 0 0
def g86_0 (x0:TR86) (x1:BR86) (x2:PR86) (x3:Bool):Int:=if (g102_0 x0&&g104_0 x1&&g105_0 x2)=true then (run86 x0 x1 x2 x3).getD 0 else 0
def g86_1 (x0:TR86) (x1:BR86) (x2:PR86) (x3:Bool):Int:=if (g102_0 x0&&g104_0 x1&&g105_0 x2)=true then code86 (run86 x0 x1 x2 x3) else 1
theorem rideNon86 {nx:Int→Int→Int} {bad:Int→Int→Bool} {n:Int}:∀ {f:Nat} {p s k r:Int},0≤k→rideL nx bad n f p s k=some r→0≤r∧r≤k+(f:Int)
 | 0,_,_,_,_,_,h=>by cases h
 | f+1,p,s,k,r,hk,h=>by
  rw [rideL] at h
  split at h
  ·split at h
   ·cases h;omega
   ·have:=rideNon86 (by omega) h
    omega
  ·cases h
theorem trk86 (W:World) (tr:TR86) (v:Value) (hgo:GOk W []) (hv:∃ cs,v = .agg cs.toArray∧RepC W (Am.Good W []) TY86 tr cs) :
  Calls Tryz.prog 102 #[v] W fun e w'=>e = .returned (.bool (g102_0 tr))∧Below W.heap.size W w':=by
 have h:=con102.down rfl W (tr,()) [v] [[]] hgo trivial ⟨_,_,_,_,rfl,rfl,⟨rfl,hv⟩,rfl,rfl⟩ (by simp)
 refine h.mono ?_
 rintro e w' ⟨rs,ubs,rbs,rfl,hk,⟨u,s,b1,bs1,cs,rfl,rfl,ho,hv,rfl,rfl⟩,_⟩
 obtain ⟨ho,_⟩:=ho
 have hv:cs=[u]:=hv
 rw [ho] at hv
 cases hv
 exact ⟨rfl,hk.below⟩
theorem len86 (W:World) (tr:TR86) (v:Value) (hgo:GOk W []) (hv:∃ cs,v = .agg cs.toArray∧RepC W (Am.Good W []) TY86 tr cs) (hp:P113 tr) :
  Calls Tryz.prog 113 #[v] W fun e w'=>e = .returned (.int .i64 (g113_0 tr))∧Below W.heap.size W w':=by
 have h:=con113.down rfl W (tr,()) [v] [[]] hgo hp ⟨_,_,_,_,rfl,rfl,⟨rfl,hv⟩,rfl,rfl⟩ (by simp)
 refine h.mono ?_
 rintro e w' ⟨rs,ubs,rbs,rfl,hk,⟨u,s,b1,bs1,cs,rfl,rfl,ho,hv,rfl,rfl⟩,_⟩
 obtain ⟨ho,_⟩:=ho
 have hv:cs=[u]:=hv
 rw [ho] at hv
 cases hv
 exact ⟨rfl,hk.below⟩
theorem brk86 (W:World) (br:BR86) (hgo:GOk W []) (hw:Wf BY86 br) :
  Calls Tryz.prog 104 #[.agg #[.int .i64 br.1,.int .i64 br.2.1]] W fun e w'=>e = .returned (.bool (g104_0 br))∧Below W.heap.size W w':=by
 have hr:RepC W (Am.Good W []) BY86 br (fcells BY86 br):=(OwnC.flat (w:=W) (w':=W) (G:=Am.Good W []) rfl (own_of_wf rfl hw)).1
 have h:=con104.down rfl W (br,()) [.agg #[.int .i64 br.1,.int .i64 br.2.1]] [[]] hgo trivial ⟨_,_,_,_,rfl,rfl,⟨rfl,fcells BY86 br,rfl,hr⟩,rfl,rfl⟩ (by simp)
 refine h.mono ?_
 rintro e w' ⟨rs,ubs,rbs,rfl,hk,⟨u,s,b1,bs1,cs,rfl,rfl,ho,hv,rfl,rfl⟩,_⟩
 obtain ⟨ho,_⟩:=ho
 have hv:cs=[u]:=hv
 rw [ho] at hv
 cases hv
 exact ⟨rfl,hk.below⟩
theorem prf86 (W:World) (pf:PR86) (hgo:GOk W []) (hw:Wf PY86 pf) :
  Calls Tryz.prog 105 #[.agg #[.int .i64 pf.1,.int .i64 pf.2.1,.int .i64 pf.2.2.1,.int .i64 pf.2.2.2.1]] W fun e w'=>e = .returned (.bool (g105_0 pf))∧Below W.heap.size W w':=by
 have hr:RepC W (Am.Good W []) PY86 pf (fcells PY86 pf):=(OwnC.flat (w:=W) (w':=W) (G:=Am.Good W []) rfl (own_of_wf rfl hw)).1
 have h:=con105.down rfl W (pf,()) [.agg #[.int .i64 pf.1,.int .i64 pf.2.1,.int .i64 pf.2.2.1,.int .i64 pf.2.2.2.1]] [[]] hgo trivial ⟨_,_,_,_,rfl,rfl,⟨rfl,fcells PY86 pf,rfl,hr⟩,rfl,rfl⟩ (by simp)
 refine h.mono ?_
 rintro e w' ⟨rs,ubs,rbs,rfl,hk,⟨u,s,b1,bs1,cs,rfl,rfl,ho,hv,rfl,rfl⟩,_⟩
 obtain ⟨ho,_⟩:=ho
 have hv:cs=[u]:=hv
 rw [ho] at hv
 cases hv
 exact ⟨rfl,hk.below⟩
theorem gokB86 {w W:World} (h:GOk w []) (hb:Below w.heap.size w W):GOk W []:=gokK86 h (Kept.of_below hb)
theorem trkB86 {w W:World} (hb:Below w.heap.size w W) {tr:TR86} {v:Value} (hv:∃ cs,v = .agg cs.toArray∧RepC w (Am.Good w []) TY86 tr cs):∃ cs,v = .agg cs.toArray∧RepC W (Am.Good W []) TY86 tr cs:=by
 obtain ⟨cs,rfl,h⟩:=hv
 exact ⟨cs,rfl,h.keep (good86 (Kept.of_below hb)) (fun b hb'=>hb.block b hb'.1)⟩
structure Env86 (w:World) (sl:Value) (tr:TR86) (br:BR86) (pf:PR86) (down:Bool) (W:World):Prop where
 low:Below w.heap.size w W
 t:W.heap[w.heap.size]? = some (.cells #[sl,.int .i64 tr.2.1,.int .i64 tr.2.2.1] 41)
 b:W.heap[w.heap.size+1]? = some (.cells #[.int .i64 br.1,.int .i64 br.2.1] 42)
 p:W.heap[w.heap.size+1+1]? = some (.cells #[.int .i64 pf.1,.int .i64 pf.2.1,.int .i64 pf.2.2.1,.int .i64 pf.2.2.2.1] 43)
 d:W.heap[w.heap.size+1+1+1]? = some (.cells #[.bool down] 4)
theorem Env86.keep {w W W':World} {sl:Value} {tr:TR86} {br:BR86} {pf:PR86} {down:Bool} (h:Env86 w sl tr br pf down W) (hb:Below W.heap.size W W'):Env86 w sl tr br pf down W' where
 low:=h.low.trans (hb.mono h.low.size)
 t:=(hb.block _ (Array.getElem?_eq_some_iff.1 h.t).1).trans h.t
 b:=(hb.block _ (Array.getElem?_eq_some_iff.1 h.b).1).trans h.b
 p:=(hb.block _ (Array.getElem?_eq_some_iff.1 h.p).1).trans h.p
 d:=(hb.block _ (Array.getElem?_eq_some_iff.1 h.d).1).trans h.d
theorem new86 (w:World) (o:Obj) (n:Nat) (hn:w.heap.size=n):(w.alloc o).heap[n]? = some o:=by
 subst hn
 exact heap_alloc_new w o
abbrev W486 (w:World) (sl:Value) (tr:TR86) (br:BR86) (pf:PR86) (down:Bool):World:=((((w.alloc (.cells #[sl,.int .i64 tr.2.1,.int .i64 tr.2.2.1] 41)).alloc (.cells #[.int .i64 br.1,.int .i64 br.2.1] 42)).alloc (.cells #[.int .i64 pf.1,.int .i64 pf.2.1,.int .i64 pf.2.2.1,.int .i64 pf.2.2.2.1] 43)).alloc (.cells #[.bool down] 4))
theorem env86 (w:World) (sl:Value) (tr:TR86) (br:BR86) (pf:PR86) (down:Bool) :
  Env86 w sl tr br pf down (W486 w sl tr br pf down):=by
 refine ⟨((((Below.refl _ w).alloc (Nat.le_refl _) _).alloc (by simp) _).alloc (by simp <;> omega) _).alloc (by simp <;> omega) _,?_,?_,?_,?_⟩
 ·rw [Below.heap_alloc _ _ _ (by simp <;> omega),Below.heap_alloc _ _ _ (by simp <;> omega),Below.heap_alloc _ _ _ (by simp)]
  exact heap_alloc_new w _
 ·rw [Below.heap_alloc _ _ _ (by simp <;> omega),Below.heap_alloc _ _ _ (by simp)]
  exact new86 _ _ _ (by simp)
 ·rw [Below.heap_alloc _ _ _ (by simp)]
  exact new86 _ _ _ (by simp)
 ·exact new86 _ _ _ (by simp)
theorem boxOf86 {W:World} {b:Nat} {u:Value} {ty:TypeId} (h:W.heap[b]? = some (.cells #[u] ty)):Box86 W b u:=⟨#[u],ty,(0,0),h,rfl,fun j _ hj=>by have:=hj.2;omega,.inl rfl⟩
abbrev W786 (w4:World) (way:Int):World:=((w4.alloc (.cells #[.int .i64 way] 2)).alloc (.cells #[.int .i64 0] 2)).alloc (.cells #[.bool false] 4)
theorem low786 (w4:World) (way:Int):Below w4.heap.size w4 (W786 w4 way):=(((Below.refl _ w4).alloc (Nat.le_refl _) _).alloc (by simp) _).alloc (by simp <;> omega) _
theorem way786 (w4:World) (way:Int):(W786 w4 way).heap[w4.heap.size]? = some (.cells #[.int .i64 way] 2):=by
 rw [Below.heap_alloc _ _ _ (by simp <;> omega),Below.heap_alloc _ _ _ (by simp)]
 exact heap_alloc_new w4 _
theorem sec786 (w4:World) (way:Int):(W786 w4 way).heap[w4.heap.size+1]? = some (.cells #[.int .i64 0] 2):=by
 rw [Below.heap_alloc _ _ _ (by simp)]
 exact new86 _ _ _ (by simp)
theorem fnd786 (w4:World) (way:Int):(W786 w4 way).heap[w4.heap.size+1+1]? = some (.cells #[.bool false] 4):=new86 _ _ _ (by simp)
theorem call86 {w w4:World} {sl:Value} {tr:TR86} {br:BR86} {pf:PR86} {down:Bool} (E4:Env86 w sl tr br pf down w4) (hgo:GOk w []) (hv:∃ cs,Value.agg #[sl,.int .i64 tr.2.1,.int .i64 tr.2.2.1] = .agg cs.toArray∧RepC w (Am.Good w []) TY86 tr cs) (hw1:Wf BY86 br) (hw2:Wf PY86 pf)
  (p2:0≤g113_0 tr∧g113_0 tr≤3000000)
  (p3:∀ s l,0≤s→s≤15000→1≤l→l≤g113_0 tr→P147 pf s l∧1≤g147_0 pf s l∧g147_0 pf s l≤l∧g147_0 pf s l≤15000)
  (p4:∀ place s k fd,0≤place→place≤g113_0 tr→0≤s→s≤15000→0≤k→k≤3000000→P117 place s k down (g113_0 tr) tr br fd) :
  Calls Tryz.prog 116 #[.agg #[.int .i64 pf.1,.int .i64 pf.2.1,.int .i64 pf.2.2.1,.int .i64 pf.2.2.2.1],.int .i64 (g113_0 tr),.func (.func 117) #[] #[ptr86 (w4.heap.size+1),ptr86 (w.heap.size+1+1+1),ptr86 w4.heap.size,ptr86 w.heap.size,ptr86 (w.heap.size+1),ptr86 (w4.heap.size+1+1)]] (W786 w4 (g113_0 tr)) fun e w' =>
   e = .returned (.tuple #[])∧Below w.heap.size w w'∧Fin86 w' (w4.heap.size+1) (w4.heap.size+1+1) (run86 tr br pf down):=by
 have low:=low786 w4 (g113_0 tr)
 have E7:=E4.keep low
 have ls:(W786 w4 (g113_0 tr)).heap.size=w4.heap.size+3:=by simp
 have l4:w.heap.size+4≤w4.heap.size:=by have:=(Array.getElem?_eq_some_iff.1 E4.d).1;omega
 have g7:GOk (W786 w4 (g113_0 tr)) []:=gokB86 hgo E7.low
 have g4:GOk w4 []:=gokB86 hgo E4.low
 have gs:=g4.size
 obtain ⟨cs,hcs,hrep⟩:=hv
 obtain rfl:cs=[sl,.int .i64 tr.2.1,.int .i64 tr.2.2.1]:=by
  have:=congrArg Value.cells hcs
  simpa [Value.cells] using congrArg Array.toList (show cs.toArray = #[sl,.int .i64 tr.2.1,.int .i64 tr.2.2.1] by cases hcs;rfl)
 have hr:=ride86 (W786 w4 (g113_0 tr)) (w4.heap.size+1) (w.heap.size+1+1+1) w4.heap.size w.heap.size (w.heap.size+1) (w4.heap.size+1+1) down (g113_0 tr) tr br pf (g113_0 tr).toNat
  ⟨g7.inv,g7.size,fun b hb=>by simp at hb;omega⟩ (by omega) (boxOf86 (sec786 _ _)) (boxOf86 (fnd786 _ _))
  ⟨_,_,[.bool down],rfl,⟨by rw [ls];omega,by simp <;> omega⟩,fun j c hj => ?_,rfl⟩
  ⟨_,_,[.int .i64 (g113_0 tr)],rfl,⟨by rw [ls];omega,by simp <;> omega⟩,fun j c hj => ?_,rfl,by rw [i64_iff];omega⟩
  ⟨_,_,[sl,.int .i64 tr.2.1,.int .i64 tr.2.2.1],rfl,⟨by rw [ls];omega,by simp <;> omega⟩,fun j c hj => ?_,hrep.keep (fun b hb=>⟨by rw [ls];have:=hb.1;omega,by have:=hb.1;simp;omega⟩) (fun b hb=>E7.low.block b hb.1)⟩
  ⟨_,_,fcells BY86 br,rfl,⟨by rw [ls];omega,by simp <;> omega⟩,fun j c hj => ?_,(OwnC.flat (w:=w) (G:=Am.Good (W786 w4 (g113_0 tr)) [w4.heap.size+1,w4.heap.size+1+1]) rfl (own_of_wf rfl hw1)).1⟩
  hw2 p2 (by omega) p3 p4
 ·refine hr.mono ?_
  rintro e w' ⟨rfl,hk,hf⟩
  refine ⟨rfl,⟨hk.os.trans E7.low.os,hk.tape.trans E7.low.tape,hk.output.trans E7.low.output,Nat.le_trans E7.low.size hk.size,fun q hq => ?_⟩,hf⟩
  exact (hk.block q (by rw [ls];omega) (by simp <;> omega)).trans (E7.low.block q hq)
 ·rcases j with _ | j
  ·simp at hj;subst hj
   exact cel86 E7.d 0 _ rfl
  ·simp at hj
 ·rcases j with _ | j
  ·simp at hj;subst hj
   exact cel86 (way786 _ _) 0 _ rfl
  ·simp at hj
 ·rw [Nat.zero_add]
  exact cel86 E7.t j c (by simpa using hj)
 ·rw [Nat.zero_add]
  exact cel86 E7.b j c (by simpa [fcells] using hj)
set_option maxHeartbeats 8000000 in
theorem walk86 (w:World) (sl:Value) (tr:TR86) (br:BR86) (pf:PR86) (down:Bool) (hgo:GOk w []) (hv:∃ cs,Value.agg #[sl,.int .i64 tr.2.1,.int .i64 tr.2.2.1] = .agg cs.toArray∧RepC w (Am.Good w []) TY86 tr cs) (hw1:Wf BY86 br) (hw2:Wf PY86 pf)
  (h1:g102_0 tr=true) (h2:g104_0 br=true) (h3:g105_0 pf=true) (hp:P86 tr br pf down) :
  Calls Tryz.prog 86 #[.agg #[sl,.int .i64 tr.2.1,.int .i64 tr.2.2.1],.agg #[.int .i64 br.1,.int .i64 br.2.1],.agg #[.int .i64 pf.1,.int .i64 pf.2.1,.int .i64 pf.2.2.1,.int .i64 pf.2.2.2.1],.bool down] w fun e w' =>
   e = .returned (.tuple #[.int .i64 ((run86 tr br pf down).getD 0),.int .i64 (code86 (run86 tr br pf down))])∧Below w.heap.size w w':=by
 obtain ⟨p1,p2,p3,p4⟩:=hp h1 h2 h3
 have HG:Aside (GOk w []):=hgo
 have HV:Aside (∃ cs,Value.agg #[sl,.int .i64 tr.2.1,.int .i64 tr.2.2.1] = .agg cs.toArray∧RepC w (Am.Good w []) TY86 tr cs):=hv
 clear hgo hv hp
 have hmf:∀ (fn:Fn) (first cap:Array Value) (w:World),(Instr.makeFunc fn first cap).run Tryz.prog w = .ok (.func fn first cap) w:=fun _ _ _ _=>rfl
 go_enter Tryz.func86,Tryz.ntmps86
 have E0:Aside (Env86 w sl tr br pf down (W486 w sl tr br pf down)):=env86 w sl tr br pf down
 go_wp2_with (go_at_call 102;refine (trk86 _ tr _ (gokB86 HG.out E0.out.low) (trkB86 E0.out.low HV.out)).mono ?_;rintro e w1 ⟨rfl,b1⟩;rw [h1];have E1:Aside (Env86 w sl tr br pf down w1):=E0.out.keep b1;clear b1;have c0:w1.cell? ⟨w.heap.size+1,0,none⟩=some (.int .i64 br.1):=cel86 E1.out.b 0 _ rfl;have c1:w1.cell? ⟨w.heap.size+1,1,none⟩=some (.int .i64 br.2.1):=cel86 E1.out.b 1 _ rfl)
 go_wp2_with (go_at_call 104;refine (brk86 w1 br (gokB86 HG.out E1.out.low) hw1).mono ?_;rintro e w2 ⟨rfl,b2⟩;rw [h2];have E2:Aside (Env86 w sl tr br pf down w2):=E1.out.keep b2;clear b2 c0 c1;have c0:w2.cell? ⟨w.heap.size+1+1,0,none⟩=some (.int .i64 pf.1):=cel86 E2.out.p 0 _ rfl;have c1:w2.cell? ⟨w.heap.size+1+1,1,none⟩=some (.int .i64 pf.2.1):=cel86 E2.out.p 1 _ rfl;have c2:w2.cell? ⟨w.heap.size+1+1,2,none⟩=some (.int .i64 pf.2.2.1):=cel86 E2.out.p 2 _ rfl;have c3:w2.cell? ⟨w.heap.size+1+1,3,none⟩=some (.int .i64 pf.2.2.2.1):=cel86 E2.out.p 3 _ rfl)
 go_wp2_with (go_at_call 105;refine (prf86 w2 pf (gokB86 HG.out E2.out.low) hw2).mono ?_;rintro e w3 ⟨rfl,b3⟩;rw [h3];have E3:Aside (Env86 w sl tr br pf down w3):=E2.out.keep b3;clear b3 c0 c1 c2 c3;have c0:w3.cell? ⟨w.heap.size,0,none⟩=some sl:=cel86 E3.out.t 0 _ rfl;have c1:w3.cell? ⟨w.heap.size,1,none⟩=some (.int .i64 tr.2.1):=cel86 E3.out.t 1 _ rfl;have c2:w3.cell? ⟨w.heap.size,2,none⟩=some (.int .i64 tr.2.2.1):=cel86 E3.out.t 2 _ rfl)
 go_wp2_with (go_at_call 113;refine (len86 w3 tr _ (gokB86 HG.out E3.out.low) (trkB86 E3.out.low HV.out) p1).mono ?_;rintro e w4 ⟨rfl,b4⟩;have E4:Aside (Env86 w sl tr br pf down w4):=E3.out.keep b4;clear b4 c0 c1 c2;have E7:Aside (Env86 w sl tr br pf down (W786 w4 (g113_0 tr))):=E4.out.keep (low786 w4 _);have c0:(W786 w4 (g113_0 tr)).cell? ⟨w.heap.size+1+1,0,none⟩=some (.int .i64 pf.1):=cel86 E7.out.p 0 _ rfl;have c1:(W786 w4 (g113_0 tr)).cell? ⟨w.heap.size+1+1,1,none⟩=some (.int .i64 pf.2.1):=cel86 E7.out.p 1 _ rfl;have c2:(W786 w4 (g113_0 tr)).cell? ⟨w.heap.size+1+1,2,none⟩=some (.int .i64 pf.2.2.1):=cel86 E7.out.p 2 _ rfl;have c3:(W786 w4 (g113_0 tr)).cell? ⟨w.heap.size+1+1,3,none⟩=some (.int .i64 pf.2.2.2.1):=cel86 E7.out.p 3 _ rfl;have c4:(W786 w4 (g113_0 tr)).cell? ⟨w4.heap.size,0,none⟩=some (.int .i64 (g113_0 tr)):=cel86 (way786 w4 _) 0 _ rfl)
 cases hrun:run86 tr br pf down with
 | none =>
  go_wp2_with (go_at_call 116;refine (call86 E4.out HG.out HV.out hw1 hw2 p2 p3 p4).mono ?_;rintro e w5 ⟨rfl,b5,f5⟩;rw [hrun] at f5;have B5:Aside (Below w.heap.size w w5):=b5;have c5:w5.cell? ⟨w4.heap.size+1+1,0,none⟩=some (.bool false):=Box86.cell f5;clear b5 f5)
  go_ret2
  exact ⟨by rw [hrun];rfl,B5.out⟩
 | some r =>
  go_wp2_with (go_at_call 116;refine (call86 E4.out HG.out HV.out hw1 hw2 p2 p3 p4).mono ?_;rintro e w5 ⟨rfl,b5,f5⟩;rw [hrun] at f5;have B5:Aside (Below w.heap.size w w5):=b5;have c5:w5.cell? ⟨w4.heap.size+1+1,0,none⟩=some (.bool true):=Box86.cell f5.2;have c6:w5.cell? ⟨w4.heap.size+1,0,none⟩=some (.int .i64 r):=Box86.cell f5.1;clear b5 f5)
  go_ret2
  exact ⟨by rw [hrun];rfl,B5.out⟩
set_option maxHeartbeats 4000000 in
theorem bad186 (w:World) (sl:Value) (tr:TR86) (br:BR86) (pf:PR86) (down:Bool) (hgo:GOk w []) (hv:∃ cs,Value.agg #[sl,.int .i64 tr.2.1,.int .i64 tr.2.2.1] = .agg cs.toArray∧RepC w (Am.Good w []) TY86 tr cs) (h1:g102_0 tr=false) :
  Calls Tryz.prog 86 #[.agg #[sl,.int .i64 tr.2.1,.int .i64 tr.2.2.1],.agg #[.int .i64 br.1,.int .i64 br.2.1],.agg #[.int .i64 pf.1,.int .i64 pf.2.1,.int .i64 pf.2.2.1,.int .i64 pf.2.2.2.1],.bool down] w fun e w'=>e = .returned (.tuple #[.int .i64 0,.int .i64 1])∧Below w.heap.size w w':=by
 have HG:Aside (GOk w []):=hgo
 have HV:Aside (∃ cs,Value.agg #[sl,.int .i64 tr.2.1,.int .i64 tr.2.2.1] = .agg cs.toArray∧RepC w (Am.Good w []) TY86 tr cs):=hv
 clear hgo hv
 go_enter Tryz.func86,Tryz.ntmps86
 have E0:Aside (Env86 w sl tr br pf down (W486 w sl tr br pf down)):=env86 w sl tr br pf down
 go_wp2_with (go_at_call 102;refine (trk86 _ tr _ (gokB86 HG.out E0.out.low) (trkB86 E0.out.low HV.out)).mono ?_;rintro e w1 ⟨rfl,b1⟩;rw [h1];have E1:Aside (Env86 w sl tr br pf down w1):=E0.out.keep b1;clear b1)
 go_ret2
 exact ⟨rfl,E1.out.low⟩
set_option maxHeartbeats 4000000 in
theorem bad286 (w:World) (sl:Value) (tr:TR86) (br:BR86) (pf:PR86) (down:Bool) (hgo:GOk w []) (hv:∃ cs,Value.agg #[sl,.int .i64 tr.2.1,.int .i64 tr.2.2.1] = .agg cs.toArray∧RepC w (Am.Good w []) TY86 tr cs) (hw1:Wf BY86 br) (h1:g102_0 tr=true) (h2:g104_0 br=false) :
  Calls Tryz.prog 86 #[.agg #[sl,.int .i64 tr.2.1,.int .i64 tr.2.2.1],.agg #[.int .i64 br.1,.int .i64 br.2.1],.agg #[.int .i64 pf.1,.int .i64 pf.2.1,.int .i64 pf.2.2.1,.int .i64 pf.2.2.2.1],.bool down] w fun e w'=>e = .returned (.tuple #[.int .i64 0,.int .i64 1])∧Below w.heap.size w w':=by
 have HG:Aside (GOk w []):=hgo
 have HV:Aside (∃ cs,Value.agg #[sl,.int .i64 tr.2.1,.int .i64 tr.2.2.1] = .agg cs.toArray∧RepC w (Am.Good w []) TY86 tr cs):=hv
 clear hgo hv
 go_enter Tryz.func86,Tryz.ntmps86
 have E0:Aside (Env86 w sl tr br pf down (W486 w sl tr br pf down)):=env86 w sl tr br pf down
 go_wp2_with (go_at_call 102;refine (trk86 _ tr _ (gokB86 HG.out E0.out.low) (trkB86 E0.out.low HV.out)).mono ?_;rintro e w1 ⟨rfl,b1⟩;rw [h1];have E1:Aside (Env86 w sl tr br pf down w1):=E0.out.keep b1;clear b1;have c0:w1.cell? ⟨w.heap.size+1,0,none⟩=some (.int .i64 br.1):=cel86 E1.out.b 0 _ rfl;have c1:w1.cell? ⟨w.heap.size+1,1,none⟩=some (.int .i64 br.2.1):=cel86 E1.out.b 1 _ rfl)
 go_wp2_with (go_at_call 104;refine (brk86 w1 br (gokB86 HG.out E1.out.low) hw1).mono ?_;rintro e w2 ⟨rfl,b2⟩;rw [h2];have E2:Aside (Env86 w sl tr br pf down w2):=E1.out.keep b2;clear b2 c0 c1)
 go_ret2
 exact ⟨rfl,E2.out.low⟩
set_option maxHeartbeats 4000000 in
theorem bad386 (w:World) (sl:Value) (tr:TR86) (br:BR86) (pf:PR86) (down:Bool) (hgo:GOk w []) (hv:∃ cs,Value.agg #[sl,.int .i64 tr.2.1,.int .i64 tr.2.2.1] = .agg cs.toArray∧RepC w (Am.Good w []) TY86 tr cs) (hw1:Wf BY86 br) (hw2:Wf PY86 pf) (h1:g102_0 tr=true) (h2:g104_0 br=true) (h3:g105_0 pf=false) :
  Calls Tryz.prog 86 #[.agg #[sl,.int .i64 tr.2.1,.int .i64 tr.2.2.1],.agg #[.int .i64 br.1,.int .i64 br.2.1],.agg #[.int .i64 pf.1,.int .i64 pf.2.1,.int .i64 pf.2.2.1,.int .i64 pf.2.2.2.1],.bool down] w fun e w'=>e = .returned (.tuple #[.int .i64 0,.int .i64 1])∧Below w.heap.size w w':=by
 have HG:Aside (GOk w []):=hgo
 have HV:Aside (∃ cs,Value.agg #[sl,.int .i64 tr.2.1,.int .i64 tr.2.2.1] = .agg cs.toArray∧RepC w (Am.Good w []) TY86 tr cs):=hv
 clear hgo hv
 go_enter Tryz.func86,Tryz.ntmps86
 have E0:Aside (Env86 w sl tr br pf down (W486 w sl tr br pf down)):=env86 w sl tr br pf down
 go_wp2_with (go_at_call 102;refine (trk86 _ tr _ (gokB86 HG.out E0.out.low) (trkB86 E0.out.low HV.out)).mono ?_;rintro e w1 ⟨rfl,b1⟩;rw [h1];have E1:Aside (Env86 w sl tr br pf down w1):=E0.out.keep b1;clear b1;have c0:w1.cell? ⟨w.heap.size+1,0,none⟩=some (.int .i64 br.1):=cel86 E1.out.b 0 _ rfl;have c1:w1.cell? ⟨w.heap.size+1,1,none⟩=some (.int .i64 br.2.1):=cel86 E1.out.b 1 _ rfl)
 go_wp2_with (go_at_call 104;refine (brk86 w1 br (gokB86 HG.out E1.out.low) hw1).mono ?_;rintro e w2 ⟨rfl,b2⟩;rw [h2];have E2:Aside (Env86 w sl tr br pf down w2):=E1.out.keep b2;clear b2 c0 c1;have c0:w2.cell? ⟨w.heap.size+1+1,0,none⟩=some (.int .i64 pf.1):=cel86 E2.out.p 0 _ rfl;have c1:w2.cell? ⟨w.heap.size+1+1,1,none⟩=some (.int .i64 pf.2.1):=cel86 E2.out.p 1 _ rfl;have c2:w2.cell? ⟨w.heap.size+1+1,2,none⟩=some (.int .i64 pf.2.2.1):=cel86 E2.out.p 2 _ rfl;have c3:w2.cell? ⟨w.heap.size+1+1,3,none⟩=some (.int .i64 pf.2.2.2.1):=cel86 E2.out.p 3 _ rfl)
 go_wp2_with (go_at_call 105;refine (prf86 w2 pf (gokB86 HG.out E2.out.low) hw2).mono ?_;rintro e w3 ⟨rfl,b3⟩;rw [h3];have E3:Aside (Env86 w sl tr br pf down w3):=E2.out.keep b3;clear b3 c0 c1 c2 c3)
 go_ret2
 exact ⟨rfl,E3.out.low⟩
def sig86:List AT:=[AT.v TY86,AT.v BY86,AT.v PY86,AT.v Ty.bool]
def S86:Am.Spec:={ sig:=sig86,pre:=fun ⟨x0,x1,x2,x3,_⟩=>P86 x0 x1 x2 x3,res:=fun ⟨x0,x1,x2,x3,_⟩=>[⟨.int .i64,g86_0 x0 x1 x2 x3⟩,⟨.int .i64,g86_1 x0 x1 x2 x3⟩] }
theorem rng86 (x0:TR86) (x1:BR86) (x2:PR86) (x3:Bool) (hp:P86 x0 x1 x2 x3):InR .i64 (g86_0 x0 x1 x2 x3)∧InR .i64 (g86_1 x0 x1 x2 x3):=by
 unfold g86_0 g86_1
 by_cases h:(g102_0 x0&&g104_0 x1&&g105_0 x2)=true
 ·rw [if_pos h,if_pos h]
  simp only [Bool.and_eq_true] at h
  obtain ⟨_,p2,_⟩:=hp h.1.1 h.1.2 h.2
  cases hr:run86 x0 x1 x2 x3 with
  | none=>exact ⟨by rw [i64_iff];show _≤(0:Int)∧(0:Int)≤_;omega,by rw [i64_iff];show _≤(3:Int)∧(3:Int)≤_;omega⟩
  | some r =>
   have:=rideNon86 (Int.le_refl 0) hr
   exact ⟨by rw [i64_iff];show _≤r∧r≤_;omega,by rw [i64_iff];show _≤(0:Int)∧(0:Int)≤_;omega⟩
 ·rw [if_neg h,if_neg h]
  exact ⟨by rw [i64_iff];omega,by rw [i64_iff];omega⟩
theorem core86 (w:World) (x0:TR86) (x1:BR86) (x2:PR86) (x3:Bool) (v v1 v2:Value) (hgo:GOk w []) (hp:P86 x0 x1 x2 x3) (h0:∃ cs,v = .agg cs.toArray∧RepC w (Am.Good w []) TY86 x0 cs) (h1:∃ cs,v1 = .agg cs.toArray∧RepC w (Am.Good w []) BY86 x1 cs) (h2:∃ cs,v2 = .agg cs.toArray∧RepC w (Am.Good w []) PY86 x2 cs) :
  Calls Tryz.prog 86 #[v,v1,v2,.bool x3] w fun e w'=>e = .returned (.tuple #[.int .i64 (g86_0 x0 x1 x2 x3),.int .i64 (g86_1 x0 x1 x2 x3)])∧Below w.heap.size w w':=by
 obtain ⟨cs,rfl,c1,c2,rfl,⟨sl,rfl,hsl⟩,c3,c4,rfl,⟨rfl,ia⟩,c5,c6,rfl,⟨rfl,ib⟩,rfl⟩:=h0
 obtain ⟨cs1,rfl,d1,d2,rfl,⟨rfl,ic⟩,d3,d4,rfl,⟨rfl,id⟩,rfl⟩:=h1
 obtain ⟨cs2,rfl,e1,e2,rfl,⟨rfl,ie⟩,e3,e4,rfl,⟨rfl,if'⟩,e5,e6,rfl,⟨rfl,ig⟩,e7,e8,rfl,⟨rfl,ih⟩,rfl⟩:=h2
 have hv:∃ cs,Value.agg #[sl,.int .i64 x0.2.1,.int .i64 x0.2.2.1] = .agg cs.toArray∧RepC w (Am.Good w []) TY86 x0 cs:=⟨_,rfl,_,_,rfl,⟨sl,rfl,hsl⟩,_,_,rfl,⟨rfl,ia⟩,_,_,rfl,⟨rfl,ib⟩,rfl⟩
 have hw1:Wf BY86 x1:=⟨ic,id,trivial⟩
 have hw2:Wf PY86 x2:=⟨ie,if',ig,ih,trivial⟩
 unfold g86_0 g86_1
 cases t1:g102_0 x0 with
 | false=>exact bad186 w sl x0 x1 x2 x3 hgo hv t1
 | true =>
  cases t2:g104_0 x1 with
  | false=>exact bad286 w sl x0 x1 x2 x3 hgo hv hw1 t1 t2
  | true =>
   cases t3:g105_0 x2 with
   | false=>exact bad386 w sl x0 x1 x2 x3 hgo hv hw1 hw2 t1 t2 t3
   | true=>exact walk86 w sl x0 x1 x2 x3 hgo hv hw1 hw2 t1 t2 t3 hp
theorem con86:Contract Tryz.prog 86 S86:=by
 refine Contract0.up rfl rfl ?_
 rintro w ⟨x0,x1,x2,x3,u⟩ vs bss hgo hp ⟨v,s,b,bs,rfl,rfl,⟨rfl,h0⟩,v1,s1,b1,bs1,rfl,rfl,⟨rfl,h1⟩,v2,s2,b2,bs2,rfl,rfl,⟨rfl,h2⟩,v3,s3,b3,bs3,rfl,rfl,⟨rfl,h3⟩,rfl,rfl⟩ hnd
 obtain ⟨rfl,_⟩:v3 = .bool x3∧True:=⟨h3.1,trivial⟩
 refine (core86 w x0 x1 x2 x3 v v1 v2 hgo hp h0 h1 h2).mono ?_
 rintro e w' ⟨rfl,hb⟩
 have hi:InR .i64 (g86_0 x0 x1 x2 x3)∧InR .i64 (g86_1 x0 x1 x2 x3):=rng86 x0 x1 x2 x3 hp
 exact ⟨[.int .i64 (g86_0 x0 x1 x2 x3),.int .i64 (g86_1 x0 x1 x2 x3)],[],[[],[]],rfl,Kept.of_below hb,⟨_,_,_,_,_,rfl,rfl,⟨rfl,hi.1,rfl⟩,rfl,_,_,_,_,_,rfl,rfl,⟨rfl,hi.2,rfl⟩,rfl,rfl,rfl⟩,⟨rfl,rfl⟩,by simp,fun b hb=>by simp at hb⟩
noncomputable section
def ext55:Ext:=[(83,S83),(84,S84),(85,S85),(86,S86)]
theorem ext55Ok:ExtOk Tryz.prog ext55:=⟨⟨ca83,con83⟩,⟨ca84,con84⟩,⟨ca85,con85⟩,⟨ca86,con86⟩,trivial⟩
def b55:Code:=bodyOf Tryz.f55
theorem hb55:Tryz.f55.body=some b55:=by kernel_rfl
def sig55:List AT:=[AT.v YA0]
def tys55:List Ty:=[.sl YA8]
def kds55:List RK:=[]
def oks55:List AT:=owns sig55
def E55_6 (v30:Int) (h1:List TyB3) (x0:TyA0):Env:=[(1,.a (.optr 0 0 [])),(3,.a (.osl 1 Option.none)),(28,.a (.osl 2 Option.none)),(29,.a (.val (.int .i64 2))),(30,.a (.val (.int .i64 v30)))]
def L55_6 (v30:Int) (h1:List TyB3) (x0:TyA0):Heap:=[Option.some (Arr.mk YA0 [x0] true Option.none (Option.some false)),Option.some (Arr.mk YA8 h1 false Option.none Option.none),Option.some (Arr.mk .str [ByteArray.mk #[117,112],ByteArray.mk #[100,111,119,110]] false Option.none Option.none)]
mutual
def R55:Nat→TyA0→List Dyn→Prop
 | 0,_,_=>False
 | n+1,x0,ds=>((P83 x0.1 x0.2.1)∧(if (!g83_0 x0.1 x0.2.1)=true then ((P84 x0.1)∧((P85 (g84_0 x0.1))∧(R55_6 n (0) ([(1,ByteArray.mk #[99,97,114,115],g85_0 (g84_0 x0.1),())]) (x0) ds))) else (R55_6 n (0) ([]) (x0) ds)))
def R55_6:Nat→Int→List TyB3→TyA0→List Dyn→Prop
 | 0,_,_,_,_=>False
 | n+1,v30,h1,x0,ds=>(if (decide (v30<2))=true then ((0≤v30)∧(v30<2)∧((P86 x0.1 x0.2.2.1 x0.2.2.2.1 (ByteArray.toList (List.getD [ByteArray.mk #[117,112],ByteArray.mk #[100,111,119,110]] (Int.toNat v30) ByteArray.empty)==ByteArray.toList (ByteArray.mk #[100,111,119,110])))∧(if (g86_1 x0.1 x0.2.2.1 x0.2.2.2.1 (ByteArray.toList (List.getD [ByteArray.mk #[117,112],ByteArray.mk #[100,111,119,110]] (Int.toNat v30) ByteArray.empty)==ByteArray.toList (ByteArray.mk #[100,111,119,110]))==0)=true then ((P85 (g86_0 x0.1 x0.2.2.1 x0.2.2.2.1 (ByteArray.toList (List.getD [ByteArray.mk #[117,112],ByteArray.mk #[100,111,119,110]] (Int.toNat v30) ByteArray.empty)==ByteArray.toList (ByteArray.mk #[100,111,119,110]))))∧(((List.length h1+1)*40≤140737488355328)∧((InR .i64 (v30+1))∧(R55_6 n (v30+1) (h1++[(2,List.getD [ByteArray.mk #[117,112],ByteArray.mk #[100,111,119,110]] (Int.toNat v30) ByteArray.empty,g85_0 (g86_0 x0.1 x0.2.2.1 x0.2.2.2.1 (ByteArray.toList (List.getD [ByteArray.mk #[117,112],ByteArray.mk #[100,111,119,110]] (Int.toNat v30) ByteArray.empty)==ByteArray.toList (ByteArray.mk #[100,111,119,110]))),())]) (x0) ds)))) else ((InR .i64 (v30+1))∧(R55_6 n (v30+1) (h1) (x0) ds))))) else (ds=[Dyn.mk (.sl YA8) h1]))
end
theorem snd55:∀ n,(∀ (x0:TyA0) ds,R55 n x0 ds→∀ K q,AtV Tryz.prog 55 (PostR kds55 oks55 ds [] [] q K) 57 K q [] [.code b55] (entE 0 0 sig55 (x0,())) (entL sig55 (x0,())))∧(∀ (v30:Int) (h1:List TyB3) (x0:TyA0) ds,R55_6 n v30 h1 x0 ds→∀ K q,AtV Tryz.prog 55 (PostR kds55 oks55 ds [] [] q K) 57 K q [] (cutAt b55 6) (E55_6 v30 h1 x0) (L55_6 v30 h1 x0)):=by
 intro n
 induction n with
 | zero=>exact ⟨fun _ _ h=>by simp only [R55] at h,fun _ _ _ _ h=>by simp only [R55_6] at h⟩
 | succ n ih =>
 obtain ⟨ih,ih6⟩:=ih
 refine ⟨?_,?_⟩
 ·intro x0 ds h K q
  rw [R55] at h
  obtain ⟨s0,h⟩:=h
  by_cases b0:(!g83_0 x0.1 x0.2.1)=true
  ·rw [if_pos b0] at h
   obtain ⟨s1,h⟩:=h
   obtain ⟨s2,h⟩:=h
   exact AtV.go tabOk ext55Ok mixed false [] [(3,.cons (.int .i64) YA10)] [1,3,28,29,30] [0,2,3] [true] (a1 s0 (a1 b0 (a1 s1 (a1 s2 (a1 ((by decide):(1:Nat)*(40:Nat)≤(140737488355328:Nat)) trivial))))) (ih6 _ _ _ _ h K q) (by kernel_rfl)
  ·rw [if_neg b0] at h
   replace b0:=bf_ b0
   exact AtV.go tabOk ext55Ok mixed false [] [(3,.cons (.int .i64) YA10)] [1,3,28,29,30] [0,2,1] [false] (a1 s0 (a1 b0 trivial)) (ih6 _ _ _ _ h K q) (by kernel_rfl)
 ·intro v30 h1 x0 ds h K q
  rw [R55_6] at h
  by_cases b0:(decide (v30<2))=true
  ·rw [if_pos b0] at h
   obtain ⟨s0,s1,h⟩:=h
   obtain ⟨s2,h⟩:=h
   by_cases b1:(g86_1 x0.1 x0.2.2.1 x0.2.2.2.1 (ByteArray.toList (List.getD [ByteArray.mk #[117,112],ByteArray.mk #[100,111,119,110]] (Int.toNat v30) ByteArray.empty)==ByteArray.toList (ByteArray.mk #[100,111,119,110]))==0)=true
   ·rw [if_pos b1] at h
    obtain ⟨s3,h⟩:=h
    obtain ⟨s4,h⟩:=h
    obtain ⟨s5,h⟩:=h
    exact AtV.go tabOk ext55Ok mixed false [] [(3,.cons (.int .i64) YA10)] [1,3,28,29,30] [0,1,2] [true,true] (a1 b0 (a1 s0 (a1 s1 (a1 s2 (a1 b1 (a1 s3 (a1 s4 (a1 s5 trivial)))))))) (ih6 _ _ _ _ h K q) (by kernel_rfl)
   ·rw [if_neg b1] at h
    replace b1:=bf_ b1
    obtain ⟨s3,h⟩:=h
    exact AtV.go tabOk ext55Ok mixed false [] [(3,.cons (.int .i64) YA10)] [1,3,28,29,30] [0,1,2] [true,false] (a1 b0 (a1 s0 (a1 s1 (a1 s2 (a1 b1 (a1 s3 trivial)))))) (ih6 _ _ _ _ h K q) (by kernel_rfl)
  ·rw [if_neg b0] at h
   replace b0:=bf_ b0
   subst h
   exact AtV.ret Tryz.func55 tabOk ext55Ok mixed false [] tys55 [false] (a1 b0 trivial) (by kernel_rfl)
def one55 (x0:(TyA0)) (who:ByteArray) (d:Bool):List TyB3:=if (g86_1 x0.1 x0.2.2.1 x0.2.2.2.1 d==0)=true then [(2,who,g85_0 (g86_0 x0.1 x0.2.2.1 x0.2.2.2.1 d),())] else []
def trk055 (x0:(TyA0)):List TyB3:=if (!g83_0 x0.1 x0.2.1)=true then [(1,ByteArray.mk #[99,97,114,115],g85_0 (g84_0 x0.1),())] else []
def g55_0 (x0:(TyA0)):List TyB3:=trk055 x0++one55 x0 (ByteArray.mk #[117,112]) false++one55 x0 (ByteArray.mk #[100,111,119,110]) true
def Pd55 (x0:(TyA0)) (d:Bool):Prop:=P86 x0.1 x0.2.2.1 x0.2.2.2.1 d∧((g86_1 x0.1 x0.2.2.1 x0.2.2.2.1 d==0)=true→P85 (g86_0 x0.1 x0.2.2.1 x0.2.2.2.1 d))
def P55 (x0:(TyA0)):Prop:=P83 x0.1 x0.2.1∧((!g83_0 x0.1 x0.2.1)=true→P84 x0.1∧P85 (g84_0 x0.1))∧Pd55 x0 false∧Pd55 x0 true
theorem r255 (n:Nat) (h:List TyB3) (x0:(TyA0)):R55_6 (n+1) 2 h x0 [⟨.sl (.cons (.int .i64) (.cons .str (.cons .str .unit))),h⟩]:=by
 rw [R55_6,if_neg (by decide)]
theorem r155 (n:Nat) (h:List TyB3) (x0:(TyA0)) (hl:h.length≤5) (hp:Pd55 x0 true):R55_6 (n+1+1) 1 h x0 [⟨.sl (.cons (.int .i64) (.cons .str (.cons .str .unit))),h++one55 x0 (ByteArray.mk #[100,111,119,110]) true⟩]:=by
 have e1:List.getD [ByteArray.mk #[117,112],ByteArray.mk #[100,111,119,110]] (Int.toNat 1) ByteArray.empty=ByteArray.mk #[100,111,119,110]:=rfl
 have e2:(ByteArray.toList (ByteArray.mk #[100,111,119,110])==ByteArray.toList (ByteArray.mk #[100,111,119,110]))=true:=by rw [beq_self_eq_true]
 rw [R55_6,if_pos (by decide),e1,e2]
 refine ⟨by decide,by decide,hp.1,?_⟩
 unfold one55
 by_cases c:(g86_1 x0.1 x0.2.2.1 x0.2.2.2.1 true==0)=true
 ·rw [if_pos c,if_pos c]
  exact ⟨hp.2 c,by omega,by rw [i64_iff];omega,r255 n _ x0⟩
 ·rw [if_neg c,if_neg c,List.append_nil]
  exact ⟨by rw [i64_iff];omega,r255 n _ x0⟩
theorem r055 (n:Nat) (h:List TyB3) (x0:(TyA0)) (hl:h.length≤4) (hp0:Pd55 x0 false) (hp:Pd55 x0 true):R55_6 (n+1+1+1) 0 h x0 [⟨.sl (.cons (.int .i64) (.cons .str (.cons .str .unit))),h++one55 x0 (ByteArray.mk #[117,112]) false++one55 x0 (ByteArray.mk #[100,111,119,110]) true⟩]:=by
 have e1:List.getD [ByteArray.mk #[117,112],ByteArray.mk #[100,111,119,110]] (Int.toNat 0) ByteArray.empty=ByteArray.mk #[117,112]:=rfl
 have e2:(ByteArray.toList (ByteArray.mk #[117,112])==ByteArray.toList (ByteArray.mk #[100,111,119,110]))=false:=by
  rw [Bool.eq_false_iff]
  intro h
  rw [bytes_eq] at h
  exact absurd (congrArg (fun b=>b.data.size) h) (by decide)
 rw [R55_6,if_pos (by decide),e1,e2]
 refine ⟨by decide,by decide,hp0.1,?_⟩
 by_cases c:(g86_1 x0.1 x0.2.2.1 x0.2.2.2.1 false==0)=true
 ·have eo:one55 x0 (ByteArray.mk #[117,112]) false=[(2,ByteArray.mk #[117,112],g85_0 (g86_0 x0.1 x0.2.2.1 x0.2.2.2.1 false),())]:=by
   unfold one55
   rw [if_pos c]
  rw [if_pos c,eo]
  exact ⟨hp0.2 c,by omega,by rw [i64_iff];omega,r155 n _ x0 (by rw [List.length_append,List.length_singleton];omega) hp⟩
 ·have eo:one55 x0 (ByteArray.mk #[117,112]) false=[]:=by
   unfold one55
   rw [if_neg c]
  rw [if_neg c,eo,List.append_nil]
  exact ⟨by rw [i64_iff];omega,r155 n _ x0 (by omega) hp⟩
theorem top55 (x0:(TyA0)) (h:P55 x0):R55 5 x0 [⟨.sl (.cons (.int .i64) (.cons .str (.cons .str .unit))),g55_0 x0⟩]:=by
 obtain ⟨p1,p2,p3,p4⟩:=h
 rw [R55]
 refine ⟨p1,?_⟩
 unfold g55_0 trk055
 by_cases c:(!g83_0 x0.1 x0.2.1)=true
 ·rw [if_pos c,if_pos c]
  exact ⟨(p2 c).1,(p2 c).2,r055 1 _ x0 (by simp) p3 p4⟩
 ·rw [if_neg c,if_neg c]
  exact r055 1 _ x0 (by simp) p3 p4
def S55:Am.Spec:={ sig:=sig55,pre:=fun ⟨x0,_⟩=>P55 x0,res:=fun ⟨x0,_⟩=>[⟨.sl (.cons (.int .i64) (.cons .str (.cons .str .unit))),g55_0 x0⟩] }
theorem con55:Contract Tryz.prog 55 S55:=contract_of Tryz.func55 hb55 (bl_ (by kernel_rfl)) (fun ⟨x0,_⟩ h hwf K q =>
 (snd55 _).1 x0 _ (top55 x0 h) K q)
end
noncomputable section
def ext88:Ext:=[]
theorem ext88Ok:ExtOk Tryz.prog ext88:=trivial
def b88:Code:=bodyOf Tryz.f88
theorem hb88:Tryz.f88.body=some b88:=by kernel_rfl
def sig88:List AT:=[AT.v YA5]
def tys88:List Ty:=[.cons (.int .i64) YA9]
def kds88:List RK:=[]
def oks88:List AT:=owns sig88
def P88 (x0:ByteArray×Int×Int×Int×Unit):Prop:=((InR .i64 (75*x0.2.1))∧((InR .i64 (15*x0.2.2.1))∧((InR .i64 (75*x0.2.1+15*x0.2.2.1))∧((InR .i64 (75*x0.2.1+15*x0.2.2.1+x0.2.2.2.1))∧True))))
def g88_0 (x0:ByteArray×Int×Int×Int×Unit):Int×Int×Int×Unit:=(x0.2.1,x0.2.2.1,75*x0.2.1+15*x0.2.2.1+x0.2.2.2.1,())
theorem at88 (x0:ByteArray×Int×Int×Int×Unit) (h:P88 x0) (K:Ctx) (q:Nat→Value):AtV Tryz.prog 88 (PostR kds88 oks88 [⟨.cons (.int .i64) YA9,g88_0 x0⟩] [] [] q K) 18 K q [] [.code b88] (entE 0 0 sig88 (x0,())) (entL sig88 (x0,())):=by
 unfold P88 at h
 unfold g88_0
 obtain ⟨s0,h⟩:=h
 obtain ⟨s1,h⟩:=h
 obtain ⟨s2,h⟩:=h
 obtain ⟨s3,h⟩:=h
 exact AtV.ret Tryz.func88 tabOk ext88Ok mixed false [] tys88 [] (a1 s0 (a1 s1 (a1 s2 (a1 s3 trivial)))) (by kernel_rfl)
def S88:Am.Spec:={ sig:=sig88,pre:=fun ⟨x0,_⟩=>P88 x0,res:=fun ⟨x0,_⟩=>[⟨.cons (.int .i64) YA9,g88_0 x0⟩],kds:=kds88 }
theorem con88:Contract Tryz.prog 88 S88:=contract_of Tryz.func88 hb88 (bl_ (by kernel_rfl)) (fun ⟨x0,_⟩ h _ K q=>at88 x0 h K q)
end
noncomputable section
def ext87:Ext:=[]
theorem ext87Ok:ExtOk Tryz.prog ext87:=trivial
def b87:Code:=bodyOf Tryz.f87
theorem hb87:Tryz.f87.body=some b87:=by kernel_rfl
def sig87:List AT:=[AT.v YA7,AT.v YA7]
def tys87:List Ty:=[.bool]
def kds87:List RK:=[]
def oks87:List AT:=owns sig87
def P87 (x0:Int×Int×Int×Unit) (x1:Int×Int×Int×Unit):Prop:=True
def g87_0 (x0:Int×Int×Int×Unit) (x1:Int×Int×Int×Unit):Bool:=(if (decide (x0.1≤x1.1))=true then (if (decide (x0.2.1≤x1.2.1))=true then decide (x0.2.2.1≤x1.2.2.1) else false) else false)
theorem at87 (x0:Int×Int×Int×Unit) (x1:Int×Int×Int×Unit) (h:P87 x0 x1) (K:Ctx) (q:Nat→Value):AtV Tryz.prog 87 (PostR kds87 oks87 [⟨.bool,g87_0 x0 x1⟩] [] [] q K) 24 K q [] [.code b87] (entE 0 0 sig87 (x0,x1,())) (entL sig87 (x0,x1,())):=by
 unfold P87 at h
 unfold g87_0
 by_cases b0:(decide (x0.1≤x1.1))=true
 ·try simp only [if_pos b0] at h ⊢
  by_cases b1:(decide (x0.2.1≤x1.2.1))=true
  ·try simp only [if_pos b1] at h ⊢
   exact AtV.ret Tryz.func87 tabOk ext87Ok mixed false [] tys87 [true,true] (a1 b0 (a1 b1 trivial)) (by kernel_rfl)
  ·try simp only [if_neg b1] at h ⊢
   replace b1:=bf_ b1
   exact AtV.ret Tryz.func87 tabOk ext87Ok mixed false [] tys87 [true,false] (a1 b0 (a1 b1 trivial)) (by kernel_rfl)
 ·try simp only [if_neg b0] at h ⊢
  replace b0:=bf_ b0
  exact AtV.ret Tryz.func87 tabOk ext87Ok mixed false [] tys87 [false,false] (a1 b0 (a1 (rfl:false=false) trivial)) (by kernel_rfl)
def S87:Am.Spec:={ sig:=sig87,pre:=fun ⟨x0,x1,_⟩=>P87 x0 x1,res:=fun ⟨x0,x1,_⟩=>[⟨.bool,g87_0 x0 x1⟩],kds:=kds87 }
theorem con87:Contract Tryz.prog 87 S87:=contract_of Tryz.func87 hb87 (bl_ (by kernel_rfl)) (fun ⟨x0,x1,_⟩ h _ K q=>at87 x0 x1 h K q)
end
noncomputable section
def ext119:Ext:=[]
theorem ext119Ok:ExtOk Tryz.prog ext119:=trivial
def b119:Code:=bodyOf Tryz.f119
theorem hb119:Tryz.f119.body=some b119:=by kernel_rfl
def sig119:List AT:=[AT.v YA3,AT.v (.int .i64),AT.v (.int .i64)]
def tys119:List Ty:=[.int .i64,.int .i64]
def kds119:List RK:=[]
def oks119:List AT:=owns sig119
def P119 (x0:ByteArray×Int×Int×Int×Int×Unit) (x1:Int) (x2:Int):Prop:=((InR .i64 (x0.2.2.2.1+x0.2.1))∧((InR .i64 (x0.2.2.2.1+x0.2.1 - x1))∧((InR .i64 (x0.2.2.2.2.1+x0.2.2.1))∧((InR .i64 (x0.2.2.2.2.1+x0.2.2.1 - x2))∧True))))
def g119_0 (x0:ByteArray×Int×Int×Int×Int×Unit) (x1:Int) (x2:Int):Int:=x0.2.2.2.1+x0.2.1 - x1
def g119_1 (x0:ByteArray×Int×Int×Int×Int×Unit) (x1:Int) (x2:Int):Int:=x0.2.2.2.2.1+x0.2.2.1 - x2
theorem at119 (x0:ByteArray×Int×Int×Int×Int×Unit) (x1:Int) (x2:Int) (h:P119 x0 x1 x2) (K:Ctx) (q:Nat→Value):AtV Tryz.prog 119 (PostR kds119 oks119 [⟨.int .i64,g119_0 x0 x1 x2⟩,⟨.int .i64,g119_1 x0 x1 x2⟩] [] [] q K) 22 K q [] [.code b119] (entE 0 0 sig119 (x0,x1,x2,())) (entL sig119 (x0,x1,x2,())):=by
 unfold P119 at h
 unfold g119_0 g119_1
 obtain ⟨s0,h⟩:=h
 obtain ⟨s1,h⟩:=h
 obtain ⟨s2,h⟩:=h
 obtain ⟨s3,h⟩:=h
 exact AtV.ret Tryz.func119 tabOk ext119Ok mixed false [] tys119 [] (a1 s0 (a1 s1 (a1 s2 (a1 s3 trivial)))) (by kernel_rfl)
def S119:Am.Spec:={ sig:=sig119,pre:=fun ⟨x0,x1,x2,_⟩=>P119 x0 x1 x2,res:=fun ⟨x0,x1,x2,_⟩=>[⟨.int .i64,g119_0 x0 x1 x2⟩,⟨.int .i64,g119_1 x0 x1 x2⟩],kds:=kds119 }
theorem con119:Contract Tryz.prog 119 S119:=contract_of Tryz.func119 hb119 (bl_ (by kernel_rfl)) (fun ⟨x0,x1,x2,_⟩ h _ K q=>at119 x0 x1 x2 h K q)
end
noncomputable section
def ext89:Ext:=[(119,S119)]
theorem ext89Ok:ExtOk Tryz.prog ext89:=⟨⟨ca119,con119⟩,trivial⟩
def b89:Code:=bodyOf Tryz.f89
theorem hb89:Tryz.f89.body=some b89:=by kernel_rfl
def sig89:List AT:=[AT.v YA3,AT.v (.int .i64),AT.v (.int .i64)]
def tys89:List Ty:=[.bool]
def kds89:List RK:=[]
def oks89:List AT:=owns sig89
def P89 (x0:ByteArray×Int×Int×Int×Int×Unit) (x1:Int) (x2:Int):Prop:=((P119 x0 x1 x2)∧True)
def g89_0 (x0:ByteArray×Int×Int×Int×Int×Unit) (x1:Int) (x2:Int):Bool:=(if (decide (g119_0 x0 x1 x2<0))=true then true else decide (g119_1 x0 x1 x2<0))
theorem at89 (x0:ByteArray×Int×Int×Int×Int×Unit) (x1:Int) (x2:Int) (h:P89 x0 x1 x2) (K:Ctx) (q:Nat→Value):AtV Tryz.prog 89 (PostR kds89 oks89 [⟨.bool,g89_0 x0 x1 x2⟩] [] [] q K) 22 K q [] [.code b89] (entE 0 0 sig89 (x0,x1,x2,())) (entL sig89 (x0,x1,x2,())):=by
 unfold P89 at h
 unfold g89_0
 obtain ⟨s0,h⟩:=h
 by_cases b0:(decide (g119_0 x0 x1 x2<0))=true
 ·try simp only [if_pos b0] at h ⊢
  exact AtV.ret Tryz.func89 tabOk ext89Ok mixed false [] tys89 [true] (a1 s0 (a1 b0 trivial)) (by kernel_rfl)
 ·try simp only [if_neg b0] at h ⊢
  replace b0:=bf_ b0
  exact AtV.ret Tryz.func89 tabOk ext89Ok mixed false [] tys89 [false] (a1 s0 (a1 b0 trivial)) (by kernel_rfl)
def S89:Am.Spec:={ sig:=sig89,pre:=fun ⟨x0,x1,x2,_⟩=>P89 x0 x1 x2,res:=fun ⟨x0,x1,x2,_⟩=>[⟨.bool,g89_0 x0 x1 x2⟩],kds:=kds89 }
theorem con89:Contract Tryz.prog 89 S89:=contract_of Tryz.func89 hb89 (bl_ (by kernel_rfl)) (fun ⟨x0,x1,x2,_⟩ h _ K q=>at89 x0 x1 x2 h K q)
end
noncomputable section
def ext120:Ext:=[(109,S109)]
theorem ext120Ok:ExtOk Tryz.prog ext120:=⟨⟨ca109,con109⟩,trivial⟩
def b120:Code:=bodyOf Tryz.f120
theorem hb120:Tryz.f120.body=some b120:=by kernel_rfl
def sig120:List AT:=[AT.v (.sl YA9),AT.v (.bool)]
def tys120:List Ty:=[.int .i64]
def kds120:List RK:=[]
def oks120:List AT:=owns sig120
def P120 (x0:List TyB4) (x1:Bool):Prop:=True
def g120_0 (x0:List TyB4) (x1:Bool):Int:=(if (!g109_0 x0)=true then 1 else (if (!x1)=true then 2 else 0))
theorem at120 (x0:List TyB4) (x1:Bool) (h:P120 x0 x1) (K:Ctx) (q:Nat→Value):AtV Tryz.prog 120 (PostR kds120 oks120 [⟨.int .i64,g120_0 x0 x1⟩] [] [] q K) 12 K q [] [.code b120] (entE 0 0 sig120 (x0,x1,())) (entL sig120 (x0,x1,())):=by
 unfold P120 at h
 unfold g120_0
 by_cases b0:(!g109_0 x0)=true
 ·try simp only [if_pos b0] at h ⊢
  exact AtV.ret Tryz.func120 tabOk ext120Ok mixed false [] tys120 [true] (a1 trivial (a1 b0 trivial)) (by kernel_rfl)
 ·try simp only [if_neg b0] at h ⊢
  replace b0:=bf_ b0
  by_cases b1:(!x1)=true
  ·try simp only [if_pos b1] at h ⊢
   exact AtV.ret Tryz.func120 tabOk ext120Ok mixed false [] tys120 [false,true] (a1 trivial (a1 b0 (a1 b1 trivial))) (by kernel_rfl)
  ·try simp only [if_neg b1] at h ⊢
   replace b1:=bf_ b1
   exact AtV.ret Tryz.func120 tabOk ext120Ok mixed false [] tys120 [false,false] (a1 trivial (a1 b0 (a1 b1 trivial))) (by kernel_rfl)
def S120:Am.Spec:={ sig:=sig120,pre:=fun ⟨x0,x1,_⟩=>P120 x0 x1,res:=fun ⟨x0,x1,_⟩=>[⟨.int .i64,g120_0 x0 x1⟩],kds:=kds120 }
theorem con120:Contract Tryz.prog 120 S120:=contract_of Tryz.func120 hb120 (bl_ (by kernel_rfl)) (fun ⟨x0,x1,_⟩ h _ K q=>at120 x0 x1 h K q)
end
noncomputable section
def ext90:Ext:=[(110,S110),(120,S120),(121,S121)]
theorem ext90Ok:ExtOk Tryz.prog ext90:=⟨⟨ca110,con110⟩,⟨ca120,con120⟩,⟨ca121,con121⟩,trivial⟩
def b90:Code:=bodyOf Tryz.f90
theorem hb90:Tryz.f90.body=some b90:=by kernel_rfl
def sig90:List AT:=[AT.v (.sl YA9),AT.v (.int .i64)]
def tys90:List Ty:=[.sl (.int .i64),.int .i64]
def kds90:List RK:=[]
def oks90:List AT:=owns sig90
def E90_6 (v8:Int) (h0:List Int) (x0:List TyB4) (x1:Int):Env:=[(0,.a (.sl YA9 x0)),(1,.a (.val (.int .i64 x1))),(7,.a (.osl 0 Option.none)),(8,.a (.val (.int .i64 v8)))]
def L90_6 (v8:Int) (h0:List Int) (x0:List TyB4) (x1:Int):Heap:=[Option.some (Arr.mk (.int .i64) h0 false Option.none Option.none)]
mutual
def R90:Nat→List TyB4→Int→List Dyn→Prop
 | 0,_,_,_=>False
 | n+1,x0,x1,ds=>(if (g120_0 x0 (g110_0 x1) != 0)=true then (ds=[Dyn.mk (.sl (.int .i64)) [],Dyn.mk (.int .i64) (g120_0 x0 (g110_0 x1))]) else (R90_6 n (1) ([]) (x0) (x1) ds))
def R90_6:Nat→Int→List Int→List TyB4→Int→List Dyn→Prop
 | 0,_,_,_,_,_=>False
 | n+1,v8,h0,x0,x1,ds=>(if (decide (v8<(x0.length:Int)))=true then ((0≤v8)∧(v8<(x0.length:Int))∧((InR .i64 (v8 - 1))∧((0≤v8 - 1)∧(v8 - 1<(x0.length:Int))∧((P121 (List.getD x0 (Int.toNat (v8 - 1)) (0,0,())))∧((InR .i64 ((List.getD x0 (Int.toNat v8) (0,0,())).1 - g121_0 (List.getD x0 (Int.toNat (v8 - 1)) (0,0,()))))∧((InR .i64 ((List.getD x0 (Int.toNat v8) (0,0,())).1 - g121_0 (List.getD x0 (Int.toNat (v8 - 1)) (0,0,())) - x1))∧(((List.length h0+1)*8≤140737488355328)∧((InR .i64 (v8+1))∧(R90_6 n (v8+1) (h0++[(List.getD x0 (Int.toNat v8) (0,0,())).1 - g121_0 (List.getD x0 (Int.toNat (v8 - 1)) (0,0,())) - x1]) (x0) (x1) ds))))))))) else (ds=[Dyn.mk (.sl (.int .i64)) h0,Dyn.mk (.int .i64) 0]))
end
theorem snd90:∀ n,(∀ (x0:List TyB4) (x1:Int) ds,R90 n x0 x1 ds→∀ K q,AtV Tryz.prog 90 (PostR kds90 oks90 ds [] [] q K) 40 K q [] [.code b90] (entE 0 0 sig90 (x0,x1,())) (entL sig90 (x0,x1,())))∧(∀ (v8:Int) (h0:List Int) (x0:List TyB4) (x1:Int) ds,R90_6 n v8 h0 x0 x1 ds→∀ K q,AtV Tryz.prog 90 (PostR kds90 oks90 ds [] [] q K) 40 K q [] (cutAt b90 6) (E90_6 v8 h0 x0 x1) (L90_6 v8 h0 x0 x1)):=by
 intro n
 induction n with
 | zero=>exact ⟨fun _ _ _ h=>by simp only [R90] at h,fun _ _ _ _ _ h=>by simp only [R90_6] at h⟩
 | succ n ih =>
 obtain ⟨ih,ih6⟩:=ih
 refine ⟨?_,?_⟩
 ·intro x0 x1 ds h K q
  rw [R90] at h
  by_cases b0:(g120_0 x0 (g110_0 x1) != 0)=true
  ·rw [if_pos b0] at h
   subst h
   exact AtV.ret Tryz.func90 tabOk ext90Ok mixed false [] tys90 [true] (a1 trivial (a1 trivial (a1 b0 trivial))) (by kernel_rfl)
  ·rw [if_neg b0] at h
   replace b0:=bf_ b0
   exact AtV.go tabOk ext90Ok mixed false [] [(7,.int .i64)] [0,1,7,8] [0] [false] (a1 trivial (a1 trivial (a1 b0 trivial))) (ih6 _ _ _ _ _ h K q) (by kernel_rfl)
 ·intro v8 h0 x0 x1 ds h K q
  rw [R90_6] at h
  by_cases b0:(decide (v8<(x0.length:Int)))=true
  ·rw [if_pos b0] at h
   obtain ⟨s0,s1,h⟩:=h
   obtain ⟨s2,h⟩:=h
   obtain ⟨s3,s4,h⟩:=h
   obtain ⟨s5,h⟩:=h
   obtain ⟨s6,h⟩:=h
   obtain ⟨s7,h⟩:=h
   obtain ⟨s8,h⟩:=h
   obtain ⟨s9,h⟩:=h
   exact AtV.go tabOk ext90Ok mixed false [] [(7,.int .i64)] [0,1,7,8] [0] [true] (a1 b0 (a1 s0 (a1 s1 (a1 s2 (a1 s3 (a1 s4 (a1 s5 (a1 s6 (a1 s7 (a1 s8 (a1 s9 trivial))))))))))) (ih6 _ _ _ _ _ h K q) (by kernel_rfl)
  ·rw [if_neg b0] at h
   replace b0:=bf_ b0
   subst h
   exact AtV.ret Tryz.func90 tabOk ext90Ok mixed false [] tys90 [false] (a1 b0 trivial) (by kernel_rfl)
def sk90 (x1:Int):List TyB4→List Int
 | x :: y :: r=>(y.1 - g121_0 x - x1) :: sk90 x1 (y :: r)
 | _=>[]
def g90_0 (x0:List TyB4) (x1:Int):List Int:=if (g120_0 x0 (g110_0 x1) != 0)=true then [] else sk90 x1 x0
def g90_1 (x0:List TyB4) (x1:Int):Int:=if (g120_0 x0 (g110_0 x1) != 0)=true then g120_0 x0 (g110_0 x1) else 0
def ok90 (x:Int×Int×Unit):Prop:=P121 x∧0≤x.1∧x.1≤100000∧0≤g121_0 x∧g121_0 x≤1000000
def P90 (x0:List TyB4) (x1:Int):Prop:=(g120_0 x0 (g110_0 x1) != 0)=true∨x0.length≤1048576∧0≤x1∧x1≤100000∧∀ x∈x0,ok90 x
theorem run90 (x0:List TyB4) (x1:Int) (hl:x0.length≤1048576) (h0:0≤x1) (h1:x1≤100000) (hp:∀ x∈x0,ok90 x):∀ (k i:Nat) (h:List Int),i+k=x0.length→1≤i→h.length≤i →
  R90_6 (k+1) (i:Int) h x0 x1 [⟨.sl (.int .i64),h++sk90 x1 (x0.drop (i - 1))⟩,⟨.int .i64,(0:Int)⟩]:=by
 intro k
 induction k with
 | zero =>
  intro i h hi h2 hh
  have e:=drop_get x0 (i - 1) ((0:Int),(0:Int),()) (by omega)
  rw [show i - 1+1=i by omega,drop_end x0 i (by omega)] at e
  rw [R90_6,if_neg (by simp only [decide_eq_true_eq];omega),e]
  simp [sk90]
 | succ k ih =>
  intro i h hi h2 hh
  have hlt:i<x0.length:=by omega
  have hm:x0.length≤maxLen:=Nat.le_trans hl (by decide)
  have e:=drop_get x0 (i - 1) ((0:Int),(0:Int),()) (by omega)
  rw [show i - 1+1=i by omega] at e
  have e2:=drop_get x0 i ((0:Int),(0:Int),()) hlt
  have et:((i:Int) - 1).toNat=i - 1:=by omega
  obtain ⟨p1,a1,a2,a3,a4⟩:=hp _ (mem_getD x0 (i - 1) ((0:Int),(0:Int),()) (by omega))
  obtain ⟨q1,b1,b2,b3,b4⟩:=hp _ (mem_getD x0 i ((0:Int),(0:Int),()) hlt)
  have h3:=ih (i+1) (h++[(x0.getD i ((0:Int),(0:Int),())).1 - g121_0 (x0.getD (i - 1) ((0:Int),(0:Int),())) - x1]) (by omega) (by omega) (by simp;omega)
  rw [R90_6,if_pos (by simp only [decide_eq_true_eq];omega),e,e2]
  simp only [Int.toNat_natCast,et,sk90]
  rw [show i+1 - 1=i by omega,e2,List.append_assoc] at h3
  exact ⟨by omega,by omega,by rw [i64_iff];omega,by omega,by omega,p1,by rw [i64_iff];omega,by rw [i64_iff];omega,by omega,inR_up hm hlt,h3⟩
theorem top90 (x0:List TyB4) (x1:Int) (h:P90 x0 x1):∃ n,R90 n x0 x1 [⟨.sl (.int .i64),g90_0 x0 x1⟩,⟨.int .i64,g90_1 x0 x1⟩]:=by
 unfold g90_0 g90_1
 by_cases hc:(g120_0 x0 (g110_0 x1) != 0)=true
 ·exact ⟨1,by rw [R90,if_pos hc,if_pos hc,if_pos hc]⟩
 ·rw [if_neg hc,if_neg hc]
  obtain ⟨h1,h2,h3,h4⟩:=h.resolve_left hc
  cases x0 with
  | nil=>exact ⟨2,by rw [R90,if_neg hc,R90_6,if_neg (by simp)];rfl⟩
  | cons x r =>
   have:=run90 (x :: r) x1 h1 h2 h3 h4 r.length 1 [] (by simp;omega) (by omega) (by simp)
   simp only [List.nil_append,Nat.sub_self,List.drop_zero] at this
   exact ⟨r.length+1+1,by rw [R90,if_neg hc];exact this⟩
def S90:Am.Spec:={ sig:=sig90,pre:=fun ⟨x0,x1,_⟩=>P90 x0 x1,res:=fun ⟨x0,x1,_⟩=>[⟨.sl (.int .i64),g90_0 x0 x1⟩,⟨.int .i64,g90_1 x0 x1⟩] }
theorem con90:Contract Tryz.prog 90 S90:=contract_of Tryz.func90 hb90 (bl_ (by kernel_rfl)) (fun ⟨x0,x1,_⟩ h hwf K q =>
 let ⟨_,hn⟩:=top90 x0 x1 h
 (snd90 _).1 x0 x1 _ hn K q)
end
noncomputable section
def ext56:Ext:=[(88,S88),(87,S87),(85,S85),(89,S89),(90,S90)]
theorem ext56Ok:ExtOk Tryz.prog ext56:=⟨⟨ca88,con88⟩,⟨ca87,con87⟩,⟨ca85,con85⟩,⟨ca89,con89⟩,⟨ca90,con90⟩,trivial⟩
def b56:Code:=bodyOf Tryz.f56
theorem hb56:Tryz.f56.body=some b56:=by kernel_rfl
def sig56:List AT:=[AT.v YA0]
def tys56:List Ty:=[.sl YA8]
def kds56:List RK:=[]
def oks56:List AT:=owns sig56
def E56_3 (v15:Int) (h1:List TyB3) (x0:TyA0):Env:=[(1,.a (.optr 0 0 [])),(3,.a (.osl 1 Option.none)),(13,.a (.sl YA5 x0.2.2.2.2.1)),(14,.a (.val (.int .i64 (x0.2.2.2.2.1.length:Int)))),(15,.a (.val (.int .i64 v15)))]
def L56_3 (v15:Int) (h1:List TyB3) (x0:TyA0):Heap:=[Option.some (Arr.mk YA0 [x0] true Option.none (Option.some false)),Option.some (Arr.mk YA8 h1 false Option.none Option.none)]
def E56_9 (v39:Int) (h1:List TyB3) (x0:TyA0):Env:=[(1,.a (.optr 0 0 [])),(3,.a (.osl 1 Option.none)),(37,.a (.sl YA3 x0.2.2.2.2.2.2.1)),(38,.a (.val (.int .i64 (x0.2.2.2.2.2.2.1.length:Int)))),(39,.a (.val (.int .i64 v39)))]
def L56_9 (v39:Int) (h1:List TyB3) (x0:TyA0):Heap:=[Option.some (Arr.mk YA0 [x0] true Option.none (Option.some false)),Option.some (Arr.mk YA8 h1 false Option.none Option.none)]
def E56_16 (v66:Int) (h0:List TyB3) (x0:TyA0):Env:=[(3,.a (.osl 0 Option.none)),(64,.a (.osl 1 Option.none)),(65,.a (.val (.int .i64 (↑(List.length (g90_0 x0.2.2.2.2.2.2.2.2.2.1 x0.2.2.2.2.2.2.2.2.2.2.1)):Int)))),(66,.a (.val (.int .i64 v66)))]
def L56_16 (v66:Int) (h0:List TyB3) (x0:TyA0):Heap:=[Option.some (Arr.mk YA8 h0 false Option.none Option.none),Option.some (Arr.mk (.int .i64) (g90_0 x0.2.2.2.2.2.2.2.2.2.1 x0.2.2.2.2.2.2.2.2.2.2.1) false Option.none Option.none)]
mutual
def R56:Nat→TyA0→List Dyn→Prop
 | 0,_,_=>False
 | n+1,x0,ds=>(R56_3 n (0) ([]) (x0) ds)
def R56_3:Nat→Int→List TyB3→TyA0→List Dyn→Prop
 | 0,_,_,_,_=>False
 | n+1,v15,h1,x0,ds=>(if (decide (v15<(x0.2.2.2.2.1.length:Int)))=true then ((0≤v15)∧(v15<(x0.2.2.2.2.1.length:Int))∧((P88 (List.getD x0.2.2.2.2.1 (Int.toNat v15) (ByteArray.empty,0,0,0,())))∧(if (!g87_0 ((List.getD x0.2.2.2.2.1 (Int.toNat v15) (ByteArray.empty,0,0,0,())).2.1,(List.getD x0.2.2.2.2.1 (Int.toNat v15) (ByteArray.empty,0,0,0,())).2.2.1,75*(List.getD x0.2.2.2.2.1 (Int.toNat v15) (ByteArray.empty,0,0,0,())).2.1+15*(List.getD x0.2.2.2.2.1 (Int.toNat v15) (ByteArray.empty,0,0,0,())).2.2.1+(List.getD x0.2.2.2.2.1 (Int.toNat v15) (ByteArray.empty,0,0,0,())).2.2.2.1,()) x0.2.2.2.2.2.1)=true then ((P88 (List.getD x0.2.2.2.2.1 (Int.toNat v15) (ByteArray.empty,0,0,0,())))∧((P85 (75*(List.getD x0.2.2.2.2.1 (Int.toNat v15) (ByteArray.empty,0,0,0,())).2.1+15*(List.getD x0.2.2.2.2.1 (Int.toNat v15) (ByteArray.empty,0,0,0,())).2.2.1+(List.getD x0.2.2.2.2.1 (Int.toNat v15) (ByteArray.empty,0,0,0,())).2.2.2.1))∧(((List.length h1+1)*40≤140737488355328)∧((InR .i64 (v15+1))∧(R56_3 n (v15+1) (h1++[(3,(List.getD x0.2.2.2.2.1 (Int.toNat v15) (ByteArray.empty,0,0,0,())).1,g85_0 (75*(List.getD x0.2.2.2.2.1 (Int.toNat v15) (ByteArray.empty,0,0,0,())).2.1+15*(List.getD x0.2.2.2.2.1 (Int.toNat v15) (ByteArray.empty,0,0,0,())).2.2.1+(List.getD x0.2.2.2.2.1 (Int.toNat v15) (ByteArray.empty,0,0,0,())).2.2.2.1),())]) (x0) ds))))) else ((InR .i64 (v15+1))∧(R56_3 n (v15+1) (h1) (x0) ds))))) else (R56_9 n (0) (h1) (x0) ds))
def R56_9:Nat→Int→List TyB3→TyA0→List Dyn→Prop
 | 0,_,_,_,_=>False
 | n+1,v39,h1,x0,ds=>(if (decide (v39<(x0.2.2.2.2.2.2.1.length:Int)))=true then ((0≤v39)∧(v39<(x0.2.2.2.2.2.2.1.length:Int))∧((P89 (List.getD x0.2.2.2.2.2.2.1 (Int.toNat v39) (ByteArray.empty,0,0,0,0,())) x0.2.2.2.2.2.2.2.1 x0.2.2.2.2.2.2.2.2.1)∧(if (g89_0 (List.getD x0.2.2.2.2.2.2.1 (Int.toNat v39) (ByteArray.empty,0,0,0,0,())) x0.2.2.2.2.2.2.2.1 x0.2.2.2.2.2.2.2.2.1)=true then (((List.length h1+1)*40≤140737488355328)∧((InR .i64 (v39+1))∧(R56_9 n (v39+1) (h1++[(4,(List.getD x0.2.2.2.2.2.2.1 (Int.toNat v39) (ByteArray.empty,0,0,0,0,())).1,ByteArray.mk #[111,118,101,114,100,117,101],())]) (x0) ds))) else ((InR .i64 (v39+1))∧(R56_9 n (v39+1) (h1) (x0) ds))))) else ((P90 x0.2.2.2.2.2.2.2.2.2.1 x0.2.2.2.2.2.2.2.2.2.2.1)∧(R56_16 n (0) (h1) (x0) ds)))
def R56_16:Nat→Int→List TyB3→TyA0→List Dyn→Prop
 | 0,_,_,_,_=>False
 | n+1,v66,h0,x0,ds=>(if (decide (v66<(↑(List.length (g90_0 x0.2.2.2.2.2.2.2.2.2.1 x0.2.2.2.2.2.2.2.2.2.2.1)):Int)))=true then ((0≤v66)∧(v66<(↑(List.length (g90_0 x0.2.2.2.2.2.2.2.2.2.1 x0.2.2.2.2.2.2.2.2.2.2.1)):Int))∧(if (decide (List.getD (g90_0 x0.2.2.2.2.2.2.2.2.2.1 x0.2.2.2.2.2.2.2.2.2.2.1) (Int.toNat v66) 0<0))=true then ((InR .i64 (v66+1))∧((P85 (v66+1))∧((P85 (List.getD (g90_0 x0.2.2.2.2.2.2.2.2.2.1 x0.2.2.2.2.2.2.2.2.2.2.1) (Int.toNat v66) 0))∧(((List.length h0+1)*40≤140737488355328)∧((InR .i64 (v66+1))∧(R56_16 n (v66+1) (h0++[(5,g85_0 (v66+1),g85_0 (List.getD (g90_0 x0.2.2.2.2.2.2.2.2.2.1 x0.2.2.2.2.2.2.2.2.2.2.1) (Int.toNat v66) 0),())]) (x0) ds)))))) else ((InR .i64 (v66+1))∧(R56_16 n (v66+1) (h0) (x0) ds)))) else (ds=[Dyn.mk (.sl YA8) h0]))
end
theorem snd56:∀ n,(∀ (x0:TyA0) ds,R56 n x0 ds→∀ K q,AtV Tryz.prog 56 (PostR kds56 oks56 ds [] [] q K) 84 K q [] [.code b56] (entE 0 0 sig56 (x0,())) (entL sig56 (x0,())))∧(∀ (v15:Int) (h1:List TyB3) (x0:TyA0) ds,R56_3 n v15 h1 x0 ds→∀ K q,AtV Tryz.prog 56 (PostR kds56 oks56 ds [] [] q K) 84 K q [] (cutAt b56 3) (E56_3 v15 h1 x0) (L56_3 v15 h1 x0))∧(∀ (v39:Int) (h1:List TyB3) (x0:TyA0) ds,R56_9 n v39 h1 x0 ds→∀ K q,AtV Tryz.prog 56 (PostR kds56 oks56 ds [] [] q K) 84 K q [] (cutAt b56 9) (E56_9 v39 h1 x0) (L56_9 v39 h1 x0))∧(∀ (v66:Int) (h0:List TyB3) (x0:TyA0) ds,R56_16 n v66 h0 x0 ds→∀ K q,AtV Tryz.prog 56 (PostR kds56 oks56 ds [] [] q K) 84 K q [] (cutAt b56 16) (E56_16 v66 h0 x0) (L56_16 v66 h0 x0)):=by
 intro n
 induction n with
 | zero=>exact ⟨fun _ _ h=>by simp only [R56] at h,fun _ _ _ _ h=>by simp only [R56_3] at h,fun _ _ _ _ h=>by simp only [R56_9] at h,fun _ _ _ _ h=>by simp only [R56_16] at h⟩
 | succ n ih =>
 obtain ⟨ih,ih3,ih9,ih16⟩:=ih
 refine ⟨?_,?_,?_,?_⟩
 ·intro x0 ds h K q
  rw [R56] at h
  exact AtV.go tabOk ext56Ok mixed false [] [(3,.cons (.int .i64) YA10)] [1,3,13,14,15] [0,1] [] trivial (ih3 _ _ _ _ h K q) (by kernel_rfl)
 ·intro v15 h1 x0 ds h K q
  rw [R56_3] at h
  by_cases b0:(decide (v15<(x0.2.2.2.2.1.length:Int)))=true
  ·rw [if_pos b0] at h
   obtain ⟨s0,s1,h⟩:=h
   obtain ⟨s2,h⟩:=h
   by_cases b1:(!g87_0 ((List.getD x0.2.2.2.2.1 (Int.toNat v15) (ByteArray.empty,0,0,0,())).2.1,(List.getD x0.2.2.2.2.1 (Int.toNat v15) (ByteArray.empty,0,0,0,())).2.2.1,75*(List.getD x0.2.2.2.2.1 (Int.toNat v15) (ByteArray.empty,0,0,0,())).2.1+15*(List.getD x0.2.2.2.2.1 (Int.toNat v15) (ByteArray.empty,0,0,0,())).2.2.1+(List.getD x0.2.2.2.2.1 (Int.toNat v15) (ByteArray.empty,0,0,0,())).2.2.2.1,()) x0.2.2.2.2.2.1)=true
   ·rw [if_pos b1] at h
    obtain ⟨s3,h⟩:=h
    obtain ⟨s4,h⟩:=h
    obtain ⟨s5,h⟩:=h
    obtain ⟨s6,h⟩:=h
    exact AtV.go tabOk ext56Ok mixed false [] [(3,.cons (.int .i64) YA10)] [1,3,13,14,15] [0,1] [true,true] (a1 b0 (a1 s0 (a1 s1 (a1 s2 (a1 trivial (a1 b1 (a1 s3 (a1 s4 (a1 s5 (a1 s6 trivial)))))))))) (ih3 _ _ _ _ h K q) (by kernel_rfl)
   ·rw [if_neg b1] at h
    replace b1:=bf_ b1
    obtain ⟨s3,h⟩:=h
    exact AtV.go tabOk ext56Ok mixed false [] [(3,.cons (.int .i64) YA10)] [1,3,13,14,15] [0,1] [true,false] (a1 b0 (a1 s0 (a1 s1 (a1 s2 (a1 trivial (a1 b1 (a1 s3 trivial))))))) (ih3 _ _ _ _ h K q) (by kernel_rfl)
  ·rw [if_neg b0] at h
   replace b0:=bf_ b0
   exact AtV.go tabOk ext56Ok mixed false [] [(3,.cons (.int .i64) YA10)] [1,3,37,38,39] [0,1] [false] (a1 b0 trivial) (ih9 _ _ _ _ h K q) (by kernel_rfl)
 ·intro v39 h1 x0 ds h K q
  rw [R56_9] at h
  by_cases b0:(decide (v39<(x0.2.2.2.2.2.2.1.length:Int)))=true
  ·rw [if_pos b0] at h
   obtain ⟨s0,s1,h⟩:=h
   obtain ⟨s2,h⟩:=h
   by_cases b1:(g89_0 (List.getD x0.2.2.2.2.2.2.1 (Int.toNat v39) (ByteArray.empty,0,0,0,0,())) x0.2.2.2.2.2.2.2.1 x0.2.2.2.2.2.2.2.2.1)=true
   ·rw [if_pos b1] at h
    obtain ⟨s3,h⟩:=h
    obtain ⟨s4,h⟩:=h
    exact AtV.go tabOk ext56Ok mixed false [] [(3,.cons (.int .i64) YA10)] [1,3,37,38,39] [0,1] [true,true] (a1 b0 (a1 s0 (a1 s1 (a1 s2 (a1 b1 (a1 s3 (a1 s4 trivial))))))) (ih9 _ _ _ _ h K q) (by kernel_rfl)
   ·rw [if_neg b1] at h
    replace b1:=bf_ b1
    obtain ⟨s3,h⟩:=h
    exact AtV.go tabOk ext56Ok mixed false [] [(3,.cons (.int .i64) YA10)] [1,3,37,38,39] [0,1] [true,false] (a1 b0 (a1 s0 (a1 s1 (a1 s2 (a1 b1 (a1 s3 trivial)))))) (ih9 _ _ _ _ h K q) (by kernel_rfl)
  ·rw [if_neg b0] at h
   replace b0:=bf_ b0
   obtain ⟨s0,h⟩:=h
   exact AtV.go tabOk ext56Ok mixed false [] [(3,.cons (.int .i64) YA10)] [3,64,65,66] [1,2] [false] (a1 b0 (a1 s0 trivial)) (ih16 _ _ _ _ h K q) (by kernel_rfl)
 ·intro v66 h0 x0 ds h K q
  rw [R56_16] at h
  by_cases b0:(decide (v66<(↑(List.length (g90_0 x0.2.2.2.2.2.2.2.2.2.1 x0.2.2.2.2.2.2.2.2.2.2.1)):Int)))=true
  ·rw [if_pos b0] at h
   obtain ⟨s0,s1,h⟩:=h
   by_cases b1:(decide (List.getD (g90_0 x0.2.2.2.2.2.2.2.2.2.1 x0.2.2.2.2.2.2.2.2.2.2.1) (Int.toNat v66) 0<0))=true
   ·rw [if_pos b1] at h
    obtain ⟨s2,h⟩:=h
    obtain ⟨s3,h⟩:=h
    obtain ⟨s4,h⟩:=h
    obtain ⟨s5,h⟩:=h
    obtain ⟨s6,h⟩:=h
    exact AtV.go tabOk ext56Ok mixed false [] [(3,.cons (.int .i64) YA10)] [3,64,65,66] [0,1] [true,true] (a1 b0 (a1 s0 (a1 s1 (a1 b1 (a1 s2 (a1 s3 (a1 s4 (a1 s5 (a1 s6 trivial))))))))) (ih16 _ _ _ _ h K q) (by kernel_rfl)
   ·rw [if_neg b1] at h
    replace b1:=bf_ b1
    obtain ⟨s2,h⟩:=h
    exact AtV.go tabOk ext56Ok mixed false [] [(3,.cons (.int .i64) YA10)] [3,64,65,66] [0,1] [true,false] (a1 b0 (a1 s0 (a1 s1 (a1 b1 (a1 s2 trivial))))) (ih16 _ _ _ _ h K q) (by kernel_rfl)
  ·rw [if_neg b0] at h
   replace b0:=bf_ b0
   subst h
   exact AtV.ret Tryz.func56 tabOk ext56Ok mixed false [] tys56 [false] (a1 b0 trivial) (by kernel_rfl)
def fG56 (r:Int×Int×Int×Unit) (_:Nat) (x:ByteArray×Int×Int×Int×Unit):List TyB3 :=
 if (!g87_0 (x.2.1,x.2.2.1,75*x.2.1+15*x.2.2.1+x.2.2.2.1,()) r)=true then [(3,x.1,g85_0 (75*x.2.1+15*x.2.2.1+x.2.2.2.1),())] else []
def fC56 (d r:Int) (_:Nat) (x:TyB0):List TyB3:=if g89_0 x d r=true then [(4,x.1,ByteArray.mk #[111,118,101,114,100,117,101],())] else []
def fS56 (i:Nat) (n:Int):List TyB3:=if decide (n<0)=true then [(5,g85_0 ((i:Int)+1),g85_0 n,())] else []
def g56_0 (x0:(TyA0)):List TyB3 :=
 bl (fG56 x0.2.2.2.2.2.1) 0 x0.2.2.2.2.1++bl (fC56 x0.2.2.2.2.2.2.2.1 x0.2.2.2.2.2.2.2.2.1) 0 x0.2.2.2.2.2.2.1++bl fS56 0 (g90_0 x0.2.2.2.2.2.2.2.2.2.1 x0.2.2.2.2.2.2.2.2.2.2.1)
def P56 (x0:(TyA0)):Prop:=x0.2.2.2.2.1.length≤1048576∧x0.2.2.2.2.2.2.1.length≤1048576∧(g90_0 x0.2.2.2.2.2.2.2.2.2.1 x0.2.2.2.2.2.2.2.2.2.2.1).length≤1048576 ∧
 (∀ x∈x0.2.2.2.2.1,P88 x)∧(∀ x∈x0.2.2.2.2.2.2.1,P89 x x0.2.2.2.2.2.2.2.1 x0.2.2.2.2.2.2.2.2.1)∧P90 x0.2.2.2.2.2.2.2.2.2.1 x0.2.2.2.2.2.2.2.2.2.2.1
theorem dec56 (n:Int):P85 n:=⟨rfl,trivial⟩
theorem top56 (x0:(TyA0)) (h:P56 x0):∃ n,R56 n x0 [⟨.sl (.cons (.int .i64) (.cons .str (.cons .str .unit))),g56_0 x0⟩]:=by
 obtain ⟨h1,h2,h3,h4,h5,h6⟩:=h
 have hm:1048576≤maxLen:=by decide
 have hmx:maxLen≤9223372036854775807:=by decide
 have l1:∀ i x,(fG56 x0.2.2.2.2.2.1 i x).length≤1:=fun i x=>by unfold fG56;split <;> simp
 have l2:∀ i x,(fC56 x0.2.2.2.2.2.2.2.1 x0.2.2.2.2.2.2.2.2.1 i x).length≤1:=fun i x=>by unfold fC56;split <;> simp
 have l3:∀ i x,(fS56 i x).length≤1:=fun i x=>by unfold fS56;split <;> simp
 have b1:=bl_len _ l1 x0.2.2.2.2.1 0
 have b2:=bl_len _ l2 x0.2.2.2.2.2.2.1 0
 have k3:=loop_build0 (g90_0 x0.2.2.2.2.2.2.2.2.2.1 x0.2.2.2.2.2.2.2.2.2.2.1) 0 fS56 l3 2097152 (fun n i h=>R56_16 n i h x0 [⟨.sl (.cons (.int .i64) (.cons .str (.cons .str .unit))),g56_0 x0⟩]) (fun n i h hi hh hr=>by
  rw [R56_16,if_pos (by simp only [decide_eq_true_eq];omega)]
  simp only [Int.toNat_natCast]
  refine ⟨by omega,by omega,?_⟩
  unfold fS56 at hr
  by_cases hc:decide ((g90_0 x0.2.2.2.2.2.2.2.2.2.1 x0.2.2.2.2.2.2.2.2.2.2.1).getD i 0<0)=true
  ·rw [if_pos hc] at hr ⊢
   exact ⟨by rw [i64_iff];omega,dec56 _,dec56 _,by omega,by rw [i64_iff];omega,hr⟩
  ·rw [if_neg hc] at hr ⊢
   rw [List.append_nil] at hr
   exact ⟨by rw [i64_iff];omega,hr⟩) 1 (bl (fG56 x0.2.2.2.2.2.1) 0 x0.2.2.2.2.1++bl (fC56 x0.2.2.2.2.2.2.2.1 x0.2.2.2.2.2.2.2.2.1) 0 x0.2.2.2.2.2.2.1) (by simp only [List.length_append];omega) (by
  rw [R56_16,if_neg (by simp)]
  rfl)
 have k2:=loop_build0 x0.2.2.2.2.2.2.1 (ByteArray.empty,(0:Int),(0:Int),(0:Int),(0:Int),()) (fC56 x0.2.2.2.2.2.2.2.1 x0.2.2.2.2.2.2.2.2.1) l2 1048576 (fun n i h=>R56_9 n i h x0 [⟨.sl (.cons (.int .i64) (.cons .str (.cons .str .unit))),g56_0 x0⟩]) (fun n i h hi hh hr=>by
  rw [R56_9,if_pos (by simp only [decide_eq_true_eq];omega)]
  simp only [Int.toNat_natCast]
  refine ⟨by omega,by omega,h5 _ (mem_getD _ i (ByteArray.empty,(0:Int),(0:Int),(0:Int),(0:Int),()) hi),?_⟩
  unfold fC56 at hr
  by_cases hc:g89_0 (x0.2.2.2.2.2.2.1.getD i (ByteArray.empty,(0:Int),(0:Int),(0:Int),(0:Int),())) x0.2.2.2.2.2.2.2.1 x0.2.2.2.2.2.2.2.2.1=true
  ·rw [if_pos hc] at hr ⊢
   exact ⟨by omega,by rw [i64_iff];omega,hr⟩
  ·rw [if_neg hc] at hr ⊢
   rw [List.append_nil] at hr
   exact ⟨by rw [i64_iff];omega,hr⟩) (1+(g90_0 x0.2.2.2.2.2.2.2.2.2.1 x0.2.2.2.2.2.2.2.2.2.2.1).length+1) (bl (fG56 x0.2.2.2.2.2.1) 0 x0.2.2.2.2.1) (by omega) (by
  rw [R56_9,if_neg (by simp)]
  exact ⟨h6,k3⟩)
 have k1:=loop_build0 x0.2.2.2.2.1 (ByteArray.empty,(0:Int),(0:Int),(0:Int),()) (fG56 x0.2.2.2.2.2.1) l1 0 (fun n i h=>R56_3 n i h x0 [⟨.sl (.cons (.int .i64) (.cons .str (.cons .str .unit))),g56_0 x0⟩]) (fun n i h hi hh hr=>by
  rw [R56_3,if_pos (by simp only [decide_eq_true_eq];omega)]
  simp only [Int.toNat_natCast]
  have p:=h4 _ (mem_getD _ i (ByteArray.empty,(0:Int),(0:Int),(0:Int),()) hi)
  refine ⟨by omega,by omega,p,?_⟩
  unfold fG56 at hr
  generalize hy:x0.2.2.2.2.1.getD i (ByteArray.empty,(0:Int),(0:Int),(0:Int),())=y at p hr ⊢
  by_cases hc:(!g87_0 (y.2.1,y.2.2.1,75*y.2.1+15*y.2.2.1+y.2.2.2.1,()) x0.2.2.2.2.2.1)=true
  ·rw [if_pos hc] at hr ⊢
   exact ⟨p,dec56 _,by omega,by rw [i64_iff];omega,hr⟩
  ·rw [if_neg hc] at hr ⊢
   rw [List.append_nil] at hr
   exact ⟨by rw [i64_iff];omega,hr⟩) (1+(g90_0 x0.2.2.2.2.2.2.2.2.2.1 x0.2.2.2.2.2.2.2.2.2.2.1).length+1+x0.2.2.2.2.2.2.1.length+1) [] (by simp) (by
  rw [R56_3,if_neg (by simp)]
  exact k2)
 exact ⟨1+(g90_0 x0.2.2.2.2.2.2.2.2.2.1 x0.2.2.2.2.2.2.2.2.2.2.1).length+1+x0.2.2.2.2.2.2.1.length+1+x0.2.2.2.2.1.length+1,by rw [R56];exact k1⟩
def S56:Am.Spec:={ sig:=sig56,pre:=fun ⟨x0,_⟩=>P56 x0,res:=fun ⟨x0,_⟩=>[⟨.sl (.cons (.int .i64) (.cons .str (.cons .str .unit))),g56_0 x0⟩] }
theorem con56:Contract Tryz.prog 56 S56:=contract_of Tryz.func56 hb56 (bl_ (by kernel_rfl)) (fun ⟨x0,_⟩ h hwf K q =>
 let ⟨_,hn⟩:=top56 x0 h
 (snd56 _).1 x0 _ hn K q)
end
set_option maxHeartbeats 2000000 in
theorem nil150 (w:World):Calls Tryz.prog 150 #[.slice none 0 0] w fun e w'=>e = .returned (.slice none 0 0)∧w'=w:=by
 have mixed:=mixed
 have q22:∀ (w:World) (a:Option Addr) (n c n' c':Nat),(binOp .eql 48 (.slice a n c) (.slice none n' c')).run Tryz.prog w = .ok (.bool a.isNone) w:=fun w a n c n' c'=>Lib.run_eql_slice_nil w _ _ a n c n' c' Tryz.underlying48
 go_enter Tryz.func150,Tryz.ntmps150
 go_wp2
 go_ret
 exact ⟨rfl,rfl⟩
set_option maxHeartbeats 4000000 in
theorem some150 (w:World) (a:Addr) (n c:Nat) (news:List Value) (hl:news.length=n*(Ty.size YA6)) (hn:n≤1048576) (hc:∀ (j:Nat) (u:Value),news[j]? = some u→w.cell? (a.add j)=some u) (h1:∀ u∈news,u.oneCell'=true) :
  Calls Tryz.prog 150 #[.slice (some a) n c] w fun r w'=>∃ v',r = .returned v'∧w'.ownsRow w.heap.size 113 (Ty.size YA6) v' n news∧Go.RowKit.Below w.heap.size w w':=by
 have mixed:=mixed
 have q22:∀ (w:World) (a:Option Addr) (n c n' c':Nat),(binOp .eql 48 (.slice a n c) (.slice none n' c')).run Tryz.prog w = .ok (.bool a.isNone) w:=fun w a n c n' c'=>Lib.run_eql_slice_nil w _ _ a n c n' c' Tryz.underlying48
 have hinfo:TIOk Tryz.prog 48 (tabGet tab 48):=tabOk 48
 obtain ⟨_,_,⟨_,⟨i0,hi0,hz1,z,hz0,hzs,_⟩⟩,hby⟩:=hinfo
 rw [hi0] at hby
 simp only [Option.map_some,Option.some.injEq] at hby
 have hzs':z.cells.size=Ty.size YA6:=by rw [← Array.length_toList,hzs];rfl
 have A:Aside (∀ (j:Nat) (u:Value),news[j]? = some u→w.cell? (a.add j)=some u):=hc
 clear hc
 go_enter Tryz.func150,Tryz.ntmps150
 go_wp2_with (at_builtin;refine wpList_append_own _ rfl _ _ 48 rfl w.heap.size 113 i0 z (Ty.size YA6) i0.bytes Tryz.underlying48 hi0 hz0 hz1 rfl hzs' (by decide) _ _ _ rfl (World.ownsRow_made w #[] 0 (Nat.le_refl _) (Nat.zero_le _) (by simp)) a n c news rfl ?qc1 ?qc2 ?qc3 ?qc4 ?qc5 ?qc6 ?_)
 case qc1=>exact hl
 case qc2=>intro j u hj;exact Lib.cell?_alloc_some _ (A.out j u hj)
 case qc3=>exact h1
 case qc4=>unfold maxLen;omega
 case qc5=>rw [hby];omega
 case qc6=>simp
 intro v' w1 hown hgrow hnil
 go_wp2
 go_ret
 exact ⟨v',rfl,by simpa using hown,((Go.RowKit.Below.refl _ w).alloc (Nat.le_refl _) _).grown hgrow (by simp) (by intro k hk;simp [Value.ownBlock] at hk;omega)⟩
def sig150:List AT:=[AT.v (Ty.sl YA6)]
def g150_0 (x0:List TyB2):List TyB2:=x0
def P150 (x0:List TyB2):Prop:=x0.length≤1048576
def S150:Am.Spec:={ sig:=sig150,pre:=fun ⟨x0,_⟩=>P150 x0,res:=fun ⟨x0,_⟩=>[⟨Ty.sl YA6,g150_0 x0⟩] }
theorem con150:Contract Tryz.prog 150 S150:=clone_contract (t:=YA6) (e:=113) rfl nil150 some150
noncomputable section
def ext168:Ext:=[(85,S85)]
theorem ext168Ok:ExtOk Tryz.prog ext168:=⟨⟨ca85,con85⟩,trivial⟩
def b168:Code:=bodyOf Tryz.f168
theorem hb168:Tryz.f168.body=some b168:=by kernel_rfl
def sig168:List AT:=[AT.v YA6]
def tys168:List Ty:=[.str]
def kds168:List RK:=[]
def oks168:List AT:=owns sig168
def P168 (x0:Int×Int×ByteArray×Int×Unit):Prop:=((P85 x0.1)∧((ByteArray.size (g85_0 x0.1)+1≤9223372036854775807)∧((P85 x0.2.1)∧((ByteArray.size (g85_0 x0.1++ByteArray.mk #[32])+ByteArray.size (g85_0 x0.2.1)≤9223372036854775807)∧((ByteArray.size (g85_0 x0.1++ByteArray.mk #[32]++g85_0 x0.2.1)+1≤9223372036854775807)∧((ByteArray.size (g85_0 x0.1++ByteArray.mk #[32]++g85_0 x0.2.1++ByteArray.mk #[32])+ByteArray.size x0.2.2.1≤9223372036854775807)∧True))))))
def g168_0 (x0:Int×Int×ByteArray×Int×Unit):ByteArray:=g85_0 x0.1++ByteArray.mk #[32]++g85_0 x0.2.1++ByteArray.mk #[32]++x0.2.2.1
theorem at168 (x0:Int×Int×ByteArray×Int×Unit) (h:P168 x0) (K:Ctx) (q:Nat→Value):AtV Tryz.prog 168 (PostR kds168 oks168 [⟨.str,g168_0 x0⟩] [] [] q K) 15 K q [] [.code b168] (entE 0 0 sig168 (x0,())) (entL sig168 (x0,())):=by
 unfold P168 at h
 unfold g168_0
 obtain ⟨s0,h⟩:=h
 obtain ⟨s1,h⟩:=h
 obtain ⟨s2,h⟩:=h
 obtain ⟨s3,h⟩:=h
 obtain ⟨s4,h⟩:=h
 obtain ⟨s5,h⟩:=h
 exact AtV.ret Tryz.func168 tabOk ext168Ok mixed false [] tys168 [] (a1 s0 (a1 s1 (a1 s2 (a1 s3 (a1 s4 (a1 s5 trivial)))))) (by kernel_rfl)
def S168:Am.Spec:={ sig:=sig168,pre:=fun ⟨x0,_⟩=>P168 x0,res:=fun ⟨x0,_⟩=>[⟨.str,g168_0 x0⟩],kds:=kds168 }
theorem con168:Contract Tryz.prog 168 S168:=contract_of Tryz.func168 hb168 (bl_ (by kernel_rfl)) (fun ⟨x0,_⟩ h _ K q=>at168 x0 h K q)
end
noncomputable section
def ext167:Ext:=[(134,S134)]
theorem ext167Ok:ExtOk Tryz.prog ext167:=⟨⟨ca134,con134⟩,trivial⟩
def b167:Code:=bodyOf Tryz.f167
theorem hb167:Tryz.f167.body=some b167:=by kernel_rfl
def sig167:List AT:=[AT.v (.str),AT.v (.int .i64)]
def tys167:List Ty:=[.int .i64]
def kds167:List RK:=[]
def oks167:List AT:=owns sig167
def E167_5 (v15:Int) (x1:Int) (x0:ByteArray):Env:=[(5,.a (.val (.int .i64 x1))),(13,.a (.osl 0 Option.none)),(14,.a (.val (.int .i64 (↑(List.length (bytesOf x0)):Int)))),(15,.a (.val (.int .i64 v15)))]
def L167_5 (v15:Int) (x1:Int) (x0:ByteArray):Heap:=[Option.some (Arr.mk (.int .u8) (bytesOf x0) false Option.none Option.none)]
def E167_9 (v5:Int) (v24:Int) (x0:ByteArray) (v15:Int):Env:=[(5,.a (.val (.int .i64 v5))),(13,.a (.osl 0 Option.none)),(14,.a (.val (.int .i64 (↑(List.length (bytesOf x0)):Int)))),(15,.a (.val (.int .i64 v15))),(24,.a (.val (.int .i64 v24)))]
def L167_9 (v5:Int) (v24:Int) (x0:ByteArray) (v15:Int):Heap:=[Option.some (Arr.mk (.int .u8) (bytesOf x0) false Option.none Option.none)]
mutual
def R167:Nat→ByteArray→Int→List Dyn→Prop
 | 0,_,_,_=>False
 | n+1,x0,x1,ds=>(if (!g134_0 x1 0 65535)=true then (ds=[Dyn.mk (.int .i64) 0]) else (R167_5 n (0) (x1) (x0) ds))
def R167_5:Nat→Int→Int→ByteArray→List Dyn→Prop
 | 0,_,_,_,_=>False
 | n+1,v15,x1,x0,ds=>(if (decide (v15<(↑(List.length (bytesOf x0)):Int)))=true then ((0≤v15)∧(v15<(↑(List.length (bytesOf x0)):Int))∧((InR .i64 (List.getD (bytesOf x0) (Int.toNat v15) 0))∧(R167_9 n (IntKind.wrap IntKind.i64 (↑(BitVec.toNat (BitVec.ofInt 64 x1 ^^^ BitVec.ofInt 64 (IntKind.wrap IntKind.i64 (List.getD (bytesOf x0) (Int.toNat v15) 0*256)))):Int)) (0) (x0) (v15) ds))) else (ds=[Dyn.mk (.int .i64) x1]))
def R167_9:Nat→Int→Int→ByteArray→Int→List Dyn→Prop
 | 0,_,_,_,_,_=>False
 | n+1,v5,v24,x0,v15,ds=>(if (decide (v24<8))=true then (if (decide (IntKind.wrap IntKind.i64 (v5*2)>65535))=true then ((InR .i64 (v24+1))∧(R167_9 n (IntKind.wrap IntKind.i64 (↑(BitVec.toNat (BitVec.ofInt 64 (IntKind.wrap IntKind.i64 (↑(BitVec.toNat (BitVec.ofInt 64 (IntKind.wrap IntKind.i64 (v5*2)) &&& BitVec.ofInt 64 65535)):Int)) ^^^ BitVec.ofInt 64 4129)):Int)) (v24+1) (x0) (v15) ds)) else ((InR .i64 (v24+1))∧(R167_9 n (IntKind.wrap IntKind.i64 (v5*2)) (v24+1) (x0) (v15) ds))) else ((InR .i64 (v15+1))∧(R167_5 n (v15+1) (v5) (x0) ds)))
end
theorem snd167:∀ n,(∀ (x0:ByteArray) (x1:Int) ds,R167 n x0 x1 ds→∀ K q,AtV Tryz.prog 167 (PostR kds167 oks167 ds [] [] q K) 36 K q [] [.code b167] (entE 0 0 sig167 (x0,x1,())) (entL sig167 (x0,x1,())))∧(∀ (v15:Int) (x1:Int) (x0:ByteArray) ds,R167_5 n v15 x1 x0 ds→∀ K q,AtV Tryz.prog 167 (PostR kds167 oks167 ds [] [] q K) 36 K q [] (cutAt b167 5) (E167_5 v15 x1 x0) (L167_5 v15 x1 x0))∧(∀ (v5:Int) (v24:Int) (x0:ByteArray) (v15:Int) ds,R167_9 n v5 v24 x0 v15 ds→∀ K q,AtV Tryz.prog 167 (PostR kds167 oks167 ds [] [] q K) 36 K q [] (cutAt b167 9) (E167_9 v5 v24 x0 v15) (L167_9 v5 v24 x0 v15)):=by
 intro n
 induction n with
 | zero=>exact ⟨fun _ _ _ h=>by simp only [R167] at h,fun _ _ _ _ h=>by simp only [R167_5] at h,fun _ _ _ _ _ h=>by simp only [R167_9] at h⟩
 | succ n ih =>
 obtain ⟨ih,ih5,ih9⟩:=ih
 refine ⟨?_,?_,?_⟩
 ·intro x0 x1 ds h K q
  rw [R167] at h
  by_cases b0:(!g134_0 x1 0 65535)=true
  ·rw [if_pos b0] at h
   subst h
   exact AtV.ret Tryz.func167 tabOk ext167Ok mixed false [] tys167 [true] (a1 trivial (a1 b0 trivial)) (by kernel_rfl)
  ·rw [if_neg b0] at h
   replace b0:=bf_ b0
   exact AtV.go tabOk ext167Ok mixed false [] [] [5,13,14,15] [0] [false] (a1 trivial (a1 b0 trivial)) (ih5 _ _ _ _ h K q) (by kernel_rfl)
 ·intro v15 x1 x0 ds h K q
  rw [R167_5] at h
  by_cases b0:(decide (v15<(↑(List.length (bytesOf x0)):Int)))=true
  ·rw [if_pos b0] at h
   obtain ⟨s0,s1,h⟩:=h
   obtain ⟨s2,h⟩:=h
   exact AtV.go tabOk ext167Ok mixed false [] [] [5,13,14,15,24] [0] [true] (a1 b0 (a1 s0 (a1 s1 (a1 s2 (a1 ((by decide):(0:Int)≤(8:Int)) trivial))))) (ih9 _ _ _ _ _ h K q) (by kernel_rfl)
  ·rw [if_neg b0] at h
   replace b0:=bf_ b0
   subst h
   exact AtV.ret Tryz.func167 tabOk ext167Ok mixed false [] tys167 [false] (a1 b0 trivial) (by kernel_rfl)
 ·intro v5 v24 x0 v15 ds h K q
  rw [R167_9] at h
  by_cases b0:(decide (v24<8))=true
  ·rw [if_pos b0] at h
   by_cases b1:(decide (IntKind.wrap IntKind.i64 (v5*2)>65535))=true
   ·rw [if_pos b1] at h
    obtain ⟨s0,h⟩:=h
    exact AtV.go tabOk ext167Ok mixed false [] [] [5,13,14,15,24] [0] [true,true] (a1 b0 (a1 ((by decide):(0:Int)≤(1:Int)) (a1 b1 (a1 s0 trivial)))) (ih9 _ _ _ _ _ h K q) (by kernel_rfl)
   ·rw [if_neg b1] at h
    replace b1:=bf_ b1
    obtain ⟨s0,h⟩:=h
    exact AtV.go tabOk ext167Ok mixed false [] [] [5,13,14,15,24] [0] [true,false] (a1 b0 (a1 ((by decide):(0:Int)≤(1:Int)) (a1 b1 (a1 s0 trivial)))) (ih9 _ _ _ _ _ h K q) (by kernel_rfl)
  ·rw [if_neg b0] at h
   replace b0:=bf_ b0
   obtain ⟨s0,h⟩:=h
   exact AtV.go tabOk ext167Ok mixed false [] [] [5,13,14,15] [0] [false] (a1 b0 (a1 s0 trivial)) (ih5 _ _ _ _ h K q) (by kernel_rfl)
def bit167 (s:Int):Int:=if (decide (IntKind.wrap IntKind.i64 (s*2)>65535))=true then (IntKind.wrap IntKind.i64 (↑(BitVec.toNat (BitVec.ofInt 64 (IntKind.wrap IntKind.i64 (↑(BitVec.toNat (BitVec.ofInt 64 (IntKind.wrap IntKind.i64 (s*2)) &&& BitVec.ofInt 64 65535)):Int)) ^^^ BitVec.ofInt 64 4129)):Int)) else (IntKind.wrap IntKind.i64 (s*2))
def bits167:Nat→Int→Int
 | 0,s=>s
 | k+1,s=>bits167 k (bit167 s)
def byte167 (s c:Int):Int:=bits167 8 (IntKind.wrap IntKind.i64 (↑(BitVec.toNat (BitVec.ofInt 64 s ^^^ BitVec.ofInt 64 (IntKind.wrap IntKind.i64 (c*256)))):Int))
def g167_0 (x0:ByteArray) (x1:Int):Int:=if (!g134_0 x1 0 65535)=true then 0 else (bytesOf x0).foldl byte167 x1
def P167 (x0:ByteArray) (x1:Int):Prop:=True
theorem inner167 (x0:ByteArray) (hm:(bytesOf x0).length≤maxLen) (i n:Nat) (hi:i<(bytesOf x0).length) (ds:List Dyn):∀ (k j:Nat) (s:Int),j+k=8→R167_5 n ((i:Int)+1) (bits167 k s) x0 ds→R167_9 (n+1+k) s (j:Int) x0 (i:Int) ds:=by
 intro k
 induction k with
 | zero =>
  intro j s hj hr
  rw [R167_9,if_neg (by simp;omega)]
  exact ⟨inR_up hm hi,hr⟩
 | succ k ih =>
  intro j s hj hr
  have e2:(j:Int)+1=((j+1:Nat):Int):=by omega
  rw [show n+1+(k+1)=(n+1+k)+1 by omega,R167_9,if_pos (by simp;omega)]
  unfold bits167 bit167 at hr
  by_cases hc:(decide (IntKind.wrap IntKind.i64 (s*2)>65535))=true
  ·rw [if_pos hc] at hr ⊢
   rw [e2]
   exact ⟨by rw [i64_iff];omega,ih (j+1) _ (by omega) hr⟩
  ·rw [if_neg hc] at hr ⊢
   rw [e2]
   exact ⟨by rw [i64_iff];omega,ih (j+1) _ (by omega) hr⟩
theorem run167 (x0:ByteArray) (hm:x0.size≤maxLen):∀ (k i:Nat) (s:Int),i+k=x0.size→∃ n,R167_5 n (i:Int) s x0 [⟨.int .i64,((bytesOf x0).drop i).foldl byte167 s⟩]:=by
 intro k
 have hl:=bytesOf_length x0
 induction k with
 | zero =>
  intro i s hi
  refine ⟨1,?_⟩
  rw [R167_5,if_neg (by rw [hl];simp;omega),List.drop_of_length_le (by omega)]
  rfl
 | succ k ih =>
  intro i s hi
  have hlt:i<(bytesOf x0).length:=by omega
  have hcons:=drop_get (bytesOf x0) i 0 hlt
  obtain ⟨n,hn⟩:=ih (i+1) (byte167 s ((bytesOf x0).getD i 0)) (by omega)
  refine ⟨n+1+8+1,?_⟩
  have hb:=bytesOf_range x0 _ (mem_getD (bytesOf x0) i 0 hlt)
  rw [R167_5,if_pos (by rw [hl];simp;omega)]
  simp only [Int.toNat_natCast]
  rw [hcons,List.foldl_cons]
  exact ⟨by omega,by omega,by rw [i64_iff];omega,inner167 x0 (by rw [hl];exact hm) i n hlt _ 8 0 _ (by omega) hn⟩
theorem top167 (x0:ByteArray) (x1:Int) (hm:x0.size≤maxLen):∃ n,R167 n x0 x1 [⟨.int .i64,g167_0 x0 x1⟩]:=by
 obtain ⟨n,hn⟩:=run167 x0 hm x0.size 0 x1 (by omega)
 refine ⟨n+1,?_⟩
 rw [R167]
 unfold g167_0
 by_cases hc:(!g134_0 x1 0 65535)=true
 ·rw [if_pos hc,if_pos hc]
 ·rw [if_neg hc,if_neg hc]
  exact hn
def S167:Am.Spec:={ sig:=sig167,pre:=fun ⟨x0,x1,_⟩=>P167 x0 x1,res:=fun ⟨x0,x1,_⟩=>[⟨.int .i64,g167_0 x0 x1⟩] }
theorem con167:Contract Tryz.prog 167 S167:=contract_of Tryz.func167 hb167 (bl_ (by kernel_rfl)) (fun ⟨x0,x1,_⟩ h hwf K q =>
 let ⟨n,hn⟩:=top167 x0 x1 hwf.1
 (snd167 n).1 x0 x1 _ hn K q)
end
noncomputable section
def ext151:Ext:=[(168,S168),(167,S167)]
theorem ext151Ok:ExtOk Tryz.prog ext151:=⟨⟨ca168,con168⟩,⟨ca167,con167⟩,trivial⟩
def b151:Code:=bodyOf Tryz.f151
theorem hb151:Tryz.f151.body=some b151:=by kernel_rfl
def sig151:List AT:=[AT.v (.int .i64),AT.v YA6]
def tys151:List Ty:=[.int .i64]
def kds151:List RK:=[]
def oks151:List AT:=owns sig151
def P151 (x0:Int) (x1:Int×Int×ByteArray×Int×Unit):Prop:=((P168 x1)∧True)
def g151_0 (x0:Int) (x1:Int×Int×ByteArray×Int×Unit):Int:=g167_0 (g168_0 x1) x0
theorem at151 (x0:Int) (x1:Int×Int×ByteArray×Int×Unit) (h:P151 x0 x1) (K:Ctx) (q:Nat→Value):AtV Tryz.prog 151 (PostR kds151 oks151 [⟨.int .i64,g151_0 x0 x1⟩] [] [] q K) 9 K q [] [.code b151] (entE 0 0 sig151 (x0,x1,())) (entL sig151 (x0,x1,())):=by
 unfold P151 at h
 unfold g151_0
 obtain ⟨s0,h⟩:=h
 exact AtV.ret Tryz.func151 tabOk ext151Ok mixed false [] tys151 [] (a1 s0 (a1 trivial trivial)) (by kernel_rfl)
def S151:Am.Spec:={ sig:=sig151,pre:=fun ⟨x0,x1,_⟩=>P151 x0 x1,res:=fun ⟨x0,x1,_⟩=>[⟨.int .i64,g151_0 x0 x1⟩],kds:=kds151 }
theorem con151:Contract Tryz.prog 151 S151:=contract_of Tryz.func151 hb151 (bl_ (by kernel_rfl)) (fun ⟨x0,x1,_⟩ h _ K q=>at151 x0 x1 h K q)
end
noncomputable section
def ext122:Ext:=[(150,S150),(151,S151)]
theorem ext122Ok:ExtOk Tryz.prog ext122:=⟨⟨ca150,con150⟩,⟨ca151,con151⟩,trivial⟩
def b122:Code:=bodyOf Tryz.f122
theorem hb122:Tryz.f122.body=some b122:=by kernel_rfl
def sig122:List AT:=[AT.v (.sl YA6)]
def tys122:List Ty:=[.sl YA6]
def kds122:List RK:=[]
def oks122:List AT:=owns sig122
def E122_4 (v4:Int) (v11:Int) (h0:List TyB2) (x0:List TyB2):Env:=[(3,.a (.osl 0 Option.none)),(4,.a (.val (.int .i64 v4))),(9,.a (.osl 0 Option.none)),(10,.a (.val (.int .i64 (↑(List.length (g150_0 x0)):Int)))),(11,.a (.val (.int .i64 v11)))]
def L122_4 (v4:Int) (v11:Int) (h0:List TyB2) (x0:List TyB2):Heap:=[Option.some (Arr.mk YA6 h0 false Option.none Option.none)]
mutual
def R122:Nat→List TyB2→List Dyn→Prop
 | 0,_,_=>False
 | n+1,x0,ds=>((P150 x0)∧(R122_4 n (65535) (0) (g150_0 x0) (x0) ds))
def R122_4:Nat→Int→Int→List TyB2→List TyB2→List Dyn→Prop
 | 0,_,_,_,_,_=>False
 | n+1,v4,v11,h0,x0,ds=>(if (decide (v11<(↑(List.length (g150_0 x0)):Int)))=true then ((0≤v11)∧(v11<(h0.length:Int))∧((P151 v4 (List.getD h0 (Int.toNat v11) (0,0,ByteArray.empty,0,())))∧((0≤v11)∧(v11<(h0.length:Int))∧((InR .i64 (v11+1))∧(R122_4 n (g151_0 v4 (List.getD h0 (Int.toNat v11) (0,0,ByteArray.empty,0,()))) (v11+1) (List.set h0 (Int.toNat v11) ((List.getD h0 (Int.toNat v11) (0,0,ByteArray.empty,0,())).1,(List.getD h0 (Int.toNat v11) (0,0,ByteArray.empty,0,())).2.1,(List.getD h0 (Int.toNat v11) (0,0,ByteArray.empty,0,())).2.2.1,g151_0 v4 (List.getD h0 (Int.toNat v11) (0,0,ByteArray.empty,0,())),(List.getD h0 (Int.toNat v11) (0,0,ByteArray.empty,0,())).2.2.2.2)) (x0) ds))))) else (ds=[Dyn.mk (.sl YA6) h0]))
end
theorem snd122:∀ n,(∀ (x0:List TyB2) ds,R122 n x0 ds→∀ K q,AtV Tryz.prog 122 (PostR kds122 oks122 ds [] [] q K) 26 K q [] [.code b122] (entE 0 0 sig122 (x0,())) (entL sig122 (x0,())))∧(∀ (v4:Int) (v11:Int) (h0:List TyB2) (x0:List TyB2) ds,R122_4 n v4 v11 h0 x0 ds→∀ K q,AtV Tryz.prog 122 (PostR kds122 oks122 ds [] [] q K) 26 K q [] (cutAt b122 4) (E122_4 v4 v11 h0 x0) (L122_4 v4 v11 h0 x0)):=by
 intro n
 induction n with
 | zero=>exact ⟨fun _ _ h=>by simp only [R122] at h,fun _ _ _ _ _ h=>by simp only [R122_4] at h⟩
 | succ n ih =>
 obtain ⟨ih,ih4⟩:=ih
 refine ⟨?_,?_⟩
 ·intro x0 ds h K q
  rw [R122] at h
  obtain ⟨s0,h⟩:=h
  exact AtV.go tabOk ext122Ok mixed false [] [] [3,4,9,10,11] [0] [] (a1 s0 trivial) (ih4 _ _ _ _ _ h K q) (by kernel_rfl)
 ·intro v4 v11 h0 x0 ds h K q
  rw [R122_4] at h
  by_cases b0:(decide (v11<(↑(List.length (g150_0 x0)):Int)))=true
  ·rw [if_pos b0] at h
   obtain ⟨s0,s1,h⟩:=h
   obtain ⟨s2,h⟩:=h
   obtain ⟨s3,s4,h⟩:=h
   obtain ⟨s5,h⟩:=h
   exact AtV.go tabOk ext122Ok mixed false [] [] [3,4,9,10,11] [0] [true] (a1 b0 (a1 s0 (a1 s1 (a1 s2 (a1 s3 (a1 s4 (a1 s5 trivial))))))) (ih4 _ _ _ _ _ h K q) (by kernel_rfl)
  ·rw [if_neg b0] at h
   replace b0:=bf_ b0
   subst h
   exact AtV.ret Tryz.func122 tabOk ext122Ok mixed false [] tys122 [false] (a1 b0 trivial) (by kernel_rfl)
def sl122 (c:Int):List TyB2→List TyB2
 | []=>[]
 | x :: r=>(x.1,x.2.1,x.2.2.1,g151_0 c x,x.2.2.2.2) :: sl122 (g151_0 c x) r
def g122_0 (x0:List TyB2):List TyB2:=sl122 65535 x0
def P122 (x0:List TyB2):Prop:=x0.length≤1048576∧∀ x∈x0,∀ c,P151 c x
theorem set_take122 {α:Type} (l:List α) (i:Nat) (y:α) (h:i<l.length):(l.set i y).take (i+1)=l.take i++[y]:=by
 rw [List.set_eq_take_append_cons_drop,if_pos h,List.take_append,List.length_take,Nat.min_eq_left (Nat.le_of_lt h),List.take_of_length_le (by rw [List.length_take];omega),Nat.add_sub_cancel_left]
 rfl
theorem set_drop122 {α:Type} (l:List α) (i:Nat) (y:α):(l.set i y).drop (i+1)=l.drop (i+1):=by
 rw [List.drop_set_of_lt (by omega)]
theorem run122 (x0:List TyB2) (hm:x0.length≤maxLen) (hx:∀ x∈x0,∀ c,P151 c x):∀ (k i:Nat) (c:Int) (h0:List TyB2),i+k=x0.length→h0.length=x0.length→h0.drop i=x0.drop i →
  R122_4 (k+1) c (i:Int) h0 x0 [⟨.sl (.cons (.int .i64) (.cons (.int .i64) (.cons .str (.cons (.int .i64) .unit)))),h0.take i++sl122 c (x0.drop i)⟩]:=by
 intro k
 induction k with
 | zero =>
  intro i c h0 hi hl hd
  rw [R122_4,if_neg (by simp only [decide_eq_true_eq];show ¬ (i:Int)<(x0.length:Int);omega),drop_end x0 _ (by omega)]
  rw [List.take_of_length_le (by omega)]
  simp [sl122]
 | succ k ih =>
  intro i c h0 hi hl hd
  have hlt:i<x0.length:=by omega
  have e0:=drop_get x0 i ((0:Int),(0:Int),ByteArray.empty,(0:Int),()) hlt
  have e1:=drop_get h0 i ((0:Int),(0:Int),ByteArray.empty,(0:Int),()) (by omega)
  have hp:=hx _ (mem_getD x0 i ((0:Int),(0:Int),ByteArray.empty,(0:Int),()) hlt) c
  have e2:h0.getD i ((0:Int),(0:Int),ByteArray.empty,(0:Int),())=x0.getD i ((0:Int),(0:Int),ByteArray.empty,(0:Int),())∧h0.drop (i+1)=x0.drop (i+1):=by
   rw [e0,e1] at hd
   exact List.cons.inj hd
  rw [R122_4,if_pos (by simp only [decide_eq_true_eq];show (i:Int)<(x0.length:Int);omega),e0]
  simp only [Int.toNat_natCast,e2.1]
  generalize hy:x0.getD i ((0:Int),(0:Int),ByteArray.empty,(0:Int),())=y at hp
  refine ⟨by omega,by omega,hp,by omega,by omega,inR_up hm hlt,?_⟩
  have h:=ih (i+1) (g151_0 c y) (h0.set i (y.1,y.2.1,y.2.2.1,g151_0 c y,y.2.2.2.2)) (by omega) (by rw [List.length_set];exact hl) (by rw [set_drop122];exact e2.2)
  rw [set_take122 _ _ _ (by omega),List.append_assoc] at h
  exact h
theorem top122 (x0:List TyB2) (hm:x0.length≤maxLen) (hx:P122 x0):R122 (x0.length+1+1) x0 [⟨.sl (.cons (.int .i64) (.cons (.int .i64) (.cons .str (.cons (.int .i64) .unit)))),g122_0 x0⟩]:=by
 rw [R122]
 exact ⟨hx.1,by simpa [g122_0,g150_0] using run122 x0 hm hx.2 x0.length 0 65535 x0 (by omega) rfl rfl⟩
def S122:Am.Spec:={ sig:=sig122,pre:=fun ⟨x0,_⟩=>P122 x0,res:=fun ⟨x0,_⟩=>[⟨.sl (.cons (.int .i64) (.cons (.int .i64) (.cons .str (.cons (.int .i64) .unit)))),g122_0 x0⟩] }
theorem con122:Contract Tryz.prog 122 S122:=contract_of Tryz.func122 hb122 (bl_ (by kernel_rfl)) (fun ⟨x0,_⟩ h hwf K q =>
 (snd122 _).1 x0 _ (top122 x0 hwf.1.1 h) K q)
theorem sl122_len:∀ (l:List TyB2) (c:Int),(sl122 c l).length=l.length
 | [],_=>rfl
 | x :: r,c=>by simp [sl122,sl122_len r]
end
noncomputable section
def ext91:Ext:=[(111,S111),(122,S122)]
theorem ext91Ok:ExtOk Tryz.prog ext91:=⟨⟨ca111,con111⟩,⟨ca122,con122⟩,trivial⟩
def b91:Code:=bodyOf Tryz.f91
theorem hb91:Tryz.f91.body=some b91:=by kernel_rfl
def sig91:List AT:=[AT.v (.sl YA6)]
def tys91:List Ty:=[.int .i64,.int .i64]
def kds91:List RK:=[]
def oks91:List AT:=owns sig91
def E91_4 (v12:Int) (x0:List TyB2):Env:=[(0,.a (.sl YA6 x0)),(10,.a (.osl 0 Option.none)),(11,.a (.val (.int .i64 (↑(List.length (g122_0 x0)):Int)))),(12,.a (.val (.int .i64 v12)))]
def L91_4 (v12:Int) (x0:List TyB2):Heap:=[Option.some (Arr.mk YA6 (g122_0 x0) false Option.none Option.none)]
mutual
def R91:Nat→List TyB2→List Dyn→Prop
 | 0,_,_=>False
 | n+1,x0,ds=>(if (!g111_0 x0)=true then (ds=[Dyn.mk (.int .i64) 0,Dyn.mk (.int .i64) 1]) else ((P122 x0)∧(R91_4 n (0) (x0) ds)))
def R91_4:Nat→Int→List TyB2→List Dyn→Prop
 | 0,_,_,_=>False
 | n+1,v12,x0,ds=>(if (decide (v12<(↑(List.length (g122_0 x0)):Int)))=true then ((0≤v12)∧(v12<(↑(List.length (g122_0 x0)):Int))∧((0≤v12)∧(v12<(x0.length:Int))∧(if (!eqD YA6 (List.getD x0 (Int.toNat v12) (0,0,ByteArray.empty,0,())) (List.getD (g122_0 x0) (Int.toNat v12) (0,0,ByteArray.empty,0,())))=true then (ds=[Dyn.mk (.int .i64) v12,Dyn.mk (.int .i64) 0]) else ((InR .i64 (v12+1))∧(R91_4 n (v12+1) (x0) ds))))) else (ds=[Dyn.mk (.int .i64) 0,Dyn.mk (.int .i64) 3]))
end
theorem snd91:∀ n,(∀ (x0:List TyB2) ds,R91 n x0 ds→∀ K q,AtV Tryz.prog 91 (PostR kds91 oks91 ds [] [] q K) 25 K q [] [.code b91] (entE 0 0 sig91 (x0,())) (entL sig91 (x0,())))∧(∀ (v12:Int) (x0:List TyB2) ds,R91_4 n v12 x0 ds→∀ K q,AtV Tryz.prog 91 (PostR kds91 oks91 ds [] [] q K) 25 K q [] (cutAt b91 4) (E91_4 v12 x0) (L91_4 v12 x0)):=by
 intro n
 induction n with
 | zero=>exact ⟨fun _ _ h=>by simp only [R91] at h,fun _ _ _ h=>by simp only [R91_4] at h⟩
 | succ n ih =>
 obtain ⟨ih,ih4⟩:=ih
 refine ⟨?_,?_⟩
 ·intro x0 ds h K q
  rw [R91] at h
  by_cases b0:(!g111_0 x0)=true
  ·rw [if_pos b0] at h
   subst h
   exact AtV.ret Tryz.func91 tabOk ext91Ok mixed false [] tys91 [true] (a1 trivial (a1 b0 trivial)) (by kernel_rfl)
  ·rw [if_neg b0] at h
   replace b0:=bf_ b0
   obtain ⟨s0,h⟩:=h
   exact AtV.go tabOk ext91Ok mixed false [] [] [0,10,11,12] [0] [false] (a1 trivial (a1 b0 (a1 s0 trivial))) (ih4 _ _ _ h K q) (by kernel_rfl)
 ·intro v12 x0 ds h K q
  rw [R91_4] at h
  by_cases b0:(decide (v12<(↑(List.length (g122_0 x0)):Int)))=true
  ·rw [if_pos b0] at h
   obtain ⟨s0,s1,h⟩:=h
   obtain ⟨s2,s3,h⟩:=h
   by_cases b1:(!eqD YA6 (List.getD x0 (Int.toNat v12) (0,0,ByteArray.empty,0,())) (List.getD (g122_0 x0) (Int.toNat v12) (0,0,ByteArray.empty,0,())))=true
   ·rw [if_pos b1] at h
    subst h
    exact AtV.ret Tryz.func91 tabOk ext91Ok mixed false [] tys91 [true,true] (a1 b0 (a1 s0 (a1 s1 (a1 s2 (a1 s3 (a1 b1 trivial)))))) (by kernel_rfl)
   ·rw [if_neg b1] at h
    replace b1:=bf_ b1
    obtain ⟨s4,h⟩:=h
    exact AtV.go tabOk ext91Ok mixed false [] [] [0,10,11,12] [0] [true,false] (a1 b0 (a1 s0 (a1 s1 (a1 s2 (a1 s3 (a1 b1 (a1 s4 trivial))))))) (ih4 _ _ _ h K q) (by kernel_rfl)
  ·rw [if_neg b0] at h
   replace b0:=bf_ b0
   subst h
   exact AtV.ret Tryz.func91 tabOk ext91Ok mixed false [] tys91 [false] (a1 b0 trivial) (by kernel_rfl)
def fb91 (i:Int):List TyB2→List TyB2→Option Int
 | x :: r,y :: s=>if (!eqD YA6 x y)=true then some i else fb91 (i+1) r s
 | _,_=>none
def out91:Option Int→List Dyn
 | some k=>[⟨.int .i64,k⟩,⟨.int .i64,(0:Int)⟩]
 | none=>[⟨.int .i64,(0:Int)⟩,⟨.int .i64,(3:Int)⟩]
def g91_0 (x0:List TyB2):Int:=if g111_0 x0=true then (match fb91 0 x0 (g122_0 x0) with | some k=>k | none=>0) else 0
def g91_1 (x0:List TyB2):Int:=if g111_0 x0=true then (match fb91 0 x0 (g122_0 x0) with | some _=>0 | none=>3) else 1
def P91 (x0:List TyB2):Prop:=g111_0 x0=true→P122 x0
theorem run91 (x0:List TyB2) (hm:x0.length≤maxLen):∀ (k i:Nat),i+k=x0.length→R91_4 (k+1) (i:Int) x0 (out91 (fb91 i (x0.drop i) ((g122_0 x0).drop i))):=by
 have hl:(g122_0 x0).length=x0.length:=sl122_len x0 _
 intro k
 induction k with
 | zero =>
  intro i hi
  rw [R91_4,if_neg (by simp only [decide_eq_true_eq];omega),drop_end x0 _ (by omega)]
  rfl
 | succ k ih =>
  intro i hi
  have hlt:i<x0.length:=by omega
  rw [R91_4,if_pos (by simp only [decide_eq_true_eq];omega),drop_get x0 i ((0:Int),(0:Int),ByteArray.empty,(0:Int),()) hlt,drop_get (g122_0 x0) i ((0:Int),(0:Int),ByteArray.empty,(0:Int),()) (by omega)]
  simp only [Int.toNat_natCast]
  have h:=ih (i+1) (by omega)
  refine ⟨by omega,by omega,by omega,by omega,?_⟩
  simp only [fb91]
  by_cases hc:(!eqD YA6 (x0.getD i ((0:Int),(0:Int),ByteArray.empty,(0:Int),())) ((g122_0 x0).getD i ((0:Int),(0:Int),ByteArray.empty,(0:Int),())))=true
  ·rw [if_pos hc,if_pos hc];rfl
  ·rw [if_neg hc,if_neg hc]
   exact ⟨inR_up hm hlt,by simpa using h⟩
theorem top91 (x0:List TyB2) (hm:x0.length≤maxLen) (hx:P91 x0):R91 (x0.length+1+1) x0 [⟨.int .i64,g91_0 x0⟩,⟨.int .i64,g91_1 x0⟩]:=by
 rw [R91]
 unfold g91_0 g91_1
 by_cases hv:g111_0 x0=true
 ·rw [if_neg (by rw [hv];simp),if_pos hv,if_pos hv]
  refine ⟨hx hv,?_⟩
  have h:=run91 x0 hm x0.length 0 (by omega)
  simp only [List.drop_zero] at h
  revert h
  show R91_4 _ _ _ (out91 (fb91 0 x0 (g122_0 x0)))→_
  cases fb91 0 x0 (g122_0 x0) <;> exact fun h=>h
 ·rw [if_pos (by rw [bf_ hv];rfl),if_neg hv,if_neg hv]
def S91:Am.Spec:={ sig:=sig91,pre:=fun ⟨x0,_⟩=>P91 x0,res:=fun ⟨x0,_⟩=>[⟨.int .i64,g91_0 x0⟩,⟨.int .i64,g91_1 x0⟩] }
theorem con91:Contract Tryz.prog 91 S91:=contract_of Tryz.func91 hb91 (bl_ (by kernel_rfl)) (fun ⟨x0,_⟩ h hwf K q =>
 (snd91 _).1 x0 _ (top91 x0 hwf.1.1 h) K q)
end
noncomputable section
def ext57:Ext:=[(91,S91),(85,S85)]
theorem ext57Ok:ExtOk Tryz.prog ext57:=⟨⟨ca91,con91⟩,⟨ca85,con85⟩,trivial⟩
def b57:Code:=bodyOf Tryz.f57
theorem hb57:Tryz.f57.body=some b57:=by kernel_rfl
def sig57:List AT:=[AT.v YA0]
def tys57:List Ty:=[.sl YA8]
def kds57:List RK:=[]
def oks57:List AT:=owns sig57
def P57 (x0:TyA0):Prop:=((P91 x0.2.2.2.2.2.2.2.2.2.2.2.1)∧(if (g91_1 x0.2.2.2.2.2.2.2.2.2.2.2.1 != 0)=true then True else ((P85 (g91_0 x0.2.2.2.2.2.2.2.2.2.2.2.1))∧((0≤g91_0 x0.2.2.2.2.2.2.2.2.2.2.2.1)∧(g91_0 x0.2.2.2.2.2.2.2.2.2.2.2.1<(x0.2.2.2.2.2.2.2.2.2.2.2.1.length:Int))∧((P85 (List.getD x0.2.2.2.2.2.2.2.2.2.2.2.1 (Int.toNat (g91_0 x0.2.2.2.2.2.2.2.2.2.2.2.1)) (0,0,ByteArray.empty,0,())).2.2.2.1)∧True)))))
def g57_0 (x0:TyA0):List TyB3:=(if (g91_1 x0.2.2.2.2.2.2.2.2.2.2.2.1 != 0)=true then [] else [(6,g85_0 (g91_0 x0.2.2.2.2.2.2.2.2.2.2.2.1),g85_0 (List.getD x0.2.2.2.2.2.2.2.2.2.2.2.1 (Int.toNat (g91_0 x0.2.2.2.2.2.2.2.2.2.2.2.1)) (0,0,ByteArray.empty,0,())).2.2.2.1,())])
theorem at57 (x0:TyA0) (h:P57 x0) (K:Ctx) (q:Nat→Value):AtV Tryz.prog 57 (PostR kds57 oks57 [⟨.sl YA8,g57_0 x0⟩] [] [] q K) 24 K q [] [.code b57] (entE 0 0 sig57 (x0,())) (entL sig57 (x0,())):=by
 unfold P57 at h
 unfold g57_0
 obtain ⟨s0,h⟩:=h
 by_cases b0:(g91_1 x0.2.2.2.2.2.2.2.2.2.2.2.1 != 0)=true
 ·try simp only [if_pos b0] at h ⊢
  exact AtV.ret Tryz.func57 tabOk ext57Ok mixed false [] tys57 [true] (a1 s0 (a1 b0 trivial)) (by kernel_rfl)
 ·try simp only [if_neg b0] at h ⊢
  replace b0:=bf_ b0
  obtain ⟨s1,h⟩:=h
  obtain ⟨s2,s3,h⟩:=h
  obtain ⟨s4,h⟩:=h
  exact AtV.ret Tryz.func57 tabOk ext57Ok mixed false [] tys57 [false] (a1 s0 (a1 b0 (a1 s1 (a1 s2 (a1 s3 (a1 s4 trivial)))))) (by kernel_rfl)
def S57:Am.Spec:={ sig:=sig57,pre:=fun ⟨x0,_⟩=>P57 x0,res:=fun ⟨x0,_⟩=>[⟨.sl YA8,g57_0 x0⟩],kds:=kds57 }
theorem con57:Contract Tryz.prog 57 S57:=contract_of Tryz.func57 hb57 (bl_ (by kernel_rfl)) (fun ⟨x0,_⟩ h _ K q=>at57 x0 h K q)
end
noncomputable section
def ext54c55c56c57:Ext:=[(82,S82),(55,S55),(56,S56),(57,S57)]
theorem ext54c55c56c57Ok:ExtOk Tryz.prog ext54c55c56c57:=⟨⟨ca82,con82⟩,⟨ca55,con55⟩,⟨ca56,con56⟩,⟨ca57,con57⟩,trivial⟩
def b54c55c56c57:Code:=bodyOf Tryz.f54
theorem hb54c55c56c57:Tryz.f54.body=some b54c55c56c57:=by kernel_rfl
def sig54c55c56c57:List AT:=[AT.v YA0,AT.fns [55,56,57]]
def tys54c55c56c57:List Ty:=[.sl YA8,.int .i64]
def kds54c55c56c57:List RK:=[]
def oks54c55c56c57:List AT:=owns sig54c55c56c57
def P54c55c56c57 (x0:TyA0):Prop:=(if (!g82_0 x0)=true then True else ((P55 x0)∧((List.length (g55_0 x0)*40≤140737488355328)∧((P56 x0)∧(((List.length (g55_0 x0)+List.length (g56_0 x0))*40≤140737488355328)∧((P57 x0)∧(((List.length (g55_0 x0++g56_0 x0)+List.length (g57_0 x0))*40≤140737488355328)∧True)))))))
def g54c55c56c57_0 (x0:TyA0):List TyB3:=(if (!g82_0 x0)=true then [] else g55_0 x0++g56_0 x0++g57_0 x0)
def g54c55c56c57_1 (x0:TyA0):Int:=(if (!g82_0 x0)=true then 1 else 0)
theorem at54c55c56c57 (x0:TyA0) (h:P54c55c56c57 x0) (K:Ctx) (q:Nat→Value):AtV Tryz.prog 54 (PostR kds54c55c56c57 oks54c55c56c57 [⟨.sl YA8,g54c55c56c57_0 x0⟩,⟨.int .i64,g54c55c56c57_1 x0⟩] [] [] q K) 25 K q [] [.code b54c55c56c57] (entE 0 0 sig54c55c56c57 (x0,(),())) (entL sig54c55c56c57 (x0,(),())):=by
 unfold P54c55c56c57 at h
 unfold g54c55c56c57_0 g54c55c56c57_1
 by_cases b0:(!g82_0 x0)=true
 ·try simp only [if_pos b0] at h ⊢
  exact AtV.ret Tryz.func54 tabOk ext54c55c56c57Ok mixed false [1000007] tys54c55c56c57 [true] (a1 trivial (a1 b0 trivial)) (by kernel_rfl)
 ·try simp only [if_neg b0] at h ⊢
  replace b0:=bf_ b0
  obtain ⟨s0,h⟩:=h
  obtain ⟨s1,h⟩:=h
  obtain ⟨s2,h⟩:=h
  obtain ⟨s3,h⟩:=h
  obtain ⟨s4,h⟩:=h
  obtain ⟨s5,h⟩:=h
  exact AtV.ret Tryz.func54 tabOk ext54c55c56c57Ok mixed false [1000007] tys54c55c56c57 [false,true,true,true,false] (a1 trivial (a1 b0 (a1 (rfl:true=true) (a1 ((by decide):(0:Int)≤(0:Int)) (a1 ((by decide):(0:Int)<(3:Int)) (a1 s0 (a1 s1 (a1 ((by decide):InR .i64 1) (a1 (rfl:true=true) (a1 ((by decide):(0:Int)≤(1:Int)) (a1 ((by decide):(1:Int)<(3:Int)) (a1 s2 (a1 s3 (a1 ((by decide):InR .i64 2) (a1 (rfl:true=true) (a1 ((by decide):(0:Int)≤(2:Int)) (a1 ((by decide):(2:Int)<(3:Int)) (a1 s4 (a1 s5 (a1 ((by decide):InR .i64 3) (a1 (rfl:false=false) trivial))))))))))))))))))))) (by kernel_rfl)
def S54c55c56c57:Am.Spec:={ sig:=sig54c55c56c57,pre:=fun ⟨x0,_⟩=>P54c55c56c57 x0,res:=fun ⟨x0,_⟩=>[⟨.sl YA8,g54c55c56c57_0 x0⟩,⟨.int .i64,g54c55c56c57_1 x0⟩],kds:=kds54c55c56c57 }
theorem con54c55c56c57:Contract Tryz.prog 54 S54c55c56c57:=contract_of Tryz.func54 hb54c55c56c57 (bl_ (by kernel_rfl)) (fun ⟨x0,_⟩ h _ K q=>at54c55c56c57 x0 h K q)
end
noncomputable section
def ext24:Ext:=[(54,S54c55c56c57)]
theorem ext24Ok:ExtOk Tryz.prog ext24:=⟨⟨ca54,con54c55c56c57⟩,trivial⟩
def b24:Code:=bodyOf Tryz.f24
theorem hb24:Tryz.f24.body=some b24:=by kernel_rfl
def sig24:List AT:=[AT.v YA0]
def tys24:List Ty:=[.sl YA8,.int .i64]
def kds24:List RK:=[]
def oks24:List AT:=owns sig24
def P24 (x0:TyA0):Prop:=((P54c55c56c57 x0)∧True)
def g24_0 (x0:TyA0):List TyB3:=g54c55c56c57_0 x0
def g24_1 (x0:TyA0):Int:=g54c55c56c57_1 x0
theorem at24 (x0:TyA0) (h:P24 x0) (K:Ctx) (q:Nat→Value):AtV Tryz.prog 24 (PostR kds24 oks24 [⟨.sl YA8,g24_0 x0⟩,⟨.int .i64,g24_1 x0⟩] [] [] q K) 9 K q [] [.code b24] (entE 0 0 sig24 (x0,())) (entL sig24 (x0,())):=by
 unfold P24 at h
 unfold g24_0 g24_1
 obtain ⟨s0,h⟩:=h
 exact AtV.ret Tryz.func24 tabOk ext24Ok mixed false [] tys24 [] (a1 s0 trivial) (by kernel_rfl)
def S24:Am.Spec:={ sig:=sig24,pre:=fun ⟨x0,_⟩=>P24 x0,res:=fun ⟨x0,_⟩=>[⟨.sl YA8,g24_0 x0⟩,⟨.int .i64,g24_1 x0⟩],kds:=kds24 }
theorem con24:Contract Tryz.prog 24 S24:=contract_of Tryz.func24 hb24 (bl_ (by kernel_rfl)) (fun ⟨x0,_⟩ h _ K q=>at24 x0 h K q)
end
noncomputable section
def ext7:Ext:=[(24,S24)]
theorem ext7Ok:ExtOk Tryz.prog ext7:=⟨⟨ca24,con24⟩,trivial⟩
def b7:Code:=bodyOf Tryz.f7
theorem hb7:Tryz.f7.body=some b7:=by kernel_rfl
def sig7:List AT:=[AT.v YA0]
def tys7:List Ty:=[.bool]
def kds7:List RK:=[]
def oks7:List AT:=owns sig7
def P7 (x0:TyA0):Prop:=((P24 x0)∧True)
def g7_0 (x0:TyA0):Bool:=(if (g24_1 x0==0)=true then (↑(List.length (g24_0 x0)):Int)==0 else false)
theorem at7 (x0:TyA0) (h:P7 x0) (K:Ctx) (q:Nat→Value):AtV Tryz.prog 7 (PostR kds7 oks7 [⟨.bool,g7_0 x0⟩] [] [] q K) 17 K q [] [.code b7] (entE 0 0 sig7 (x0,())) (entL sig7 (x0,())):=by
 unfold P7 at h
 unfold g7_0
 obtain ⟨s0,h⟩:=h
 by_cases b0:(g24_1 x0==0)=true
 ·try simp only [if_pos b0] at h ⊢
  exact AtV.ret Tryz.func7 tabOk ext7Ok mixed false [] tys7 [true] (a1 s0 (a1 b0 trivial)) (by kernel_rfl)
 ·try simp only [if_neg b0] at h ⊢
  replace b0:=bf_ b0
  exact AtV.ret Tryz.func7 tabOk ext7Ok mixed false [] tys7 [false] (a1 s0 (a1 b0 trivial)) (by kernel_rfl)
def S7:Am.Spec:={ sig:=sig7,pre:=fun ⟨x0,_⟩=>P7 x0,res:=fun ⟨x0,_⟩=>[⟨.bool,g7_0 x0⟩],kds:=kds7 }
theorem con7:Contract Tryz.prog 7 S7:=contract_of Tryz.func7 hb7 (bl_ (by kernel_rfl)) (fun ⟨x0,_⟩ h _ K q=>at7 x0 h K q)
end
noncomputable section
def ext92:Ext:=[]
theorem ext92Ok:ExtOk Tryz.prog ext92:=trivial
def b92:Code:=bodyOf Tryz.f92
theorem hb92:Tryz.f92.body=some b92:=by kernel_rfl
def sig92:List AT:=[AT.v YA9,AT.v YA9]
def tys92:List Ty:=[.bool]
def kds92:List RK:=[]
def oks92:List AT:=owns sig92
def P92 (x0:Int×Int×Unit) (x1:Int×Int×Unit):Prop:=True
def g92_0 (x0:Int×Int×Unit) (x1:Int×Int×Unit):Bool:=(if (x0.1 != x1.1)=true then false else (if (x0.2.1 != x1.2.1)=true then false else true))
theorem at92 (x0:Int×Int×Unit) (x1:Int×Int×Unit) (h:P92 x0 x1) (K:Ctx) (q:Nat→Value):AtV Tryz.prog 92 (PostR kds92 oks92 [⟨.bool,g92_0 x0 x1⟩] [] [] q K) 15 K q [] [.code b92] (entE 0 0 sig92 (x0,x1,())) (entL sig92 (x0,x1,())):=by
 unfold P92 at h
 unfold g92_0
 by_cases b0:(x0.1 != x1.1)=true
 ·try simp only [if_pos b0] at h ⊢
  exact AtV.ret Tryz.func92 tabOk ext92Ok mixed false [] tys92 [true] (a1 b0 trivial) (by kernel_rfl)
 ·try simp only [if_neg b0] at h ⊢
  replace b0:=bf_ b0
  by_cases b1:(x0.2.1 != x1.2.1)=true
  ·try simp only [if_pos b1] at h ⊢
   exact AtV.ret Tryz.func92 tabOk ext92Ok mixed false [] tys92 [false,true] (a1 b0 (a1 b1 trivial)) (by kernel_rfl)
  ·try simp only [if_neg b1] at h ⊢
   replace b1:=bf_ b1
   exact AtV.ret Tryz.func92 tabOk ext92Ok mixed false [] tys92 [false,false] (a1 b0 (a1 b1 trivial)) (by kernel_rfl)
def S92:Am.Spec:={ sig:=sig92,pre:=fun ⟨x0,x1,_⟩=>P92 x0 x1,res:=fun ⟨x0,x1,_⟩=>[⟨.bool,g92_0 x0 x1⟩],kds:=kds92 }
theorem con92:Contract Tryz.prog 92 S92:=contract_of Tryz.func92 hb92 (bl_ (by kernel_rfl)) (fun ⟨x0,x1,_⟩ h _ K q=>at92 x0 x1 h K q)
theorem eqd92 (x y:TyB4):g92_0 x y=true↔x=y:=by
 obtain ⟨a,b,u⟩:=x
 obtain ⟨a',b',u'⟩:=y
 unfold g92_0
 simp only [Bool.not_eq_true',bytes_ne,bne_iff_ne,ne_eq,ite_not]
 by_cases h0:a=a'
 ·by_cases h1:b=b'
  ·simp [h0,h1]
  ·simp [h0,h1]
 ·simp [h0]
end
end Go.Proofs.YtfobhngpafbfdaaGreatDoor
