/- Several texts in one: the functions that this law reaches, and their laws. -/
import Derived.Test.YthpljjnbniefpaaGreatDoorZ3A
import Derived.Test.YthpljjnbniefpaaGreatDoorZ3B
import Derived.Test.YthpljjnbniefpaaGreatDoorZ3C
import Derived.Test.YthpljjnbniefpaaGreatDoorZ3D
import Derived.Test.YthpljjnbniefpaaGreatDoorZ3E
set_option linter.unusedVariables false
set_option linter.unusedSimpArgs false
set_option maxRecDepth 100000
namespace Go.Proofs.YthpljjnbniefpaaGreatDoor
open Go Go.Am Go.Proofs
noncomputable section
def ext11:Ext:=[(44,S44)]
theorem ext11Ok:ExtOk Tryz.prog ext11:=⟨⟨ca44,con44⟩,trivial⟩
noncomputable def b11:Code:=bodyOf Tryz.f11
theorem hb11:Tryz.f11.body=some b11:=by kernel_rfl
def sig11:List AT:=[AT.own YA8,AT.v (Ty.int .i64)]
def tys11:List Ty:=[Ty.int .i64]
def kds11:List RK:=[]
def oks11:List AT:=owns sig11
def E11_2 (v5:Int) (x1:Int) (x0:List TyB3):Env:=[(0,PV.a (Atom.osl 0 Option.none)),(1,PV.a (Atom.val (Value.int .i64 x1))),(5,PV.a (Atom.val (Value.int .i64 v5)))]
def L11_2 (v5:Int) (x1:Int) (x0:List TyB3):Heap:=[Option.some (Arr.mk YA8 x0 false Option.none Option.none)]
mutual
def R11:Nat→List TyB3→Int→List Dyn→List (Option Lst)→Prop
 | 0,_,_,_,_=>False
 | n+1,x0,x1,ds,us=>(R11_2 n (0) (x1) (x0) ds us)
def R11_2:Nat→Int→Int→List TyB3→List Dyn→List (Option Lst)→Prop
 | 0,_,_,_,_,_=>False
 | n+1,v5,x1,x0,ds,us=>(if (decide (v5<(↑(List.length x0):Int)))=true then ((0≤v5)∧(v5<(↑(List.length x0):Int))∧((InR .i64 (x1+1))∧((0≤v5)∧(v5<(↑(List.length (List.set x0 (Int.toNat v5) (x1,(List.getD x0 (Int.toNat v5) (0,ByteArray.empty,ByteArray.empty,())).2))):Int))∧((InR .i64 (x1+1+1))∧((0≤v5)∧(v5<(↑(List.length (List.set (List.set x0 (Int.toNat v5) (x1,(List.getD x0 (Int.toNat v5) (0,ByteArray.empty,ByteArray.empty,())).2)) (Int.toNat v5) ((List.getD (List.set x0 (Int.toNat v5) (x1,(List.getD x0 (Int.toNat v5) (0,ByteArray.empty,ByteArray.empty,())).2)) (Int.toNat v5) (0,ByteArray.empty,ByteArray.empty,())).1,g44_0 (x1+1),(List.getD (List.set x0 (Int.toNat v5) (x1,(List.getD x0 (Int.toNat v5) (0,ByteArray.empty,ByteArray.empty,())).2)) (Int.toNat v5) (0,ByteArray.empty,ByteArray.empty,())).2.2))):Int))∧((InR .i64 (x1+1+1+1))∧((InR .i64 (v5+1))∧(R11_2 n (v5+1) (x1+1+1+1) (List.set (List.set (List.set x0 (Int.toNat v5) (x1,(List.getD x0 (Int.toNat v5) (0,ByteArray.empty,ByteArray.empty,())).2)) (Int.toNat v5) ((List.getD (List.set x0 (Int.toNat v5) (x1,(List.getD x0 (Int.toNat v5) (0,ByteArray.empty,ByteArray.empty,())).2)) (Int.toNat v5) (0,ByteArray.empty,ByteArray.empty,())).1,g44_0 (x1+1),(List.getD (List.set x0 (Int.toNat v5) (x1,(List.getD x0 (Int.toNat v5) (0,ByteArray.empty,ByteArray.empty,())).2)) (Int.toNat v5) (0,ByteArray.empty,ByteArray.empty,())).2.2)) (Int.toNat v5) ((List.getD (List.set (List.set x0 (Int.toNat v5) (x1,(List.getD x0 (Int.toNat v5) (0,ByteArray.empty,ByteArray.empty,())).2)) (Int.toNat v5) ((List.getD (List.set x0 (Int.toNat v5) (x1,(List.getD x0 (Int.toNat v5) (0,ByteArray.empty,ByteArray.empty,())).2)) (Int.toNat v5) (0,ByteArray.empty,ByteArray.empty,())).1,g44_0 (x1+1),(List.getD (List.set x0 (Int.toNat v5) (x1,(List.getD x0 (Int.toNat v5) (0,ByteArray.empty,ByteArray.empty,())).2)) (Int.toNat v5) (0,ByteArray.empty,ByteArray.empty,())).2.2)) (Int.toNat v5) (0,ByteArray.empty,ByteArray.empty,())).1,(List.getD (List.set (List.set x0 (Int.toNat v5) (x1,(List.getD x0 (Int.toNat v5) (0,ByteArray.empty,ByteArray.empty,())).2)) (Int.toNat v5) ((List.getD (List.set x0 (Int.toNat v5) (x1,(List.getD x0 (Int.toNat v5) (0,ByteArray.empty,ByteArray.empty,())).2)) (Int.toNat v5) (0,ByteArray.empty,ByteArray.empty,())).1,g44_0 (x1+1),(List.getD (List.set x0 (Int.toNat v5) (x1,(List.getD x0 (Int.toNat v5) (0,ByteArray.empty,ByteArray.empty,())).2)) (Int.toNat v5) (0,ByteArray.empty,ByteArray.empty,())).2.2)) (Int.toNat v5) (0,ByteArray.empty,ByteArray.empty,())).2.1,g44_0 (x1+1+1),(List.getD (List.set (List.set x0 (Int.toNat v5) (x1,(List.getD x0 (Int.toNat v5) (0,ByteArray.empty,ByteArray.empty,())).2)) (Int.toNat v5) ((List.getD (List.set x0 (Int.toNat v5) (x1,(List.getD x0 (Int.toNat v5) (0,ByteArray.empty,ByteArray.empty,())).2)) (Int.toNat v5) (0,ByteArray.empty,ByteArray.empty,())).1,g44_0 (x1+1),(List.getD (List.set x0 (Int.toNat v5) (x1,(List.getD x0 (Int.toNat v5) (0,ByteArray.empty,ByteArray.empty,())).2)) (Int.toNat v5) (0,ByteArray.empty,ByteArray.empty,())).2.2)) (Int.toNat v5) (0,ByteArray.empty,ByteArray.empty,())).2.2.2)) ds us)))))))) else (ds=[Dyn.mk (Ty.int .i64) x1]∧us=[Option.some (Lst.mk YA8 x0)]))
end
theorem snd11:∀ n,(∀ (x0:List TyB3) (x1:Int) ds us,R11 n x0 x1 ds us→∀ K q,AtV Tryz.prog 11 (PostR kds11 oks11 ds us [0] q K) 36 K q [0] [.code b11] (entE 0 0 sig11 (x0,x1,())) (entL sig11 (x0,x1,())))∧(∀ (v5:Int) (x1:Int) (x0:List TyB3) ds us,R11_2 n v5 x1 x0 ds us→∀ K q,AtV Tryz.prog 11 (PostR kds11 oks11 ds us [0] q K) 36 K q [0] (cutAt b11 2) (E11_2 v5 x1 x0) (L11_2 v5 x1 x0)):=by
 intro n
 induction n with
 | zero=>exact ⟨fun _ _ _ _ h=>by simp only [R11] at h,fun _ _ _ _ _ h=>by simp only [R11_2] at h⟩
 | succ n ih =>
 obtain ⟨ih,ih2⟩:=ih
 refine ⟨?_,?_⟩
 ·intro x0 x1 ds us h K q
  rw [R11] at h
  exact AtV.go tabOk ext11Ok mixed false [] [] [0,1,5] [0] [] trivial (ih2 _ _ _ _ _ h K q) (by kernel_rfl)
 ·intro v5 x1 x0 ds us h K q
  rw [R11_2] at h
  by_cases b0:(decide (v5<(↑(List.length x0):Int)))=true
  ·rw [if_pos b0] at h
   obtain ⟨s0,s1,h⟩:=h
   obtain ⟨s2,h⟩:=h
   obtain ⟨s3,s4,h⟩:=h
   obtain ⟨s5,h⟩:=h
   obtain ⟨s6,s7,h⟩:=h
   obtain ⟨s8,h⟩:=h
   obtain ⟨s9,h⟩:=h
   exact AtV.go tabOk ext11Ok mixed false [] [] [0,1,5] [0] [true] (a1 b0 (a1 s0 (a1 s1 (a1 s2 (a1 trivial (a1 s3 (a1 s4 (a1 s5 (a1 trivial (a1 s6 (a1 s7 (a1 s8 (a1 s9 trivial))))))))))))) (ih2 _ _ _ _ _ h K q) (by kernel_rfl)
  ·rw [if_neg b0] at h
   replace b0:=Bool.eq_false_iff.2 b0
   obtain ⟨h,h'⟩:=h;subst h;subst h'
   exact AtV.ret Tryz.func11 tabOk ext11Ok mixed false [] tys11 [false] (a1 b0 trivial) (by kernel_rfl)
def M11 (x1:Int) (n:Nat):List TyB3:=(List.range n).map fun (j:Nat)=>((x1+3*(j:Int)),g44_0 (x1+3*(j:Int)+1),g44_0 (x1+3*(j:Int)+1+1),())
theorem M11_len (x1:Int) (n:Nat):(M11 x1 n).length=n:=by simp [M11]
theorem M11_succ (x1:Int) (n:Nat):M11 x1 (n+1)=M11 x1 n++[((x1+3*(n:Int)),g44_0 (x1+3*(n:Int)+1),g44_0 (x1+3*(n:Int)+1+1),())]:=by
 simp [M11,List.range_succ]
theorem run11 (x0:List TyB3) (x1:Int) (hm:x0.length≤maxLen) (h0:0≤x1) (h1:x1+3*x0.length≤9223372036854775807):∀ (k i:Nat),i+k=x0.length →
  R11_2 (k+1) (i:Int) (x1+3*(i:Int)) (M11 x1 i++x0.drop i) [⟨.int .i64,x1+3*(x0.length:Int)⟩] [some ⟨(.cons (.int .i64) (.cons .str (.cons .str .unit))),M11 x1 x0.length⟩]:=by
 intro k
 induction k with
 | zero =>
  intro i hi
  have hl:(M11 x1 i++x0.drop i).length=x0.length:=by simp [M11_len];omega
  rw [R11_2,if_neg (by rw [hl];simp;omega),drop_end x0 i (by omega),List.append_nil]
  have:i=x0.length:=by omega
  subst this
  exact ⟨rfl,rfl⟩
 | succ k ih =>
  intro i hi
  have hl:(M11 x1 i++x0.drop i).length=x0.length:=by simp [M11_len];omega
  have hA:=M11_len x1 i
  rw [R11_2,if_pos (by rw [hl];simp;omega)]
  rw [drop_get x0 i ((0:Int),ByteArray.empty,ByteArray.empty,()) (by omega)] at hl ⊢
  simp only [Int.toNat_natCast,set_mid _ _ _ _ i hA,get_mid _ _ _ _ i hA]
  have hl':∀ y:TyB3,((M11 x1 i++y :: x0.drop (i+1)).length:Int)=x0.length:=fun y=>by rw [← hl];simp
  simp only [hl']
  refine ⟨by omega,by omega,by rw [i64_iff];omega,by omega,by omega,by rw [i64_iff];omega,by omega,by omega,by rw [i64_iff];omega,inR_up hm (by omega),?_⟩
  have hx:x1+3*(i:Int)+1+1+1=x1+3*((i+1:Nat):Int):=by omega
  have:=ih (i+1) (by omega)
  rw [M11_succ,List.append_assoc] at this
  rw [hx]
  simpa using this
def P11 (x0:List TyB3) (x1:Int):Prop:=0≤x1∧x1+3*x0.length≤9223372036854775807
def g11_0 (x0:List TyB3) (x1:Int):Int:=x1+3*(x0.length:Int)
def u11_0 (x0:List TyB3) (x1:Int):List TyB3:=M11 x1 x0.length
theorem top11 (x0:List TyB3) (x1:Int) (hm:x0.length≤maxLen) (h:P11 x0 x1):R11 (x0.length+1+1) x0 x1 [⟨.int .i64,g11_0 x0 x1⟩] [some ⟨(.cons (.int .i64) (.cons .str (.cons .str .unit))),u11_0 x0 x1⟩]:=by
 rw [R11]
 have:=run11 x0 x1 hm h.1 h.2 x0.length 0 (by omega)
 simpa [M11,g11_0,u11_0] using this
def S11:Am.Spec:={ sig:=sig11,pre:=fun ⟨x0,x1,_⟩=>P11 x0 x1,upd:=fun ⟨x0,x1,_⟩=>[some ⟨(.cons (.int .i64) (.cons .str (.cons .str .unit))),u11_0 x0 x1⟩],res:=fun ⟨x0,x1,_⟩=>[⟨.int .i64,g11_0 x0 x1⟩] }
theorem con11:Contract Tryz.prog 11 S11:=contract_of Tryz.func11 hb11 (Nat.le_of_ble_eq_true (by kernel_rfl)) (fun ⟨x0,x1,_⟩ h hwf K q =>
 (snd11 _).1 x0 x1 _ _ (top11 x0 x1 hwf.1.1 h) K q)
end
noncomputable section
def ext12:Ext:=[(44,S44)]
theorem ext12Ok:ExtOk Tryz.prog ext12:=⟨⟨ca44,con44⟩,trivial⟩
noncomputable def b12:Code:=bodyOf Tryz.f12
theorem hb12:Tryz.f12.body=some b12:=by kernel_rfl
def sig12:List AT:=[AT.v (Ty.sl YA8),AT.v (Ty.int .i64)]
def tys12:List Ty:=[Ty.int .i64]
def kds12:List RK:=[]
def oks12:List AT:=owns sig12
def E12_2 (v5:Int) (x0:List TyB3) (x1:Int):Env:=[(0,PV.a (Atom.sl YA8 x0)),(1,PV.a (Atom.val (Value.int .i64 x1))),(5,PV.a (Atom.val (Value.int .i64 v5)))]
def L12_2 (v5:Int) (x0:List TyB3) (x1:Int):Heap:=[]
mutual
def R12:Nat→List TyB3→Int→List Dyn→Prop
 | 0,_,_,_=>False
 | n+1,x0,x1,ds=>(R12_2 n (0) (x0) (x1) ds)
def R12_2:Nat→Int→List TyB3→Int→List Dyn→Prop
 | 0,_,_,_,_=>False
 | n+1,v5,x0,x1,ds=>(if (decide (v5<(↑(List.length x0):Int)))=true then ((0≤v5)∧(v5<(↑(List.length x0):Int))∧(if ((List.getD x0 (Int.toNat v5) (0,ByteArray.empty,ByteArray.empty,())).1 != x1)=true then (ds=[Dyn.mk (Ty.int .i64) (-1)]) else ((InR .i64 (x1+1))∧((0≤v5)∧(v5<(↑(List.length x0):Int))∧(if (!ByteArray.toList (List.getD x0 (Int.toNat v5) (0,ByteArray.empty,ByteArray.empty,())).2.1==ByteArray.toList (g44_0 (x1+1)))=true then (ds=[Dyn.mk (Ty.int .i64) (-1)]) else ((InR .i64 (x1+1+1))∧((0≤v5)∧(v5<(↑(List.length x0):Int))∧(if (!ByteArray.toList (List.getD x0 (Int.toNat v5) (0,ByteArray.empty,ByteArray.empty,())).2.2.1==ByteArray.toList (g44_0 (x1+1+1)))=true then (ds=[Dyn.mk (Ty.int .i64) (-1)]) else ((InR .i64 (x1+1+1+1))∧((InR .i64 (v5+1))∧(R12_2 n (v5+1) (x0) (x1+1+1+1) ds))))))))))) else (ds=[Dyn.mk (Ty.int .i64) x1]))
end
theorem snd12:∀ n,(∀ (x0:List TyB3) (x1:Int) ds,R12 n x0 x1 ds→∀ K q,AtV Tryz.prog 12 (PostR kds12 oks12 ds [] [] q K) 42 K q [] [.code b12] (entE 0 0 sig12 (x0,x1,())) (entL sig12 (x0,x1,())))∧(∀ (v5:Int) (x0:List TyB3) (x1:Int) ds,R12_2 n v5 x0 x1 ds→∀ K q,AtV Tryz.prog 12 (PostR kds12 oks12 ds [] [] q K) 42 K q [] (cutAt b12 2) (E12_2 v5 x0 x1) (L12_2 v5 x0 x1)):=by
 intro n
 induction n with
 | zero=>exact ⟨fun _ _ _ h=>by simp only [R12] at h,fun _ _ _ _ h=>by simp only [R12_2] at h⟩
 | succ n ih =>
 obtain ⟨ih,ih2⟩:=ih
 refine ⟨?_,?_⟩
 ·intro x0 x1 ds h K q
  rw [R12] at h
  exact AtV.go tabOk ext12Ok mixed false [] [] [0,1,5] [] [] trivial (ih2 _ _ _ _ h K q) (by kernel_rfl)
 ·intro v5 x0 x1 ds h K q
  rw [R12_2] at h
  by_cases b0:(decide (v5<(↑(List.length x0):Int)))=true
  ·rw [if_pos b0] at h
   obtain ⟨s0,s1,h⟩:=h
   by_cases b1:((List.getD x0 (Int.toNat v5) (0,ByteArray.empty,ByteArray.empty,())).1 != x1)=true
   ·rw [if_pos b1] at h
    subst h
    exact AtV.ret Tryz.func12 tabOk ext12Ok mixed false [] tys12 [true,true] (a1 b0 (a1 s0 (a1 s1 (a1 b1 trivial)))) (by kernel_rfl)
   ·rw [if_neg b1] at h
    replace b1:=Bool.eq_false_iff.2 b1
    obtain ⟨s2,h⟩:=h
    obtain ⟨s3,s4,h⟩:=h
    by_cases b2:(!ByteArray.toList (List.getD x0 (Int.toNat v5) (0,ByteArray.empty,ByteArray.empty,())).2.1==ByteArray.toList (g44_0 (x1+1)))=true
    ·rw [if_pos b2] at h
     subst h
     exact AtV.ret Tryz.func12 tabOk ext12Ok mixed false [] tys12 [true,false,true] (a1 b0 (a1 s0 (a1 s1 (a1 b1 (a1 s2 (a1 s3 (a1 s4 (a1 trivial (a1 b2 trivial))))))))) (by kernel_rfl)
    ·rw [if_neg b2] at h
     replace b2:=Bool.eq_false_iff.2 b2
     obtain ⟨s5,h⟩:=h
     obtain ⟨s6,s7,h⟩:=h
     by_cases b3:(!ByteArray.toList (List.getD x0 (Int.toNat v5) (0,ByteArray.empty,ByteArray.empty,())).2.2.1==ByteArray.toList (g44_0 (x1+1+1)))=true
     ·rw [if_pos b3] at h
      subst h
      exact AtV.ret Tryz.func12 tabOk ext12Ok mixed false [] tys12 [true,false,false,true] (a1 b0 (a1 s0 (a1 s1 (a1 b1 (a1 s2 (a1 s3 (a1 s4 (a1 trivial (a1 b2 (a1 s5 (a1 s6 (a1 s7 (a1 trivial (a1 b3 trivial)))))))))))))) (by kernel_rfl)
     ·rw [if_neg b3] at h
      replace b3:=Bool.eq_false_iff.2 b3
      obtain ⟨s8,h⟩:=h
      obtain ⟨s9,h⟩:=h
      exact AtV.go tabOk ext12Ok mixed false [] [] [0,1,5] [] [true,false,false,false] (a1 b0 (a1 s0 (a1 s1 (a1 b1 (a1 s2 (a1 s3 (a1 s4 (a1 trivial (a1 b2 (a1 s5 (a1 s6 (a1 s7 (a1 trivial (a1 b3 (a1 s8 (a1 s9 trivial)))))))))))))))) (ih2 _ _ _ _ h K q) (by kernel_rfl)
  ·rw [if_neg b0] at h
   replace b0:=Bool.eq_false_iff.2 b0
   subst h
   exact AtV.ret Tryz.func12 tabOk ext12Ok mixed false [] tys12 [false] (a1 b0 trivial) (by kernel_rfl)
theorem run12 (x0:List TyB3) (x1:Int) (hm:x0.length≤maxLen) (h0:0≤x1) (h1:x1+3*x0.length≤9223372036854775807) (he:∀ i:Nat,i<x0.length→x0.getD i ((0:Int),ByteArray.empty,ByteArray.empty,())=((x1+3*(i:Int)),g44_0 (x1+3*(i:Int)+1),g44_0 (x1+3*(i:Int)+1+1),())):∀ (k i:Nat),i+k=x0.length →
  R12_2 (k+1) (i:Int) x0 (x1+3*(i:Int)) [⟨.int .i64,x1+3*(x0.length:Int)⟩]:=by
 intro k
 induction k with
 | zero =>
  intro i hi
  rw [R12_2,if_neg (by simp;omega)]
  have:i=x0.length:=by omega
  subst this
  rfl
 | succ k ih =>
  intro i hi
  rw [R12_2,if_pos (by simp;omega)]
  simp only [Int.toNat_natCast,he i (by omega)]
  have hb:∀ y:ByteArray,(!(ByteArray.toList y==ByteArray.toList y))=true→False:=fun y h=>by rw [(bytes_eq y y).2 rfl] at h;cases h
  refine ⟨by omega,by omega,?_⟩
  rw [if_neg (by simp only [bne_self_eq_false,Bool.false_eq_true,not_false_eq_true])]
  refine ⟨by rw [i64_iff];omega,by omega,by omega,?_⟩
  rw [if_neg (hb _)]
  refine ⟨by rw [i64_iff];omega,by omega,by omega,?_⟩
  rw [if_neg (hb _)]
  refine ⟨by rw [i64_iff];omega,inR_up hm (by omega),?_⟩
  have hx:x1+3*(i:Int)+1+1+1=x1+3*((i+1:Nat):Int):=by omega
  rw [hx]
  exact ih (i+1) (by omega)
def P12 (x0:List TyB3) (x1:Int):Prop:=(0≤x1∧x1+3*x0.length≤9223372036854775807)∧∀ i:Nat,i<x0.length→x0.getD i ((0:Int),ByteArray.empty,ByteArray.empty,())=((x1+3*(i:Int)),g44_0 (x1+3*(i:Int)+1),g44_0 (x1+3*(i:Int)+1+1),())
def g12_0 (x0:List TyB3) (x1:Int):Int:=x1+3*(x0.length:Int)
theorem top12 (x0:List TyB3) (x1:Int) (hm:x0.length≤maxLen) (h:P12 x0 x1):R12 (x0.length+1+1) x0 x1 [⟨.int .i64,g12_0 x0 x1⟩]:=by
 rw [R12]
 have:=run12 x0 x1 hm h.1.1 h.1.2 h.2 x0.length 0 (by omega)
 simpa [g12_0] using this
def S12:Am.Spec:={ sig:=sig12,pre:=fun ⟨x0,x1,_⟩=>P12 x0 x1,res:=fun ⟨x0,x1,_⟩=>[⟨.int .i64,g12_0 x0 x1⟩] }
theorem con12:Contract Tryz.prog 12 S12:=contract_of Tryz.func12 hb12 (Nat.le_of_ble_eq_true (by kernel_rfl)) (fun ⟨x0,x1,_⟩ h hwf K q =>
 (snd12 _).1 x0 x1 _ (top12 x0 x1 hwf.1.1 h) K q)
end
noncomputable section
def ext3:Ext:=[(4,S4),(6,S6),(5,S5),(7,S7),(8,S8),(9,S9),(10,S10),(11,S11),(12,S12)]
theorem ext3Ok:ExtOk Tryz.prog ext3:=⟨⟨ca4,con4⟩,⟨ca6,con6⟩,⟨ca5,con5⟩,⟨ca7,con7⟩,⟨ca8,con8⟩,⟨ca9,con9⟩,⟨ca10,con10⟩,⟨ca11,con11⟩,⟨ca12,con12⟩,trivial⟩
noncomputable def b3:Code:=bodyOf Tryz.f3
theorem hb3:Tryz.f3.body=some b3:=by kernel_rfl
def sig3:List AT:=[AT.v YA0]
def tys3:List Ty:=[Ty.bool]
def kds3:List RK:=[]
def oks3:List AT:=owns sig3
def P3 (x0:TyA0):Prop:=((P4 x0 1048576)∧(if (decide (g4_0 x0 1048576<0))=true then True else ((P6 x0)∧((P5 (((g6_0 x0).1.1,(g6_0 x0).1.2.1,(g6_0 x0).1.2.2.1,()),(g6_0 x0).2.1,((g6_0 x0).2.2.1.1,(g6_0 x0).2.2.1.2.1,()),((g6_0 x0).2.2.2.1.1,(g6_0 x0).2.2.2.1.2.1,(g6_0 x0).2.2.2.1.2.2.1,(g6_0 x0).2.2.2.1.2.2.2.1,()),(g6_0 x0).2.2.2.2.1,((g6_0 x0).2.2.2.2.2.1.1,(g6_0 x0).2.2.2.2.2.1.2.1,(g6_0 x0).2.2.2.2.2.1.2.2.1,()),(g6_0 x0).2.2.2.2.2.2.1,(g6_0 x0).2.2.2.2.2.2.2.1,(g6_0 x0).2.2.2.2.2.2.2.2.1,(g6_0 x0).2.2.2.2.2.2.2.2.2.1,(g6_0 x0).2.2.2.2.2.2.2.2.2.2.1,(g6_0 x0).2.2.2.2.2.2.2.2.2.2.2.1,()))∧((P6 x0)∧((P7 (((g6_0 x0).1.1,(g6_0 x0).1.2.1,(g6_0 x0).1.2.2.1,()),(g6_0 x0).2.1,((g6_0 x0).2.2.1.1,(g6_0 x0).2.2.1.2.1,()),((g6_0 x0).2.2.2.1.1,(g6_0 x0).2.2.2.1.2.1,(g6_0 x0).2.2.2.1.2.2.1,(g6_0 x0).2.2.2.1.2.2.2.1,()),(g6_0 x0).2.2.2.2.1,((g6_0 x0).2.2.2.2.2.1.1,(g6_0 x0).2.2.2.2.2.1.2.1,(g6_0 x0).2.2.2.2.2.1.2.2.1,()),(g6_0 x0).2.2.2.2.2.2.1,(g6_0 x0).2.2.2.2.2.2.2.1,(g6_0 x0).2.2.2.2.2.2.2.2.1,(g6_0 x0).2.2.2.2.2.2.2.2.2.1,(g6_0 x0).2.2.2.2.2.2.2.2.2.2.1,(g6_0 x0).2.2.2.2.2.2.2.2.2.2.2.1,()))∧(if (!g8_0 (g7_0 (((g6_0 x0).1.1,(g6_0 x0).1.2.1,(g6_0 x0).1.2.2.1,()),(g6_0 x0).2.1,((g6_0 x0).2.2.1.1,(g6_0 x0).2.2.1.2.1,()),((g6_0 x0).2.2.2.1.1,(g6_0 x0).2.2.2.1.2.1,(g6_0 x0).2.2.2.1.2.2.1,(g6_0 x0).2.2.2.1.2.2.2.1,()),(g6_0 x0).2.2.2.2.1,((g6_0 x0).2.2.2.2.2.1.1,(g6_0 x0).2.2.2.2.2.1.2.1,(g6_0 x0).2.2.2.2.2.1.2.2.1,()),(g6_0 x0).2.2.2.2.2.2.1,(g6_0 x0).2.2.2.2.2.2.2.1,(g6_0 x0).2.2.2.2.2.2.2.2.1,(g6_0 x0).2.2.2.2.2.2.2.2.2.1,(g6_0 x0).2.2.2.2.2.2.2.2.2.2.1,(g6_0 x0).2.2.2.2.2.2.2.2.2.2.2.1,())) (g5_0 (((g6_0 x0).1.1,(g6_0 x0).1.2.1,(g6_0 x0).1.2.2.1,()),(g6_0 x0).2.1,((g6_0 x0).2.2.1.1,(g6_0 x0).2.2.1.2.1,()),((g6_0 x0).2.2.2.1.1,(g6_0 x0).2.2.2.1.2.1,(g6_0 x0).2.2.2.1.2.2.1,(g6_0 x0).2.2.2.1.2.2.2.1,()),(g6_0 x0).2.2.2.2.1,((g6_0 x0).2.2.2.2.2.1.1,(g6_0 x0).2.2.2.2.2.1.2.1,(g6_0 x0).2.2.2.2.2.1.2.2.1,()),(g6_0 x0).2.2.2.2.2.2.1,(g6_0 x0).2.2.2.2.2.2.2.1,(g6_0 x0).2.2.2.2.2.2.2.2.1,(g6_0 x0).2.2.2.2.2.2.2.2.2.1,(g6_0 x0).2.2.2.2.2.2.2.2.2.2.1,(g6_0 x0).2.2.2.2.2.2.2.2.2.2.2.1,())))=true then True else (if (g7_1 (((g6_0 x0).1.1,(g6_0 x0).1.2.1,(g6_0 x0).1.2.2.1,()),(g6_0 x0).2.1,((g6_0 x0).2.2.1.1,(g6_0 x0).2.2.1.2.1,()),((g6_0 x0).2.2.2.1.1,(g6_0 x0).2.2.2.1.2.1,(g6_0 x0).2.2.2.1.2.2.1,(g6_0 x0).2.2.2.1.2.2.2.1,()),(g6_0 x0).2.2.2.2.1,((g6_0 x0).2.2.2.2.2.1.1,(g6_0 x0).2.2.2.2.2.1.2.1,(g6_0 x0).2.2.2.2.2.1.2.2.1,()),(g6_0 x0).2.2.2.2.2.2.1,(g6_0 x0).2.2.2.2.2.2.2.1,(g6_0 x0).2.2.2.2.2.2.2.2.1,(g6_0 x0).2.2.2.2.2.2.2.2.2.1,(g6_0 x0).2.2.2.2.2.2.2.2.2.2.1,(g6_0 x0).2.2.2.2.2.2.2.2.2.2.2.1,()) != g5_1 (((g6_0 x0).1.1,(g6_0 x0).1.2.1,(g6_0 x0).1.2.2.1,()),(g6_0 x0).2.1,((g6_0 x0).2.2.1.1,(g6_0 x0).2.2.1.2.1,()),((g6_0 x0).2.2.2.1.1,(g6_0 x0).2.2.2.1.2.1,(g6_0 x0).2.2.2.1.2.2.1,(g6_0 x0).2.2.2.1.2.2.2.1,()),(g6_0 x0).2.2.2.2.1,((g6_0 x0).2.2.2.2.2.1.1,(g6_0 x0).2.2.2.2.2.1.2.1,(g6_0 x0).2.2.2.2.2.1.2.2.1,()),(g6_0 x0).2.2.2.2.2.2.1,(g6_0 x0).2.2.2.2.2.2.2.1,(g6_0 x0).2.2.2.2.2.2.2.2.1,(g6_0 x0).2.2.2.2.2.2.2.2.2.1,(g6_0 x0).2.2.2.2.2.2.2.2.2.2.1,(g6_0 x0).2.2.2.2.2.2.2.2.2.2.2.1,()))=true then True else ((P6 x0)∧(if (!g9_0 (((g6_0 x0).1.1,(g6_0 x0).1.2.1,(g6_0 x0).1.2.2.1,()),(g6_0 x0).2.1,((g6_0 x0).2.2.1.1,(g6_0 x0).2.2.1.2.1,()),((g6_0 x0).2.2.2.1.1,(g6_0 x0).2.2.2.1.2.1,(g6_0 x0).2.2.2.1.2.2.1,(g6_0 x0).2.2.2.1.2.2.2.1,()),(g6_0 x0).2.2.2.2.1,((g6_0 x0).2.2.2.2.2.1.1,(g6_0 x0).2.2.2.2.2.1.2.1,(g6_0 x0).2.2.2.2.2.1.2.2.1,()),(g6_0 x0).2.2.2.2.2.2.1,(g6_0 x0).2.2.2.2.2.2.2.1,(g6_0 x0).2.2.2.2.2.2.2.2.1,(g6_0 x0).2.2.2.2.2.2.2.2.2.1,(g6_0 x0).2.2.2.2.2.2.2.2.2.2.1,(g6_0 x0).2.2.2.2.2.2.2.2.2.2.2.1,()) (((g6_0 x0).1.1,(g6_0 x0).1.2.1,(g6_0 x0).1.2.2.1,()),(g6_0 x0).2.1,((g6_0 x0).2.2.1.1,(g6_0 x0).2.2.1.2.1,()),((g6_0 x0).2.2.2.1.1,(g6_0 x0).2.2.2.1.2.1,(g6_0 x0).2.2.2.1.2.2.1,(g6_0 x0).2.2.2.1.2.2.2.1,()),(g6_0 x0).2.2.2.2.1,((g6_0 x0).2.2.2.2.2.1.1,(g6_0 x0).2.2.2.2.2.1.2.1,(g6_0 x0).2.2.2.2.2.1.2.2.1,()),(g6_0 x0).2.2.2.2.2.2.1,(g6_0 x0).2.2.2.2.2.2.2.1,(g6_0 x0).2.2.2.2.2.2.2.2.1,(g6_0 x0).2.2.2.2.2.2.2.2.2.1,(g6_0 x0).2.2.2.2.2.2.2.2.2.2.1,(g6_0 x0).2.2.2.2.2.2.2.2.2.2.2.1,()))=true then True else ((P10 (((g6_0 x0).1.1,(g6_0 x0).1.2.1,(g6_0 x0).1.2.2.1,()),(g6_0 x0).2.1,((g6_0 x0).2.2.1.1,(g6_0 x0).2.2.1.2.1,()),((g6_0 x0).2.2.2.1.1,(g6_0 x0).2.2.2.1.2.1,(g6_0 x0).2.2.2.1.2.2.1,(g6_0 x0).2.2.2.1.2.2.2.1,()),(g6_0 x0).2.2.2.2.1,((g6_0 x0).2.2.2.2.2.1.1,(g6_0 x0).2.2.2.2.2.1.2.1,(g6_0 x0).2.2.2.2.2.1.2.2.1,()),(g6_0 x0).2.2.2.2.2.2.1,(g6_0 x0).2.2.2.2.2.2.2.1,(g6_0 x0).2.2.2.2.2.2.2.2.1,(g6_0 x0).2.2.2.2.2.2.2.2.2.1,(g6_0 x0).2.2.2.2.2.2.2.2.2.2.1,(g6_0 x0).2.2.2.2.2.2.2.2.2.2.2.1,()) 1)∧(List.length (u10_0 (((g6_0 x0).1.1,(g6_0 x0).1.2.1,(g6_0 x0).1.2.2.1,()),(g6_0 x0).2.1,((g6_0 x0).2.2.1.1,(g6_0 x0).2.2.1.2.1,()),((g6_0 x0).2.2.2.1.1,(g6_0 x0).2.2.2.1.2.1,(g6_0 x0).2.2.2.1.2.2.1,(g6_0 x0).2.2.2.1.2.2.2.1,()),(g6_0 x0).2.2.2.2.1,((g6_0 x0).2.2.2.2.2.1.1,(g6_0 x0).2.2.2.2.2.1.2.1,(g6_0 x0).2.2.2.2.2.1.2.2.1,()),(g6_0 x0).2.2.2.2.2.2.1,(g6_0 x0).2.2.2.2.2.2.2.1,(g6_0 x0).2.2.2.2.2.2.2.2.1,(g6_0 x0).2.2.2.2.2.2.2.2.2.1,(g6_0 x0).2.2.2.2.2.2.2.2.2.2.1,(g6_0 x0).2.2.2.2.2.2.2.2.2.2.2.1,()) 1).1.1=List.length (g6_0 x0).1.1)∧(List.length (u10_0 (((g6_0 x0).1.1,(g6_0 x0).1.2.1,(g6_0 x0).1.2.2.1,()),(g6_0 x0).2.1,((g6_0 x0).2.2.1.1,(g6_0 x0).2.2.1.2.1,()),((g6_0 x0).2.2.2.1.1,(g6_0 x0).2.2.2.1.2.1,(g6_0 x0).2.2.2.1.2.2.1,(g6_0 x0).2.2.2.1.2.2.2.1,()),(g6_0 x0).2.2.2.2.1,((g6_0 x0).2.2.2.2.2.1.1,(g6_0 x0).2.2.2.2.2.1.2.1,(g6_0 x0).2.2.2.2.2.1.2.2.1,()),(g6_0 x0).2.2.2.2.2.2.1,(g6_0 x0).2.2.2.2.2.2.2.1,(g6_0 x0).2.2.2.2.2.2.2.2.1,(g6_0 x0).2.2.2.2.2.2.2.2.2.1,(g6_0 x0).2.2.2.2.2.2.2.2.2.2.1,(g6_0 x0).2.2.2.2.2.2.2.2.2.2.2.1,()) 1).2.2.2.2.1=List.length (g6_0 x0).2.2.2.2.1)∧(List.length (u10_0 (((g6_0 x0).1.1,(g6_0 x0).1.2.1,(g6_0 x0).1.2.2.1,()),(g6_0 x0).2.1,((g6_0 x0).2.2.1.1,(g6_0 x0).2.2.1.2.1,()),((g6_0 x0).2.2.2.1.1,(g6_0 x0).2.2.2.1.2.1,(g6_0 x0).2.2.2.1.2.2.1,(g6_0 x0).2.2.2.1.2.2.2.1,()),(g6_0 x0).2.2.2.2.1,((g6_0 x0).2.2.2.2.2.1.1,(g6_0 x0).2.2.2.2.2.1.2.1,(g6_0 x0).2.2.2.2.2.1.2.2.1,()),(g6_0 x0).2.2.2.2.2.2.1,(g6_0 x0).2.2.2.2.2.2.2.1,(g6_0 x0).2.2.2.2.2.2.2.2.1,(g6_0 x0).2.2.2.2.2.2.2.2.2.1,(g6_0 x0).2.2.2.2.2.2.2.2.2.2.1,(g6_0 x0).2.2.2.2.2.2.2.2.2.2.2.1,()) 1).2.2.2.2.2.2.1=List.length (g6_0 x0).2.2.2.2.2.2.1)∧(List.length (u10_0 (((g6_0 x0).1.1,(g6_0 x0).1.2.1,(g6_0 x0).1.2.2.1,()),(g6_0 x0).2.1,((g6_0 x0).2.2.1.1,(g6_0 x0).2.2.1.2.1,()),((g6_0 x0).2.2.2.1.1,(g6_0 x0).2.2.2.1.2.1,(g6_0 x0).2.2.2.1.2.2.1,(g6_0 x0).2.2.2.1.2.2.2.1,()),(g6_0 x0).2.2.2.2.1,((g6_0 x0).2.2.2.2.2.1.1,(g6_0 x0).2.2.2.2.2.1.2.1,(g6_0 x0).2.2.2.2.2.1.2.2.1,()),(g6_0 x0).2.2.2.2.2.2.1,(g6_0 x0).2.2.2.2.2.2.2.1,(g6_0 x0).2.2.2.2.2.2.2.2.1,(g6_0 x0).2.2.2.2.2.2.2.2.2.1,(g6_0 x0).2.2.2.2.2.2.2.2.2.2.1,(g6_0 x0).2.2.2.2.2.2.2.2.2.2.2.1,()) 1).2.2.2.2.2.2.2.2.2.1=List.length (g6_0 x0).2.2.2.2.2.2.2.2.2.1)∧(List.length (u10_0 (((g6_0 x0).1.1,(g6_0 x0).1.2.1,(g6_0 x0).1.2.2.1,()),(g6_0 x0).2.1,((g6_0 x0).2.2.1.1,(g6_0 x0).2.2.1.2.1,()),((g6_0 x0).2.2.2.1.1,(g6_0 x0).2.2.2.1.2.1,(g6_0 x0).2.2.2.1.2.2.1,(g6_0 x0).2.2.2.1.2.2.2.1,()),(g6_0 x0).2.2.2.2.1,((g6_0 x0).2.2.2.2.2.1.1,(g6_0 x0).2.2.2.2.2.1.2.1,(g6_0 x0).2.2.2.2.2.1.2.2.1,()),(g6_0 x0).2.2.2.2.2.2.1,(g6_0 x0).2.2.2.2.2.2.2.1,(g6_0 x0).2.2.2.2.2.2.2.2.1,(g6_0 x0).2.2.2.2.2.2.2.2.2.1,(g6_0 x0).2.2.2.2.2.2.2.2.2.2.1,(g6_0 x0).2.2.2.2.2.2.2.2.2.2.2.1,()) 1).2.2.2.2.2.2.2.2.2.2.2.1=List.length (g6_0 x0).2.2.2.2.2.2.2.2.2.2.2.1)∧(if (decide (g10_0 (((g6_0 x0).1.1,(g6_0 x0).1.2.1,(g6_0 x0).1.2.2.1,()),(g6_0 x0).2.1,((g6_0 x0).2.2.1.1,(g6_0 x0).2.2.1.2.1,()),((g6_0 x0).2.2.2.1.1,(g6_0 x0).2.2.2.1.2.1,(g6_0 x0).2.2.2.1.2.2.1,(g6_0 x0).2.2.2.1.2.2.2.1,()),(g6_0 x0).2.2.2.2.1,((g6_0 x0).2.2.2.2.2.1.1,(g6_0 x0).2.2.2.2.2.1.2.1,(g6_0 x0).2.2.2.2.2.1.2.2.1,()),(g6_0 x0).2.2.2.2.2.2.1,(g6_0 x0).2.2.2.2.2.2.2.1,(g6_0 x0).2.2.2.2.2.2.2.2.1,(g6_0 x0).2.2.2.2.2.2.2.2.2.1,(g6_0 x0).2.2.2.2.2.2.2.2.2.2.1,(g6_0 x0).2.2.2.2.2.2.2.2.2.2.2.1,()) 1<0))=true then True else ((P11 (g7_0 (((g6_0 x0).1.1,(g6_0 x0).1.2.1,(g6_0 x0).1.2.2.1,()),(g6_0 x0).2.1,((g6_0 x0).2.2.1.1,(g6_0 x0).2.2.1.2.1,()),((g6_0 x0).2.2.2.1.1,(g6_0 x0).2.2.2.1.2.1,(g6_0 x0).2.2.2.1.2.2.1,(g6_0 x0).2.2.2.1.2.2.2.1,()),(g6_0 x0).2.2.2.2.1,((g6_0 x0).2.2.2.2.2.1.1,(g6_0 x0).2.2.2.2.2.1.2.1,(g6_0 x0).2.2.2.2.2.1.2.2.1,()),(g6_0 x0).2.2.2.2.2.2.1,(g6_0 x0).2.2.2.2.2.2.2.1,(g6_0 x0).2.2.2.2.2.2.2.2.1,(g6_0 x0).2.2.2.2.2.2.2.2.2.1,(g6_0 x0).2.2.2.2.2.2.2.2.2.2.1,(g6_0 x0).2.2.2.2.2.2.2.2.2.2.2.1,())) 1)∧(List.length (u11_0 (g7_0 (((g6_0 x0).1.1,(g6_0 x0).1.2.1,(g6_0 x0).1.2.2.1,()),(g6_0 x0).2.1,((g6_0 x0).2.2.1.1,(g6_0 x0).2.2.1.2.1,()),((g6_0 x0).2.2.2.1.1,(g6_0 x0).2.2.2.1.2.1,(g6_0 x0).2.2.2.1.2.2.1,(g6_0 x0).2.2.2.1.2.2.2.1,()),(g6_0 x0).2.2.2.2.1,((g6_0 x0).2.2.2.2.2.1.1,(g6_0 x0).2.2.2.2.2.1.2.1,(g6_0 x0).2.2.2.2.2.1.2.2.1,()),(g6_0 x0).2.2.2.2.2.2.1,(g6_0 x0).2.2.2.2.2.2.2.1,(g6_0 x0).2.2.2.2.2.2.2.2.1,(g6_0 x0).2.2.2.2.2.2.2.2.2.1,(g6_0 x0).2.2.2.2.2.2.2.2.2.2.1,(g6_0 x0).2.2.2.2.2.2.2.2.2.2.2.1,())) 1)=List.length (g7_0 (((g6_0 x0).1.1,(g6_0 x0).1.2.1,(g6_0 x0).1.2.2.1,()),(g6_0 x0).2.1,((g6_0 x0).2.2.1.1,(g6_0 x0).2.2.1.2.1,()),((g6_0 x0).2.2.2.1.1,(g6_0 x0).2.2.2.1.2.1,(g6_0 x0).2.2.2.1.2.2.1,(g6_0 x0).2.2.2.1.2.2.2.1,()),(g6_0 x0).2.2.2.2.1,((g6_0 x0).2.2.2.2.2.1.1,(g6_0 x0).2.2.2.2.2.1.2.1,(g6_0 x0).2.2.2.2.2.1.2.2.1,()),(g6_0 x0).2.2.2.2.2.2.1,(g6_0 x0).2.2.2.2.2.2.2.1,(g6_0 x0).2.2.2.2.2.2.2.2.1,(g6_0 x0).2.2.2.2.2.2.2.2.2.1,(g6_0 x0).2.2.2.2.2.2.2.2.2.2.1,(g6_0 x0).2.2.2.2.2.2.2.2.2.2.2.1,())))∧((P12 (u11_0 (g7_0 (((g6_0 x0).1.1,(g6_0 x0).1.2.1,(g6_0 x0).1.2.2.1,()),(g6_0 x0).2.1,((g6_0 x0).2.2.1.1,(g6_0 x0).2.2.1.2.1,()),((g6_0 x0).2.2.2.1.1,(g6_0 x0).2.2.2.1.2.1,(g6_0 x0).2.2.2.1.2.2.1,(g6_0 x0).2.2.2.1.2.2.2.1,()),(g6_0 x0).2.2.2.2.1,((g6_0 x0).2.2.2.2.2.1.1,(g6_0 x0).2.2.2.2.2.1.2.1,(g6_0 x0).2.2.2.2.2.1.2.2.1,()),(g6_0 x0).2.2.2.2.2.2.1,(g6_0 x0).2.2.2.2.2.2.2.1,(g6_0 x0).2.2.2.2.2.2.2.2.1,(g6_0 x0).2.2.2.2.2.2.2.2.2.1,(g6_0 x0).2.2.2.2.2.2.2.2.2.2.1,(g6_0 x0).2.2.2.2.2.2.2.2.2.2.2.1,())) 1) 1)∧(if (decide (g12_0 (u11_0 (g7_0 (((g6_0 x0).1.1,(g6_0 x0).1.2.1,(g6_0 x0).1.2.2.1,()),(g6_0 x0).2.1,((g6_0 x0).2.2.1.1,(g6_0 x0).2.2.1.2.1,()),((g6_0 x0).2.2.2.1.1,(g6_0 x0).2.2.2.1.2.1,(g6_0 x0).2.2.2.1.2.2.1,(g6_0 x0).2.2.2.1.2.2.2.1,()),(g6_0 x0).2.2.2.2.1,((g6_0 x0).2.2.2.2.2.1.1,(g6_0 x0).2.2.2.2.2.1.2.1,(g6_0 x0).2.2.2.2.2.1.2.2.1,()),(g6_0 x0).2.2.2.2.2.2.1,(g6_0 x0).2.2.2.2.2.2.2.1,(g6_0 x0).2.2.2.2.2.2.2.2.1,(g6_0 x0).2.2.2.2.2.2.2.2.2.1,(g6_0 x0).2.2.2.2.2.2.2.2.2.2.1,(g6_0 x0).2.2.2.2.2.2.2.2.2.2.2.1,())) 1) 1<0))=true then True else (if (g12_0 (u11_0 (g7_0 (((g6_0 x0).1.1,(g6_0 x0).1.2.1,(g6_0 x0).1.2.2.1,()),(g6_0 x0).2.1,((g6_0 x0).2.2.1.1,(g6_0 x0).2.2.1.2.1,()),((g6_0 x0).2.2.2.1.1,(g6_0 x0).2.2.2.1.2.1,(g6_0 x0).2.2.2.1.2.2.1,(g6_0 x0).2.2.2.1.2.2.2.1,()),(g6_0 x0).2.2.2.2.1,((g6_0 x0).2.2.2.2.2.1.1,(g6_0 x0).2.2.2.2.2.1.2.1,(g6_0 x0).2.2.2.2.2.1.2.2.1,()),(g6_0 x0).2.2.2.2.2.2.1,(g6_0 x0).2.2.2.2.2.2.2.1,(g6_0 x0).2.2.2.2.2.2.2.2.1,(g6_0 x0).2.2.2.2.2.2.2.2.2.1,(g6_0 x0).2.2.2.2.2.2.2.2.2.2.1,(g6_0 x0).2.2.2.2.2.2.2.2.2.2.2.1,())) 1) 1 != g11_0 (g7_0 (((g6_0 x0).1.1,(g6_0 x0).1.2.1,(g6_0 x0).1.2.2.1,()),(g6_0 x0).2.1,((g6_0 x0).2.2.1.1,(g6_0 x0).2.2.1.2.1,()),((g6_0 x0).2.2.2.1.1,(g6_0 x0).2.2.2.1.2.1,(g6_0 x0).2.2.2.1.2.2.1,(g6_0 x0).2.2.2.1.2.2.2.1,()),(g6_0 x0).2.2.2.2.1,((g6_0 x0).2.2.2.2.2.1.1,(g6_0 x0).2.2.2.2.2.1.2.1,(g6_0 x0).2.2.2.2.2.1.2.2.1,()),(g6_0 x0).2.2.2.2.2.2.1,(g6_0 x0).2.2.2.2.2.2.2.1,(g6_0 x0).2.2.2.2.2.2.2.2.1,(g6_0 x0).2.2.2.2.2.2.2.2.2.1,(g6_0 x0).2.2.2.2.2.2.2.2.2.2.1,(g6_0 x0).2.2.2.2.2.2.2.2.2.2.2.1,())) 1)=true then True else ((P6 x0)∧((P7 (((g6_0 x0).1.1,(g6_0 x0).1.2.1,(g6_0 x0).1.2.2.1,()),(g6_0 x0).2.1,((g6_0 x0).2.2.1.1,(g6_0 x0).2.2.1.2.1,()),((g6_0 x0).2.2.2.1.1,(g6_0 x0).2.2.2.1.2.1,(g6_0 x0).2.2.2.1.2.2.1,(g6_0 x0).2.2.2.1.2.2.2.1,()),(g6_0 x0).2.2.2.2.1,((g6_0 x0).2.2.2.2.2.1.1,(g6_0 x0).2.2.2.2.2.1.2.1,(g6_0 x0).2.2.2.2.2.1.2.2.1,()),(g6_0 x0).2.2.2.2.2.2.1,(g6_0 x0).2.2.2.2.2.2.2.1,(g6_0 x0).2.2.2.2.2.2.2.2.1,(g6_0 x0).2.2.2.2.2.2.2.2.2.1,(g6_0 x0).2.2.2.2.2.2.2.2.2.2.1,(g6_0 x0).2.2.2.2.2.2.2.2.2.2.2.1,()))∧((P12 (u11_0 (g7_0 (((g6_0 x0).1.1,(g6_0 x0).1.2.1,(g6_0 x0).1.2.2.1,()),(g6_0 x0).2.1,((g6_0 x0).2.2.1.1,(g6_0 x0).2.2.1.2.1,()),((g6_0 x0).2.2.2.1.1,(g6_0 x0).2.2.2.1.2.1,(g6_0 x0).2.2.2.1.2.2.1,(g6_0 x0).2.2.2.1.2.2.2.1,()),(g6_0 x0).2.2.2.2.1,((g6_0 x0).2.2.2.2.2.1.1,(g6_0 x0).2.2.2.2.2.1.2.1,(g6_0 x0).2.2.2.2.2.1.2.2.1,()),(g6_0 x0).2.2.2.2.2.2.1,(g6_0 x0).2.2.2.2.2.2.2.1,(g6_0 x0).2.2.2.2.2.2.2.2.1,(g6_0 x0).2.2.2.2.2.2.2.2.2.1,(g6_0 x0).2.2.2.2.2.2.2.2.2.2.1,(g6_0 x0).2.2.2.2.2.2.2.2.2.2.2.1,())) 1) 1)∧True)))))))))))))))))))
def g3_0 (x0:TyA0):Bool:=(if (decide (g4_0 x0 1048576<0))=true then true else (if (!g8_0 (g7_0 (((g6_0 x0).1.1,(g6_0 x0).1.2.1,(g6_0 x0).1.2.2.1,()),(g6_0 x0).2.1,((g6_0 x0).2.2.1.1,(g6_0 x0).2.2.1.2.1,()),((g6_0 x0).2.2.2.1.1,(g6_0 x0).2.2.2.1.2.1,(g6_0 x0).2.2.2.1.2.2.1,(g6_0 x0).2.2.2.1.2.2.2.1,()),(g6_0 x0).2.2.2.2.1,((g6_0 x0).2.2.2.2.2.1.1,(g6_0 x0).2.2.2.2.2.1.2.1,(g6_0 x0).2.2.2.2.2.1.2.2.1,()),(g6_0 x0).2.2.2.2.2.2.1,(g6_0 x0).2.2.2.2.2.2.2.1,(g6_0 x0).2.2.2.2.2.2.2.2.1,(g6_0 x0).2.2.2.2.2.2.2.2.2.1,(g6_0 x0).2.2.2.2.2.2.2.2.2.2.1,(g6_0 x0).2.2.2.2.2.2.2.2.2.2.2.1,())) (g5_0 (((g6_0 x0).1.1,(g6_0 x0).1.2.1,(g6_0 x0).1.2.2.1,()),(g6_0 x0).2.1,((g6_0 x0).2.2.1.1,(g6_0 x0).2.2.1.2.1,()),((g6_0 x0).2.2.2.1.1,(g6_0 x0).2.2.2.1.2.1,(g6_0 x0).2.2.2.1.2.2.1,(g6_0 x0).2.2.2.1.2.2.2.1,()),(g6_0 x0).2.2.2.2.1,((g6_0 x0).2.2.2.2.2.1.1,(g6_0 x0).2.2.2.2.2.1.2.1,(g6_0 x0).2.2.2.2.2.1.2.2.1,()),(g6_0 x0).2.2.2.2.2.2.1,(g6_0 x0).2.2.2.2.2.2.2.1,(g6_0 x0).2.2.2.2.2.2.2.2.1,(g6_0 x0).2.2.2.2.2.2.2.2.2.1,(g6_0 x0).2.2.2.2.2.2.2.2.2.2.1,(g6_0 x0).2.2.2.2.2.2.2.2.2.2.2.1,())))=true then false else (if (g7_1 (((g6_0 x0).1.1,(g6_0 x0).1.2.1,(g6_0 x0).1.2.2.1,()),(g6_0 x0).2.1,((g6_0 x0).2.2.1.1,(g6_0 x0).2.2.1.2.1,()),((g6_0 x0).2.2.2.1.1,(g6_0 x0).2.2.2.1.2.1,(g6_0 x0).2.2.2.1.2.2.1,(g6_0 x0).2.2.2.1.2.2.2.1,()),(g6_0 x0).2.2.2.2.1,((g6_0 x0).2.2.2.2.2.1.1,(g6_0 x0).2.2.2.2.2.1.2.1,(g6_0 x0).2.2.2.2.2.1.2.2.1,()),(g6_0 x0).2.2.2.2.2.2.1,(g6_0 x0).2.2.2.2.2.2.2.1,(g6_0 x0).2.2.2.2.2.2.2.2.1,(g6_0 x0).2.2.2.2.2.2.2.2.2.1,(g6_0 x0).2.2.2.2.2.2.2.2.2.2.1,(g6_0 x0).2.2.2.2.2.2.2.2.2.2.2.1,()) != g5_1 (((g6_0 x0).1.1,(g6_0 x0).1.2.1,(g6_0 x0).1.2.2.1,()),(g6_0 x0).2.1,((g6_0 x0).2.2.1.1,(g6_0 x0).2.2.1.2.1,()),((g6_0 x0).2.2.2.1.1,(g6_0 x0).2.2.2.1.2.1,(g6_0 x0).2.2.2.1.2.2.1,(g6_0 x0).2.2.2.1.2.2.2.1,()),(g6_0 x0).2.2.2.2.1,((g6_0 x0).2.2.2.2.2.1.1,(g6_0 x0).2.2.2.2.2.1.2.1,(g6_0 x0).2.2.2.2.2.1.2.2.1,()),(g6_0 x0).2.2.2.2.2.2.1,(g6_0 x0).2.2.2.2.2.2.2.1,(g6_0 x0).2.2.2.2.2.2.2.2.1,(g6_0 x0).2.2.2.2.2.2.2.2.2.1,(g6_0 x0).2.2.2.2.2.2.2.2.2.2.1,(g6_0 x0).2.2.2.2.2.2.2.2.2.2.2.1,()))=true then false else (if (!g9_0 (((g6_0 x0).1.1,(g6_0 x0).1.2.1,(g6_0 x0).1.2.2.1,()),(g6_0 x0).2.1,((g6_0 x0).2.2.1.1,(g6_0 x0).2.2.1.2.1,()),((g6_0 x0).2.2.2.1.1,(g6_0 x0).2.2.2.1.2.1,(g6_0 x0).2.2.2.1.2.2.1,(g6_0 x0).2.2.2.1.2.2.2.1,()),(g6_0 x0).2.2.2.2.1,((g6_0 x0).2.2.2.2.2.1.1,(g6_0 x0).2.2.2.2.2.1.2.1,(g6_0 x0).2.2.2.2.2.1.2.2.1,()),(g6_0 x0).2.2.2.2.2.2.1,(g6_0 x0).2.2.2.2.2.2.2.1,(g6_0 x0).2.2.2.2.2.2.2.2.1,(g6_0 x0).2.2.2.2.2.2.2.2.2.1,(g6_0 x0).2.2.2.2.2.2.2.2.2.2.1,(g6_0 x0).2.2.2.2.2.2.2.2.2.2.2.1,()) (((g6_0 x0).1.1,(g6_0 x0).1.2.1,(g6_0 x0).1.2.2.1,()),(g6_0 x0).2.1,((g6_0 x0).2.2.1.1,(g6_0 x0).2.2.1.2.1,()),((g6_0 x0).2.2.2.1.1,(g6_0 x0).2.2.2.1.2.1,(g6_0 x0).2.2.2.1.2.2.1,(g6_0 x0).2.2.2.1.2.2.2.1,()),(g6_0 x0).2.2.2.2.1,((g6_0 x0).2.2.2.2.2.1.1,(g6_0 x0).2.2.2.2.2.1.2.1,(g6_0 x0).2.2.2.2.2.1.2.2.1,()),(g6_0 x0).2.2.2.2.2.2.1,(g6_0 x0).2.2.2.2.2.2.2.1,(g6_0 x0).2.2.2.2.2.2.2.2.1,(g6_0 x0).2.2.2.2.2.2.2.2.2.1,(g6_0 x0).2.2.2.2.2.2.2.2.2.2.1,(g6_0 x0).2.2.2.2.2.2.2.2.2.2.2.1,()))=true then false else (if (decide (g10_0 (((g6_0 x0).1.1,(g6_0 x0).1.2.1,(g6_0 x0).1.2.2.1,()),(g6_0 x0).2.1,((g6_0 x0).2.2.1.1,(g6_0 x0).2.2.1.2.1,()),((g6_0 x0).2.2.2.1.1,(g6_0 x0).2.2.2.1.2.1,(g6_0 x0).2.2.2.1.2.2.1,(g6_0 x0).2.2.2.1.2.2.2.1,()),(g6_0 x0).2.2.2.2.1,((g6_0 x0).2.2.2.2.2.1.1,(g6_0 x0).2.2.2.2.2.1.2.1,(g6_0 x0).2.2.2.2.2.1.2.2.1,()),(g6_0 x0).2.2.2.2.2.2.1,(g6_0 x0).2.2.2.2.2.2.2.1,(g6_0 x0).2.2.2.2.2.2.2.2.1,(g6_0 x0).2.2.2.2.2.2.2.2.2.1,(g6_0 x0).2.2.2.2.2.2.2.2.2.2.1,(g6_0 x0).2.2.2.2.2.2.2.2.2.2.2.1,()) 1<0))=true then false else (if (decide (g12_0 (u11_0 (g7_0 (((g6_0 x0).1.1,(g6_0 x0).1.2.1,(g6_0 x0).1.2.2.1,()),(g6_0 x0).2.1,((g6_0 x0).2.2.1.1,(g6_0 x0).2.2.1.2.1,()),((g6_0 x0).2.2.2.1.1,(g6_0 x0).2.2.2.1.2.1,(g6_0 x0).2.2.2.1.2.2.1,(g6_0 x0).2.2.2.1.2.2.2.1,()),(g6_0 x0).2.2.2.2.1,((g6_0 x0).2.2.2.2.2.1.1,(g6_0 x0).2.2.2.2.2.1.2.1,(g6_0 x0).2.2.2.2.2.1.2.2.1,()),(g6_0 x0).2.2.2.2.2.2.1,(g6_0 x0).2.2.2.2.2.2.2.1,(g6_0 x0).2.2.2.2.2.2.2.2.1,(g6_0 x0).2.2.2.2.2.2.2.2.2.1,(g6_0 x0).2.2.2.2.2.2.2.2.2.2.1,(g6_0 x0).2.2.2.2.2.2.2.2.2.2.2.1,())) 1) 1<0))=true then false else (if (g12_0 (u11_0 (g7_0 (((g6_0 x0).1.1,(g6_0 x0).1.2.1,(g6_0 x0).1.2.2.1,()),(g6_0 x0).2.1,((g6_0 x0).2.2.1.1,(g6_0 x0).2.2.1.2.1,()),((g6_0 x0).2.2.2.1.1,(g6_0 x0).2.2.2.1.2.1,(g6_0 x0).2.2.2.1.2.2.1,(g6_0 x0).2.2.2.1.2.2.2.1,()),(g6_0 x0).2.2.2.2.1,((g6_0 x0).2.2.2.2.2.1.1,(g6_0 x0).2.2.2.2.2.1.2.1,(g6_0 x0).2.2.2.2.2.1.2.2.1,()),(g6_0 x0).2.2.2.2.2.2.1,(g6_0 x0).2.2.2.2.2.2.2.1,(g6_0 x0).2.2.2.2.2.2.2.2.1,(g6_0 x0).2.2.2.2.2.2.2.2.2.1,(g6_0 x0).2.2.2.2.2.2.2.2.2.2.1,(g6_0 x0).2.2.2.2.2.2.2.2.2.2.2.1,())) 1) 1 != g11_0 (g7_0 (((g6_0 x0).1.1,(g6_0 x0).1.2.1,(g6_0 x0).1.2.2.1,()),(g6_0 x0).2.1,((g6_0 x0).2.2.1.1,(g6_0 x0).2.2.1.2.1,()),((g6_0 x0).2.2.2.1.1,(g6_0 x0).2.2.2.1.2.1,(g6_0 x0).2.2.2.1.2.2.1,(g6_0 x0).2.2.2.1.2.2.2.1,()),(g6_0 x0).2.2.2.2.1,((g6_0 x0).2.2.2.2.2.1.1,(g6_0 x0).2.2.2.2.2.1.2.1,(g6_0 x0).2.2.2.2.2.1.2.2.1,()),(g6_0 x0).2.2.2.2.2.2.1,(g6_0 x0).2.2.2.2.2.2.2.1,(g6_0 x0).2.2.2.2.2.2.2.2.1,(g6_0 x0).2.2.2.2.2.2.2.2.2.1,(g6_0 x0).2.2.2.2.2.2.2.2.2.2.1,(g6_0 x0).2.2.2.2.2.2.2.2.2.2.2.1,())) 1)=true then false else true)))))))
theorem at3 (x0:TyA0) (h:P3 x0) (K:Ctx) (q:Nat→Value):AtV Tryz.prog 3 (PostR kds3 oks3 [⟨Ty.bool,g3_0 x0⟩] [] [] q K) 96 K q [] [.code b3] (entE 0 0 sig3 (x0,())) (entL sig3 (x0,())):=by
 unfold P3 at h
 unfold g3_0
 obtain ⟨s0,h⟩:=h
 by_cases b0:(decide (g4_0 x0 1048576<0))=true
 ·try simp only [if_pos b0] at h ⊢
  exact AtV.ret Tryz.func3 tabOk ext3Ok mixed false [] tys3 [true] (a1 s0 (a1 b0 trivial)) (by kernel_rfl)
 ·try simp only [if_neg b0] at h ⊢
  replace b0:=Bool.eq_false_iff.2 b0
  obtain ⟨s1,h⟩:=h
  obtain ⟨s2,h⟩:=h
  obtain ⟨s3,h⟩:=h
  obtain ⟨s4,h⟩:=h
  by_cases b1:(!g8_0 (g7_0 (((g6_0 x0).1.1,(g6_0 x0).1.2.1,(g6_0 x0).1.2.2.1,()),(g6_0 x0).2.1,((g6_0 x0).2.2.1.1,(g6_0 x0).2.2.1.2.1,()),((g6_0 x0).2.2.2.1.1,(g6_0 x0).2.2.2.1.2.1,(g6_0 x0).2.2.2.1.2.2.1,(g6_0 x0).2.2.2.1.2.2.2.1,()),(g6_0 x0).2.2.2.2.1,((g6_0 x0).2.2.2.2.2.1.1,(g6_0 x0).2.2.2.2.2.1.2.1,(g6_0 x0).2.2.2.2.2.1.2.2.1,()),(g6_0 x0).2.2.2.2.2.2.1,(g6_0 x0).2.2.2.2.2.2.2.1,(g6_0 x0).2.2.2.2.2.2.2.2.1,(g6_0 x0).2.2.2.2.2.2.2.2.2.1,(g6_0 x0).2.2.2.2.2.2.2.2.2.2.1,(g6_0 x0).2.2.2.2.2.2.2.2.2.2.2.1,())) (g5_0 (((g6_0 x0).1.1,(g6_0 x0).1.2.1,(g6_0 x0).1.2.2.1,()),(g6_0 x0).2.1,((g6_0 x0).2.2.1.1,(g6_0 x0).2.2.1.2.1,()),((g6_0 x0).2.2.2.1.1,(g6_0 x0).2.2.2.1.2.1,(g6_0 x0).2.2.2.1.2.2.1,(g6_0 x0).2.2.2.1.2.2.2.1,()),(g6_0 x0).2.2.2.2.1,((g6_0 x0).2.2.2.2.2.1.1,(g6_0 x0).2.2.2.2.2.1.2.1,(g6_0 x0).2.2.2.2.2.1.2.2.1,()),(g6_0 x0).2.2.2.2.2.2.1,(g6_0 x0).2.2.2.2.2.2.2.1,(g6_0 x0).2.2.2.2.2.2.2.2.1,(g6_0 x0).2.2.2.2.2.2.2.2.2.1,(g6_0 x0).2.2.2.2.2.2.2.2.2.2.1,(g6_0 x0).2.2.2.2.2.2.2.2.2.2.2.1,())))=true
  ·try simp only [if_pos b1] at h ⊢
   exact AtV.ret Tryz.func3 tabOk ext3Ok mixed false [] tys3 [false,true,true] (a1 s0 (a1 b0 (a1 s1 (a1 s2 (a1 s3 (a1 s4 (a1 trivial (a1 b1 (a1 (rfl:true=true) trivial))))))))) (by kernel_rfl)
  ·try simp only [if_neg b1] at h ⊢
   replace b1:=Bool.eq_false_iff.2 b1
   by_cases b2:(g7_1 (((g6_0 x0).1.1,(g6_0 x0).1.2.1,(g6_0 x0).1.2.2.1,()),(g6_0 x0).2.1,((g6_0 x0).2.2.1.1,(g6_0 x0).2.2.1.2.1,()),((g6_0 x0).2.2.2.1.1,(g6_0 x0).2.2.2.1.2.1,(g6_0 x0).2.2.2.1.2.2.1,(g6_0 x0).2.2.2.1.2.2.2.1,()),(g6_0 x0).2.2.2.2.1,((g6_0 x0).2.2.2.2.2.1.1,(g6_0 x0).2.2.2.2.2.1.2.1,(g6_0 x0).2.2.2.2.2.1.2.2.1,()),(g6_0 x0).2.2.2.2.2.2.1,(g6_0 x0).2.2.2.2.2.2.2.1,(g6_0 x0).2.2.2.2.2.2.2.2.1,(g6_0 x0).2.2.2.2.2.2.2.2.2.1,(g6_0 x0).2.2.2.2.2.2.2.2.2.2.1,(g6_0 x0).2.2.2.2.2.2.2.2.2.2.2.1,()) != g5_1 (((g6_0 x0).1.1,(g6_0 x0).1.2.1,(g6_0 x0).1.2.2.1,()),(g6_0 x0).2.1,((g6_0 x0).2.2.1.1,(g6_0 x0).2.2.1.2.1,()),((g6_0 x0).2.2.2.1.1,(g6_0 x0).2.2.2.1.2.1,(g6_0 x0).2.2.2.1.2.2.1,(g6_0 x0).2.2.2.1.2.2.2.1,()),(g6_0 x0).2.2.2.2.1,((g6_0 x0).2.2.2.2.2.1.1,(g6_0 x0).2.2.2.2.2.1.2.1,(g6_0 x0).2.2.2.2.2.1.2.2.1,()),(g6_0 x0).2.2.2.2.2.2.1,(g6_0 x0).2.2.2.2.2.2.2.1,(g6_0 x0).2.2.2.2.2.2.2.2.1,(g6_0 x0).2.2.2.2.2.2.2.2.2.1,(g6_0 x0).2.2.2.2.2.2.2.2.2.2.1,(g6_0 x0).2.2.2.2.2.2.2.2.2.2.2.1,()))=true
   ·try simp only [if_pos b2] at h ⊢
    exact AtV.ret Tryz.func3 tabOk ext3Ok mixed false [] tys3 [false,false,true] (a1 s0 (a1 b0 (a1 s1 (a1 s2 (a1 s3 (a1 s4 (a1 trivial (a1 b1 (a1 b2 trivial))))))))) (by kernel_rfl)
   ·try simp only [if_neg b2] at h ⊢
    replace b2:=Bool.eq_false_iff.2 b2
    obtain ⟨s5,h⟩:=h
    by_cases b3:(!g9_0 (((g6_0 x0).1.1,(g6_0 x0).1.2.1,(g6_0 x0).1.2.2.1,()),(g6_0 x0).2.1,((g6_0 x0).2.2.1.1,(g6_0 x0).2.2.1.2.1,()),((g6_0 x0).2.2.2.1.1,(g6_0 x0).2.2.2.1.2.1,(g6_0 x0).2.2.2.1.2.2.1,(g6_0 x0).2.2.2.1.2.2.2.1,()),(g6_0 x0).2.2.2.2.1,((g6_0 x0).2.2.2.2.2.1.1,(g6_0 x0).2.2.2.2.2.1.2.1,(g6_0 x0).2.2.2.2.2.1.2.2.1,()),(g6_0 x0).2.2.2.2.2.2.1,(g6_0 x0).2.2.2.2.2.2.2.1,(g6_0 x0).2.2.2.2.2.2.2.2.1,(g6_0 x0).2.2.2.2.2.2.2.2.2.1,(g6_0 x0).2.2.2.2.2.2.2.2.2.2.1,(g6_0 x0).2.2.2.2.2.2.2.2.2.2.2.1,()) (((g6_0 x0).1.1,(g6_0 x0).1.2.1,(g6_0 x0).1.2.2.1,()),(g6_0 x0).2.1,((g6_0 x0).2.2.1.1,(g6_0 x0).2.2.1.2.1,()),((g6_0 x0).2.2.2.1.1,(g6_0 x0).2.2.2.1.2.1,(g6_0 x0).2.2.2.1.2.2.1,(g6_0 x0).2.2.2.1.2.2.2.1,()),(g6_0 x0).2.2.2.2.1,((g6_0 x0).2.2.2.2.2.1.1,(g6_0 x0).2.2.2.2.2.1.2.1,(g6_0 x0).2.2.2.2.2.1.2.2.1,()),(g6_0 x0).2.2.2.2.2.2.1,(g6_0 x0).2.2.2.2.2.2.2.1,(g6_0 x0).2.2.2.2.2.2.2.2.1,(g6_0 x0).2.2.2.2.2.2.2.2.2.1,(g6_0 x0).2.2.2.2.2.2.2.2.2.2.1,(g6_0 x0).2.2.2.2.2.2.2.2.2.2.2.1,()))=true
    ·try simp only [if_pos b3] at h ⊢
     exact AtV.ret Tryz.func3 tabOk ext3Ok mixed false [] tys3 [false,false,false,true] (a1 s0 (a1 b0 (a1 s1 (a1 s2 (a1 s3 (a1 s4 (a1 trivial (a1 b1 (a1 b2 (a1 s5 (a1 trivial (a1 b3 trivial)))))))))))) (by kernel_rfl)
    ·try simp only [if_neg b3] at h ⊢
     replace b3:=Bool.eq_false_iff.2 b3
     obtain ⟨s6,s7,s8,s9,s10,s11,h⟩:=h
     by_cases b4:(decide (g10_0 (((g6_0 x0).1.1,(g6_0 x0).1.2.1,(g6_0 x0).1.2.2.1,()),(g6_0 x0).2.1,((g6_0 x0).2.2.1.1,(g6_0 x0).2.2.1.2.1,()),((g6_0 x0).2.2.2.1.1,(g6_0 x0).2.2.2.1.2.1,(g6_0 x0).2.2.2.1.2.2.1,(g6_0 x0).2.2.2.1.2.2.2.1,()),(g6_0 x0).2.2.2.2.1,((g6_0 x0).2.2.2.2.2.1.1,(g6_0 x0).2.2.2.2.2.1.2.1,(g6_0 x0).2.2.2.2.2.1.2.2.1,()),(g6_0 x0).2.2.2.2.2.2.1,(g6_0 x0).2.2.2.2.2.2.2.1,(g6_0 x0).2.2.2.2.2.2.2.2.1,(g6_0 x0).2.2.2.2.2.2.2.2.2.1,(g6_0 x0).2.2.2.2.2.2.2.2.2.2.1,(g6_0 x0).2.2.2.2.2.2.2.2.2.2.2.1,()) 1<0))=true
     ·try simp only [if_pos b4] at h ⊢
      exact AtV.ret Tryz.func3 tabOk ext3Ok mixed false [] tys3 [false,false,false,false,true,true,true] (a1 s0 (a1 b0 (a1 s1 (a1 s2 (a1 s3 (a1 s4 (a1 trivial (a1 b1 (a1 b2 (a1 s5 (a1 trivial (a1 b3 (a1 s6 (a1 s7 (a1 s8 (a1 s9 (a1 s10 (a1 s11 (a1 b4 (a1 (rfl:true=true) (a1 (rfl:true=true) trivial))))))))))))))))))))) (by kernel_rfl)
     ·try simp only [if_neg b4] at h ⊢
      replace b4:=Bool.eq_false_iff.2 b4
      obtain ⟨s12,s13,h⟩:=h
      obtain ⟨s14,h⟩:=h
      by_cases b5:(decide (g12_0 (u11_0 (g7_0 (((g6_0 x0).1.1,(g6_0 x0).1.2.1,(g6_0 x0).1.2.2.1,()),(g6_0 x0).2.1,((g6_0 x0).2.2.1.1,(g6_0 x0).2.2.1.2.1,()),((g6_0 x0).2.2.2.1.1,(g6_0 x0).2.2.2.1.2.1,(g6_0 x0).2.2.2.1.2.2.1,(g6_0 x0).2.2.2.1.2.2.2.1,()),(g6_0 x0).2.2.2.2.1,((g6_0 x0).2.2.2.2.2.1.1,(g6_0 x0).2.2.2.2.2.1.2.1,(g6_0 x0).2.2.2.2.2.1.2.2.1,()),(g6_0 x0).2.2.2.2.2.2.1,(g6_0 x0).2.2.2.2.2.2.2.1,(g6_0 x0).2.2.2.2.2.2.2.2.1,(g6_0 x0).2.2.2.2.2.2.2.2.2.1,(g6_0 x0).2.2.2.2.2.2.2.2.2.2.1,(g6_0 x0).2.2.2.2.2.2.2.2.2.2.2.1,())) 1) 1<0))=true
      ·try simp only [if_pos b5] at h ⊢
       exact AtV.ret Tryz.func3 tabOk ext3Ok mixed false [] tys3 [false,false,false,false,false,false,false,true] (a1 s0 (a1 b0 (a1 s1 (a1 s2 (a1 s3 (a1 s4 (a1 trivial (a1 b1 (a1 b2 (a1 s5 (a1 trivial (a1 b3 (a1 s6 (a1 s7 (a1 s8 (a1 s9 (a1 s10 (a1 s11 (a1 b4 (a1 trivial (a1 b1 (a1 b2 (a1 s12 (a1 s13 (a1 s14 (a1 b5 trivial)))))))))))))))))))))))))) (by kernel_rfl)
      ·try simp only [if_neg b5] at h ⊢
       replace b5:=Bool.eq_false_iff.2 b5
       by_cases b6:(g12_0 (u11_0 (g7_0 (((g6_0 x0).1.1,(g6_0 x0).1.2.1,(g6_0 x0).1.2.2.1,()),(g6_0 x0).2.1,((g6_0 x0).2.2.1.1,(g6_0 x0).2.2.1.2.1,()),((g6_0 x0).2.2.2.1.1,(g6_0 x0).2.2.2.1.2.1,(g6_0 x0).2.2.2.1.2.2.1,(g6_0 x0).2.2.2.1.2.2.2.1,()),(g6_0 x0).2.2.2.2.1,((g6_0 x0).2.2.2.2.2.1.1,(g6_0 x0).2.2.2.2.2.1.2.1,(g6_0 x0).2.2.2.2.2.1.2.2.1,()),(g6_0 x0).2.2.2.2.2.2.1,(g6_0 x0).2.2.2.2.2.2.2.1,(g6_0 x0).2.2.2.2.2.2.2.2.1,(g6_0 x0).2.2.2.2.2.2.2.2.2.1,(g6_0 x0).2.2.2.2.2.2.2.2.2.2.1,(g6_0 x0).2.2.2.2.2.2.2.2.2.2.2.1,())) 1) 1 != g11_0 (g7_0 (((g6_0 x0).1.1,(g6_0 x0).1.2.1,(g6_0 x0).1.2.2.1,()),(g6_0 x0).2.1,((g6_0 x0).2.2.1.1,(g6_0 x0).2.2.1.2.1,()),((g6_0 x0).2.2.2.1.1,(g6_0 x0).2.2.2.1.2.1,(g6_0 x0).2.2.2.1.2.2.1,(g6_0 x0).2.2.2.1.2.2.2.1,()),(g6_0 x0).2.2.2.2.1,((g6_0 x0).2.2.2.2.2.1.1,(g6_0 x0).2.2.2.2.2.1.2.1,(g6_0 x0).2.2.2.2.2.1.2.2.1,()),(g6_0 x0).2.2.2.2.2.2.1,(g6_0 x0).2.2.2.2.2.2.2.1,(g6_0 x0).2.2.2.2.2.2.2.2.1,(g6_0 x0).2.2.2.2.2.2.2.2.2.1,(g6_0 x0).2.2.2.2.2.2.2.2.2.2.1,(g6_0 x0).2.2.2.2.2.2.2.2.2.2.2.1,())) 1)=true
       ·try simp only [if_pos b6] at h ⊢
        exact AtV.ret Tryz.func3 tabOk ext3Ok mixed false [] tys3 [false,false,false,false,false,false,false,false,true] (a1 s0 (a1 b0 (a1 s1 (a1 s2 (a1 s3 (a1 s4 (a1 trivial (a1 b1 (a1 b2 (a1 s5 (a1 trivial (a1 b3 (a1 s6 (a1 s7 (a1 s8 (a1 s9 (a1 s10 (a1 s11 (a1 b4 (a1 trivial (a1 b1 (a1 b2 (a1 s12 (a1 s13 (a1 s14 (a1 b5 (a1 b6 trivial))))))))))))))))))))))))))) (by kernel_rfl)
       ·try simp only [if_neg b6] at h ⊢
        replace b6:=Bool.eq_false_iff.2 b6
        obtain ⟨s15,h⟩:=h
        obtain ⟨s16,h⟩:=h
        obtain ⟨s17,h⟩:=h
        exact AtV.ret Tryz.func3 tabOk ext3Ok mixed false [] tys3 [false,false,false,false,false,false,false,false,false,false,false,false,false] (a1 s0 (a1 b0 (a1 s1 (a1 s2 (a1 s3 (a1 s4 (a1 trivial (a1 b1 (a1 b2 (a1 s5 (a1 trivial (a1 b3 (a1 s6 (a1 s7 (a1 s8 (a1 s9 (a1 s10 (a1 s11 (a1 b4 (a1 trivial (a1 b1 (a1 b2 (a1 s12 (a1 s13 (a1 s14 (a1 b5 (a1 b6 (a1 s15 (a1 s16 (a1 trivial (a1 b1 (a1 b2 (a1 s17 (a1 b5 (a1 b6 trivial))))))))))))))))))))))))))))))))))) (by kernel_rfl)
def S3:Am.Spec:={ sig:=sig3,pre:=fun ⟨x0,_⟩=>P3 x0,res:=fun ⟨x0,_⟩=>[⟨Ty.bool,g3_0 x0⟩],kds:=kds3 }
theorem con3:Contract Tryz.prog 3 S3:=contract_of Tryz.func3 hb3 (Nat.le_of_ble_eq_true (by kernel_rfl)) (fun ⟨x0,_⟩ h _ K q=>at3 x0 h K q)
end
theorem szs_Section (xs:List TyB4) (l:Int) (h0:0≤l) (hi:l≤1048576) (hw:Wf (.sl (.cons (.int .i64) (.cons (.int .i64) .unit))) xs):P45 xs l∧(¬ g45_0 xs l<0→g45_0 xs l≤l - xs.length):=by
 have hi':InR .i64 l:=by rw [i64_iff];omega
 have hm:xs.length≤9223372036854775807:=hw.1
 refine ⟨⟨by rw [i64_iff];omega,trivial⟩,fun hg=>(g45_le xs l h0 hi' hw hg).2⟩
theorem szs_Group (xs:List TyB1) (l:Int) (h0:0≤l) (hi:l≤1048576) (hw:Wf (.sl (.cons .str (.cons (.int .i64) (.cons (.int .i64) (.cons (.int .i64) .unit))))) xs):P14 xs l∧(¬ g14_0 xs l<0→g14_0 xs l≤l - xs.length):=by
 have hi':InR .i64 l:=by rw [i64_iff];omega
 exact ⟨h0,fun hg=>g14_le xs l h0 hi' hw hg⟩
theorem szs_Check (xs:List TyB0) (l:Int) (h0:0≤l) (hi:l≤1048576) (hw:Wf (.sl (.cons .str (.cons (.int .i64) (.cons (.int .i64) (.cons (.int .i64) (.cons (.int .i64) .unit)))))) xs):P15 xs l∧(¬ g15_0 xs l<0→g15_0 xs l≤l - xs.length):=by
 have hi':InR .i64 l:=by rw [i64_iff];omega
 exact ⟨h0,fun hg=>g15_le xs l h0 hi' hw hg⟩
theorem szs_Ride (xs:List TyB4) (l:Int) (h0:0≤l) (hi:l≤1048576) (hw:Wf (.sl (.cons (.int .i64) (.cons (.int .i64) .unit))) xs):P16 xs l∧(¬ g16_0 xs l<0→g16_0 xs l≤l - xs.length):=by
 have hi':InR .i64 l:=by rw [i64_iff];omega
 have hm:xs.length≤9223372036854775807:=hw.1
 refine ⟨⟨by rw [i64_iff];omega,trivial⟩,fun hg=>(g16_le xs l h0 hi' hw hg).2⟩
theorem szs_Line (xs:List TyB2) (l:Int) (h0:0≤l) (hi:l≤1048576) (hw:Wf (.sl (.cons (.int .i64) (.cons (.int .i64) (.cons .str (.cons (.int .i64) .unit))))) xs):P17 xs l∧(¬ g17_0 xs l<0→g17_0 xs l≤l - xs.length):=by
 have hi':InR .i64 l:=by rw [i64_iff];omega
 exact ⟨h0,fun hg=>g17_le xs l h0 hi' hw hg⟩
theorem szs_Track (x:List TyB4×Int×Int×Unit) (l:Int) (h0:0≤l) (hi:l≤1048576) (hw:Wf (.sl (.cons (.int .i64) (.cons (.int .i64) .unit))) x.1):P13 x l∧(¬ g13_0 x l<0→g13_0 x l≤l - x.1.length):=by
 obtain ⟨p,q⟩:=szs_Section x.1 l h0 hi hw
 unfold P13 g13_0
 by_cases c:g45_0 x.1 l<0
 ·simp only [c,p,decide_true,if_true,and_true,true_and]
  try exact ⟨trivial,fun h=>absurd (show (-1:Int)<0 by decide) h⟩
  try exact fun h=>absurd (show (-1:Int)<0 by decide) h
 ·simp only [c,p,decide_false,Bool.false_eq_true,if_false,and_true,true_and]
  try exact ⟨trivial,fun h=>q h⟩
  try exact fun h=>q h
  try exact fun _=>q c
theorem sz_works (x:(TyA0)) (l:Int) (h0:0≤l) (hi:l≤1048576) (hw:Wf (.cons (.cons (.sl (.cons (.int .i64) (.cons (.int .i64) .unit))) (.cons (.int .i64) (.cons (.int .i64) .unit))) (.cons (.int .i64) (.cons (.cons (.int .i64) (.cons (.int .i64) .unit)) (.cons (.cons (.int .i64) (.cons (.int .i64) (.cons (.int .i64) (.cons (.int .i64) .unit)))) (.cons (.sl (.cons .str (.cons (.int .i64) (.cons (.int .i64) (.cons (.int .i64) .unit))))) (.cons (.cons (.int .i64) (.cons (.int .i64) (.cons (.int .i64) .unit))) (.cons (.sl (.cons .str (.cons (.int .i64) (.cons (.int .i64) (.cons (.int .i64) (.cons (.int .i64) .unit)))))) (.cons (.int .i64) (.cons (.int .i64) (.cons (.sl (.cons (.int .i64) (.cons (.int .i64) .unit))) (.cons (.int .i64) (.cons (.sl (.cons (.int .i64) (.cons (.int .i64) (.cons .str (.cons (.int .i64) .unit))))) .unit)))))))))))) x):P4 x l∧(¬ g4_0 x l<0→0≤g4_0 x l∧g4_0 x l≤l∧(x.1.1.length:Int)≤l∧(x.2.2.2.2.1.length:Int)≤l∧(x.2.2.2.2.2.2.1.length:Int)≤l∧(x.2.2.2.2.2.2.2.2.2.1.length:Int)≤l∧(x.2.2.2.2.2.2.2.2.2.2.2.1.length:Int)≤l):=by
 unfold P4 g4_0
 obtain ⟨p0,q0⟩:=szs_Track x.1 l (by omega) (by omega) hw.1.1
 by_cases c0:(g13_0 x.1 l)<0
 ·simp only [c0,p0,decide_true,decide_false,Bool.false_eq_true,if_true,if_false,and_true,true_and]
  try exact ⟨trivial,fun h=>absurd (show (-1:Int)<0 by decide) h⟩
  try exact fun h=>absurd (show (-1:Int)<0 by decide) h
 have r0:=q0 c0
 obtain ⟨p1,q1⟩:=szs_Group x.2.2.2.2.1 (g13_0 x.1 l) (by omega) (by omega) hw.2.2.2.2.1
 by_cases c1:(g14_0 x.2.2.2.2.1 (g13_0 x.1 l))<0
 ·simp only [c0,p0,c1,p1,decide_true,decide_false,Bool.false_eq_true,if_true,if_false,and_true,true_and]
  try exact ⟨trivial,fun h=>absurd (show (-1:Int)<0 by decide) h⟩
  try exact fun h=>absurd (show (-1:Int)<0 by decide) h
 have r1:=q1 c1
 obtain ⟨p2,q2⟩:=szs_Check x.2.2.2.2.2.2.1 (g14_0 x.2.2.2.2.1 (g13_0 x.1 l)) (by omega) (by omega) hw.2.2.2.2.2.2.1
 by_cases c2:(g15_0 x.2.2.2.2.2.2.1 (g14_0 x.2.2.2.2.1 (g13_0 x.1 l)))<0
 ·simp only [c0,p0,c1,p1,c2,p2,decide_true,decide_false,Bool.false_eq_true,if_true,if_false,and_true,true_and]
  try exact ⟨trivial,fun h=>absurd (show (-1:Int)<0 by decide) h⟩
  try exact fun h=>absurd (show (-1:Int)<0 by decide) h
 have r2:=q2 c2
 obtain ⟨p3,q3⟩:=szs_Ride x.2.2.2.2.2.2.2.2.2.1 (g15_0 x.2.2.2.2.2.2.1 (g14_0 x.2.2.2.2.1 (g13_0 x.1 l))) (by omega) (by omega) hw.2.2.2.2.2.2.2.2.2.1
 by_cases c3:(g16_0 x.2.2.2.2.2.2.2.2.2.1 (g15_0 x.2.2.2.2.2.2.1 (g14_0 x.2.2.2.2.1 (g13_0 x.1 l))))<0
 ·simp only [c0,p0,c1,p1,c2,p2,c3,p3,decide_true,decide_false,Bool.false_eq_true,if_true,if_false,and_true,true_and]
  try exact ⟨trivial,fun h=>absurd (show (-1:Int)<0 by decide) h⟩
  try exact fun h=>absurd (show (-1:Int)<0 by decide) h
 have r3:=q3 c3
 obtain ⟨p4,q4⟩:=szs_Line x.2.2.2.2.2.2.2.2.2.2.2.1 (g16_0 x.2.2.2.2.2.2.2.2.2.1 (g15_0 x.2.2.2.2.2.2.1 (g14_0 x.2.2.2.2.1 (g13_0 x.1 l)))) (by omega) (by omega) hw.2.2.2.2.2.2.2.2.2.2.2.1
 by_cases c4:(g17_0 x.2.2.2.2.2.2.2.2.2.2.2.1 (g16_0 x.2.2.2.2.2.2.2.2.2.1 (g15_0 x.2.2.2.2.2.2.1 (g14_0 x.2.2.2.2.1 (g13_0 x.1 l)))))<0
 ·simp only [c0,p0,c1,p1,c2,p2,c3,p3,c4,p4,decide_true,decide_false,Bool.false_eq_true,if_true,if_false,and_true,true_and]
  try exact ⟨trivial,fun h=>absurd (show (-1:Int)<0 by decide) h⟩
  try exact fun h=>absurd (show (-1:Int)<0 by decide) h
 have r4:=q4 c4
 simp only [c0,p0,c1,p1,c2,p2,c3,p3,c4,p4,decide_false,Bool.false_eq_true,if_false,and_true,true_and]
 intro _
 omega
theorem to_works (x:(TyA0)) (h:(x.1.1.length:Int)≤1048576∧(x.2.2.2.2.1.length:Int)≤1048576∧(x.2.2.2.2.2.2.1.length:Int)≤1048576∧(x.2.2.2.2.2.2.2.2.2.1.length:Int)≤1048576∧(x.2.2.2.2.2.2.2.2.2.2.2.1.length:Int)≤1048576):P6 x∧g6_0 x=x:=by
 obtain ⟨l0,l1,l2,l3,l4⟩:=h
 refine ⟨?_,rfl⟩
 unfold P6 P20 P62 P23 P25 P26 P27
 refine ⟨⟨by omega,trivial⟩,by omega,by omega,by omega,by omega,trivial⟩
theorem eq_works (x:(TyA0)):g9_0 x x=true:=by
 simp [g9_0,g31_0,g32_0,g33_0,g35_0,g72_0,g34_0,g36_0,g37_0,g38_0]
theorem name_eq (s:ByteArray):g141_0 s=g110_0 s:=by
 have hs:∀ c,g135_0 c=(decide (97≤c)&&decide (c≤122)):=fun c=>by
  unfold g135_0
  by_cases h1:(97:Int)≤c <;> simp [h1]
 have hd:∀ c,g136_0 c=(decide (48≤c)&&decide (c≤57)):=fun c=>by
  unfold g136_0
  by_cases h1:(48:Int)≤c <;> simp [h1]
 unfold g141_0 g110_0
 have hl:=bytesOf_length s
 by_cases h1:1≤s.size
 ·cases hb:bytesOf s with
  | nil=>rw [hb] at hl;simp at hl;omega
  | cons c r =>
   have hr:allI ok141 1 r=r.all fun b=>g135_0 b||g136_0 b:=by
    rw [← allI_plain (fun b=>g135_0 b||g136_0 b) r 1]
    refine allI_congr r 1 fun j x hj => ?_
    have:(j==0)=false:=by simp;omega
    simp only [ok141,this,hs,hd,Bool.not_false,Bool.true_and]
   have h0:ok141 0 c=g135_0 c:=by simp [ok141,hs]
   simp only [allI,hr,h0,List.all_cons,List.getD_cons_zero]
   cases g135_0 c <;> simp
 ·simp [h1]
theorem bl_asym {x y:List UInt8} (h:Op.bytesLess x y=true):Op.bytesLess y x=false:=by
 cases h2:Op.bytesLess y x with
 | false=>rfl
 | true =>
  have:=bl_trans x y x h h2
  rw [bl_irrefl] at this
  cases this
theorem le_not (a b:ByteArray):(!(Op.bytesLess (ByteArray.toList a) (ByteArray.toList b)||ByteArray.toList a==ByteArray.toList b))=Op.bytesLess (ByteArray.toList b) (ByteArray.toList a):=by
 generalize ByteArray.toList a=x
 generalize ByteArray.toList b=y
 cases h1:Op.bytesLess x y with
 | true=>rw [bl_asym h1];rfl
 | false =>
  cases h2:(x==y) with
  | true =>
   have:x=y:=by simpa using h2
   subst this
   rw [bl_irrefl];rfl
  | false =>
   cases h3:Op.bytesLess y x with
   | true=>rfl
   | false =>
    have:=bl_tri x y h1 h3
    subst this
    simp at h2
theorem one_Group (x:TyB1):g119_0 x=g80_0 x:=by
 unfold g119_0 g80_0
 rw [name_eq]
 rfl
theorem list_Group (xs:List TyB1):g96_0 xs=g53_0 xs:=by
 unfold g96_0 g53_0
 congr 1
 refine allI_congr xs 0 fun j y _ => ?_
 unfold ok96 ok53
 rw [one_Group,le_not]
theorem one_Check (x:TyB0):g142_0 x=g111_0 x:=by
 unfold g142_0 g111_0
 rw [name_eq]
 rfl
theorem list_Check (xs:List TyB0):g121_0 xs=g81_0 xs:=by
 unfold g121_0 g81_0
 congr 1
 refine allI_congr xs 0 fun j y _ => ?_
 unfold ok121 ok81
 rw [one_Check,le_not]
theorem word_eq (w : ByteArray) : g160_0 w = g138_0 w := by
  have hb : ∀ b : Int, (!g172_0 b) = ok138 b := fun b => by
    unfold g172_0 ok138 g136_0
    by_cases h1 : b < 97 <;> by_cases h2 : b > 122 <;> by_cases h3 : b < 48 <;> by_cases h4 : b > 57 <;>
      first
        | omega
        | (have e1 : (97 ≤ b) ↔ ¬ b < 97 := by omega
           have e2 : (b ≤ 122) ↔ ¬ b > 122 := by omega
           have e3 : (b ≥ 48) ↔ ¬ b < 48 := by omega
           have e4 : (b ≤ 57) ↔ ¬ b > 57 := by omega
           simp [e1, e2, e3, e4, h1, h2, h3, h4])
  have ha : (!g171c172_0 (bytesOf w)) = (bytesOf w).all ok138 := by
    unfold g171c172_0
    rw [any179c172]
    induction bytesOf w with
    | nil => rfl
    | cons b r ih => rw [List.any_cons, List.all_cons, Bool.not_or, ih, hb]
  unfold g160_0 g138_0
  rw [ha]
  by_cases h : w = ByteArray.mk #[]
  · subst h
    have h1 : (ByteArray.toList (ByteArray.mk #[]) == ByteArray.toList (ByteArray.mk #[])) = true := beq_self_eq_true _
    have h2 : decide (((ByteArray.mk #[]).size : Int) > 0) = false := by decide
    rw [h1, h2, Bool.and_false]
    rfl
  · have h1 : (ByteArray.toList w == ByteArray.toList (ByteArray.mk #[])) = false := by
      rw [Bool.eq_false_iff]; exact fun hh => h ((bytes_eq _ _).1 hh)
    have h2 : decide ((w.size : Int) > 0) = true := by
      refine decide_eq_true ?_
      rcases Nat.lt_or_ge 0 w.size with h3 | h3
      · omega
      · exact absurd (bytesOf_inj (s := w) (t := ByteArray.mk #[]) (List.eq_nil_of_length_eq_zero (by rw [bytesOf_length]; omega))) h
    rw [h1, h2, Bool.and_true]
    rfl
theorem text_eq (s:ByteArray):g145_0 s=g113_0 s:=by
 have e:g158_0 s (ByteArray.mk #[32])=g137_0 s 32:=splitB_one 32 s
 have hw:∀ w,(!g159_0 w)=g138_0 w:=fun w=>by
  unfold g159_0
  rw [Bool.not_not,word_eq]
 have ha:∀ l:List ByteArray,(!g157c159_0 l)=l.all g138_0:=fun l=>by
  unfold g157c159_0
  rw [any169c159]
  induction l with
  | nil=>rfl
  | cons b r ih=>rw [List.any_cons,List.all_cons,Bool.not_or,ih,hw]
 unfold g145_0 g113_0
 rw [e,ha]
 by_cases h0:s.size=0
 ·have hn:s.data.toList=[]:=List.eq_nil_of_length_eq_zero h0
  have es:g137_0 s 32=[⟨⟨[]⟩⟩]:=by
   show bss (splitC (32:UInt8) s.data.toList)=_
   rw [hn];rfl
  rw [es]
  have ew:g138_0 ⟨⟨[]⟩⟩=false:=rfl
  simp [h0,ew]
 ·by_cases h1:(s.size:Int)≤40
  ·have h2:¬ (s.size:Int)>40:=by omega
   have h3:(((s.size:Nat):Int)==0)=false:=by rw [beq_eq_false_iff_ne];omega
   rw [decide_eq_true h1,decide_eq_false h2,h3]
   rfl
  ·have h2:(s.size:Int)>40:=by omega
   rw [decide_eq_false h1,decide_eq_true h2]
   simp
theorem one_Line (x:Int×Int×ByteArray×Int×Unit):g128_0 x=g87_0 x:=by
 unfold g128_0 g87_0
 rw [text_eq]
 rfl
theorem list_Line (xs:List TyB2):g101_0 xs=g57_0 xs:=by
 unfold g101_0 g57_0
 congr 1
 refine allI_congr xs 0 fun j y _ => ?_
 unfold ok101 ok57
 rw [one_Line]
 rfl
theorem track_eq (x:List TyB4×Int×Int×Unit):g92_0 x=g49_0 x:=rfl
theorem brake_eq (x:Int×Int×Unit):g94_0 x=g51_0 x:=rfl
theorem profile_eq (x:Int×Int×Int×Int×Unit):g95_0 x=g52_0 x:=rfl
theorem room_eq (x:Int×Int×Int×Unit):g97_0 x=g54_0 x:=rfl
theorem list_Ride (x:List TyB4):g99_0 x=g85_0 x:=rfl
theorem insp_eq (xs:List TyB0) (d r:Int):g98_0 xs d r 0=g55_0 xs d r:=by
 have h0:g122_0 0=true:=rfl
 have ha:g124c125_0 xs d r = !xs.all (q55 d r):=by
  unfold g124c125_0
  rw [any143c125]
  induction xs with
  | nil=>rfl
  | cons x l ih =>
   have hx:g125_0 x d r = !q55 d r x:=by
    unfold g125_0 q55 g84_0
    by_cases h1:x.2.2.2.1>d
    ·have h1':¬ x.2.2.2.1≤d:=by omega
     simp [h1,h1']
    ·have h1':x.2.2.2.1≤d:=by omega
     by_cases h2:x.2.2.2.2.1>r
     ·have h2':¬ x.2.2.2.2.1≤r:=by omega
      simp [h1,h1',h2,h2']
     ·have h2':x.2.2.2.2.1≤r:=by omega
      simp [h1,h1',h2,h2']
   rw [List.any_cons,List.all_cons,Bool.not_and,ih,hx]
 unfold g98_0 g55_0
 rw [ha,list_Check,h0]
 have e1:g123_0 d=g82_0 d:=rfl
 have e2:g122_0 r=g83_0 r:=rfl
 rw [e1,e2]
 cases g81_0 xs <;> cases g82_0 d <;> cases g83_0 r <;> cases xs.all (q55 d r) <;> rfl
theorem ask_ride (xs:List TyB4) (t:Int):(g56_0 xs t==0)=(g85_0 xs&&g100_0 t):=by
 unfold g56_0
 have e:g100_0 t=g86_0 t:=rfl
 rw [e]
 cases g85_0 xs <;> cases g86_0 t <;> rfl
theorem valid_works (x:(TyA0)):g67_0 x=g18_0 x:=by
 unfold g67_0 g18_0
 rw [track_eq,brake_eq,profile_eq,list_Group,room_eq,insp_eq,list_Ride,list_Line,ask_ride]
 have e:g93_0 x.2.1=g50_0 x.2.1:=rfl
 rw [e]
 generalize g55_0 x.2.2.2.2.2.2.1 x.2.2.2.2.2.2.2.1 x.2.2.2.2.2.2.2.2.1=n
 cases g49_0 x.1 <;> cases g50_0 x.2.1 <;> cases g51_0 x.2.2.1 <;> simp
 cases g52_0 x.2.2.2.1 <;> cases g53_0 x.2.2.2.2.1 <;> cases g54_0 x.2.2.2.2.2.1 <;> simp
 by_cases hn:n=0
 ·simp only [hn,if_true]
  simp [Bool.and_assoc]
 ·simp [hn]
theorem mk_Section (xs:List TyB4) (k:Int) (h0:0≤k) (h1:k≤100000000) (hl:xs.length≤1048576):P77 xs k∧(u77_0 xs k).length=xs.length∧0≤g77_0 xs k∧g77_0 xs k≤k+6000000:=by
 refine ⟨⟨by omega,by omega⟩,by rw [u77_0,M77_len],?_⟩
 unfold g77_0
 omega
theorem mk_Group (xs:List TyB1) (k:Int) (h0:0≤k) (h1:k≤100000000) (hl:xs.length≤1048576):P40 xs k∧(u40_0 xs k).length=xs.length∧0≤g40_0 xs k∧g40_0 xs k≤k+6000000:=by
 refine ⟨⟨by omega,by omega⟩,by rw [u40_0,M40_len],?_⟩
 unfold g40_0
 omega
theorem mk_Check (xs:List TyB0) (k:Int) (h0:0≤k) (h1:k≤100000000) (hl:xs.length≤1048576):P41 xs k∧(u41_0 xs k).length=xs.length∧0≤g41_0 xs k∧g41_0 xs k≤k+6000000:=by
 refine ⟨⟨by omega,by omega⟩,by rw [u41_0,M41_len],?_⟩
 unfold g41_0
 omega
theorem mk_Ride (xs:List TyB4) (k:Int) (h0:0≤k) (h1:k≤100000000) (hl:xs.length≤1048576):P42 xs k∧(u42_0 xs k).length=xs.length∧0≤g42_0 xs k∧g42_0 xs k≤k+6000000:=by
 refine ⟨⟨by omega,by omega⟩,by rw [u42_0,M42_len],?_⟩
 unfold g42_0
 omega
theorem mk_Line (xs:List TyB2) (k:Int) (h0:0≤k) (h1:k≤100000000) (hl:xs.length≤1048576):P43 xs k∧(u43_0 xs k).length=xs.length∧0≤g43_0 xs k∧g43_0 xs k≤k+6000000:=by
 refine ⟨⟨by omega,by omega⟩,by rw [u43_0,M43_len],?_⟩
 unfold g43_0
 omega
theorem marked_works (x:(TyA0)) (h:(x.1.1.length:Int)≤1048576∧(x.2.2.2.2.1.length:Int)≤1048576∧(x.2.2.2.2.2.2.1.length:Int)≤1048576∧(x.2.2.2.2.2.2.2.2.2.1.length:Int)≤1048576∧(x.2.2.2.2.2.2.2.2.2.2.2.1.length:Int)≤1048576):P10 x 1∧¬ g10_0 x 1<0∧((u10_0 x 1).1.1.length=x.1.1.length∧(u10_0 x 1).2.2.2.2.1.length=x.2.2.2.2.1.length∧(u10_0 x 1).2.2.2.2.2.2.1.length=x.2.2.2.2.2.2.1.length∧(u10_0 x 1).2.2.2.2.2.2.2.2.2.1.length=x.2.2.2.2.2.2.2.2.2.1.length∧(u10_0 x 1).2.2.2.2.2.2.2.2.2.2.2.1.length=x.2.2.2.2.2.2.2.2.2.2.2.1.length):=by
 obtain ⟨l0,l1,l2,l3,l4⟩:=h
 unfold P10 g10_0 P39 g39_0
 obtain ⟨p0,u0,a0,b0⟩:=mk_Section x.1.1 1 (by omega) (by omega) (by omega)
 obtain ⟨p1,u1,a1,b1⟩:=mk_Group x.2.2.2.2.1 (g77_0 x.1.1 1) (by omega) (by omega) (by omega)
 obtain ⟨p2,u2,a2,b2⟩:=mk_Check x.2.2.2.2.2.2.1 (g40_0 x.2.2.2.2.1 (g77_0 x.1.1 1)) (by omega) (by omega) (by omega)
 obtain ⟨p3,u3,a3,b3⟩:=mk_Ride x.2.2.2.2.2.2.2.2.2.1 (g41_0 x.2.2.2.2.2.2.1 (g40_0 x.2.2.2.2.1 (g77_0 x.1.1 1))) (by omega) (by omega) (by omega)
 obtain ⟨p4,u4,a4,b4⟩:=mk_Line x.2.2.2.2.2.2.2.2.2.2.2.1 (g42_0 x.2.2.2.2.2.2.2.2.2.1 (g41_0 x.2.2.2.2.2.2.1 (g40_0 x.2.2.2.2.1 (g77_0 x.1.1 1)))) (by omega) (by omega) (by omega)
 exact ⟨⟨⟨p0,u0,trivial⟩,u0,p1,u1,p2,u2,p3,u3,p4,u4,trivial⟩,Int.not_lt.2 a4,u0,u1,u2,u3,u4⟩
theorem marked_problem (xs:List TyB3) (h:xs.length≤1048576):P11 xs 1∧(u11_0 xs 1).length=xs.length∧¬ g11_0 xs 1<0:=by
 have hl:(u11_0 xs 1).length=xs.length:=by rw [u11_0,M11_len]
 refine ⟨⟨by omega,by omega⟩,hl,?_⟩
 unfold g11_0
 omega
theorem held_problem (xs:List TyB3) (h:xs.length≤1048576):P12 (u11_0 xs 1) 1∧g12_0 (u11_0 xs 1) 1=g11_0 xs 1:=by
 have hl:(u11_0 xs 1).length=xs.length:=by rw [u11_0,M11_len]
 refine ⟨⟨⟨by omega,by rw [hl];omega⟩,fun i hi => ?_⟩,?_⟩
 ·rw [hl] at hi
  rw [getD_lt _ _ _ (by rw [hl];exact hi)]
  simp [u11_0,M11]
 ·unfold g12_0 g11_0
  rw [hl]
theorem within_m {n a b:Int} (h:g118_0 n a b=true):a≤n∧n≤b:=by
 unfold g118_0 at h
 split at h
 ·rename_i h1
  simp only [decide_eq_true_eq] at h h1
  exact ⟨h1,h⟩
 ·cases h
theorem track_ok {t:List TyB4×Int×Int×Unit} (h:g92_0 t=true):(1≤t.1.length∧t.1.length≤12)∧(∀ x∈t.1,(1≤x.1∧x.1≤3000000)∧(0≤x.2.1∧x.2.1≤900))∧(0≤g103_0 t∧g103_0 t≤3000000)∧(0≤t.2.1∧t.2.1≤g103_0 t)∧(t.2.1≤t.2.2.1∧t.2.2.1≤g103_0 t):=by
 unfold g92_0 at h
 simp only [Bool.and_eq_true,decide_eq_true_eq] at h
 obtain ⟨⟨h1,h2,h3⟩,h4⟩:=h
 have hx:∀ x∈t.1,(1≤x.1∧x.1≤3000000)∧(0≤x.2.1∧x.2.1≤900):=fun x hx=>by
  have:=List.all_eq_true.1 h1 x hx
  unfold ok92 at this
  rw [Bool.and_eq_true] at this
  exact ⟨within_m this.1,within_m this.2⟩
 have hs:=sum103_le t.1 (fun x hm=>by have:=hx x hm;omega)
 unfold fine92 at h4
 split at h4
 ·rename_i h5
  split at h4
  ·rename_i h6
   exact ⟨⟨h2,h3⟩,hx,⟨hs.1,of_decide_eq_true h5⟩,within_m h6,within_m h4⟩
  ·cases h4
 ·cases h4
theorem brake_ok {b:Int×Int×Unit} (h:g94_0 b=true):(0≤b.1∧b.1≤100)∧(1≤b.2.1∧b.2.1≤10000):=by
 unfold g94_0 at h
 split at h
 ·rename_i h1
  exact ⟨within_m h1,within_m h⟩
 ·cases h
theorem profile_ok {p:Int×Int×Int×Int×Unit} (h:g95_0 p=true):(1≤p.1∧p.1≤2000)∧(100≤p.2.1∧p.2.1≤15000)∧(100≤p.2.2.1∧p.2.2.1≤p.2.1)∧(0≤p.2.2.2.1∧p.2.2.2.1≤3000000):=by
 unfold g95_0 g93_0 at h
 split at h
 ·rename_i h1
  split at h
  ·rename_i h2
   split at h
   ·rename_i h3
    exact ⟨within_m h1,within_m h2,within_m h3,within_m h⟩
   ·cases h
  ·cases h
 ·cases h
theorem len_same (t:List TyB4×Int×Int×Unit):g79_0 t=g103_0 t:=rfl
theorem mul_bd {a b A B:Int} (ha:0≤a) (ha2:a≤A) (hb:0≤b) (hb2:b≤B):0≤a*b∧a*b≤A*B :=
 ⟨Int.mul_nonneg ha hb,Int.mul_le_mul ha2 hb2 hb (Int.le_trans ha ha2)⟩
theorem near_div {a:Int} (h:0≤a∧a≤100000000):P175 a 100∧P168 a 100∧g175_0 a 100=g168_0 a 100∧0≤g168_0 a 100∧g168_0 a 100≤10000000:=by
 have e1:Int.tdiv a 100=a / 100:=Int.tdiv_eq_ediv_of_nonneg h.1
 have e2:Int.tmod a 100=a % 100:=Int.tmod_eq_emod_of_nonneg h.1
 have e3:Int.tdiv (2*a+100) (2*100)=(2*a+100) / 200:=Int.tdiv_eq_ediv_of_nonneg (by omega)
 have n1:decide (a<0)=false:=decide_eq_false (by omega)
 have n2:decide ((100:Int)<0)=false:=by decide
 have n3:decide (a % 100<0)=false:=decide_eq_false (by omega)
 have i1:InR .i64 (a / 100):=by rw [i64_iff];omega
 have i2:InR .i64 (a % 100):=by rw [i64_iff];omega
 have i3:InR .i64 (100 - a % 100):=by rw [i64_iff];omega
 have i4:InR .i64 (a / 100+1):=by rw [i64_iff];omega
 have i5:InR .i64 (2*a):=by rw [i64_iff];omega
 have i6:InR .i64 (2*a+100):=by rw [i64_iff];omega
 have i7:InR .i64 (2*100):=by rw [i64_iff];omega
 have i8:InR .i64 ((2*a+100) / 200):=by rw [i64_iff];omega
 unfold P175 P168 g175_0 g168_0 P130 g130_0
 simp only [e1,e2,e3,n1,n2,n3,Bool.false_eq_true,if_false,i1,i2,i3,i4,i5,i6,i7,i8,true_and,and_true,beq_self_eq_true,Bool.not_true,decide_eq_true_eq,ge_iff_le]
 refine ⟨?_,by decide,?_,by omega,by omega⟩
 ·refine ⟨by decide,by decide,?_⟩
  split <;> trivial
 ·split <;> omega
theorem force_same {b:Int×Int×Unit} (hb:(0≤b.1∧b.1≤100)∧(1≤b.2.1∧b.2.1≤10000)) {g:Int} (hg:0≤g∧g≤900) (d:Bool):P166 b g d∧P155 b g d∧g166_0 b g d=g155_0 b g d ∧ -100000000≤g155_0 b g d∧g155_0 b g d≤100000000:=by
 obtain ⟨n1,n2,n3,n4,n5⟩:=near_div (a:=g*981) ⟨by omega,by omega⟩
 have i1:InR .i64 (g*981):=by rw [i64_iff];omega
 unfold P166 P155 g166_0 g155_0
 rw [n3]
 cases d with
 | true =>
  simp only [if_true]
  exact ⟨⟨i1,n1,by rw [i64_iff];omega,trivial⟩,⟨i1,n2,by rw [i64_iff];omega,trivial⟩,by first | rfl | trivial,by omega,by omega⟩
 | false =>
  simp only [Bool.false_eq_true,if_false]
  exact ⟨⟨i1,n1,by rw [i64_iff];omega,trivial⟩,⟨i1,n2,by rw [i64_iff];omega,trivial⟩,by first | rfl | trivial,by omega,by omega⟩
theorem up_ok {a b:Int} (ha:0≤a∧a≤1000000000) (hb:1≤b∧b≤1000000000):P167 a b∧P156 a b∧g167_0 a b=g156_0 a b∧0≤g156_0 a b∧g156_0 a b≤2000000000:=by
 have e:Int.tdiv (a+b - 1) b=(a+b - 1) / b:=Int.tdiv_eq_ediv_of_nonneg (by omega)
 have h1:0≤(a+b - 1) / b:=Int.ediv_nonneg (by omega) (by omega)
 have h2:(a+b - 1) / b≤a+b - 1:=Int.ediv_le_self b (by omega)
 have p:InR .i64 (a+b)∧InR .i64 (a+b - 1)∧b≠0∧InR .i64 (Int.tdiv (a+b - 1) b)∧True:=⟨by rw [i64_iff];omega,by rw [i64_iff];omega,by omega,by rw [e,i64_iff];omega,trivial⟩
 refine ⟨p,p,rfl,?_,?_⟩
 ·show 0≤Int.tdiv (a+b - 1) b
  omega
 ·show Int.tdiv (a+b - 1) b≤2000000000
  omega
theorem way_same {b:Int×Int×Unit} (hb:(0≤b.1∧b.1≤100)∧(1≤b.2.1∧b.2.1≤10000)) {g s:Int} (hg:0≤g∧g≤900) (hs:0≤s∧s≤15000) (d:Bool):P153 b s g d∧P140 b s g d ∧
  ((g153_1 b s g d=true∧0≤g153_0 b s g d∧g140_0 b s g d=g153_0 b s g d)∨(g153_1 b s g d=false∧g140_0 b s g d = -1)):=by
 obtain ⟨f1,f2,f3,f4,f5⟩:=force_same hb hg d
 obtain ⟨m1,m2⟩:=mul_bd hs.1 hs.2 hb.1.1 hb.1.2
 obtain ⟨m3,m4⟩:=mul_bd hs.1 hs.2 hs.1 hs.2
 unfold P153 P140 g153_1 g153_0 g140_0
 rw [f3]
 generalize g155_0 b g d=f at *
 by_cases hf:f≤0
 ·rw [decide_eq_true hf]
  simp only [if_true]
  exact ⟨⟨f1,trivial⟩,⟨f2,trivial⟩,.inr ⟨by first | rfl | trivial,by first | rfl | trivial⟩⟩
 ·rw [decide_eq_false hf]
  simp only [Bool.false_eq_true,if_false]
  obtain ⟨u1,u2,u3,u4,u5⟩:=up_ok (a:=s*b.1) (b:=10) ⟨m1,by omega⟩ ⟨by omega,by omega⟩
  obtain ⟨v1,v2,v3,v4,v5⟩:=up_ok (a:=s*s) (b:=2*f) ⟨m3,by omega⟩ ⟨by omega,by omega⟩
  rw [u3,v3]
  exact ⟨⟨f1,by rw [i64_iff];omega,u1,by rw [i64_iff];omega,by rw [i64_iff];omega,v1,by rw [i64_iff];omega,trivial⟩,⟨f2,by rw [i64_iff];omega,u2,by rw [i64_iff];omega,by rw [i64_iff];omega,v2,by rw [i64_iff];omega,trivial⟩,.inl ⟨by first | rfl | trivial,by omega,by first | rfl | trivial⟩⟩
theorem grade_ok {t:List TyB4×Int×Int×Unit} (ht:(1≤t.1.length∧t.1.length≤12)∧(∀ x∈t.1,(1≤x.1∧x.1≤3000000)∧(0≤x.2.1∧x.2.1≤900))) {x:Int} (hx:0≤x∧x≤3000000) (d:Bool) :
  P134 t d∧P139 t x∧g134_0 t d=worstL d (g139_0 t x) t.1∧0≤g134_0 t d∧g134_0 t d≤900:=by
 obtain ⟨⟨h1,h2⟩,h3⟩:=ht
 have ps:P154 t x:=⟨⟨h1,by omega⟩,fun y hy=>by have:=h3 y hy;omega,hx.1,by omega⟩
 obtain ⟨s1,s2⟩:=in154 t x ps
 have m0:=mem_getD t.1 0 ((0:Int),(0:Int),()) (by omega)
 have m1:=mem_getD t.1 (g154_0 t x).toNat ((0:Int),(0:Int),()) (by omega)
 have e:g134_0 t d=worstL d (g139_0 t x) t.1:=worst_same d t.1 _ _ ⟨_,m0,rfl⟩ ⟨_,m1,rfl⟩
 refine ⟨⟨h1,by omega⟩,⟨ps,s1,s2,trivial⟩,e,?_⟩
 rcases worst_mem d t.1 (t.1.getD 0 ((0:Int),(0:Int),())).2.1 with h | ⟨y,hy,h⟩
 ·show 0≤worstL d (t.1.getD 0 ((0:Int),(0:Int),())).2.1 t.1∧worstL d (t.1.getD 0 ((0:Int),(0:Int),())).2.1 t.1≤900
  rw [h]
  exact (h3 _ m0).2
 ·show 0≤worstL d (t.1.getD 0 ((0:Int),(0:Int),())).2.1 t.1∧worstL d (t.1.getD 0 ((0:Int),(0:Int),())).2.1 t.1≤900
  rw [h]
  exact (h3 _ hy).2
theorem time_same {t:List TyB4×Int×Int×Unit} {b:Int×Int×Unit} (ht:g92_0 t=true) (hb:g94_0 b=true) {x s:Int} (hx:0≤x∧x≤g103_0 t) (hs:0≤s∧s≤15000) (d:Bool) :
  P108 t b x s d∧P90 t b x s d∧g108_0 t b x s d=g90_0 t b x s d:=by
 obtain ⟨t1,t2,t3,_⟩:=track_ok ht
 obtain ⟨g1,g2,g3,g4⟩:=grade_ok ⟨t1,t2⟩ (x:=x) ⟨hx.1,by omega⟩ d
 obtain ⟨w1,w2,w3⟩:=way_same (brake_ok hb) g4 hs d
 have pl:P103 t:=⟨by omega,fun y hy=>by have:=t2 y hy;omega⟩
 have pls:P79 t:=pl
 have eo:g117_0 t b x s d=g140_0 b s (g134_0 t d) d:=by
  rw [g3]
  rfl
 have po:P117 t b x s d:=⟨by omega,g2,by rw [← g3];exact w2⟩
 have i1:InR .i64 (g103_0 t - x):=by rw [i64_iff];omega
 unfold P108 P90 g108_0 g90_0 P133 g133_0
 rw [eo,len_same]
 cases d with
 | true =>
  simp only [if_true]
  refine ⟨⟨pl,i1,g1,⟨w1,trivial⟩,trivial⟩,⟨po,pls,i1,trivial⟩,?_⟩
  rcases w3 with ⟨a1,a2,a3⟩ | ⟨a1,a2⟩
  ·rw [a1,a3,if_pos rfl,decide_eq_true (show g153_0 b s (g134_0 t true) true≥0 from a2),if_pos rfl]
  ·rw [a1,a2]
   rfl
 | false =>
  simp only [Bool.false_eq_true,if_false]
  refine ⟨⟨pl,i1,g1,⟨w1,trivial⟩,trivial⟩,⟨po,pls,i1,trivial⟩,?_⟩
  rcases w3 with ⟨a1,a2,a3⟩ | ⟨a1,a2⟩
  ·rw [a1,a3,if_pos rfl,decide_eq_true (show g153_0 b s (g134_0 t false) false≥0 from a2),if_pos rfl]
  ·rw [a1,a2]
   rfl
theorem may_ok {p:Int×Int×Int×Int×Unit} (hp:(1≤p.1∧p.1≤2000)∧(100≤p.2.1∧p.2.1≤15000)∧(100≤p.2.2.1∧p.2.2.1≤p.2.1)∧(0≤p.2.2.2.1∧p.2.2.2.1≤3000000)) {l:Int} (hl:0≤l∧l≤3000000) (v:Int) (hv:0≤v∧v≤20000) :
  P116 p v l∧P152 v p l∧g152_0 v p l = !g116_0 p v l∧(g116_0 p v l=true↔v*v≤p.2.2.1*p.2.2.1+2*p.1*(if 0<l - v - p.2.2.2.1 then l - v - p.2.2.2.1 else 0)):=by
 obtain ⟨m1,m2⟩:=mul_bd hv.1 hv.2 hv.1 hv.2
 obtain ⟨m3,m4⟩:=mul_bd (a:=p.2.2.1) (b:=p.2.2.1) (A:=15000) (B:=15000) (by omega) (by omega) (by omega) (by omega)
 have em:g114_0 0 (l - v - p.2.2.2.1)=if 0<l - v - p.2.2.2.1 then l - v - p.2.2.2.1 else 0:=by
  unfold g114_0
  by_cases h:(0:Int)>l - v - p.2.2.2.1
  ·rw [if_pos (by simpa using h),if_neg (by omega)]
  ·rw [if_neg (by simpa using h)]
   split <;> omega
 have hmax:0≤(if 0<l - v - p.2.2.2.1 then l - v - p.2.2.2.1 else 0)∧(if 0<l - v - p.2.2.2.1 then l - v - p.2.2.2.1 else 0)≤3000000:=by split <;> omega
 unfold P116 P152 g152_0 g116_0
 rw [em]
 generalize (if 0<l - v - p.2.2.2.1 then l - v - p.2.2.2.1 else 0)=x at *
 obtain ⟨m5,m6⟩:=mul_bd (a:=2*p.1) (b:=x) (A:=4000) (B:=3000000) (by omega) (by omega) hmax.1 hmax.2
 refine ⟨⟨by rw [i64_iff];omega,by rw [i64_iff];omega,by rw [i64_iff];omega,by rw [i64_iff];omega,by rw [i64_iff];omega,by rw [i64_iff];omega,by rw [i64_iff];omega,by first | trivial | exact ⟨trivial,trivial⟩⟩,⟨by rw [i64_iff];omega,by rw [i64_iff];omega,by rw [i64_iff];omega,by rw [i64_iff];omega,by rw [i64_iff];omega,by rw [i64_iff];omega,by rw [i64_iff];omega,trivial⟩,?_,decide_eq_true_iff⟩
 by_cases h:v*v>p.2.2.1*p.2.2.1+2*p.1*x
 ·rw [decide_eq_true h,decide_eq_false (by omega)]
  rfl
 ·rw [decide_eq_false h,decide_eq_true (by omega)]
  rfl
theorem next_same {p:Int×Int×Int×Int×Unit} (hp:g95_0 p=true) {s l:Int} (hs:0≤s∧s≤15000) (hl:1≤l∧l≤3000000) :
  P132 p s l∧P89 p s l∧g132_0 p s l=g89_0 p s l∧1≤g132_0 p s l∧g132_0 p s l≤l∧g132_0 p s l≤15000:=by
 have hq:=profile_ok hp
 obtain ⟨h1,h2,h3,h4⟩:=hq
 have hm:=fun v hv=>may_ok (p:=p) ⟨h1,h2,h3,h4⟩ (l:=l) ⟨by omega,hl.2⟩ v hv
 have ps:P89 p s l:=⟨by omega,by omega,by omega,hs,fun v a b=>(hm v ⟨a,b⟩).1⟩
 obtain ⟨H,hH⟩:∃ H,(if s+p.1<p.2.1 then s+p.1 else p.2.1)=H:=⟨_,rfl⟩
 have hHb:1≤H∧H≤15000:=by rw [← hH];split <;> omega
 have et:top89 p s=if p.2.2.1>H then p.2.2.1 else H:=by
  unfold top89 g114_0 g115_0
  have e:(if decide (p.2.1<s+p.1)=true then p.2.1 else s+p.1)=H:=by
   rw [← hH]
   simp only [decide_eq_true_eq]
   split <;> split <;> omega
  rw [e]
  simp only [decide_eq_true_eq]
 have mn:∀ a b:Int,g115_0 a b=if b<a then b else a:=fun a b=>by
  unfold g115_0
  simp only [decide_eq_true_eq]
  split <;> split <;> omega
 by_cases hc:H>p.2.2.1
 ·have pl:P151c152 p.2.2.1 H p l:=⟨⟨by omega,by omega,by omega⟩,fun v a b=>(hm v ⟨a,by omega⟩).2.1⟩
  have eb:g151c152_0 p.2.2.1 H p l - 1=bsS (fun v=>g116_0 p v l) (H - p.2.2.1).toNat p.2.2.1 H:=by
   refine bs_same (fun v=>g116_0 p v l) (fun v=>g152_0 v p l) p.2.2.1 H _ _ (by omega) hc (by omega) (by omega) (fun v a b=>(hm v ⟨by omega,by omega⟩).2.2.1) ?_ (fun v v' a b c d => ?_)
   ·refine (hm p.2.2.1 ⟨by omega,by omega⟩).2.2.2.2 ?_
    have hx:0≤(if 0<l - p.2.2.1 - p.2.2.2.1 then l - p.2.2.1 - p.2.2.2.1 else 0):=by split <;> omega
    have:=Int.mul_nonneg (show (0:Int)≤2*p.1 by omega) hx
    omega
   ·have d:=(hm v' ⟨by omega,by omega⟩).2.2.2.1 d
    refine (hm v ⟨by omega,by omega⟩).2.2.2.2 ?_
    have m1:v*v≤v'*v':=Int.mul_le_mul b b (by omega) (by omega)
    have hx:(if 0<l - v' - p.2.2.2.1 then l - v' - p.2.2.2.1 else 0)≤(if 0<l - v - p.2.2.2.1 then l - v - p.2.2.2.1 else 0):=by split <;> split <;> omega
    have m2:=Int.mul_le_mul_of_nonneg_left hx (show (0:Int)≤2*p.1 by omega)
    omega
  have eq:g89_0 p s l=if l<g151c152_0 p.2.2.1 H p l - 1 then l else g151c152_0 p.2.2.1 H p l - 1:=by
   unfold g89_0
   rw [et,if_neg (by omega),mn, ← eb]
  have hb:=bsS_ok (fun v=>g116_0 p v l) p.2.2.1 H (H - p.2.2.1).toNat p.2.2.1 H (by omega) (by omega) (by omega) (.inl rfl) (.inl rfl) (Int.le_refl _) (Int.le_refl _)
  rw [← eb] at hb
  have ei:g132_0 p s l=if l<g151c152_0 p.2.2.1 H p l - 1 then l else g151c152_0 p.2.2.1 H p l - 1:=by
   unfold g132_0
   rw [hH,if_pos (by simpa using hc)]
  have pi:P132 p s l:=by
   unfold P132
   rw [hH,if_pos (by simpa using hc)]
   exact ⟨by rw [i64_iff];omega,pl,by rw [i64_iff];omega,trivial⟩
  refine ⟨pi,ps,by rw [ei,eq],?_⟩
  rw [ei]
  split <;> omega
 ·have eq:g89_0 p s l=if l<p.2.2.1 then l else p.2.2.1:=by
   unfold g89_0
   have e:top89 p s=p.2.2.1:=by rw [et];split <;> omega
   rw [e,mn,show (p.2.2.1 - p.2.2.1).toNat=0 by omega]
   rfl
  have ei:g132_0 p s l=if l<p.2.2.1 then l else p.2.2.1:=by
   unfold g132_0
   rw [hH,if_neg (by simpa using hc)]
  have pi:P132 p s l:=by
   unfold P132
   rw [hH,if_neg (by simpa using hc)]
   exact ⟨by rw [i64_iff];omega,trivial⟩
  refine ⟨pi,ps,by rw [ei,eq],?_⟩
  rw [ei]
  split <;> omega
theorem unsafe_same {t:List TyB4×Int×Int×Unit} {b:Int×Int×Unit} {p:Int×Int×Int×Int×Unit} (ht:g92_0 t=true) (hb:g94_0 b=true) (hp:g95_0 p=true) (d:Bool) :
  P71 t b p d∧P61 t b p d ∧
  ((g71_1 t b p d=0∧0≤g61_0 t b p d∧g61_0 t b p d≤3000000∧g71_0 t b p d=g61_0 t b p d)∨(g71_1 t b p d=3∧g61_0 t b p d = -1)):=by
 obtain ⟨t1,t2,t3,_⟩:=track_ok ht
 have pl:P103 t:=⟨by omega,fun y hy=>by have:=t2 y hy;omega⟩
 have hn:=fun s l (a:0≤s) (b:s≤15000) (c:1≤l) (d:l≤g103_0 t)=>next_same hp (s:=s) (l:=l) ⟨a,b⟩ ⟨c,by omega⟩
 have h1:P71 t b p d:=fun _ _ _=>⟨pl,t3,fun s l a b c e=>⟨(hn s l a b c e).1,(hn s l a b c e).2.2.2⟩,fun place s k fd a b' c e f g=>by
  have q1:=(time_same ht hb (x:=place) (s:=s) ⟨a,b'⟩ ⟨c,e⟩ d).1
  have q2:=(time_same ht hb (x:=g103_0 t - place) (s:=s) ⟨by omega,by omega⟩ ⟨c,e⟩ d).1
  unfold P107
  refine ⟨by rw [i64_iff];omega,?_⟩
  split
  ·refine ⟨by rw [i64_iff];omega,?_⟩
   split
   ·exact ⟨q2,trivial⟩
   ·trivial
  ·split
   ·exact ⟨q1,trivial⟩
   ·trivial⟩
 have h2:P61 t b p d:=by
  refine ⟨pl,t3,fun s l a b c e => ?_,fun place s a b' c e => ?_⟩
  ·obtain ⟨_,q1,q2,q3,q4,q5⟩:=hn s l a b c e
   rw [q2] at q3 q4 q5
   exact ⟨q1,q3,q4,q5⟩
  ·cases d with
   | true=>exact (time_same ht hb (x:=g103_0 t - place) (s:=s) ⟨by rw [len_same] at b';omega,by omega⟩ ⟨c,e⟩ true).2.1
   | false=>exact (time_same ht hb (x:=place) (s:=s) ⟨a,b'⟩ ⟨c,e⟩ false).2.1
 have hr:run71 t b p d=run61 t b p d:=by
  refine rideL_congr (n:=g103_0 t) (fun s l a b c e => ?_) (fun place s a b' c e => ?_) _ 0 0 0 (Int.le_refl _) (Int.le_refl _) (by decide)
  ·obtain ⟨_,_,q2,q3,q4,q5⟩:=hn s l a b c e
   exact ⟨q2,q3,q4,q5⟩
  ·unfold bad71 bad61
   cases d with
   | true=>rw [if_pos rfl];exact congrArg _ (time_same ht hb (x:=g103_0 t - place) (s:=s) ⟨by omega,by omega⟩ ⟨c,e⟩ true).2.2
   | false=>rw [if_neg (by decide)];exact congrArg _ (time_same ht hb (x:=place) (s:=s) ⟨a,by omega⟩ ⟨c,e⟩ false).2.2
 refine ⟨h1,h2,?_⟩
 unfold g71_1 g71_0 g61_0
 rw [ht,hb,hp,hr]
 simp only [Bool.and_self,if_true]
 cases hx:run61 t b p d with
 | none=>exact .inr ⟨rfl,rfl⟩
 | some r =>
  rw [← hr] at hx
  have:=rideNon71 (Int.le_refl 0) hx
  exact .inl ⟨rfl,by show 0≤r;omega,by show r≤3000000;omega,rfl⟩
theorem notT {b y:Bool} (h:(if (!b)=true then false else y)=true):b=true∧y=true:=by cases b <;> simp_all
theorem neT {n:Int} {y:Bool} (h:(if (n != 0)=true then false else y)=true):n=0∧y=true:=by
 by_cases hn:n=0
 ·subst hn;exact ⟨rfl,h⟩
 ·rw [if_pos (by simpa using hn)] at h;cases h
theorem eqT {n:Int} {y:Bool} (h:(if (n==0)=true then y else false)=true):n=0∧y=true:=by
 by_cases hn:n=0
 ·subst hn;exact ⟨rfl,h⟩
 ·rw [if_neg (by simpa using hn)] at h;cases h
theorem works_ok (x:(TyA0)) (h:g18_0 x=true):g49_0 x.1=true∧g50_0 x.2.1=true∧g51_0 x.2.2.1=true∧g52_0 x.2.2.2.1=true∧g53_0 x.2.2.2.2.1=true∧g54_0 x.2.2.2.2.2.1=true∧g55_0 x.2.2.2.2.2.2.1 x.2.2.2.2.2.2.2.1 x.2.2.2.2.2.2.2.2.1=0∧g56_0 x.2.2.2.2.2.2.2.2.2.1 x.2.2.2.2.2.2.2.2.2.2.1=0∧g57_0 x.2.2.2.2.2.2.2.2.2.2.2.1=true:=by
 unfold g18_0 at h
 obtain ⟨h1,h⟩:=notT h
 obtain ⟨h2,h⟩:=notT h
 obtain ⟨h3,h⟩:=notT h
 obtain ⟨h4,h⟩:=notT h
 obtain ⟨h5,h⟩:=notT h
 obtain ⟨h6,h⟩:=notT h
 obtain ⟨h7,h⟩:=neT h
 obtain ⟨h8,h⟩:=eqT h
 exact ⟨h1,h2,h3,h4,h5,h6,h7,h8,h⟩
theorem max_m (a b:Int):g114_0 a b=if a<b then b else a:=by
 unfold g114_0
 by_cases h:a>b
 ·rw [if_pos (by simpa using h),if_neg (by omega)]
 ·rw [if_neg (by simpa using h)]
  split <;> omega
theorem min_m (a b:Int):g115_0 a b=if b<a then b else a:=by
 unfold g115_0
 by_cases h:a<b
 ·rw [if_pos (by simpa using h),if_neg (by omega)]
 ·rw [if_neg (by simpa using h)]
  split <;> omega
theorem safe_same {t:List TyB4×Int×Int×Unit} (ht:g92_0 t=true) (c:Int) :
  P68 t c∧P58 t c∧P69 t∧P60 t∧g68_0 t c=g58_0 t c∧(g58_0 t c=false→g69_0 t=g60_0 t∧0≤g60_0 t∧g60_0 t≤3000000):=by
 obtain ⟨t1,t2,t3,t4,t5⟩:=track_ok ht
 have pl:P103 t:=⟨by omega,fun y hy=>by have:=t2 y hy;omega⟩
 have pls:P79 t:=pl
 have pp:P102 t:=⟨pl,by rw [i64_iff];omega,pl,by rw [i64_iff];omega,trivial⟩
 have ps:P88 t:=⟨pls,by rw [len_same,i64_iff];omega,by rw [len_same,i64_iff];omega,trivial⟩
 have e0:g88_0 t=g102_0 t:=by
  unfold g88_0 g102_0
  rw [max_m,len_same]
 have e1:g88_1 t=g102_1 t:=by
  unfold g88_1 g102_1
  rw [min_m,len_same]
 have e2:g102_2 t=decide (g102_0 t≤g102_1 t):=rfl
 have hb:(0≤g102_0 t∧g102_0 t≤g103_0 t)∧g102_0 t+g102_1 t=g103_0 t:=by
  unfold g102_0 g102_1
  split <;> split <;> omega
 have hm:Int.tmod (g103_0 t) 2=g103_0 t % 2:=Int.tmod_eq_emod_of_nonneg t3.1
 unfold P68 P58 P69 P60 g68_0 g58_0 g69_0 g69_1 g60_0 P104 g104_0 P130 g130_0
 rw [e0,e1,e2,len_same,hm]
 generalize g102_0 t=lo at *
 generalize g102_1 t=hi at *
 generalize g103_0 t=n at *
 by_cases hc:lo≤hi
 ·have d1:decide (lo≤hi)=true:=decide_eq_true hc
  have d2:decide (lo>hi)=false:=decide_eq_false (by omega)
  by_cases hz:lo=0
  ·have d3:(lo==0)=true:=by simpa using hz
   simp only [d1,d2,d3,Bool.not_true,Bool.false_eq_true,if_false,if_true,Bool.not_false,pp,ps,pl,pls,true_and,and_true]
   simp
  ·have d3:(lo==0)=false:=by simpa using hz
   have d4:decide (n - 2*(lo - 1)<0)=false:=decide_eq_false (by omega)
   have i1:InR .i64 (lo - 1):=by rw [i64_iff];omega
   have i2:InR .i64 (2*(lo - 1)):=by rw [i64_iff];omega
   have i3:InR .i64 (n - 2*(lo - 1)):=by rw [i64_iff];omega
   simp only [d1,d2,d3,d4,i1,i2,i3,Bool.not_true,Bool.false_eq_true,if_false,if_true,Bool.not_false,pp,ps,pl,pls,true_and,and_true]
   omega
 ·have d1:decide (lo≤hi)=false:=decide_eq_false hc
  have d2:decide (lo>hi)=true:=decide_eq_true (by omega)
  have i1:InR .i64 (n % 2):=by rw [i64_iff];omega
  simp only [d1,d2,i1,Bool.not_true,Bool.false_eq_true,if_false,if_true,Bool.not_false,pp,ps,pl,pls,true_and,and_true]
  omega
theorem part_motion (x:(TyA0)) (h:g18_0 x=true):P29 x∧P19 x∧g29_0 x=g19_0 x∧(g19_0 x).length≤3:=by
 obtain ⟨h1,_,h3,h4,_⟩:=works_ok x h
 have ht:g92_0 x.1=true:=h1
 have hb:g94_0 x.2.2.1=true:=h3
 have hp:g95_0 x.2.2.2.1=true:=h4
 obtain ⟨s1,s2,s3,s4,s5,s6⟩:=safe_same ht x.2.1
 obtain ⟨u1,u2,u3⟩:=unsafe_same ht hb hp false
 obtain ⟨d1,d2,d3⟩:=unsafe_same ht hb hp true
 have hdec:∀ n:Int,0≤n→n≤3000000→P70 n∧g70_0 n=g59_0 n:=fun n _ _=>⟨⟨rfl,trivial⟩,rfl⟩
 have pm:P29 x:=by
  refine ⟨s1,fun hs=>⟨s3,?_⟩,⟨u1,fun hc => ?_⟩,d1,fun hc => ?_⟩
  ·obtain ⟨q1,q2,q3⟩:=s6 (by rw [← s5];simpa using hs)
   rw [q1]
   exact (hdec _ q2 q3).1
  ·rcases u3 with ⟨a1,a2,a3,a4⟩ | ⟨a1,a2⟩
   ·rw [a4];exact (hdec _ a2 a3).1
   ·rw [a1] at hc;exact absurd hc (by decide)
  ·rcases d3 with ⟨a1,a2,a3,a4⟩ | ⟨a1,a2⟩
   ·rw [a4];exact (hdec _ a2 a3).1
   ·rw [a1] at hc;exact absurd hc (by decide)
 have one:∀ (d:Bool) (who:ByteArray),((g71_1 x.1 x.2.2.1 x.2.2.2.1 d=0∧0≤g61_0 x.1 x.2.2.1 x.2.2.2.1 d∧g61_0 x.1 x.2.2.1 x.2.2.2.1 d≤3000000∧g71_0 x.1 x.2.2.1 x.2.2.2.1 d=g61_0 x.1 x.2.2.1 x.2.2.2.1 d)∨(g71_1 x.1 x.2.2.1 x.2.2.2.1 d=3∧g61_0 x.1 x.2.2.1 x.2.2.2.1 d = -1)) →
   one29 x who d=if decide (g61_0 x.1 x.2.2.1 x.2.2.2.1 d≥0)=true then [(2,who,g59_0 (g61_0 x.1 x.2.2.1 x.2.2.2.1 d),())] else []:=fun d who hd=>by
  unfold one29
  rcases hd with ⟨a1,a2,a3,a4⟩ | ⟨a1,a2⟩
  ·rw [a1,a4,if_pos (by decide),(hdec _ a2 a3).2,if_pos (by simpa using a2)]
  ·rw [a1,a2,if_neg (by decide),if_neg (by decide)]
 have trk:trk029 x=if (!g58_0 x.1 x.2.1)=true then [(1,ByteArray.mk #[99,97,114,115],g59_0 (g60_0 x.1),())] else []:=by
  unfold trk029
  rw [s5]
  cases hs:g58_0 x.1 x.2.1 with
  | true=>rw [if_neg (by decide),if_neg (by decide)]
  | false =>
   obtain ⟨q1,q2,q3⟩:=s6 hs
   rw [if_pos (by decide),if_pos (by decide),q1,(hdec _ q2 q3).2]
 refine ⟨pm,?_⟩
 have eg:g29_0 x=trk029 x++one29 x (ByteArray.mk #[117,112]) false++one29 x (ByteArray.mk #[100,111,119,110]) true:=rfl
 rw [eg,one false _ u3,one true _ d3,trk]
 unfold P19 g19_0
 cases c1:g58_0 x.1 x.2.1 <;> cases c2:decide (g61_0 x.1 x.2.2.1 x.2.2.2.1 false≥0) <;> cases c3:decide (g61_0 x.1 x.2.2.1 x.2.2.2.1 true≥0) <;> simp [c1,c2,c3,s2,s4,u2,d2]
theorem rep_eq (x:(TyA0)):g7_0 x=g5_0 x∧g7_1 x=g5_1 x∧P7 x∧P5 x∧(g5_0 x).length≤60:=by
 unfold g7_0 g7_1 g5_0 g5_1 P7 P5 g28c29_0 g28c29_1 P28c29
 rw [valid_works]
 by_cases h:g18_0 x=true
 ·obtain ⟨p1,p2,e,hl⟩:=part_motion x h
  have hf:¬ (!g18_0 x)=true:=by rw [h];simp
  simp only [if_neg hf,p1,p2,e,true_and,and_true]
  omega
 ·have hf:(!g18_0 x)=true:=by rw [Bool.eq_false_iff.2 h];rfl
  simp only [if_pos hf,true_and,and_true,List.length_nil]
  omega
theorem law3 (x:(TyA0)) (hx:Wf (.cons (.cons (.sl (.cons (.int .i64) (.cons (.int .i64) .unit))) (.cons (.int .i64) (.cons (.int .i64) .unit))) (.cons (.int .i64) (.cons (.cons (.int .i64) (.cons (.int .i64) .unit)) (.cons (.cons (.int .i64) (.cons (.int .i64) (.cons (.int .i64) (.cons (.int .i64) .unit)))) (.cons (.sl (.cons .str (.cons (.int .i64) (.cons (.int .i64) (.cons (.int .i64) .unit))))) (.cons (.cons (.int .i64) (.cons (.int .i64) (.cons (.int .i64) .unit))) (.cons (.sl (.cons .str (.cons (.int .i64) (.cons (.int .i64) (.cons (.int .i64) (.cons (.int .i64) .unit)))))) (.cons (.int .i64) (.cons (.int .i64) (.cons (.sl (.cons (.int .i64) (.cons (.int .i64) .unit))) (.cons (.int .i64) (.cons (.sl (.cons (.int .i64) (.cons (.int .i64) (.cons .str (.cons (.int .i64) .unit))))) .unit)))))))))))) x):P3 x∧g3_0 x=true:=by
 obtain ⟨p1,q1⟩:=sz_works x 1048576 (by decide) (by decide) hx
 by_cases c1:g4_0 x 1048576<0
 ·unfold P3 g3_0
  simp only [c1,p1,decide_true,if_true,and_self]
 obtain ⟨r1,s1,t1⟩:=q1 c1
 obtain ⟨a1,e1⟩:=to_works x (by omega)
 obtain ⟨m1,m2,m3⟩:=marked_works x (by omega)
 have f1:=eq_works x
 obtain ⟨k1,k2,p2,p3,k3⟩:=rep_eq x
 obtain ⟨c2,c3,c4⟩:=marked_problem (g5_0 x) (by omega)
 obtain ⟨d1,d2⟩:=held_problem (g5_0 x) (by omega)
 have ep:∀ l,g8_0 l l=true:=fun l=>decide_eq_true rfl
 unfold P3 g3_0
 clear q1 hx r1 s1 t1
 simp only [e1,c1,p1,a1,f1,k1,k2,p2,p3,m1,m2,c2,c3,c4,d1,d2,ep,decide_true,decide_false,Bool.false_eq_true,if_false,true_and,and_true,Bool.not_true,bne_self_eq_false,beq_self_eq_true,and_self]
 exact m3
end Go.Proofs.YthpljjnbniefpaaGreatDoor
