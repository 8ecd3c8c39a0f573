/- Several texts in one: the functions that this law reaches, and their laws. -/
import Derived.Test.YthpljjnbniefpaaGreatDoorZ3A
import Derived.Test.YthpljjnbniefpaaGreatDoorZ3B
import Derived.Test.YthpljjnbniefpaaGreatDoorZ3C
import Derived.Test.YthpljjnbniefpaaGreatDoorZ3D
import Derived.Lib.ItoaNum
set_option linter.unusedVariables false
set_option linter.unusedSimpArgs false
set_option maxRecDepth 100000
namespace Go.Proofs.YthpljjnbniefpaaGreatDoor
open Go Go.Am Go.Proofs
noncomputable section
def ext59:Ext:=[]
theorem ext59Ok:ExtOk Tryz.prog ext59:=trivial
noncomputable def b59:Code:=bodyOf Tryz.f59
theorem hb59:Tryz.f59.body=some b59:=by kernel_rfl
def sig59:List AT:=[AT.v (Ty.int .i64)]
def tys59:List Ty:=[Ty.str]
def kds59:List RK:=[]
def oks59:List AT:=owns sig59
def E59_5 (v4:Int) (h0:List Int) (x0:Int):Env:=[(0,PV.a (Atom.val (Value.int .i64 x0))),(3,PV.a (Atom.osl 0 Option.none)),(4,PV.a (Atom.val (Value.int .i64 v4)))]
def L59_5 (v4:Int) (h0:List Int) (x0:Int):Heap:=[Option.some (Arr.mk (Ty.int .u8) h0 false Option.none Option.none)]
def E59_15 (v7:Int) (h0:List Int) (h1:List Int):Env:=[(3,PV.a (Atom.osl 0 Option.none)),(6,PV.a (Atom.osl 1 Option.none)),(7,PV.a (Atom.val (Value.int .i64 v7)))]
def L59_15 (v7:Int) (h0:List Int) (h1:List Int):Heap:=[Option.some (Arr.mk (Ty.int .u8) h0 false Option.none Option.none),Option.some (Arr.mk (Ty.int .u8) h1 false Option.none Option.none)]
mutual
def R59:Nat→Int→List Dyn→Prop
 | 0,_,_=>False
 | n+1,x0,ds=>(if (x0==0)=true then (ds=[Dyn.mk Ty.str (ByteArray.mk #[48])]) else (R59_5 n (x0) ([]) (x0) ds))
def R59_5:Nat→Int→List Int→Int→List Dyn→Prop
 | 0,_,_,_,_=>False
 | n+1,v4,h0,x0,ds=>(if (v4 != 0)=true then ((InR .i64 (Int.tmod v4 10))∧(if (decide (Int.tmod v4 10<0))=true then ((InR .i64 (0 - Int.tmod v4 10))∧((InR .i64 (48+(0 - Int.tmod v4 10)))∧((InR .u8 (48+(0 - Int.tmod v4 10)))∧(((List.length h0+1)*1≤140737488355328)∧((InR .i64 (Int.tdiv v4 10))∧(R59_5 n (Int.tdiv v4 10) (h0++[48+(0 - Int.tmod v4 10)]) (x0) ds)))))) else ((InR .i64 (48+Int.tmod v4 10))∧((InR .u8 (48+Int.tmod v4 10))∧(((List.length h0+1)*1≤140737488355328)∧((InR .i64 (Int.tdiv v4 10))∧(R59_5 n (Int.tdiv v4 10) (h0++[48+Int.tmod v4 10]) (x0) ds))))))) else (if (decide (x0<0))=true then (((List.length h0+1)*1≤140737488355328)∧((InR .i64 ((↑(List.length (h0++[45])):Int) - 1))∧(R59_15 n ((↑(List.length (h0++[45])):Int) - 1) (h0++[45]) ([]) ds))) else ((InR .i64 ((↑(List.length h0):Int) - 1))∧(R59_15 n ((↑(List.length h0):Int) - 1) (h0) ([]) ds))))
def R59_15:Nat→Int→List Int→List Int→List Dyn→Prop
 | 0,_,_,_,_=>False
 | n+1,v7,h0,h1,ds=>(if (decide (v7≥0))=true then ((0≤v7)∧(v7<(↑(List.length h0):Int))∧(((List.length h1+1)*1≤140737488355328)∧((InR .i64 (v7 - 1))∧(R59_15 n (v7 - 1) (h0) (h1++[List.getD h0 (Int.toNat v7) 0]) ds)))) else (ds=[Dyn.mk Ty.str (bytesStr h1)]))
end
theorem snd59:∀ n,(∀ (x0:Int) ds,R59 n x0 ds→∀ K q,AtV Tryz.prog 59 (PostR kds59 oks59 ds [] [] q K) 50 K q [] [.code b59] (entE 0 0 sig59 (x0,())) (entL sig59 (x0,())))∧(∀ (v4:Int) (h0:List Int) (x0:Int) ds,R59_5 n v4 h0 x0 ds→∀ K q,AtV Tryz.prog 59 (PostR kds59 oks59 ds [] [] q K) 50 K q [] (cutAt b59 5) (E59_5 v4 h0 x0) (L59_5 v4 h0 x0))∧(∀ (v7:Int) (h0:List Int) (h1:List Int) ds,R59_15 n v7 h0 h1 ds→∀ K q,AtV Tryz.prog 59 (PostR kds59 oks59 ds [] [] q K) 50 K q [] (cutAt b59 15) (E59_15 v7 h0 h1) (L59_15 v7 h0 h1)):=by
 intro n
 induction n with
 | zero=>exact ⟨fun _ _ h=>by simp only [R59] at h,fun _ _ _ _ h=>by simp only [R59_5] at h,fun _ _ _ _ h=>by simp only [R59_15] at h⟩
 | succ n ih =>
 obtain ⟨ih,ih5,ih15⟩:=ih
 refine ⟨?_,?_,?_⟩
 ·intro x0 ds h K q
  rw [R59] at h
  by_cases b0:(x0==0)=true
  ·rw [if_pos b0] at h
   subst h
   exact AtV.ret Tryz.func59 tabOk ext59Ok mixed false [] tys59 [true] (a1 b0 trivial) (by kernel_rfl)
  ·rw [if_neg b0] at h
   replace b0:=Bool.eq_false_iff.2 b0
   exact AtV.go tabOk ext59Ok mixed false [] [] [0,3,4] [0] [false] (a1 b0 trivial) (ih5 _ _ _ _ h K q) (by kernel_rfl)
 ·intro v4 h0 x0 ds h K q
  rw [R59_5] at h
  by_cases b0:(v4 != 0)=true
  ·rw [if_pos b0] at h
   obtain ⟨s0,h⟩:=h
   by_cases b1:(decide (Int.tmod v4 10<0))=true
   ·rw [if_pos b1] at h
    obtain ⟨s1,h⟩:=h
    obtain ⟨s2,h⟩:=h
    obtain ⟨s3,h⟩:=h
    obtain ⟨s4,h⟩:=h
    obtain ⟨s5,h⟩:=h
    exact AtV.go tabOk ext59Ok mixed false [] [] [0,3,4] [0] [true,true] (a1 b0 (a1 ((by decide):(10:Int)≠(0:Int)) (a1 s0 (a1 b1 (a1 s1 (a1 s2 (a1 s3 (a1 s4 (a1 ((by decide):(10:Int)≠(0:Int)) (a1 s5 trivial)))))))))) (ih5 _ _ _ _ h K q) (by kernel_rfl)
   ·rw [if_neg b1] at h
    replace b1:=Bool.eq_false_iff.2 b1
    obtain ⟨s1,h⟩:=h
    obtain ⟨s2,h⟩:=h
    obtain ⟨s3,h⟩:=h
    obtain ⟨s4,h⟩:=h
    exact AtV.go tabOk ext59Ok mixed false [] [] [0,3,4] [0] [true,false] (a1 b0 (a1 ((by decide):(10:Int)≠(0:Int)) (a1 s0 (a1 b1 (a1 s1 (a1 s2 (a1 s3 (a1 ((by decide):(10:Int)≠(0:Int)) (a1 s4 trivial))))))))) (ih5 _ _ _ _ h K q) (by kernel_rfl)
  ·rw [if_neg b0] at h
   replace b0:=Bool.eq_false_iff.2 b0
   by_cases b1:(decide (x0<0))=true
   ·rw [if_pos b1] at h
    obtain ⟨s0,h⟩:=h
    obtain ⟨s1,h⟩:=h
    exact AtV.go tabOk ext59Ok mixed false [] [] [3,6,7] [0,2] [false,true] (a1 b0 (a1 b1 (a1 s0 (a1 s1 trivial)))) (ih15 _ _ _ _ h K q) (by kernel_rfl)
   ·rw [if_neg b1] at h
    replace b1:=Bool.eq_false_iff.2 b1
    obtain ⟨s0,h⟩:=h
    exact AtV.go tabOk ext59Ok mixed false [] [] [3,6,7] [0,1] [false,false] (a1 b0 (a1 b1 (a1 s0 trivial))) (ih15 _ _ _ _ h K q) (by kernel_rfl)
 ·intro v7 h0 h1 ds h K q
  rw [R59_15] at h
  by_cases b0:(decide (v7≥0))=true
  ·rw [if_pos b0] at h
   obtain ⟨s0,s1,h⟩:=h
   obtain ⟨s2,h⟩:=h
   obtain ⟨s3,h⟩:=h
   exact AtV.go tabOk ext59Ok mixed false [] [] [3,6,7] [0,1] [true] (a1 b0 (a1 s0 (a1 s1 (a1 s2 (a1 s3 trivial))))) (ih15 _ _ _ _ h K q) (by kernel_rfl)
  ·rw [if_neg b0] at h
   replace b0:=Bool.eq_false_iff.2 b0
   subst h
   exact AtV.ret Tryz.func59 tabOk ext59Ok mixed false [] tys59 [false] (a1 b0 trivial) (by kernel_rfl)
def g59_0 (x0:Int):ByteArray:=numB x0
def P59 (x0:Int):Prop:=True
theorem bstr59 (xs:List Int):bytesStr xs=⟨⟨xs.map fun n=>UInt8.ofNat n.toNat⟩⟩:=by
 have key:∀ (xs:List Int) (s:ByteArray),(xs.foldl (fun r n=>r.push (UInt8.ofNat n.toNat)) s).data.toList=s.data.toList++xs.map fun n=>UInt8.ofNat n.toNat:=by
  intro xs
  induction xs with
  | nil=>intro s;simp
  | cons a r ih =>
   intro s
   rw [List.foldl_cons,ih]
   show (s.data.push _).toList++_=_
   rw [Array.toList_push]
   simp
 apply ByteArray.ext
 apply Array.ext'
 have:=key xs ByteArray.empty
 unfold bytesStr
 rw [this]
 rfl
theorem bstrB59 (l:List UInt8):bytesStr (l.map fun b=>(b.toNat:Int))=⟨⟨l⟩⟩:=by
 rw [bstr59,List.map_map]
 congr 2
 conv=>rhs;rw [← List.map_id l]
 refine List.map_congr_left fun b _ => ?_
 show UInt8.ofNat ((b.toNat:Int)).toNat=b
 rw [Int.toNat_natCast,UInt8.ofNat_toNat]
def rd59 (m:Nat):List Int:=if h:m=0 then [] else ((48+m % 10:Nat):Int) :: rd59 (m / 10)
termination_by m
decreasing_by omega
theorem rd059:rd59 0=[]:=by rw [rd59,dif_pos rfl]
theorem rds59 {m:Nat} (h:m≠0):rd59 m=((48+m % 10:Nat):Int) :: rd59 (m / 10):=by rw [rd59,dif_neg h]
theorem rdl59 : ∀ (k m : Nat), m < 10 ^ k → (rd59 m).length ≤ k
  | 0, m, h => by obtain rfl : m = 0 := by simpa using h
                  rw [rd059]; exact Nat.le_refl _
  | k + 1, m, h => by
    by_cases h0 : m = 0
    · rw [h0, rd059]; exact Nat.zero_le _
    · rw [rds59 h0, List.length_cons]
      have := rdl59 k (m / 10) (by rw [Nat.pow_succ] at h; omega)
      omega
theorem rdd59 (m:Nat) (h:m≠0):bytesStr (rd59 m).reverse=⟨⟨Lib.decDigits m⟩⟩:=by
 have key:∀ m:Nat,m≠0→(rd59 m).reverse=(Lib.decDigits m).map fun b=>(b.toNat:Int):=by
  intro m
  induction m using Nat.strongRecOn with
  | _ m ih =>
   intro h
   rw [rds59 h,List.reverse_cons,Lib.decDigits]
   have e:(UInt8.ofNat (48+m % 10)).toNat=48+m % 10:=by rw [UInt8.toNat_ofNat'];omega
   split
   ·rename_i hs
    rw [show m / 10=0 by omega,rd059]
    have e':(UInt8.ofNat (48+m)).toNat=48+m % 10:=by rw [UInt8.toNat_ofNat'];omega
    rw [List.map_singleton,e']
    rfl
   ·rw [ih (m / 10) (by omega) (by omega),List.map_append,List.map_singleton,e]
 rw [key m h]
 exact bstrB59 _
theorem back59 (h0:List Int):∀ (j:Nat) (h1:List Int),j≤h0.length→h1.length+j≤64→R59_15 (j+1) ((j:Int) - 1) h0 h1 [⟨.str,bytesStr (h1++(h0.take j).reverse)⟩]
 | 0,h1,_,_=>by
  rw [R59_15,if_neg (by decide)]
  simp
 | j+1,h1,hj,hl=>by
  have ih:=back59 h0 j (h1++[h0.getD j 0]) (by omega) (by rw [List.length_append,List.length_singleton];omega)
  have e:((j+1:Nat):Int) - 1=(j:Int):=by omega
  rw [R59_15,e,if_pos (by simp only [decide_eq_true_eq];omega),Int.toNat_natCast]
  refine ⟨by omega,by omega,by omega,by rw [i64_iff];omega,?_⟩
  have et:(h0.take (j+1)).reverse=h0.getD j 0 :: (h0.take j).reverse:=by
   have hlt:j<h0.length:=by omega
   rw [List.take_add_one,List.getElem?_eq_getElem hlt,List.reverse_append,List.getD_eq_getElem?_getD,List.getElem?_eq_getElem hlt]
   rfl
  rw [et]
  rw [List.append_assoc] at ih
  exact ih
theorem last59 (x0:Int) (h0:List Int) (hl:h0.length≤20):R59_5 ((if x0<0 then h0.length+1 else h0.length)+1+1) 0 h0 x0 [⟨.str,bytesStr ((if x0<0 then h0++[45] else h0)).reverse⟩]:=by
 rw [R59_5,if_neg (by decide)]
 by_cases hx:x0<0
 ·have b:=back59 (h0++[45]) (h0.length+1) [] (by rw [List.length_append,List.length_singleton];omega) (by simp;omega)
  have e:(h0++[(45:Int)]).length=h0.length+1:=by rw [List.length_append,List.length_singleton]
  rw [List.take_of_length_le (by omega)] at b
  simp only [hx,decide_true,if_true]
  rw [e]
  exact ⟨by omega,by rw [i64_iff];omega,b⟩
 ·have b:=back59 h0 h0.length [] (Nat.le_refl _) (by simp;omega)
  rw [List.take_of_length_le (Nat.le_refl _)] at b
  simp only [hx,decide_false,Bool.false_eq_true,if_false]
  exact ⟨by rw [i64_iff];omega,b⟩
theorem run59 (x0:Int) (ds:List Dyn) (F:List Int) (K:Nat) (hF:R59_5 K 0 F x0 ds):∀ (m:Nat) (v:Int) (h0:List Int),(v=(m:Int)∨v = -(m:Int))→m≤9223372036854775808→InR .i64 v→h0.length+(rd59 m).length≤20→h0++rd59 m=F→R59_5 ((rd59 m).length+K) v h0 x0 ds:=by
 intro m
 induction m using Nat.strongRecOn with
 | _ m ih =>
  intro v h0 hv hm hi hl he
  by_cases h:m=0
  ·subst h
   obtain rfl:v=0:=by omega
   rw [rd059] at he ⊢
   rw [List.append_nil] at he
   rw [he,List.length_nil,Nat.zero_add]
   exact hF
  ·have hr:=rds59 h
   rw [hr] at he hl ⊢
   rw [List.length_cons] at hl ⊢
   have hne:(v != 0)=true:=by
    have:v≠0:=by omega
    simpa using this
   rw [i64_iff] at hi
   have e1:(rd59 (m / 10)).length+1+K=((rd59 (m / 10)).length+K)+1:=by omega
   have next:∀ v',(v'=((m / 10:Nat):Int)∨v' = -((m / 10:Nat):Int))→R59_5 ((rd59 (m / 10)).length+K) v' (h0++[((48+m % 10:Nat):Int)]) x0 ds:=fun v' hv' =>
    ih (m / 10) (by omega) v' _ hv' (by omega) (by rw [i64_iff];omega) (by rw [List.length_append,List.length_singleton];omega) (by rw [List.append_assoc];exact he)
   rw [e1,R59_5,if_pos hne]
   rcases hv with rfl | rfl
   ·have t1:Int.tmod (m:Int) 10=((m % 10:Nat):Int):=rfl
    have t2:Int.tdiv (m:Int) 10=((m / 10:Nat):Int):=rfl
    rw [t1,t2]
    refine ⟨by rw [i64_iff];omega,?_⟩
    rw [if_neg (by simp only [decide_eq_true_eq];omega)]
    have e2:48+((m % 10:Nat):Int)=((48+m % 10:Nat):Int):=by omega
    rw [e2]
    exact ⟨by rw [i64_iff];omega,by rw [u8_iff];omega,by omega,by rw [i64_iff];omega,next _ (.inl rfl)⟩
   ·have t1:Int.tmod (-(m:Int)) 10 = -((m % 10:Nat):Int):=by rw [Int.neg_tmod];rfl
    have t2:Int.tdiv (-(m:Int)) 10 = -((m / 10:Nat):Int):=by rw [Int.neg_tdiv];rfl
    rw [t1,t2]
    refine ⟨by rw [i64_iff];omega,?_⟩
    by_cases hz:m % 10=0
    ·rw [if_neg (by simp only [decide_eq_true_eq];omega)]
     have e2:48 + -((m % 10:Nat):Int)=((48+m % 10:Nat):Int):=by omega
     rw [e2]
     exact ⟨by rw [i64_iff];omega,by rw [u8_iff];omega,by omega,by rw [i64_iff];omega,next _ (.inr rfl)⟩
    ·rw [if_pos (by simp only [decide_eq_true_eq];omega)]
     have e2:48+(0 - -((m % 10:Nat):Int))=((48+m % 10:Nat):Int):=by omega
     rw [e2]
     exact ⟨by rw [i64_iff];omega,by rw [i64_iff];omega,by rw [u8_iff];omega,by omega,by rw [i64_iff];omega,next _ (.inr rfl)⟩
theorem top59 (x0:Int) (hi:InR .i64 x0):∃ n,R59 n x0 [⟨.str,g59_0 x0⟩]:=by
 unfold g59_0 numB Lib.itoa
 by_cases h:x0=0
 ·subst h
  refine ⟨1,?_⟩
  rw [R59,if_pos (by rfl),if_neg (by decide)]
  have e:Lib.decDigits (Int.toNat 0)=[48]:=by rw [Lib.decDigits,dif_pos (by decide)];rfl
  rw [e]
 ·have hi':=hi
  rw [i64_iff] at hi'
  have hn:x0.natAbs≠0:=by omega
  have hl:=rdl59 19 x0.natAbs (by omega)
  refine ⟨(rd59 x0.natAbs).length+((if x0<0 then (rd59 x0.natAbs).length+1 else (rd59 x0.natAbs).length)+1+1)+1,?_⟩
  rw [R59,if_neg (by simpa using h)]
  have hlast:=last59 x0 (rd59 x0.natAbs) (by omega)
  have hrun:=run59 x0 _ (rd59 x0.natAbs) _ hlast x0.natAbs x0 [] (by omega) (by omega) hi (by simp;omega) rfl
  have e:bytesStr (if x0<0 then rd59 x0.natAbs++[45] else rd59 x0.natAbs).reverse=⟨(if x0<0 then 45 :: Lib.decDigits x0.natAbs else Lib.decDigits x0.toNat).toArray⟩:=by
   by_cases hx:x0<0
   ·rw [if_pos hx,if_pos hx,List.reverse_append]
    show bytesStr ((45:Int) :: (rd59 x0.natAbs).reverse)=_
    have:=rdd59 x0.natAbs hn
    have e0:bytesStr ((45:Int) :: (rd59 x0.natAbs).reverse)=⟨⟨45 :: (bytesStr (rd59 x0.natAbs).reverse).data.toList⟩⟩:=by rw [bstr59,bstr59];rfl
    rw [e0,this]
   ·rw [if_neg hx,if_neg hx,rdd59 x0.natAbs hn,show x0.natAbs=x0.toNat by omega]
  rw [e] at hrun
  exact hrun
def S59:Am.Spec:={ sig:=sig59,pre:=fun ⟨x0,_⟩=>P59 x0,res:=fun ⟨x0,_⟩=>[⟨.str,g59_0 x0⟩] }
theorem con59:Contract Tryz.prog 59 S59:=contract_of Tryz.func59 hb59 (Nat.le_of_ble_eq_true (by kernel_rfl)) (fun ⟨x0,_⟩ h hwf K q=>by
 obtain ⟨n,hn⟩:=top59 x0 hwf.1
 exact (snd59 n).1 x0 _ hn K q)
end
noncomputable section
def ext116:Ext:=[(114,S114)]
theorem ext116Ok:ExtOk Tryz.prog ext116:=⟨⟨ca114,con114⟩,trivial⟩
noncomputable def b116:Code:=bodyOf Tryz.f116
theorem hb116:Tryz.f116.body=some b116:=by kernel_rfl
def sig116:List AT:=[AT.p YA4,AT.v (Ty.int .i64),AT.v (Ty.int .i64)]
def tys116:List Ty:=[Ty.bool]
def kds116:List RK:=[]
def oks116:List AT:=owns sig116
def P116 (x0:Int×Int×Int×Int×Unit) (x1:Int) (x2:Int):Prop:=((InR .i64 (x1*x1))∧((InR .i64 (x0.2.2.1*x0.2.2.1))∧((InR .i64 (2*x0.1))∧((InR .i64 (x2 - x1))∧((InR .i64 (x2 - x1 - x0.2.2.2.1))∧((InR .i64 (2*x0.1*g114_0 0 (x2 - x1 - x0.2.2.2.1)))∧((InR .i64 (x0.2.2.1*x0.2.2.1+2*x0.1*g114_0 0 (x2 - x1 - x0.2.2.2.1)))∧True)))))))
def g116_0 (x0:Int×Int×Int×Int×Unit) (x1:Int) (x2:Int):Bool:=decide (x1*x1≤x0.2.2.1*x0.2.2.1+2*x0.1*g114_0 0 (x2 - x1 - x0.2.2.2.1))
theorem at116 (x0:Int×Int×Int×Int×Unit) (x1:Int) (x2:Int) (h:P116 x0 x1 x2) (K:Ctx) (q:Nat→Value):AtV Tryz.prog 116 (PostR kds116 oks116 [⟨Ty.bool,g116_0 x0 x1 x2⟩] [] [] q K) 36 K q [] [.code b116] (entE 0 0 sig116 (x0,x1,x2,())) (entL sig116 (x0,x1,x2,())):=by
 unfold P116 at h
 unfold g116_0
 obtain ⟨s0,h⟩:=h
 obtain ⟨s1,h⟩:=h
 obtain ⟨s2,h⟩:=h
 obtain ⟨s3,h⟩:=h
 obtain ⟨s4,h⟩:=h
 obtain ⟨s5,h⟩:=h
 obtain ⟨s6,h⟩:=h
 exact AtV.ret Tryz.func116 tabOk ext116Ok mixed false [] tys116 [] (a1 s0 (a1 s1 (a1 s2 (a1 s3 (a1 s4 (a1 trivial (a1 s5 (a1 s6 trivial)))))))) (by kernel_rfl)
def S116:Am.Spec:={ sig:=sig116,pre:=fun ⟨x0,x1,x2,_⟩=>P116 x0 x1 x2,res:=fun ⟨x0,x1,x2,_⟩=>[⟨Ty.bool,g116_0 x0 x1 x2⟩],kds:=kds116 }
theorem con116:Contract Tryz.prog 116 S116:=contract_of Tryz.func116 hb116 (Nat.le_of_ble_eq_true (by kernel_rfl)) (fun ⟨x0,x1,x2,_⟩ h _ K q=>at116 x0 x1 x2 h K q)
end
noncomputable section
def ext89:Ext:=[(115,S115),(114,S114),(116,S116)]
theorem ext89Ok:ExtOk Tryz.prog ext89:=⟨⟨ca115,con115⟩,⟨ca114,con114⟩,⟨ca116,con116⟩,trivial⟩
noncomputable def b89:Code:=bodyOf Tryz.f89
theorem hb89:Tryz.f89.body=some b89:=by kernel_rfl
def sig89:List AT:=[AT.p YA4,AT.v (Ty.int .i64),AT.v (Ty.int .i64)]
def tys89:List Ty:=[Ty.int .i64]
def kds89:List RK:=[]
def oks89:List AT:=owns sig89
def E89_3 (v7:Int) (v8:Int) (x0:Int×Int×Int×Int×Unit) (x2:Int):Env:=[(0,PV.a (Atom.ptr YA4 x0)),(2,PV.a (Atom.val (Value.int .i64 x2))),(7,PV.a (Atom.val (Value.int .i64 v7))),(8,PV.a (Atom.val (Value.int .i64 v8)))]
def L89_3 (v7:Int) (v8:Int) (x0:Int×Int×Int×Int×Unit) (x2:Int):Heap:=[]
mutual
def R89:Nat→Int×Int×Int×Int×Unit→Int→Int→List Dyn→Prop
 | 0,_,_,_,_=>False
 | n+1,x0,x1,x2,ds=>((InR .i64 (x1+x0.1))∧(R89_3 n x0.2.2.1 (g114_0 x0.2.2.1 (g115_0 x0.2.1 (x1+x0.1))) (x0) (x2) ds))
def R89_3:Nat→Int→Int→Int×Int×Int×Int×Unit→Int→List Dyn→Prop
 | 0,_,_,_,_,_=>False
 | n+1,v7,v8,x0,x2,ds=>(if (decide (v7<v8))=true then ((InR .i64 (v7+v8))∧((InR .i64 (v7+v8+1))∧((InR .i64 (Int.tdiv (v7+v8+1) 2))∧((P116 x0 (Int.tdiv (v7+v8+1) 2) x2)∧(if (g116_0 x0 (Int.tdiv (v7+v8+1) 2) x2)=true then (R89_3 n (Int.tdiv (v7+v8+1) 2) (v8) (x0) (x2) ds) else ((InR .i64 (Int.tdiv (v7+v8+1) 2 - 1))∧(R89_3 n (v7) (Int.tdiv (v7+v8+1) 2 - 1) (x0) (x2) ds))))))) else (ds=[Dyn.mk (Ty.int .i64) (g115_0 v7 x2)]))
end
theorem snd89:∀ n,(∀ (x0:Int×Int×Int×Int×Unit) (x1:Int) (x2:Int) ds,R89 n x0 x1 x2 ds→∀ K q,AtV Tryz.prog 89 (PostR kds89 oks89 ds [] [] q K) 48 K q [] [.code b89] (entE 0 0 sig89 (x0,x1,x2,())) (entL sig89 (x0,x1,x2,())))∧(∀ (v7:Int) (v8:Int) (x0:Int×Int×Int×Int×Unit) (x2:Int) ds,R89_3 n v7 v8 x0 x2 ds→∀ K q,AtV Tryz.prog 89 (PostR kds89 oks89 ds [] [] q K) 48 K q [] (cutAt b89 3) (E89_3 v7 v8 x0 x2) (L89_3 v7 v8 x0 x2)):=by
 intro n
 induction n with
 | zero=>exact ⟨fun _ _ _ _ h=>by simp only [R89] at h,fun _ _ _ _ _ h=>by simp only [R89_3] at h⟩
 | succ n ih =>
 obtain ⟨ih,ih3⟩:=ih
 refine ⟨?_,?_⟩
 ·intro x0 x1 x2 ds h K q
  rw [R89] at h
  obtain ⟨s0,h⟩:=h
  exact AtV.go tabOk ext89Ok mixed false [] [] [0,2,7,8] [] [] (a1 s0 (a1 trivial (a1 trivial trivial))) (ih3 _ _ _ _ _ h K q) (by kernel_rfl)
 ·intro v7 v8 x0 x2 ds h K q
  rw [R89_3] at h
  by_cases b0:(decide (v7<v8))=true
  ·rw [if_pos b0] at h
   obtain ⟨s0,h⟩:=h
   obtain ⟨s1,h⟩:=h
   obtain ⟨s2,h⟩:=h
   obtain ⟨s3,h⟩:=h
   by_cases b1:(g116_0 x0 (Int.tdiv (v7+v8+1) 2) x2)=true
   ·rw [if_pos b1] at h
    exact AtV.go tabOk ext89Ok mixed false [] [] [0,2,7,8] [] [true,true] (a1 b0 (a1 s0 (a1 s1 (a1 ((by decide):(2:Int)≠(0:Int)) (a1 s2 (a1 s3 (a1 b1 trivial))))))) (ih3 _ _ _ _ _ h K q) (by kernel_rfl)
   ·rw [if_neg b1] at h
    replace b1:=Bool.eq_false_iff.2 b1
    obtain ⟨s4,h⟩:=h
    exact AtV.go tabOk ext89Ok mixed false [] [] [0,2,7,8] [] [true,false] (a1 b0 (a1 s0 (a1 s1 (a1 ((by decide):(2:Int)≠(0:Int)) (a1 s2 (a1 s3 (a1 b1 (a1 s4 trivial)))))))) (ih3 _ _ _ _ _ h K q) (by kernel_rfl)
  ·rw [if_neg b0] at h
   replace b0:=Bool.eq_false_iff.2 b0
   subst h
   exact AtV.ret Tryz.func89 tabOk ext89Ok mixed false [] tys89 [false] (a1 b0 (a1 trivial trivial)) (by kernel_rfl)
def top89 (x0:Int×Int×Int×Int×Unit) (x1:Int):Int:=g114_0 x0.2.2.1 (g115_0 x0.2.1 (x1+x0.1))
def g89_0 (x0:Int×Int×Int×Int×Unit) (x1 x2:Int):Int:=g115_0 (bsS (fun v=>g116_0 x0 v x2) (top89 x0 x1 - x0.2.2.1).toNat x0.2.2.1 (top89 x0 x1)) x2
def P89 (x0:Int×Int×Int×Int×Unit) (x1 x2:Int):Prop:=(0≤x0.1∧x0.1≤2000)∧(0≤x0.2.1∧x0.2.1≤15000)∧(0≤x0.2.2.1∧x0.2.2.1≤15000)∧(0≤x1∧x1≤15000)∧∀ v,0≤v→v≤20000→P116 x0 v x2
theorem top89_le (x0:Int×Int×Int×Int×Unit) (x1 x2:Int) (h:P89 x0 x1 x2):x0.2.2.1≤top89 x0 x1∧top89 x0 x1≤15000:=by
 obtain ⟨h1,h2,h3,h4,_⟩:=h
 unfold top89 g114_0 g115_0
 simp only [decide_eq_true_eq,gt_iff_lt]
 split <;> split <;> omega
theorem run89 (x0:Int×Int×Int×Int×Unit) (x2:Int) (hp:∀ v,0≤v→v≤20000→P116 x0 v x2):∀ (k:Nat) (lo hi:Int),0≤lo→lo≤hi→hi≤15000→hi - lo≤(k:Int) →
  R89_3 (k+1) lo hi x0 x2 [⟨.int .i64,g115_0 (bsS (fun v=>g116_0 x0 v x2) k lo hi) x2⟩]:=by
 intro k
 induction k with
 | zero =>
  intro lo hi h0 h1 h2 h3
  rw [R89_3,if_neg (by simp only [decide_eq_true_eq];omega)]
  rfl
 | succ k ih =>
  intro lo hi h0 h1 h2 h3
  unfold bsS
  by_cases hlt:lo<hi
  ·obtain ⟨m1,m2⟩:=half_up h0 hlt
   rw [R89_3,if_pos (by simpa using hlt),if_pos hlt]
   refine ⟨by rw [i64_iff];omega,by rw [i64_iff];omega,by rw [i64_iff];omega,hp _ (by omega) (by omega),?_⟩
   by_cases hc:g116_0 x0 (Int.tdiv (lo+hi+1) 2) x2=true
   ·rw [if_pos hc,if_pos hc]
    exact ih _ hi (by omega) m2 h2 (by omega)
   ·rw [if_neg hc,if_neg hc]
    exact ⟨by rw [i64_iff];omega,ih lo _ h0 (by omega) (by omega) (by omega)⟩
  ·rw [R89_3,if_neg (by simpa using hlt),if_neg hlt]
theorem all89 (x0:Int×Int×Int×Int×Unit) (x1 x2:Int) (h:P89 x0 x1 x2):R89 ((top89 x0 x1 - x0.2.2.1).toNat+1+1) x0 x1 x2 [⟨.int .i64,g89_0 x0 x1 x2⟩]:=by
 obtain ⟨t1,t2⟩:=top89_le x0 x1 x2 h
 obtain ⟨h1,h2,h3,h4,h5⟩:=h
 rw [R89]
 exact ⟨by rw [i64_iff];omega,run89 x0 x2 h5 _ _ (top89 x0 x1) h3.1 t1 t2 (by omega)⟩
def S89:Am.Spec:={ sig:=sig89,pre:=fun ⟨x0,x1,x2,_⟩=>P89 x0 x1 x2,res:=fun ⟨x0,x1,x2,_⟩=>[⟨.int .i64,g89_0 x0 x1 x2⟩] }
theorem con89:Contract Tryz.prog 89 S89:=contract_of Tryz.func89 hb89 (Nat.le_of_ble_eq_true (by kernel_rfl)) (fun ⟨x0,x1,x2,_⟩ h hwf K q =>
 (snd89 _).1 x0 x1 x2 _ (all89 x0 x1 x2 h) K q)
end
noncomputable section
def ext154:Ext:=[]
theorem ext154Ok:ExtOk Tryz.prog ext154:=trivial
noncomputable def b154:Code:=bodyOf Tryz.f154
theorem hb154:Tryz.f154.body=some b154:=by kernel_rfl
def sig154:List AT:=[AT.p YA2,AT.v (Ty.int .i64)]
def tys154:List Ty:=[Ty.int .i64]
def kds154:List RK:=[]
def oks154:List AT:=owns sig154
def E154_2 (v5:Int) (x0:List TyB4×Int×Int×Unit) (x1:Int):Env:=[(0,PV.a (Atom.ptr YA2 x0)),(1,PV.a (Atom.val (Value.int .i64 x1))),(5,PV.a (Atom.val (Value.int .i64 v5)))]
def L154_2 (v5:Int) (x0:List TyB4×Int×Int×Unit) (x1:Int):Heap:=[]
mutual
def R154:Nat→List TyB4×Int×Int×Unit→Int→List Dyn→Prop
 | 0,_,_,_=>False
 | n+1,x0,x1,ds=>(R154_2 n (0) (x0) (x1) ds)
def R154_2:Nat→Int→List TyB4×Int×Int×Unit→Int→List Dyn→Prop
 | 0,_,_,_,_=>False
 | n+1,v5,x0,x1,ds=>((InR .i64 ((↑(List.length x0.1):Int) - 1))∧(if (decide (v5<(↑(List.length x0.1):Int) - 1))=true then ((0≤v5)∧(v5<(↑(List.length x0.1):Int))∧(if (decide (x1≥(List.getD x0.1 (Int.toNat v5) (0,0,())).1))=true then ((0≤v5)∧(v5<(↑(List.length x0.1):Int))∧((InR .i64 (x1 - (List.getD x0.1 (Int.toNat v5) (0,0,())).1))∧((InR .i64 (v5+1))∧(R154_2 n (v5+1) (x0) (x1 - (List.getD x0.1 (Int.toNat v5) (0,0,())).1) ds)))) else (ds=[Dyn.mk (Ty.int .i64) v5]))) else (ds=[Dyn.mk (Ty.int .i64) v5])))
end
theorem snd154:∀ n,(∀ (x0:List TyB4×Int×Int×Unit) (x1:Int) ds,R154 n x0 x1 ds→∀ K q,AtV Tryz.prog 154 (PostR kds154 oks154 ds [] [] q K) 39 K q [] [.code b154] (entE 0 0 sig154 (x0,x1,())) (entL sig154 (x0,x1,())))∧(∀ (v5:Int) (x0:List TyB4×Int×Int×Unit) (x1:Int) ds,R154_2 n v5 x0 x1 ds→∀ K q,AtV Tryz.prog 154 (PostR kds154 oks154 ds [] [] q K) 39 K q [] (cutAt b154 2) (E154_2 v5 x0 x1) (L154_2 v5 x0 x1)):=by
 intro n
 induction n with
 | zero=>exact ⟨fun _ _ _ h=>by simp only [R154] at h,fun _ _ _ _ h=>by simp only [R154_2] at h⟩
 | succ n ih =>
 obtain ⟨ih,ih2⟩:=ih
 refine ⟨?_,?_⟩
 ·intro x0 x1 ds h K q
  rw [R154] at h
  exact AtV.go tabOk ext154Ok mixed false [] [] [0,1,5] [] [] trivial (ih2 _ _ _ _ h K q) (by kernel_rfl)
 ·intro v5 x0 x1 ds h K q
  rw [R154_2] at h
  obtain ⟨s0,h⟩:=h
  by_cases b0:(decide (v5<(↑(List.length x0.1):Int) - 1))=true
  ·rw [if_pos b0] at h
   obtain ⟨s1,s2,h⟩:=h
   by_cases b1:(decide (x1≥(List.getD x0.1 (Int.toNat v5) (0,0,())).1))=true
   ·rw [if_pos b1] at h
    obtain ⟨s3,s4,h⟩:=h
    obtain ⟨s5,h⟩:=h
    obtain ⟨s6,h⟩:=h
    exact AtV.go tabOk ext154Ok mixed false [] [] [0,1,5] [] [true,true] (a1 s0 (a1 b0 (a1 s1 (a1 s2 (a1 b1 (a1 s3 (a1 s4 (a1 s5 (a1 s6 trivial))))))))) (ih2 _ _ _ _ h K q) (by kernel_rfl)
   ·rw [if_neg b1] at h
    replace b1:=Bool.eq_false_iff.2 b1
    subst h
    exact AtV.ret Tryz.func154 tabOk ext154Ok mixed false [] tys154 [true,false] (a1 s0 (a1 b0 (a1 s1 (a1 s2 (a1 b1 trivial))))) (by kernel_rfl)
  ·rw [if_neg b0] at h
   replace b0:=Bool.eq_false_iff.2 b0
   subst h
   exact AtV.ret Tryz.func154 tabOk ext154Ok mixed false [] tys154 [false,false] (a1 s0 (a1 b0 (a1 (rfl:false=false) trivial))) (by kernel_rfl)
def at154 (xs:List TyB4):Nat→Nat→Int→Int
 | 0,i,_=>(i:Int)
 | k+1,i,x=>if (i:Int)<(xs.length:Int) - 1 then (if x≥(xs.getD i ((0:Int),(0:Int),())).1 then at154 xs k (i+1) (x - (xs.getD i ((0:Int),(0:Int),())).1) else (i:Int)) else (i:Int)
def g154_0 (x0:List TyB4×Int×Int×Unit) (x1:Int):Int:=at154 x0.1 x0.1.length 0 x1
def P154 (x0:List TyB4×Int×Int×Unit) (x1:Int):Prop:=(1≤x0.1.length∧x0.1.length≤1000)∧(∀ x∈x0.1,0≤x.1∧x.1≤3000000)∧(0≤x1∧x1≤1000000000)
theorem run154 (x0:List TyB4×Int×Int×Unit) (hl:1≤x0.1.length∧x0.1.length≤1000) (hx:∀ x∈x0.1,0≤x.1∧x.1≤3000000):∀ (k i:Nat) (x:Int),i+k=x0.1.length→(0≤x∧x≤1000000000)→i<x0.1.length →
  (0≤at154 x0.1 k i x∧at154 x0.1 k i x<(x0.1.length:Int))∧R154_2 (k+1) (i:Int) x0 x [⟨.int .i64,at154 x0.1 k i x⟩]:=by
 intro k
 induction k with
 | zero =>
  intro i x hi _ hl
  omega
 | succ k ih =>
  intro i x hi hb hlt
  have hm:=hx _ (mem_getD x0.1 i ((0:Int),(0:Int),()) hlt)
  unfold at154
  by_cases h1:(i:Int)<(x0.1.length:Int) - 1
  ·rw [if_pos h1]
   by_cases h2:x≥(x0.1.getD i ((0:Int),(0:Int),())).1
   ·rw [if_pos h2]
    obtain ⟨a1,a2⟩:=ih (i+1) (x - (x0.1.getD i ((0:Int),(0:Int),())).1) (by omega) (by omega) (by omega)
    refine ⟨a1,?_⟩
    rw [R154_2]
    refine ⟨by rw [i64_iff];omega,?_⟩
    rw [if_pos (by simpa using h1)]
    simp only [Int.toNat_natCast]
    refine ⟨by omega,by omega,?_⟩
    rw [if_pos (by simpa using h2)]
    exact ⟨by omega,by omega,by rw [i64_iff];omega,by rw [i64_iff];omega,a2⟩
   ·rw [if_neg h2]
    refine ⟨by omega,?_⟩
    rw [R154_2]
    refine ⟨by rw [i64_iff];omega,?_⟩
    rw [if_pos (by simpa using h1)]
    simp only [Int.toNat_natCast]
    refine ⟨by omega,by omega,?_⟩
    rw [if_neg (by simpa using h2)] <;> trivial
  ·rw [if_neg h1]
   refine ⟨by omega,?_⟩
   rw [R154_2]
   refine ⟨by rw [i64_iff];omega,?_⟩
   rw [if_neg (by simpa using h1)] <;> trivial
theorem in154 (x0:List TyB4×Int×Int×Unit) (x1:Int) (h:P154 x0 x1):0≤g154_0 x0 x1∧g154_0 x0 x1<(x0.1.length:Int) :=
 (run154 x0 h.1 h.2.1 x0.1.length 0 x1 (by omega) h.2.2 (by have:=h.1;omega)).1
theorem top154 (x0:List TyB4×Int×Int×Unit) (x1:Int) (h:P154 x0 x1):R154 (x0.1.length+1+1) x0 x1 [⟨.int .i64,g154_0 x0 x1⟩]:=by
 rw [R154]
 exact (run154 x0 h.1 h.2.1 x0.1.length 0 x1 (by omega) h.2.2 (by have:=h.1;omega)).2
def S154:Am.Spec:={ sig:=sig154,pre:=fun ⟨x0,x1,_⟩=>P154 x0 x1,res:=fun ⟨x0,x1,_⟩=>[⟨.int .i64,g154_0 x0 x1⟩] }
theorem con154:Contract Tryz.prog 154 S154:=contract_of Tryz.func154 hb154 (Nat.le_of_ble_eq_true (by kernel_rfl)) (fun ⟨x0,x1,_⟩ h hwf K q =>
 (snd154 _).1 x0 x1 _ (top154 x0 x1 h) K q)
end
noncomputable section
def ext139:Ext:=[(154,S154)]
theorem ext139Ok:ExtOk Tryz.prog ext139:=⟨⟨ca154,con154⟩,trivial⟩
noncomputable def b139:Code:=bodyOf Tryz.f139
theorem hb139:Tryz.f139.body=some b139:=by kernel_rfl
def sig139:List AT:=[AT.p YA2,AT.v (Ty.int .i64)]
def tys139:List Ty:=[Ty.int .i64]
def kds139:List RK:=[]
def oks139:List AT:=owns sig139
def P139 (x0:List TyB4×Int×Int×Unit) (x1:Int):Prop:=((P154 x0 x1)∧((0≤g154_0 x0 x1)∧(g154_0 x0 x1<(↑(List.length x0.1):Int))∧True))
def g139_0 (x0:List TyB4×Int×Int×Unit) (x1:Int):Int:=(List.getD x0.1 (Int.toNat (g154_0 x0 x1)) (0,0,())).2.1
theorem at139 (x0:List TyB4×Int×Int×Unit) (x1:Int) (h:P139 x0 x1) (K:Ctx) (q:Nat→Value):AtV Tryz.prog 139 (PostR kds139 oks139 [⟨Ty.int .i64,g139_0 x0 x1⟩] [] [] q K) 15 K q [] [.code b139] (entE 0 0 sig139 (x0,x1,())) (entL sig139 (x0,x1,())):=by
 unfold P139 at h
 unfold g139_0
 obtain ⟨s0,h⟩:=h
 obtain ⟨s1,s2,h⟩:=h
 exact AtV.ret Tryz.func139 tabOk ext139Ok mixed false [] tys139 [] (a1 s0 (a1 s1 (a1 s2 trivial))) (by kernel_rfl)
def S139:Am.Spec:={ sig:=sig139,pre:=fun ⟨x0,x1,_⟩=>P139 x0 x1,res:=fun ⟨x0,x1,_⟩=>[⟨Ty.int .i64,g139_0 x0 x1⟩],kds:=kds139 }
theorem con139:Contract Tryz.prog 139 S139:=contract_of Tryz.func139 hb139 (Nat.le_of_ble_eq_true (by kernel_rfl)) (fun ⟨x0,x1,_⟩ h _ K q=>at139 x0 x1 h K q)
end
noncomputable section
def ext168:Ext:=[]
theorem ext168Ok:ExtOk Tryz.prog ext168:=trivial
noncomputable def b168:Code:=bodyOf Tryz.f168
theorem hb168:Tryz.f168.body=some b168:=by kernel_rfl
def sig168:List AT:=[AT.v (Ty.int .i64),AT.v (Ty.int .i64)]
def tys168:List Ty:=[Ty.int .i64]
def kds168:List RK:=[]
def oks168:List AT:=owns sig168
def P168 (x0:Int) (x1:Int):Prop:=(if (decide (x1<0))=true then ((InR .i64 (0 - x0))∧((InR .i64 (0 - x1))∧(if (decide (0 - x0<0))=true then ((InR .i64 (2*(0 - x0)))∧((InR .i64 (0 - x1 - 2*(0 - x0)))∧((InR .i64 (2*(0 - x1)))∧((2*(0 - x1)≠0)∧(InR .i64 (Int.tdiv (0 - x1 - 2*(0 - x0)) (2*(0 - x1))))∧((InR .i64 (0 - Int.tdiv (0 - x1 - 2*(0 - x0)) (2*(0 - x1))))∧True))))) else ((InR .i64 (2*(0 - x0)))∧((InR .i64 (2*(0 - x0)+(0 - x1)))∧((InR .i64 (2*(0 - x1)))∧((2*(0 - x1)≠0)∧(InR .i64 (Int.tdiv (2*(0 - x0)+(0 - x1)) (2*(0 - x1))))∧True))))))) else (if (decide (x0<0))=true then ((InR .i64 (2*x0))∧((InR .i64 (x1 - 2*x0))∧((InR .i64 (2*x1))∧((2*x1≠0)∧(InR .i64 (Int.tdiv (x1 - 2*x0) (2*x1)))∧((InR .i64 (0 - Int.tdiv (x1 - 2*x0) (2*x1)))∧True))))) else ((InR .i64 (2*x0))∧((InR .i64 (2*x0+x1))∧((InR .i64 (2*x1))∧((2*x1≠0)∧(InR .i64 (Int.tdiv (2*x0+x1) (2*x1)))∧True))))))
def g168_0 (x0:Int) (x1:Int):Int:=(if (decide (x1<0))=true then (if (decide (0 - x0<0))=true then 0 - Int.tdiv (0 - x1 - 2*(0 - x0)) (2*(0 - x1)) else Int.tdiv (2*(0 - x0)+(0 - x1)) (2*(0 - x1))) else (if (decide (x0<0))=true then 0 - Int.tdiv (x1 - 2*x0) (2*x1) else Int.tdiv (2*x0+x1) (2*x1)))
theorem at168 (x0:Int) (x1:Int) (h:P168 x0 x1) (K:Ctx) (q:Nat→Value):AtV Tryz.prog 168 (PostR kds168 oks168 [⟨Ty.int .i64,g168_0 x0 x1⟩] [] [] q K) 28 K q [] [.code b168] (entE 0 0 sig168 (x0,x1,())) (entL sig168 (x0,x1,())):=by
 unfold P168 at h
 unfold g168_0
 by_cases b0:(decide (x1<0))=true
 ·try simp only [if_pos b0] at h ⊢
  obtain ⟨s0,h⟩:=h
  obtain ⟨s1,h⟩:=h
  by_cases b1:(decide (0 - x0<0))=true
  ·try simp only [if_pos b1] at h ⊢
   obtain ⟨s2,h⟩:=h
   obtain ⟨s3,h⟩:=h
   obtain ⟨s4,h⟩:=h
   obtain ⟨s5,s6,h⟩:=h
   obtain ⟨s7,h⟩:=h
   exact AtV.ret Tryz.func168 tabOk ext168Ok mixed false [] tys168 [true,true] (a1 b0 (a1 s0 (a1 s1 (a1 b1 (a1 s2 (a1 s3 (a1 s4 (a1 s5 (a1 s6 (a1 s7 trivial)))))))))) (by kernel_rfl)
  ·try simp only [if_neg b1] at h ⊢
   replace b1:=Bool.eq_false_iff.2 b1
   obtain ⟨s2,h⟩:=h
   obtain ⟨s3,h⟩:=h
   obtain ⟨s4,h⟩:=h
   obtain ⟨s5,s6,h⟩:=h
   exact AtV.ret Tryz.func168 tabOk ext168Ok mixed false [] tys168 [true,false] (a1 b0 (a1 s0 (a1 s1 (a1 b1 (a1 s2 (a1 s3 (a1 s4 (a1 s5 (a1 s6 trivial))))))))) (by kernel_rfl)
 ·try simp only [if_neg b0] at h ⊢
  replace b0:=Bool.eq_false_iff.2 b0
  by_cases b1:(decide (x0<0))=true
  ·try simp only [if_pos b1] at h ⊢
   obtain ⟨s0,h⟩:=h
   obtain ⟨s1,h⟩:=h
   obtain ⟨s2,h⟩:=h
   obtain ⟨s3,s4,h⟩:=h
   obtain ⟨s5,h⟩:=h
   exact AtV.ret Tryz.func168 tabOk ext168Ok mixed false [] tys168 [false,true] (a1 b0 (a1 b1 (a1 s0 (a1 s1 (a1 s2 (a1 s3 (a1 s4 (a1 s5 trivial)))))))) (by kernel_rfl)
  ·try simp only [if_neg b1] at h ⊢
   replace b1:=Bool.eq_false_iff.2 b1
   obtain ⟨s0,h⟩:=h
   obtain ⟨s1,h⟩:=h
   obtain ⟨s2,h⟩:=h
   obtain ⟨s3,s4,h⟩:=h
   exact AtV.ret Tryz.func168 tabOk ext168Ok mixed false [] tys168 [false,false] (a1 b0 (a1 b1 (a1 s0 (a1 s1 (a1 s2 (a1 s3 (a1 s4 trivial))))))) (by kernel_rfl)
def S168:Am.Spec:={ sig:=sig168,pre:=fun ⟨x0,x1,_⟩=>P168 x0 x1,res:=fun ⟨x0,x1,_⟩=>[⟨Ty.int .i64,g168_0 x0 x1⟩],kds:=kds168 }
theorem con168:Contract Tryz.prog 168 S168:=contract_of Tryz.func168 hb168 (Nat.le_of_ble_eq_true (by kernel_rfl)) (fun ⟨x0,x1,_⟩ h _ K q=>at168 x0 x1 h K q)
end
noncomputable section
def ext155:Ext:=[(168,S168)]
theorem ext155Ok:ExtOk Tryz.prog ext155:=⟨⟨ca168,con168⟩,trivial⟩
noncomputable def b155:Code:=bodyOf Tryz.f155
theorem hb155:Tryz.f155.body=some b155:=by kernel_rfl
def sig155:List AT:=[AT.p YA9,AT.v (Ty.int .i64),AT.v (Ty.bool)]
def tys155:List Ty:=[Ty.int .i64]
def kds155:List RK:=[]
def oks155:List AT:=owns sig155
def P155 (x0:Int×Int×Unit) (x1:Int) (x2:Bool):Prop:=(if (x2)=true then ((InR .i64 (x1*981))∧((P168 (x1*981) 100)∧((InR .i64 (x0.2.1 - g168_0 (x1*981) 100))∧True))) else ((InR .i64 (x1*981))∧((P168 (x1*981) 100)∧((InR .i64 (x0.2.1+g168_0 (x1*981) 100))∧True))))
def g155_0 (x0:Int×Int×Unit) (x1:Int) (x2:Bool):Int:=(if (x2)=true then x0.2.1 - g168_0 (x1*981) 100 else x0.2.1+g168_0 (x1*981) 100)
theorem at155 (x0:Int×Int×Unit) (x1:Int) (x2:Bool) (h:P155 x0 x1 x2) (K:Ctx) (q:Nat→Value):AtV Tryz.prog 155 (PostR kds155 oks155 [⟨Ty.int .i64,g155_0 x0 x1 x2⟩] [] [] q K) 24 K q [] [.code b155] (entE 0 0 sig155 (x0,x1,x2,())) (entL sig155 (x0,x1,x2,())):=by
 unfold P155 at h
 unfold g155_0
 by_cases b0:(x2)=true
 ·try simp only [if_pos b0] at h ⊢
  obtain ⟨s0,h⟩:=h
  obtain ⟨s1,h⟩:=h
  obtain ⟨s2,h⟩:=h
  exact AtV.ret Tryz.func155 tabOk ext155Ok mixed false [] tys155 [true] (a1 b0 (a1 s0 (a1 s1 (a1 s2 trivial)))) (by kernel_rfl)
 ·try simp only [if_neg b0] at h ⊢
  replace b0:=Bool.eq_false_iff.2 b0
  obtain ⟨s0,h⟩:=h
  obtain ⟨s1,h⟩:=h
  obtain ⟨s2,h⟩:=h
  exact AtV.ret Tryz.func155 tabOk ext155Ok mixed false [] tys155 [false] (a1 b0 (a1 s0 (a1 s1 (a1 s2 trivial)))) (by kernel_rfl)
def S155:Am.Spec:={ sig:=sig155,pre:=fun ⟨x0,x1,x2,_⟩=>P155 x0 x1 x2,res:=fun ⟨x0,x1,x2,_⟩=>[⟨Ty.int .i64,g155_0 x0 x1 x2⟩],kds:=kds155 }
theorem con155:Contract Tryz.prog 155 S155:=contract_of Tryz.func155 hb155 (Nat.le_of_ble_eq_true (by kernel_rfl)) (fun ⟨x0,x1,x2,_⟩ h _ K q=>at155 x0 x1 x2 h K q)
end
noncomputable section
def ext156:Ext:=[]
theorem ext156Ok:ExtOk Tryz.prog ext156:=trivial
noncomputable def b156:Code:=bodyOf Tryz.f156
theorem hb156:Tryz.f156.body=some b156:=by kernel_rfl
def sig156:List AT:=[AT.v (Ty.int .i64),AT.v (Ty.int .i64)]
def tys156:List Ty:=[Ty.int .i64]
def kds156:List RK:=[]
def oks156:List AT:=owns sig156
def P156 (x0:Int) (x1:Int):Prop:=((InR .i64 (x0+x1))∧((InR .i64 (x0+x1 - 1))∧((x1≠0)∧(InR .i64 (Int.tdiv (x0+x1 - 1) x1))∧True)))
def g156_0 (x0:Int) (x1:Int):Int:=Int.tdiv (x0+x1 - 1) x1
theorem at156 (x0:Int) (x1:Int) (h:P156 x0 x1) (K:Ctx) (q:Nat→Value):AtV Tryz.prog 156 (PostR kds156 oks156 [⟨Ty.int .i64,g156_0 x0 x1⟩] [] [] q K) 11 K q [] [.code b156] (entE 0 0 sig156 (x0,x1,())) (entL sig156 (x0,x1,())):=by
 unfold P156 at h
 unfold g156_0
 obtain ⟨s0,h⟩:=h
 obtain ⟨s1,h⟩:=h
 obtain ⟨s2,s3,h⟩:=h
 exact AtV.ret Tryz.func156 tabOk ext156Ok mixed false [] tys156 [] (a1 s0 (a1 s1 (a1 s2 (a1 s3 trivial)))) (by kernel_rfl)
def S156:Am.Spec:={ sig:=sig156,pre:=fun ⟨x0,x1,_⟩=>P156 x0 x1,res:=fun ⟨x0,x1,_⟩=>[⟨Ty.int .i64,g156_0 x0 x1⟩],kds:=kds156 }
theorem con156:Contract Tryz.prog 156 S156:=contract_of Tryz.func156 hb156 (Nat.le_of_ble_eq_true (by kernel_rfl)) (fun ⟨x0,x1,_⟩ h _ K q=>at156 x0 x1 h K q)
end
noncomputable section
def ext140:Ext:=[(155,S155),(156,S156)]
theorem ext140Ok:ExtOk Tryz.prog ext140:=⟨⟨ca155,con155⟩,⟨ca156,con156⟩,trivial⟩
noncomputable def b140:Code:=bodyOf Tryz.f140
theorem hb140:Tryz.f140.body=some b140:=by kernel_rfl
def sig140:List AT:=[AT.p YA9,AT.v (Ty.int .i64),AT.v (Ty.int .i64),AT.v (Ty.bool)]
def tys140:List Ty:=[Ty.int .i64]
def kds140:List RK:=[]
def oks140:List AT:=owns sig140
def P140 (x0:Int×Int×Unit) (x1:Int) (x2:Int) (x3:Bool):Prop:=((P155 x0 x2 x3)∧(if (decide (g155_0 x0 x2 x3≤0))=true then True else ((InR .i64 (x1*x0.1))∧((P156 (x1*x0.1) 10)∧((InR .i64 (x1*x1))∧((InR .i64 (2*g155_0 x0 x2 x3))∧((P156 (x1*x1) (2*g155_0 x0 x2 x3))∧((InR .i64 (g156_0 (x1*x0.1) 10+g156_0 (x1*x1) (2*g155_0 x0 x2 x3)))∧True))))))))
def g140_0 (x0:Int×Int×Unit) (x1:Int) (x2:Int) (x3:Bool):Int:=(if (decide (g155_0 x0 x2 x3≤0))=true then -1 else g156_0 (x1*x0.1) 10+g156_0 (x1*x1) (2*g155_0 x0 x2 x3))
theorem at140 (x0:Int×Int×Unit) (x1:Int) (x2:Int) (x3:Bool) (h:P140 x0 x1 x2 x3) (K:Ctx) (q:Nat→Value):AtV Tryz.prog 140 (PostR kds140 oks140 [⟨Ty.int .i64,g140_0 x0 x1 x2 x3⟩] [] [] q K) 30 K q [] [.code b140] (entE 0 0 sig140 (x0,x1,x2,x3,())) (entL sig140 (x0,x1,x2,x3,())):=by
 unfold P140 at h
 unfold g140_0
 obtain ⟨s0,h⟩:=h
 by_cases b0:(decide (g155_0 x0 x2 x3≤0))=true
 ·try simp only [if_pos b0] at h ⊢
  exact AtV.ret Tryz.func140 tabOk ext140Ok mixed false [] tys140 [true] (a1 s0 (a1 b0 trivial)) (by kernel_rfl)
 ·try simp only [if_neg b0] at h ⊢
  replace b0:=Bool.eq_false_iff.2 b0
  obtain ⟨s1,h⟩:=h
  obtain ⟨s2,h⟩:=h
  obtain ⟨s3,h⟩:=h
  obtain ⟨s4,h⟩:=h
  obtain ⟨s5,h⟩:=h
  obtain ⟨s6,h⟩:=h
  exact AtV.ret Tryz.func140 tabOk ext140Ok mixed false [] tys140 [false] (a1 s0 (a1 b0 (a1 s1 (a1 s2 (a1 s3 (a1 s4 (a1 s5 (a1 s6 trivial)))))))) (by kernel_rfl)
def S140:Am.Spec:={ sig:=sig140,pre:=fun ⟨x0,x1,x2,x3,_⟩=>P140 x0 x1 x2 x3,res:=fun ⟨x0,x1,x2,x3,_⟩=>[⟨Ty.int .i64,g140_0 x0 x1 x2 x3⟩],kds:=kds140 }
theorem con140:Contract Tryz.prog 140 S140:=contract_of Tryz.func140 hb140 (Nat.le_of_ble_eq_true (by kernel_rfl)) (fun ⟨x0,x1,x2,x3,_⟩ h _ K q=>at140 x0 x1 x2 x3 h K q)
end
noncomputable section
def ext117:Ext:=[(139,S139),(114,S114),(115,S115),(140,S140)]
theorem ext117Ok:ExtOk Tryz.prog ext117:=⟨⟨ca139,con139⟩,⟨ca114,con114⟩,⟨ca115,con115⟩,⟨ca140,con140⟩,trivial⟩
noncomputable def b117:Code:=bodyOf Tryz.f117
theorem hb117:Tryz.f117.body=some b117:=by kernel_rfl
def sig117:List AT:=[AT.p YA2,AT.p YA9,AT.v (Ty.int .i64),AT.v (Ty.int .i64),AT.v (Ty.bool)]
def tys117:List Ty:=[Ty.int .i64]
def kds117:List RK:=[]
def oks117:List AT:=owns sig117
def E117_3 (v11:Int) (v12:Int) (x0:List TyB4×Int×Int×Unit) (x1:Int×Int×Unit) (x3:Int) (x4:Bool):Env:=[(0,PV.a (Atom.ptr YA2 x0)),(1,PV.a (Atom.ptr YA9 x1)),(3,PV.a (Atom.val (Value.int .i64 x3))),(4,PV.a (Atom.val (Value.bool x4))),(11,PV.a (Atom.val (Value.int .i64 v11))),(12,PV.a (Atom.val (Value.int .i64 v12)))]
def L117_3 (v11:Int) (v12:Int) (x0:List TyB4×Int×Int×Unit) (x1:Int×Int×Unit) (x3:Int) (x4:Bool):Heap:=[]
mutual
def R117:Nat→List TyB4×Int×Int×Unit→Int×Int×Unit→Int→Int→Bool→List Dyn→Prop
 | 0,_,_,_,_,_,_=>False
 | n+1,x0,x1,x2,x3,x4,ds=>((P139 x0 x2)∧(R117_3 n (g139_0 x0 x2) (0) (x0) (x1) (x3) (x4) ds))
def R117_3:Nat→Int→Int→List TyB4×Int×Int×Unit→Int×Int×Unit→Int→Bool→List Dyn→Prop
 | 0,_,_,_,_,_,_,_=>False
 | n+1,v11,v12,x0,x1,x3,x4,ds=>(if (decide (v12<(↑(List.length x0.1):Int)))=true then (if (x4)=true then ((0≤v12)∧(v12<(↑(List.length x0.1):Int))∧((InR .i64 (v12+1))∧(R117_3 n (g114_0 v11 (List.getD x0.1 (Int.toNat v12) (0,0,())).2.1) (v12+1) (x0) (x1) (x3) (x4) ds))) else ((0≤v12)∧(v12<(↑(List.length x0.1):Int))∧((InR .i64 (v12+1))∧(R117_3 n (g115_0 v11 (List.getD x0.1 (Int.toNat v12) (0,0,())).2.1) (v12+1) (x0) (x1) (x3) (x4) ds)))) else ((P140 x1 x3 v11 x4)∧(ds=[Dyn.mk (Ty.int .i64) (g140_0 x1 x3 v11 x4)])))
end
theorem snd117:∀ n,(∀ (x0:List TyB4×Int×Int×Unit) (x1:Int×Int×Unit) (x2:Int) (x3:Int) (x4:Bool) ds,R117 n x0 x1 x2 x3 x4 ds→∀ K q,AtV Tryz.prog 117 (PostR kds117 oks117 ds [] [] q K) 51 K q [] [.code b117] (entE 0 0 sig117 (x0,x1,x2,x3,x4,())) (entL sig117 (x0,x1,x2,x3,x4,())))∧(∀ (v11:Int) (v12:Int) (x0:List TyB4×Int×Int×Unit) (x1:Int×Int×Unit) (x3:Int) (x4:Bool) ds,R117_3 n v11 v12 x0 x1 x3 x4 ds→∀ K q,AtV Tryz.prog 117 (PostR kds117 oks117 ds [] [] q K) 51 K q [] (cutAt b117 3) (E117_3 v11 v12 x0 x1 x3 x4) (L117_3 v11 v12 x0 x1 x3 x4)):=by
 intro n
 induction n with
 | zero=>exact ⟨fun _ _ _ _ _ _ h=>by simp only [R117] at h,fun _ _ _ _ _ _ _ h=>by simp only [R117_3] at h⟩
 | succ n ih =>
 obtain ⟨ih,ih3⟩:=ih
 refine ⟨?_,?_⟩
 ·intro x0 x1 x2 x3 x4 ds h K q
  rw [R117] at h
  obtain ⟨s0,h⟩:=h
  exact AtV.go tabOk ext117Ok mixed false [] [] [0,1,3,4,11,12] [] [] (a1 s0 trivial) (ih3 _ _ _ _ _ _ _ h K q) (by kernel_rfl)
 ·intro v11 v12 x0 x1 x3 x4 ds h K q
  rw [R117_3] at h
  by_cases b0:(decide (v12<(↑(List.length x0.1):Int)))=true
  ·rw [if_pos b0] at h
   by_cases b1:(x4)=true
   ·rw [if_pos b1] at h
    obtain ⟨s0,s1,h⟩:=h
    obtain ⟨s2,h⟩:=h
    exact AtV.go tabOk ext117Ok mixed false [] [] [0,1,3,4,11,12] [] [true,true] (a1 b0 (a1 b1 (a1 s0 (a1 s1 (a1 trivial (a1 s2 trivial)))))) (ih3 _ _ _ _ _ _ _ h K q) (by kernel_rfl)
   ·rw [if_neg b1] at h
    replace b1:=Bool.eq_false_iff.2 b1
    obtain ⟨s0,s1,h⟩:=h
    obtain ⟨s2,h⟩:=h
    exact AtV.go tabOk ext117Ok mixed false [] [] [0,1,3,4,11,12] [] [true,false] (a1 b0 (a1 b1 (a1 s0 (a1 s1 (a1 trivial (a1 s2 trivial)))))) (ih3 _ _ _ _ _ _ _ h K q) (by kernel_rfl)
  ·rw [if_neg b0] at h
   replace b0:=Bool.eq_false_iff.2 b0
   obtain ⟨s0,h⟩:=h
   subst h
   exact AtV.ret Tryz.func117 tabOk ext117Ok mixed false [] tys117 [false] (a1 b0 (a1 s0 trivial)) (by kernel_rfl)
def g117_0 (x0:List TyB4×Int×Int×Unit) (x1:Int×Int×Unit) (x2 x3:Int) (x4:Bool):Int:=g140_0 x1 x3 (worstL x4 (g139_0 x0 x2) x0.1) x4
def P117 (x0:List TyB4×Int×Int×Unit) (x1:Int×Int×Unit) (x2 x3:Int) (x4:Bool):Prop:=x0.1.length≤1000∧P139 x0 x2∧P140 x1 x3 (worstL x4 (g139_0 x0 x2) x0.1) x4
theorem max117 (a b:Int):g114_0 a b=if a<b then b else a:=by
 unfold g114_0
 by_cases h:a>b
 ·rw [if_pos (by simpa using h),if_neg (by omega)]
 ·rw [if_neg (by simpa using h)]
  split <;> omega
theorem min117 (a b:Int):g115_0 a b=if b<a then b else a:=by
 unfold g115_0
 by_cases h:a<b
 ·rw [if_pos (by simpa using h),if_neg (by omega)]
 ·rw [if_neg (by simpa using h)]
  split <;> omega
theorem run117 (x0:List TyB4×Int×Int×Unit) (x1:Int×Int×Unit) (x3:Int) (x4:Bool) (hl:x0.1.length≤1000):∀ (k i:Nat) (g:Int),i+k=x0.1.length→P140 x1 x3 (worstL x4 g (x0.1.drop i)) x4→R117_3 (k+1) g (i:Int) x0 x1 x3 x4 [⟨.int .i64,g140_0 x1 x3 (worstL x4 g (x0.1.drop i)) x4⟩]:=by
 intro k
 induction k with
 | zero =>
  intro i g hi hp
  rw [List.drop_eq_nil_of_le (by omega)] at hp ⊢
  rw [R117_3,if_neg (by simp only [decide_eq_true_eq];omega)]
  exact ⟨hp,rfl⟩
 | succ k ih =>
  intro i g hi hp
  have hlt:i<x0.1.length:=by omega
  have e:(i:Int)+1=((i+1:Nat):Int):=by omega
  rw [List.drop_eq_getElem_cons hlt,worst_cons] at hp ⊢
  rw [R117_3,if_pos (by simp only [decide_eq_true_eq];omega)]
  simp only [Int.toNat_natCast,getD_lt x0.1 i _ hlt,max117,min117]
  have h:=ih (i+1) _ (by omega) hp
  cases x4 with
  | true =>
   simp only [if_true] at h ⊢
   rw [e]
   exact ⟨by omega,by omega,by rw [i64_iff];omega,h⟩
  | false =>
   simp only [Bool.false_eq_true,if_false] at h ⊢
   rw [e]
   exact ⟨by omega,by omega,by rw [i64_iff];omega,h⟩
theorem top117 (x0:List TyB4×Int×Int×Unit) (x1:Int×Int×Unit) (x2 x3:Int) (x4:Bool) (h:P117 x0 x1 x2 x3 x4):R117 (x0.1.length+1+1) x0 x1 x2 x3 x4 [⟨.int .i64,g117_0 x0 x1 x2 x3 x4⟩]:=by
 rw [R117]
 exact ⟨h.2.1,run117 x0 x1 x3 x4 h.1 x0.1.length 0 _ (by omega) h.2.2⟩
def S117:Am.Spec:={ sig:=sig117,pre:=fun ⟨x0,x1,x2,x3,x4,_⟩=>P117 x0 x1 x2 x3 x4,res:=fun ⟨x0,x1,x2,x3,x4,_⟩=>[⟨.int .i64,g117_0 x0 x1 x2 x3 x4⟩] }
theorem con117:Contract Tryz.prog 117 S117:=contract_of Tryz.func117 hb117 (Nat.le_of_ble_eq_true (by kernel_rfl)) (fun ⟨x0,x1,x2,x3,x4,_⟩ h hwf K q =>
 (snd117 _).1 x0 x1 x2 x3 x4 _ (top117 x0 x1 x2 x3 x4 h) K q)
end
noncomputable section
def ext90:Ext:=[(117,S117),(79,S79)]
theorem ext90Ok:ExtOk Tryz.prog ext90:=⟨⟨ca117,con117⟩,⟨ca79,con79⟩,trivial⟩
noncomputable def b90:Code:=bodyOf Tryz.f90
theorem hb90:Tryz.f90.body=some b90:=by kernel_rfl
def sig90:List AT:=[AT.p YA2,AT.p YA9,AT.v (Ty.int .i64),AT.v (Ty.int .i64),AT.v (Ty.bool)]
def tys90:List Ty:=[Ty.bool]
def kds90:List RK:=[]
def oks90:List AT:=owns sig90
def P90 (x0:List TyB4×Int×Int×Unit) (x1:Int×Int×Unit) (x2:Int) (x3:Int) (x4:Bool):Prop:=((P117 x0 x1 x2 x3 x4)∧((P79 x0)∧((InR .i64 (g79_0 x0 - x2))∧True)))
def g90_0 (x0:List TyB4×Int×Int×Unit) (x1:Int×Int×Unit) (x2:Int) (x3:Int) (x4:Bool):Bool:=(if (x4)=true then (if (decide (g117_0 x0 x1 x2 x3 x4≥0))=true then decide (g117_0 x0 x1 x2 x3 x4≤x2) else false) else (if (decide (g117_0 x0 x1 x2 x3 x4≥0))=true then decide (g117_0 x0 x1 x2 x3 x4≤g79_0 x0 - x2) else false))
theorem at90 (x0:List TyB4×Int×Int×Unit) (x1:Int×Int×Unit) (x2:Int) (x3:Int) (x4:Bool) (h:P90 x0 x1 x2 x3 x4) (K:Ctx) (q:Nat→Value):AtV Tryz.prog 90 (PostR kds90 oks90 [⟨Ty.bool,g90_0 x0 x1 x2 x3 x4⟩] [] [] q K) 32 K q [] [.code b90] (entE 0 0 sig90 (x0,x1,x2,x3,x4,())) (entL sig90 (x0,x1,x2,x3,x4,())):=by
 unfold P90 at h
 unfold g90_0
 obtain ⟨s0,h⟩:=h
 obtain ⟨s1,h⟩:=h
 obtain ⟨s2,h⟩:=h
 by_cases b0:(x4)=true
 ·try simp only [if_pos b0] at h ⊢
  by_cases b1:(decide (g117_0 x0 x1 x2 x3 x4≥0))=true
  ·try simp only [if_pos b1] at h ⊢
   exact AtV.ret Tryz.func90 tabOk ext90Ok mixed false [] tys90 [true,true] (a1 s0 (a1 s1 (a1 s2 (a1 b0 (a1 b1 trivial))))) (by kernel_rfl)
  ·try simp only [if_neg b1] at h ⊢
   replace b1:=Bool.eq_false_iff.2 b1
   exact AtV.ret Tryz.func90 tabOk ext90Ok mixed false [] tys90 [true,false] (a1 s0 (a1 s1 (a1 s2 (a1 b0 (a1 b1 trivial))))) (by kernel_rfl)
 ·try simp only [if_neg b0] at h ⊢
  replace b0:=Bool.eq_false_iff.2 b0
  by_cases b1:(decide (g117_0 x0 x1 x2 x3 x4≥0))=true
  ·try simp only [if_pos b1] at h ⊢
   exact AtV.ret Tryz.func90 tabOk ext90Ok mixed false [] tys90 [false,true] (a1 s0 (a1 s1 (a1 s2 (a1 b0 (a1 b1 trivial))))) (by kernel_rfl)
  ·try simp only [if_neg b1] at h ⊢
   replace b1:=Bool.eq_false_iff.2 b1
   exact AtV.ret Tryz.func90 tabOk ext90Ok mixed false [] tys90 [false,false] (a1 s0 (a1 s1 (a1 s2 (a1 b0 (a1 b1 trivial))))) (by kernel_rfl)
def S90:Am.Spec:={ sig:=sig90,pre:=fun ⟨x0,x1,x2,x3,x4,_⟩=>P90 x0 x1 x2 x3 x4,res:=fun ⟨x0,x1,x2,x3,x4,_⟩=>[⟨Ty.bool,g90_0 x0 x1 x2 x3 x4⟩],kds:=kds90 }
theorem con90:Contract Tryz.prog 90 S90:=contract_of Tryz.func90 hb90 (Nat.le_of_ble_eq_true (by kernel_rfl)) (fun ⟨x0,x1,x2,x3,x4,_⟩ h _ K q=>at90 x0 x1 x2 x3 x4 h K q)
end
noncomputable section
def ext61:Ext:=[(79,S79),(89,S89),(90,S90)]
theorem ext61Ok:ExtOk Tryz.prog ext61:=⟨⟨ca79,con79⟩,⟨ca89,con89⟩,⟨ca90,con90⟩,trivial⟩
noncomputable def b61:Code:=bodyOf Tryz.f61
theorem hb61:Tryz.f61.body=some b61:=by kernel_rfl
def sig61:List AT:=[AT.p YA2,AT.p YA9,AT.p YA4,AT.v (Ty.bool)]
def tys61:List Ty:=[Ty.int .i64]
def kds61:List RK:=[]
def oks61:List AT:=owns sig61
def E61_5 (v10:Int) (v11:Int) (v12:Int) (x0:List TyB4×Int×Int×Unit) (x1:Int×Int×Unit) (x2:Int×Int×Int×Int×Unit) (x3:Bool):Env:=[(0,PV.a (Atom.ptr YA2 x0)),(1,PV.a (Atom.ptr YA9 x1)),(2,PV.a (Atom.ptr YA4 x2)),(3,PV.a (Atom.val (Value.bool x3))),(9,PV.a (Atom.val (Value.int .i64 (g79_0 x0)))),(10,PV.a (Atom.val (Value.int .i64 v10))),(11,PV.a (Atom.val (Value.int .i64 v11))),(12,PV.a (Atom.val (Value.int .i64 v12)))]
def L61_5 (v10:Int) (v11:Int) (v12:Int) (x0:List TyB4×Int×Int×Unit) (x1:Int×Int×Unit) (x2:Int×Int×Int×Int×Unit) (x3:Bool):Heap:=[]
mutual
def R61:Nat→List TyB4×Int×Int×Unit→Int×Int×Unit→Int×Int×Int×Int×Unit→Bool→List Dyn→Prop
 | 0,_,_,_,_,_=>False
 | n+1,x0,x1,x2,x3,ds=>((P79 x0)∧(R61_5 n (0) (0) (1) (x0) (x1) (x2) (x3) ds))
def R61_5:Nat→Int→Int→Int→List TyB4×Int×Int×Unit→Int×Int×Unit→Int×Int×Int×Int×Unit→Bool→List Dyn→Prop
 | 0,_,_,_,_,_,_,_,_=>False
 | n+1,v10,v11,v12,x0,x1,x2,x3,ds=>(if (decide (v11<g79_0 x0))=true then ((InR .i64 (g79_0 x0 - v11))∧((P89 x2 v10 (g79_0 x0 - v11))∧((InR .i64 (v11+g89_0 x2 v10 (g79_0 x0 - v11)))∧(if (x3)=true then ((InR .i64 (g79_0 x0 - (v11+g89_0 x2 v10 (g79_0 x0 - v11))))∧(if (decide (v11+g89_0 x2 v10 (g79_0 x0 - v11)<g79_0 x0))=true then ((P90 x0 x1 (g79_0 x0 - (v11+g89_0 x2 v10 (g79_0 x0 - v11))) (g89_0 x2 v10 (g79_0 x0 - v11)) x3)∧(if (!g90_0 x0 x1 (g79_0 x0 - (v11+g89_0 x2 v10 (g79_0 x0 - v11))) (g89_0 x2 v10 (g79_0 x0 - v11)) x3)=true then (ds=[Dyn.mk (Ty.int .i64) v12]) else ((InR .i64 (v12+1))∧(R61_5 n (g89_0 x2 v10 (g79_0 x0 - v11)) (v11+g89_0 x2 v10 (g79_0 x0 - v11)) (v12+1) (x0) (x1) (x2) (x3) ds)))) else ((InR .i64 (v12+1))∧(R61_5 n (g89_0 x2 v10 (g79_0 x0 - v11)) (v11+g89_0 x2 v10 (g79_0 x0 - v11)) (v12+1) (x0) (x1) (x2) (x3) ds)))) else (if (decide (v11+g89_0 x2 v10 (g79_0 x0 - v11)<g79_0 x0))=true then ((P90 x0 x1 (v11+g89_0 x2 v10 (g79_0 x0 - v11)) (g89_0 x2 v10 (g79_0 x0 - v11)) x3)∧(if (!g90_0 x0 x1 (v11+g89_0 x2 v10 (g79_0 x0 - v11)) (g89_0 x2 v10 (g79_0 x0 - v11)) x3)=true then (ds=[Dyn.mk (Ty.int .i64) v12]) else ((InR .i64 (v12+1))∧(R61_5 n (g89_0 x2 v10 (g79_0 x0 - v11)) (v11+g89_0 x2 v10 (g79_0 x0 - v11)) (v12+1) (x0) (x1) (x2) (x3) ds)))) else ((InR .i64 (v12+1))∧(R61_5 n (g89_0 x2 v10 (g79_0 x0 - v11)) (v11+g89_0 x2 v10 (g79_0 x0 - v11)) (v12+1) (x0) (x1) (x2) (x3) ds))))))) else (ds=[Dyn.mk (Ty.int .i64) (-1)]))
end
theorem snd61:∀ n,(∀ (x0:List TyB4×Int×Int×Unit) (x1:Int×Int×Unit) (x2:Int×Int×Int×Int×Unit) (x3:Bool) ds,R61 n x0 x1 x2 x3 ds→∀ K q,AtV Tryz.prog 61 (PostR kds61 oks61 ds [] [] q K) 48 K q [] [.code b61] (entE 0 0 sig61 (x0,x1,x2,x3,())) (entL sig61 (x0,x1,x2,x3,())))∧(∀ (v10:Int) (v11:Int) (v12:Int) (x0:List TyB4×Int×Int×Unit) (x1:Int×Int×Unit) (x2:Int×Int×Int×Int×Unit) (x3:Bool) ds,R61_5 n v10 v11 v12 x0 x1 x2 x3 ds→∀ K q,AtV Tryz.prog 61 (PostR kds61 oks61 ds [] [] q K) 48 K q [] (cutAt b61 5) (E61_5 v10 v11 v12 x0 x1 x2 x3) (L61_5 v10 v11 v12 x0 x1 x2 x3)):=by
 intro n
 induction n with
 | zero=>exact ⟨fun _ _ _ _ _ h=>by simp only [R61] at h,fun _ _ _ _ _ _ _ _ h=>by simp only [R61_5] at h⟩
 | succ n ih =>
 obtain ⟨ih,ih5⟩:=ih
 refine ⟨?_,?_⟩
 ·intro x0 x1 x2 x3 ds h K q
  rw [R61] at h
  obtain ⟨s0,h⟩:=h
  exact AtV.go tabOk ext61Ok mixed false [] [] [0,1,2,3,9,10,11,12] [] [] (a1 s0 trivial) (ih5 _ _ _ _ _ _ _ _ h K q) (by kernel_rfl)
 ·intro v10 v11 v12 x0 x1 x2 x3 ds h K q
  rw [R61_5] at h
  by_cases b0:(decide (v11<g79_0 x0))=true
  ·rw [if_pos b0] at h
   obtain ⟨s0,h⟩:=h
   obtain ⟨s1,h⟩:=h
   obtain ⟨s2,h⟩:=h
   by_cases b1:(x3)=true
   ·rw [if_pos b1] at h
    obtain ⟨s3,h⟩:=h
    by_cases b2:(decide (v11+g89_0 x2 v10 (g79_0 x0 - v11)<g79_0 x0))=true
    ·rw [if_pos b2] at h
     obtain ⟨s4,h⟩:=h
     by_cases b3:(!g90_0 x0 x1 (g79_0 x0 - (v11+g89_0 x2 v10 (g79_0 x0 - v11))) (g89_0 x2 v10 (g79_0 x0 - v11)) x3)=true
     ·rw [if_pos b3] at h
      subst h
      exact AtV.ret Tryz.func61 tabOk ext61Ok mixed false [] tys61 [true,true,true,true] (a1 b0 (a1 s0 (a1 s1 (a1 s2 (a1 b1 (a1 s3 (a1 b2 (a1 s4 (a1 b3 trivial))))))))) (by kernel_rfl)
     ·rw [if_neg b3] at h
      replace b3:=Bool.eq_false_iff.2 b3
      obtain ⟨s5,h⟩:=h
      exact AtV.go tabOk ext61Ok mixed false [] [] [0,1,2,3,9,10,11,12] [] [true,true,true,false] (a1 b0 (a1 s0 (a1 s1 (a1 s2 (a1 b1 (a1 s3 (a1 b2 (a1 s4 (a1 b3 (a1 s5 trivial)))))))))) (ih5 _ _ _ _ _ _ _ _ h K q) (by kernel_rfl)
    ·rw [if_neg b2] at h
     replace b2:=Bool.eq_false_iff.2 b2
     obtain ⟨s4,h⟩:=h
     exact AtV.go tabOk ext61Ok mixed false [] [] [0,1,2,3,9,10,11,12] [] [true,true,false,false] (a1 b0 (a1 s0 (a1 s1 (a1 s2 (a1 b1 (a1 s3 (a1 b2 (a1 (rfl:false=false) (a1 s4 trivial))))))))) (ih5 _ _ _ _ _ _ _ _ h K q) (by kernel_rfl)
   ·rw [if_neg b1] at h
    replace b1:=Bool.eq_false_iff.2 b1
    by_cases b2:(decide (v11+g89_0 x2 v10 (g79_0 x0 - v11)<g79_0 x0))=true
    ·rw [if_pos b2] at h
     obtain ⟨s3,h⟩:=h
     by_cases b3:(!g90_0 x0 x1 (v11+g89_0 x2 v10 (g79_0 x0 - v11)) (g89_0 x2 v10 (g79_0 x0 - v11)) x3)=true
     ·rw [if_pos b3] at h
      subst h
      exact AtV.ret Tryz.func61 tabOk ext61Ok mixed false [] tys61 [true,false,true,true] (a1 b0 (a1 s0 (a1 s1 (a1 s2 (a1 b1 (a1 b2 (a1 s3 (a1 b3 trivial)))))))) (by kernel_rfl)
     ·rw [if_neg b3] at h
      replace b3:=Bool.eq_false_iff.2 b3
      obtain ⟨s4,h⟩:=h
      exact AtV.go tabOk ext61Ok mixed false [] [] [0,1,2,3,9,10,11,12] [] [true,false,true,false] (a1 b0 (a1 s0 (a1 s1 (a1 s2 (a1 b1 (a1 b2 (a1 s3 (a1 b3 (a1 s4 trivial))))))))) (ih5 _ _ _ _ _ _ _ _ h K q) (by kernel_rfl)
    ·rw [if_neg b2] at h
     replace b2:=Bool.eq_false_iff.2 b2
     obtain ⟨s3,h⟩:=h
     exact AtV.go tabOk ext61Ok mixed false [] [] [0,1,2,3,9,10,11,12] [] [true,false,false,false] (a1 b0 (a1 s0 (a1 s1 (a1 s2 (a1 b1 (a1 b2 (a1 (rfl:false=false) (a1 s3 trivial)))))))) (ih5 _ _ _ _ _ _ _ _ h K q) (by kernel_rfl)
  ·rw [if_neg b0] at h
   replace b0:=Bool.eq_false_iff.2 b0
   subst h
   exact AtV.ret Tryz.func61 tabOk ext61Ok mixed false [] tys61 [false] (a1 b0 trivial) (by kernel_rfl)
abbrev TR61:=List TyB4×Int×Int×Unit
abbrev BR61:=Int×Int×Unit
abbrev PR61:=Int×Int×Int×Int×Unit
def bad61 (tr:TR61) (br:BR61) (down:Bool) (way place speed:Int):Bool := !g90_0 tr br (if down=true then way - place else place) speed down
def run61 (x0:TR61) (x1:BR61) (x2:PR61) (x3:Bool):Option Int:=rideL (g89_0 x2) (bad61 x0 x1 x3 (g79_0 x0)) (g79_0 x0) (g79_0 x0).toNat 0 0 0
def g61_0 (x0:TR61) (x1:BR61) (x2:PR61) (x3:Bool):Int:=(run61 x0 x1 x2 x3).getD (-1)
def P61 (x0:TR61) (x1:BR61) (x2:PR61) (x3:Bool):Prop:=P79 x0∧(0≤g79_0 x0∧g79_0 x0≤3000000) ∧
 (∀ s l,0≤s→s≤15000→1≤l→l≤g79_0 x0→P89 x2 s l∧1≤g89_0 x2 s l∧g89_0 x2 s l≤l∧g89_0 x2 s l≤15000) ∧
 (∀ place s,0≤place→place≤g79_0 x0→0≤s→s≤15000→P90 x0 x1 (if x3=true then g79_0 x0 - place else place) s x3)
theorem go61 (x0:TR61) (x1:BR61) (x2:PR61) (x3:Bool) (h:P61 x0 x1 x2 x3):∀ (f:Nat) (place speed k:Int),(0≤place∧place≤g79_0 x0)→(0≤speed∧speed≤15000)→(0≤k∧k≤place)→g79_0 x0 - place≤(f:Int) →
  R61_5 (f+1) speed place (k+1) x0 x1 x2 x3 [⟨.int .i64,(rideL (g89_0 x2) (bad61 x0 x1 x3 (g79_0 x0)) (g79_0 x0) f place speed k).getD (-1)⟩]:=by
 obtain ⟨_,p2,p3,p4⟩:=h
 intro f
 induction f with
 | zero =>
  intro place speed k hp hs hk hf
  rw [R61_5,if_neg (by simp only [decide_eq_true_eq];omega)]
  rfl
 | succ f ih =>
  intro place speed k hp hs hk hf
  by_cases hlt:place<g79_0 x0
  ·obtain ⟨q1,q2,q3,q4⟩:=p3 speed (g79_0 x0 - place) hs.1 hs.2 (by omega) (by omega)
   rw [R61_5,if_pos (by simpa using hlt),rideL,if_pos hlt]
   generalize hs':g89_0 x2 speed (g79_0 x0 - place)=s at *
   have ih:=ih (place+s) s (k+1) (by omega) (by omega) (by omega) (by omega)
   have p5:=p4 (place+s) s (by omega) (by omega) (by omega) q4
   refine ⟨by rw [i64_iff];omega,q1,by rw [i64_iff];omega,?_⟩
   unfold bad61
   cases x3 with
   | true =>
    simp only [if_true] at p5 ⊢
    refine ⟨by rw [i64_iff];omega,?_⟩
    by_cases hd:place+s<g79_0 x0
    ·rw [if_pos (by simpa using hd),decide_eq_true hd,Bool.true_and]
     refine ⟨p5,?_⟩
     by_cases hb:(!g90_0 x0 x1 (g79_0 x0 - (place+s)) s true)=true
     ·rw [if_pos hb,if_pos hb]
      rfl
     ·rw [if_neg hb,if_neg hb]
      exact ⟨by rw [i64_iff];omega,ih⟩
    ·rw [if_neg (by simpa using hd),decide_eq_false hd,Bool.false_and,if_neg (by decide)]
     exact ⟨by rw [i64_iff];omega,ih⟩
   | false =>
    simp only [Bool.false_eq_true,if_false] at p5 ⊢
    by_cases hd:place+s<g79_0 x0
    ·rw [if_pos (by simpa using hd),decide_eq_true hd,Bool.true_and]
     refine ⟨p5,?_⟩
     by_cases hb:(!g90_0 x0 x1 (place+s) s false)=true
     ·rw [if_pos hb,if_pos hb]
      rfl
     ·rw [if_neg hb,if_neg hb]
      exact ⟨by rw [i64_iff];omega,ih⟩
    ·rw [if_neg (by simpa using hd),decide_eq_false hd,Bool.false_and,if_neg (by decide)]
     exact ⟨by rw [i64_iff];omega,ih⟩
  ·rw [R61_5,if_neg (by simpa using hlt),rideL,if_neg hlt]
   rfl
theorem top61 (x0:TR61) (x1:BR61) (x2:PR61) (x3:Bool) (h:P61 x0 x1 x2 x3):R61 ((g79_0 x0).toNat+1+1) x0 x1 x2 x3 [⟨.int .i64,g61_0 x0 x1 x2 x3⟩]:=by
 rw [R61]
 have:=h.2.1
 exact ⟨h.1,go61 x0 x1 x2 x3 h _ 0 0 0 (by omega) (by omega) (by omega) (by omega)⟩
def S61:Am.Spec:={ sig:=sig61,pre:=fun ⟨x0,x1,x2,x3,_⟩=>P61 x0 x1 x2 x3,res:=fun ⟨x0,x1,x2,x3,_⟩=>[⟨.int .i64,g61_0 x0 x1 x2 x3⟩] }
theorem con61:Contract Tryz.prog 61 S61:=contract_of Tryz.func61 hb61 (Nat.le_of_ble_eq_true (by kernel_rfl)) (fun ⟨x0,x1,x2,x3,_⟩ h hwf K q =>
 (snd61 _).1 x0 x1 x2 x3 _ (top61 x0 x1 x2 x3 h) K q)
end
noncomputable section
def ext19:Ext:=[(58,S58),(60,S60),(59,S59),(61,S61)]
theorem ext19Ok:ExtOk Tryz.prog ext19:=⟨⟨ca58,con58⟩,⟨ca60,con60⟩,⟨ca59,con59⟩,⟨ca61,con61⟩,trivial⟩
noncomputable def b19:Code:=bodyOf Tryz.f19
theorem hb19:Tryz.f19.body=some b19:=by kernel_rfl
def sig19:List AT:=[AT.p YA0]
def tys19:List Ty:=[Ty.sl YA8]
def kds19:List RK:=[]
def oks19:List AT:=owns sig19
def P19 (x0:TyA0):Prop:=((P58 x0.1 x0.2.1)∧(if (!g58_0 x0.1 x0.2.1)=true then ((P60 x0.1)∧((P61 x0.1 x0.2.2.1 x0.2.2.2.1 false)∧(if (decide (g61_0 x0.1 x0.2.2.1 x0.2.2.2.1 false≥0))=true then (((List.length ([]++[(1,ByteArray.mk #[99,97,114,115],g59_0 (g60_0 x0.1),())])+1)*40≤140737488355328)∧((P61 x0.1 x0.2.2.1 x0.2.2.2.1 true)∧(if (decide (g61_0 x0.1 x0.2.2.1 x0.2.2.2.1 true≥0))=true then (((List.length ([]++[(1,ByteArray.mk #[99,97,114,115],g59_0 (g60_0 x0.1),())]++[(2,ByteArray.mk #[117,112],g59_0 (g61_0 x0.1 x0.2.2.1 x0.2.2.2.1 false),())])+1)*40≤140737488355328)∧True) else True))) else ((P61 x0.1 x0.2.2.1 x0.2.2.2.1 true)∧(if (decide (g61_0 x0.1 x0.2.2.1 x0.2.2.2.1 true≥0))=true then (((List.length ([]++[(1,ByteArray.mk #[99,97,114,115],g59_0 (g60_0 x0.1),())])+1)*40≤140737488355328)∧True) else True))))) else ((P61 x0.1 x0.2.2.1 x0.2.2.2.1 false)∧(if (decide (g61_0 x0.1 x0.2.2.1 x0.2.2.2.1 false≥0))=true then ((P61 x0.1 x0.2.2.1 x0.2.2.2.1 true)∧(if (decide (g61_0 x0.1 x0.2.2.1 x0.2.2.2.1 true≥0))=true then (((List.length ([]++[(2,ByteArray.mk #[117,112],g59_0 (g61_0 x0.1 x0.2.2.1 x0.2.2.2.1 false),())])+1)*40≤140737488355328)∧True) else True)) else ((P61 x0.1 x0.2.2.1 x0.2.2.2.1 true)∧True)))))
def g19_0 (x0:TyA0):List TyB3:=(if (!g58_0 x0.1 x0.2.1)=true then (if (decide (g61_0 x0.1 x0.2.2.1 x0.2.2.2.1 false≥0))=true then (if (decide (g61_0 x0.1 x0.2.2.1 x0.2.2.2.1 true≥0))=true then []++[(1,ByteArray.mk #[99,97,114,115],g59_0 (g60_0 x0.1),())]++[(2,ByteArray.mk #[117,112],g59_0 (g61_0 x0.1 x0.2.2.1 x0.2.2.2.1 false),())]++[(2,ByteArray.mk #[100,111,119,110],g59_0 (g61_0 x0.1 x0.2.2.1 x0.2.2.2.1 true),())] else []++[(1,ByteArray.mk #[99,97,114,115],g59_0 (g60_0 x0.1),())]++[(2,ByteArray.mk #[117,112],g59_0 (g61_0 x0.1 x0.2.2.1 x0.2.2.2.1 false),())]) else (if (decide (g61_0 x0.1 x0.2.2.1 x0.2.2.2.1 true≥0))=true then []++[(1,ByteArray.mk #[99,97,114,115],g59_0 (g60_0 x0.1),())]++[(2,ByteArray.mk #[100,111,119,110],g59_0 (g61_0 x0.1 x0.2.2.1 x0.2.2.2.1 true),())] else []++[(1,ByteArray.mk #[99,97,114,115],g59_0 (g60_0 x0.1),())])) else (if (decide (g61_0 x0.1 x0.2.2.1 x0.2.2.2.1 false≥0))=true then (if (decide (g61_0 x0.1 x0.2.2.1 x0.2.2.2.1 true≥0))=true then []++[(2,ByteArray.mk #[117,112],g59_0 (g61_0 x0.1 x0.2.2.1 x0.2.2.2.1 false),())]++[(2,ByteArray.mk #[100,111,119,110],g59_0 (g61_0 x0.1 x0.2.2.1 x0.2.2.2.1 true),())] else []++[(2,ByteArray.mk #[117,112],g59_0 (g61_0 x0.1 x0.2.2.1 x0.2.2.2.1 false),())]) else (if (decide (g61_0 x0.1 x0.2.2.1 x0.2.2.2.1 true≥0))=true then []++[(2,ByteArray.mk #[100,111,119,110],g59_0 (g61_0 x0.1 x0.2.2.1 x0.2.2.2.1 true),())] else [])))
theorem at19 (x0:TyA0) (h:P19 x0) (K:Ctx) (q:Nat→Value):AtV Tryz.prog 19 (PostR kds19 oks19 [⟨Ty.sl YA8,g19_0 x0⟩] [] [] q K) 62 K q [] [.code b19] (entE 0 0 sig19 (x0,())) (entL sig19 (x0,())):=by
 unfold P19 at h
 unfold g19_0
 obtain ⟨s0,h⟩:=h
 by_cases b0:(!g58_0 x0.1 x0.2.1)=true
 ·try simp only [if_pos b0] at h ⊢
  obtain ⟨s1,h⟩:=h
  obtain ⟨s2,h⟩:=h
  by_cases b1:(decide (g61_0 x0.1 x0.2.2.1 x0.2.2.2.1 false≥0))=true
  ·try simp only [if_pos b1] at h ⊢
   obtain ⟨s3,h⟩:=h
   obtain ⟨s4,h⟩:=h
   by_cases b2:(decide (g61_0 x0.1 x0.2.2.1 x0.2.2.2.1 true≥0))=true
   ·try simp only [if_pos b2] at h ⊢
    obtain ⟨s5,h⟩:=h
    exact AtV.ret Tryz.func19 tabOk ext19Ok mixed false [] tys19 [true,true,true] (a1 s0 (a1 b0 (a1 s1 (a1 trivial (a1 ((by decide):((0:Nat)+(1:Nat))*(40:Nat)≤(140737488355328:Nat)) (a1 s2 (a1 b1 (a1 trivial (a1 s3 (a1 s4 (a1 b2 (a1 trivial (a1 s5 trivial))))))))))))) (by kernel_rfl)
   ·try simp only [if_neg b2] at h ⊢
    replace b2:=Bool.eq_false_iff.2 b2
    exact AtV.ret Tryz.func19 tabOk ext19Ok mixed false [] tys19 [true,true,false] (a1 s0 (a1 b0 (a1 s1 (a1 trivial (a1 ((by decide):((0:Nat)+(1:Nat))*(40:Nat)≤(140737488355328:Nat)) (a1 s2 (a1 b1 (a1 trivial (a1 s3 (a1 s4 (a1 b2 trivial))))))))))) (by kernel_rfl)
  ·try simp only [if_neg b1] at h ⊢
   replace b1:=Bool.eq_false_iff.2 b1
   obtain ⟨s3,h⟩:=h
   by_cases b2:(decide (g61_0 x0.1 x0.2.2.1 x0.2.2.2.1 true≥0))=true
   ·try simp only [if_pos b2] at h ⊢
    obtain ⟨s4,h⟩:=h
    exact AtV.ret Tryz.func19 tabOk ext19Ok mixed false [] tys19 [true,false,true] (a1 s0 (a1 b0 (a1 s1 (a1 trivial (a1 ((by decide):((0:Nat)+(1:Nat))*(40:Nat)≤(140737488355328:Nat)) (a1 s2 (a1 b1 (a1 s3 (a1 b2 (a1 trivial (a1 s4 trivial))))))))))) (by kernel_rfl)
   ·try simp only [if_neg b2] at h ⊢
    replace b2:=Bool.eq_false_iff.2 b2
    exact AtV.ret Tryz.func19 tabOk ext19Ok mixed false [] tys19 [true,false,false] (a1 s0 (a1 b0 (a1 s1 (a1 trivial (a1 ((by decide):((0:Nat)+(1:Nat))*(40:Nat)≤(140737488355328:Nat)) (a1 s2 (a1 b1 (a1 s3 (a1 b2 trivial))))))))) (by kernel_rfl)
 ·try simp only [if_neg b0] at h ⊢
  replace b0:=Bool.eq_false_iff.2 b0
  obtain ⟨s1,h⟩:=h
  by_cases b1:(decide (g61_0 x0.1 x0.2.2.1 x0.2.2.2.1 false≥0))=true
  ·try simp only [if_pos b1] at h ⊢
   obtain ⟨s2,h⟩:=h
   by_cases b2:(decide (g61_0 x0.1 x0.2.2.1 x0.2.2.2.1 true≥0))=true
   ·try simp only [if_pos b2] at h ⊢
    obtain ⟨s3,h⟩:=h
    exact AtV.ret Tryz.func19 tabOk ext19Ok mixed false [] tys19 [false,true,true] (a1 s0 (a1 b0 (a1 s1 (a1 b1 (a1 trivial (a1 ((by decide):((0:Nat)+(1:Nat))*(40:Nat)≤(140737488355328:Nat)) (a1 s2 (a1 b2 (a1 trivial (a1 s3 trivial)))))))))) (by kernel_rfl)
   ·try simp only [if_neg b2] at h ⊢
    replace b2:=Bool.eq_false_iff.2 b2
    exact AtV.ret Tryz.func19 tabOk ext19Ok mixed false [] tys19 [false,true,false] (a1 s0 (a1 b0 (a1 s1 (a1 b1 (a1 trivial (a1 ((by decide):((0:Nat)+(1:Nat))*(40:Nat)≤(140737488355328:Nat)) (a1 s2 (a1 b2 trivial)))))))) (by kernel_rfl)
  ·try simp only [if_neg b1] at h ⊢
   replace b1:=Bool.eq_false_iff.2 b1
   obtain ⟨s2,h⟩:=h
   by_cases b2:(decide (g61_0 x0.1 x0.2.2.1 x0.2.2.2.1 true≥0))=true
   ·try simp only [if_pos b2] at h ⊢
    exact AtV.ret Tryz.func19 tabOk ext19Ok mixed false [] tys19 [false,false,true] (a1 s0 (a1 b0 (a1 s1 (a1 b1 (a1 s2 (a1 b2 (a1 trivial (a1 ((by decide):((0:Nat)+(1:Nat))*(40:Nat)≤(140737488355328:Nat)) trivial)))))))) (by kernel_rfl)
   ·try simp only [if_neg b2] at h ⊢
    replace b2:=Bool.eq_false_iff.2 b2
    exact AtV.ret Tryz.func19 tabOk ext19Ok mixed false [] tys19 [false,false,false] (a1 s0 (a1 b0 (a1 s1 (a1 b1 (a1 s2 (a1 b2 trivial)))))) (by kernel_rfl)
def S19:Am.Spec:={ sig:=sig19,pre:=fun ⟨x0,_⟩=>P19 x0,res:=fun ⟨x0,_⟩=>[⟨Ty.sl YA8,g19_0 x0⟩],kds:=kds19 }
theorem con19:Contract Tryz.prog 19 S19:=contract_of Tryz.func19 hb19 (Nat.le_of_ble_eq_true (by kernel_rfl)) (fun ⟨x0,_⟩ h _ K q=>at19 x0 h K q)
end
noncomputable section
def ext5:Ext:=[(18,S18),(19,S19)]
theorem ext5Ok:ExtOk Tryz.prog ext5:=⟨⟨ca18,con18⟩,⟨ca19,con19⟩,trivial⟩
noncomputable def b5:Code:=bodyOf Tryz.f5
theorem hb5:Tryz.f5.body=some b5:=by kernel_rfl
def sig5:List AT:=[AT.v YA0]
def tys5:List Ty:=[Ty.sl YA8,Ty.int .i64]
def kds5:List RK:=[]
def oks5:List AT:=owns sig5
def P5 (x0:TyA0):Prop:=(if (!g18_0 x0)=true then True else ((P19 x0)∧True))
def g5_0 (x0:TyA0):List TyB3:=(if (!g18_0 x0)=true then [] else g19_0 x0)
def g5_1 (x0:TyA0):Int:=(if (!g18_0 x0)=true then 1 else 0)
theorem at5 (x0:TyA0) (h:P5 x0) (K:Ctx) (q:Nat→Value):AtV Tryz.prog 5 (PostR kds5 oks5 [⟨Ty.sl YA8,g5_0 x0⟩,⟨Ty.int .i64,g5_1 x0⟩] [] [] q K) 7 K q [] [.code b5] (entE 0 0 sig5 (x0,())) (entL sig5 (x0,())):=by
 unfold P5 at h
 unfold g5_0 g5_1
 by_cases b0:(!g18_0 x0)=true
 ·try simp only [if_pos b0] at h ⊢
  exact AtV.ret Tryz.func5 tabOk ext5Ok mixed false [] tys5 [true] (a1 trivial (a1 b0 trivial)) (by kernel_rfl)
 ·try simp only [if_neg b0] at h ⊢
  replace b0:=Bool.eq_false_iff.2 b0
  obtain ⟨s0,h⟩:=h
  exact AtV.ret Tryz.func5 tabOk ext5Ok mixed false [] tys5 [false] (a1 trivial (a1 b0 (a1 s0 trivial))) (by kernel_rfl)
def S5:Am.Spec:={ sig:=sig5,pre:=fun ⟨x0,_⟩=>P5 x0,res:=fun ⟨x0,_⟩=>[⟨Ty.sl YA8,g5_0 x0⟩,⟨Ty.int .i64,g5_1 x0⟩],kds:=kds5 }
theorem con5:Contract Tryz.prog 5 S5:=contract_of Tryz.func5 hb5 (Nat.le_of_ble_eq_true (by kernel_rfl)) (fun ⟨x0,_⟩ h _ K q=>at5 x0 h K q)
end
noncomputable section
def ext45:Ext:=[]
theorem ext45Ok:ExtOk Tryz.prog ext45:=trivial
noncomputable def b45:Code:=bodyOf Tryz.f45
theorem hb45:Tryz.f45.body=some b45:=by kernel_rfl
def sig45:List AT:=[AT.v (Ty.sl YA9),AT.v (Ty.int .i64)]
def tys45:List Ty:=[Ty.int .i64]
def kds45:List RK:=[]
def oks45:List AT:=owns sig45
def P45 (x0:List TyB4) (x1:Int):Prop:=((InR .i64 (x1 - (↑(List.length x0):Int)))∧True)
def g45_0 (x0:List TyB4) (x1:Int):Int:=(if (decide (x1 - (↑(List.length x0):Int)<0))=true then -1 else x1 - (↑(List.length x0):Int))
theorem at45 (x0:List TyB4) (x1:Int) (h:P45 x0 x1) (K:Ctx) (q:Nat→Value):AtV Tryz.prog 45 (PostR kds45 oks45 [⟨Ty.int .i64,g45_0 x0 x1⟩] [] [] q K) 12 K q [] [.code b45] (entE 0 0 sig45 (x0,x1,())) (entL sig45 (x0,x1,())):=by
 unfold P45 at h
 unfold g45_0
 obtain ⟨s0,h⟩:=h
 by_cases b0:(decide (x1 - (↑(List.length x0):Int)<0))=true
 ·try simp only [if_pos b0] at h ⊢
  exact AtV.ret Tryz.func45 tabOk ext45Ok mixed false [] tys45 [true] (a1 s0 (a1 b0 trivial)) (by kernel_rfl)
 ·try simp only [if_neg b0] at h ⊢
  replace b0:=Bool.eq_false_iff.2 b0
  exact AtV.ret Tryz.func45 tabOk ext45Ok mixed false [] tys45 [false] (a1 s0 (a1 b0 trivial)) (by kernel_rfl)
def S45:Am.Spec:={ sig:=sig45,pre:=fun ⟨x0,x1,_⟩=>P45 x0 x1,res:=fun ⟨x0,x1,_⟩=>[⟨Ty.int .i64,g45_0 x0 x1⟩],kds:=kds45 }
theorem con45:Contract Tryz.prog 45 S45:=contract_of Tryz.func45 hb45 (Nat.le_of_ble_eq_true (by kernel_rfl)) (fun ⟨x0,x1,_⟩ h _ K q=>at45 x0 x1 h K q)
theorem g45_le (x0:List TyB4) (x1:Int) (h:0≤x1) (hi:InR .i64 x1) (hw:Wf (.sl (.cons (.int .i64) (.cons (.int .i64) .unit))) x0) (hg:¬ g45_0 x0 x1<0):P45 x0 x1∧g45_0 x0 x1≤x1 - x0.length:=by
 have hm:x0.length≤9223372036854775807:=hw.1
 rw [i64_iff] at hi
 unfold g45_0 P45 at *
 simp only [decide_eq_true_eq,i64_iff] at *
 refine ⟨?_,?_⟩
 ·repeat' (first | apply And.intro | split)
  all_goals first | trivial | omega
 ·split at hg <;> rename_i hc
  ·omega
  ·rw [if_neg hc];omega
end
noncomputable section
def ext13:Ext:=[(45,S45)]
theorem ext13Ok:ExtOk Tryz.prog ext13:=⟨⟨ca45,con45⟩,trivial⟩
noncomputable def b13:Code:=bodyOf Tryz.f13
theorem hb13:Tryz.f13.body=some b13:=by kernel_rfl
def sig13:List AT:=[AT.v YA2,AT.v (Ty.int .i64)]
def tys13:List Ty:=[Ty.int .i64]
def kds13:List RK:=[]
def oks13:List AT:=owns sig13
def P13 (x0:List TyB4×Int×Int×Unit) (x1:Int):Prop:=((P45 x0.1 x1)∧True)
def g13_0 (x0:List TyB4×Int×Int×Unit) (x1:Int):Int:=(if (decide (g45_0 x0.1 x1<0))=true then -1 else g45_0 x0.1 x1)
theorem at13 (x0:List TyB4×Int×Int×Unit) (x1:Int) (h:P13 x0 x1) (K:Ctx) (q:Nat→Value):AtV Tryz.prog 13 (PostR kds13 oks13 [⟨Ty.int .i64,g13_0 x0 x1⟩] [] [] q K) 12 K q [] [.code b13] (entE 0 0 sig13 (x0,x1,())) (entL sig13 (x0,x1,())):=by
 unfold P13 at h
 unfold g13_0
 obtain ⟨s0,h⟩:=h
 by_cases b0:(decide (g45_0 x0.1 x1<0))=true
 ·try simp only [if_pos b0] at h ⊢
  exact AtV.ret Tryz.func13 tabOk ext13Ok mixed false [] tys13 [true] (a1 s0 (a1 b0 trivial)) (by kernel_rfl)
 ·try simp only [if_neg b0] at h ⊢
  replace b0:=Bool.eq_false_iff.2 b0
  exact AtV.ret Tryz.func13 tabOk ext13Ok mixed false [] tys13 [false] (a1 s0 (a1 b0 trivial)) (by kernel_rfl)
def S13:Am.Spec:={ sig:=sig13,pre:=fun ⟨x0,x1,_⟩=>P13 x0 x1,res:=fun ⟨x0,x1,_⟩=>[⟨Ty.int .i64,g13_0 x0 x1⟩],kds:=kds13 }
theorem con13:Contract Tryz.prog 13 S13:=contract_of Tryz.func13 hb13 (Nat.le_of_ble_eq_true (by kernel_rfl)) (fun ⟨x0,x1,_⟩ h _ K q=>at13 x0 x1 h K q)
end
noncomputable section
def ext46:Ext:=[]
theorem ext46Ok:ExtOk Tryz.prog ext46:=trivial
noncomputable def b46:Code:=bodyOf Tryz.f46
theorem hb46:Tryz.f46.body=some b46:=by kernel_rfl
def sig46:List AT:=[AT.v YA5,AT.v (Ty.int .i64)]
def tys46:List Ty:=[Ty.int .i64]
def kds46:List RK:=[]
def oks46:List AT:=owns sig46
def P46 (x0:ByteArray×Int×Int×Int×Unit) (x1:Int):Prop:=((InR .i64 (x1 - (↑(ByteArray.size x0.1):Int)))∧True)
def g46_0 (x0:ByteArray×Int×Int×Int×Unit) (x1:Int):Int:=(if (decide (x1 - (↑(ByteArray.size x0.1):Int)<0))=true then -1 else x1 - (↑(ByteArray.size x0.1):Int))
theorem at46 (x0:ByteArray×Int×Int×Int×Unit) (x1:Int) (h:P46 x0 x1) (K:Ctx) (q:Nat→Value):AtV Tryz.prog 46 (PostR kds46 oks46 [⟨Ty.int .i64,g46_0 x0 x1⟩] [] [] q K) 13 K q [] [.code b46] (entE 0 0 sig46 (x0,x1,())) (entL sig46 (x0,x1,())):=by
 unfold P46 at h
 unfold g46_0
 obtain ⟨s0,h⟩:=h
 by_cases b0:(decide (x1 - (↑(ByteArray.size x0.1):Int)<0))=true
 ·try simp only [if_pos b0] at h ⊢
  exact AtV.ret Tryz.func46 tabOk ext46Ok mixed false [] tys46 [true] (a1 s0 (a1 b0 trivial)) (by kernel_rfl)
 ·try simp only [if_neg b0] at h ⊢
  replace b0:=Bool.eq_false_iff.2 b0
  exact AtV.ret Tryz.func46 tabOk ext46Ok mixed false [] tys46 [false] (a1 s0 (a1 b0 trivial)) (by kernel_rfl)
def S46:Am.Spec:={ sig:=sig46,pre:=fun ⟨x0,x1,_⟩=>P46 x0 x1,res:=fun ⟨x0,x1,_⟩=>[⟨Ty.int .i64,g46_0 x0 x1⟩],kds:=kds46 }
theorem con46:Contract Tryz.prog 46 S46:=contract_of Tryz.func46 hb46 (Nat.le_of_ble_eq_true (by kernel_rfl)) (fun ⟨x0,x1,_⟩ h _ K q=>at46 x0 x1 h K q)
theorem sz46 (x0:TyB1) (x1:Int) (h:0≤x1) (hi:InR .i64 x1) (hw:Wf (.cons .str (.cons (.int .i64) (.cons (.int .i64) (.cons (.int .i64) .unit)))) x0) :
  P46 x0 x1 ∧ -1≤g46_0 x0 x1∧g46_0 x0 x1≤x1:=by
 have h0:x0.1.size≤9223372036854775807:=hw.1
 rw [i64_iff] at hi
 unfold P46 g46_0
 simp only [decide_eq_true_eq,i64_iff]
 repeat' (first | apply And.intro | split)
 all_goals first | trivial | omega
end
noncomputable section
def ext14:Ext:=[(46,S46)]
theorem ext14Ok:ExtOk Tryz.prog ext14:=⟨⟨ca46,con46⟩,trivial⟩
noncomputable def b14:Code:=bodyOf Tryz.f14
theorem hb14:Tryz.f14.body=some b14:=by kernel_rfl
def sig14:List AT:=[AT.v (Ty.sl YA5),AT.v (Ty.int .i64)]
def tys14:List Ty:=[Ty.int .i64]
def kds14:List RK:=[]
def oks14:List AT:=owns sig14
def E14_5 (v1:Int) (v5:Int) (x0:List TyB1):Env:=[(0,PV.a (Atom.sl YA5 x0)),(1,PV.a (Atom.val (Value.int .i64 v1))),(5,PV.a (Atom.val (Value.int .i64 v5)))]
def L14_5 (v1:Int) (v5:Int) (x0:List TyB1):Heap:=[]
mutual
def R14:Nat→List TyB1→Int→List Dyn→Prop
 | 0,_,_,_=>False
 | n+1,x0,x1,ds=>((InR .i64 (x1 - (↑(List.length x0):Int)))∧(if (decide (x1 - (↑(List.length x0):Int)<0))=true then (ds=[Dyn.mk (Ty.int .i64) (-1)]) else (R14_5 n (x1 - (↑(List.length x0):Int)) (0) (x0) ds)))
def R14_5:Nat→Int→Int→List TyB1→List Dyn→Prop
 | 0,_,_,_,_=>False
 | n+1,v1,v5,x0,ds=>(if (decide (v5<(↑(List.length x0):Int)))=true then ((0≤v5)∧(v5<(↑(List.length x0):Int))∧((P46 (List.getD x0 (Int.toNat v5) (ByteArray.empty,0,0,0,())) v1)∧(if (decide (g46_0 (List.getD x0 (Int.toNat v5) (ByteArray.empty,0,0,0,())) v1<0))=true then (ds=[Dyn.mk (Ty.int .i64) (-1)]) else ((InR .i64 (v5+1))∧(R14_5 n (g46_0 (List.getD x0 (Int.toNat v5) (ByteArray.empty,0,0,0,())) v1) (v5+1) (x0) ds))))) else (ds=[Dyn.mk (Ty.int .i64) v1]))
end
theorem snd14:∀ n,(∀ (x0:List TyB1) (x1:Int) ds,R14 n x0 x1 ds→∀ K q,AtV Tryz.prog 14 (PostR kds14 oks14 ds [] [] q K) 27 K q [] [.code b14] (entE 0 0 sig14 (x0,x1,())) (entL sig14 (x0,x1,())))∧(∀ (v1:Int) (v5:Int) (x0:List TyB1) ds,R14_5 n v1 v5 x0 ds→∀ K q,AtV Tryz.prog 14 (PostR kds14 oks14 ds [] [] q K) 27 K q [] (cutAt b14 5) (E14_5 v1 v5 x0) (L14_5 v1 v5 x0)):=by
 intro n
 induction n with
 | zero=>exact ⟨fun _ _ _ h=>by simp only [R14] at h,fun _ _ _ _ h=>by simp only [R14_5] at h⟩
 | succ n ih =>
 obtain ⟨ih,ih5⟩:=ih
 refine ⟨?_,?_⟩
 ·intro x0 x1 ds h K q
  rw [R14] at h
  obtain ⟨s0,h⟩:=h
  by_cases b0:(decide (x1 - (↑(List.length x0):Int)<0))=true
  ·rw [if_pos b0] at h
   subst h
   exact AtV.ret Tryz.func14 tabOk ext14Ok mixed false [] tys14 [true] (a1 s0 (a1 b0 trivial)) (by kernel_rfl)
  ·rw [if_neg b0] at h
   replace b0:=Bool.eq_false_iff.2 b0
   exact AtV.go tabOk ext14Ok mixed false [] [] [0,1,5] [] [false] (a1 s0 (a1 b0 trivial)) (ih5 _ _ _ _ h K q) (by kernel_rfl)
 ·intro v1 v5 x0 ds h K q
  rw [R14_5] at h
  by_cases b0:(decide (v5<(↑(List.length x0):Int)))=true
  ·rw [if_pos b0] at h
   obtain ⟨s0,s1,h⟩:=h
   obtain ⟨s2,h⟩:=h
   by_cases b1:(decide (g46_0 (List.getD x0 (Int.toNat v5) (ByteArray.empty,0,0,0,())) v1<0))=true
   ·rw [if_pos b1] at h
    subst h
    exact AtV.ret Tryz.func14 tabOk ext14Ok mixed false [] tys14 [true,true] (a1 b0 (a1 s0 (a1 s1 (a1 s2 (a1 b1 trivial))))) (by kernel_rfl)
   ·rw [if_neg b1] at h
    replace b1:=Bool.eq_false_iff.2 b1
    obtain ⟨s3,h⟩:=h
    exact AtV.go tabOk ext14Ok mixed false [] [] [0,1,5] [] [true,false] (a1 b0 (a1 s0 (a1 s1 (a1 s2 (a1 b1 (a1 s3 trivial)))))) (ih5 _ _ _ _ h K q) (by kernel_rfl)
  ·rw [if_neg b0] at h
   replace b0:=Bool.eq_false_iff.2 b0
   subst h
   exact AtV.ret Tryz.func14 tabOk ext14Ok mixed false [] tys14 [false] (a1 b0 trivial) (by kernel_rfl)
def szL14:List TyB1→Int→Int
 | [],l=>l
 | x :: r,l=>if g46_0 x l<0 then -1 else szL14 r (g46_0 x l)
theorem szL14_ok:∀ (x0:List TyB1) (l:Int),0≤l→InR .i64 l→(∀ x∈x0,Wf (.cons .str (.cons (.int .i64) (.cons (.int .i64) (.cons (.int .i64) .unit)))) x)→szL14 x0 l≤l
 | [],l,_,_,_=>Int.le_refl _
 | x :: r,l,h,hi,hw=>by
  obtain ⟨_,h2,h3⟩:=sz46 x l h hi (hw x (List.mem_cons_self ..))
  simp only [szL14]
  rw [i64_iff] at hi
  split
  ·omega
  ·have:=szL14_ok r (g46_0 x l) (by omega) (by rw [i64_iff];omega) (fun y hy=>hw y (List.mem_cons_of_mem _ hy))
   omega
theorem run14 (x0:List TyB1) (hm:x0.length≤maxLen) (hw:∀ x∈x0,Wf (.cons .str (.cons (.int .i64) (.cons (.int .i64) (.cons (.int .i64) .unit)))) x):∀ (k i:Nat) (l:Int),i+k=x0.length→0≤l→InR .i64 l →
  R14_5 (k+1) l (i:Int) x0 [⟨.int .i64,szL14 (x0.drop i) l⟩]:=by
 intro k
 induction k with
 | zero =>
  intro i l hi _ _
  rw [R14_5,if_neg (by simp;omega),drop_end x0 i (by omega)]
  rfl
 | succ k ih =>
  intro i l hi h0 hl
  rw [R14_5,if_pos (by simp;omega)]
  simp only [Int.toNat_natCast]
  have hmem:x0.getD i (ByteArray.empty,(0:Int),(0:Int),(0:Int),())∈x0:=by rw [getD_lt _ _ _ (by omega)];exact List.getElem_mem _
  obtain ⟨h1,h2,h3⟩:=sz46 _ l h0 hl (hw _ hmem)
  refine ⟨by omega,by omega,h1,?_⟩
  rw [drop_get x0 i (ByteArray.empty,(0:Int),(0:Int),(0:Int),()) (by omega)]
  simp only [szL14]
  have hl':=hl
  rw [i64_iff] at hl'
  by_cases hn:g46_0 (x0.getD i (ByteArray.empty,(0:Int),(0:Int),(0:Int),())) l<0
  ·rw [if_pos (by simpa using hn),if_pos hn]
  ·rw [if_neg (by simpa using hn),if_neg hn]
   exact ⟨inR_up hm (by omega),ih (i+1) _ (by omega) (by omega) (by rw [i64_iff];omega)⟩
def g14_0 (x0:List TyB1) (x1:Int):Int:=if x1 - x0.length<0 then -1 else szL14 x0 (x1 - x0.length)
def P14 (x0:List TyB1) (x1:Int):Prop:=0≤x1
theorem g14_le (x0:List TyB1) (x1:Int) (h:0≤x1) (hi:InR .i64 x1) (hw:Wf (.sl (.cons .str (.cons (.int .i64) (.cons (.int .i64) (.cons (.int .i64) .unit))))) x0) (hg:¬ g14_0 x0 x1<0):g14_0 x0 x1≤x1 - x0.length:=by
 unfold g14_0 at hg ⊢
 rw [i64_iff] at hi
 split
 ·rename_i h1
  rw [if_pos h1] at hg
  omega
 ·exact szL14_ok x0 _ (by omega) (by rw [i64_iff];omega) hw.2
theorem top14 (x0:List TyB1) (x1:Int) (hw:Wf (.sl (.cons .str (.cons (.int .i64) (.cons (.int .i64) (.cons (.int .i64) .unit))))) x0) (hi:InR .i64 x1) (h:0≤x1):R14 (x0.length+1+1) x0 x1 [⟨Ty.int .i64,g14_0 x0 x1⟩]:=by
 have hm:x0.length≤maxLen:=hw.1
 have hm':x0.length≤9223372036854775807:=hm
 rw [i64_iff] at hi
 rw [R14]
 refine ⟨by rw [i64_iff];omega,?_⟩
 unfold g14_0
 by_cases hn:x1 - (x0.length:Int)<0
 ·rw [if_pos (by simpa using hn),if_pos hn]
 ·rw [if_neg (by simpa using hn),if_neg hn]
  have:=run14 x0 hm hw.2 x0.length 0 (x1 - x0.length) (by omega) (by omega) (by rw [i64_iff];omega)
  simpa using this
def S14:Am.Spec:={ sig:=sig14,pre:=fun ⟨x0,x1,_⟩=>P14 x0 x1,res:=fun ⟨x0,x1,_⟩=>[⟨Ty.int .i64,g14_0 x0 x1⟩] }
theorem con14:Contract Tryz.prog 14 S14:=contract_of Tryz.func14 hb14 (Nat.le_of_ble_eq_true (by kernel_rfl)) (fun ⟨x0,x1,_⟩ h hwf K q =>
 (snd14 _).1 x0 x1 _ (top14 x0 x1 hwf.1 hwf.2.1 h) K q)
end
noncomputable section
def ext47:Ext:=[]
theorem ext47Ok:ExtOk Tryz.prog ext47:=trivial
noncomputable def b47:Code:=bodyOf Tryz.f47
theorem hb47:Tryz.f47.body=some b47:=by kernel_rfl
def sig47:List AT:=[AT.v YA3,AT.v (Ty.int .i64)]
def tys47:List Ty:=[Ty.int .i64]
def kds47:List RK:=[]
def oks47:List AT:=owns sig47
def P47 (x0:ByteArray×Int×Int×Int×Int×Unit) (x1:Int):Prop:=((InR .i64 (x1 - (↑(ByteArray.size x0.1):Int)))∧True)
def g47_0 (x0:ByteArray×Int×Int×Int×Int×Unit) (x1:Int):Int:=(if (decide (x1 - (↑(ByteArray.size x0.1):Int)<0))=true then -1 else x1 - (↑(ByteArray.size x0.1):Int))
theorem at47 (x0:ByteArray×Int×Int×Int×Int×Unit) (x1:Int) (h:P47 x0 x1) (K:Ctx) (q:Nat→Value):AtV Tryz.prog 47 (PostR kds47 oks47 [⟨Ty.int .i64,g47_0 x0 x1⟩] [] [] q K) 13 K q [] [.code b47] (entE 0 0 sig47 (x0,x1,())) (entL sig47 (x0,x1,())):=by
 unfold P47 at h
 unfold g47_0
 obtain ⟨s0,h⟩:=h
 by_cases b0:(decide (x1 - (↑(ByteArray.size x0.1):Int)<0))=true
 ·try simp only [if_pos b0] at h ⊢
  exact AtV.ret Tryz.func47 tabOk ext47Ok mixed false [] tys47 [true] (a1 s0 (a1 b0 trivial)) (by kernel_rfl)
 ·try simp only [if_neg b0] at h ⊢
  replace b0:=Bool.eq_false_iff.2 b0
  exact AtV.ret Tryz.func47 tabOk ext47Ok mixed false [] tys47 [false] (a1 s0 (a1 b0 trivial)) (by kernel_rfl)
def S47:Am.Spec:={ sig:=sig47,pre:=fun ⟨x0,x1,_⟩=>P47 x0 x1,res:=fun ⟨x0,x1,_⟩=>[⟨Ty.int .i64,g47_0 x0 x1⟩],kds:=kds47 }
theorem con47:Contract Tryz.prog 47 S47:=contract_of Tryz.func47 hb47 (Nat.le_of_ble_eq_true (by kernel_rfl)) (fun ⟨x0,x1,_⟩ h _ K q=>at47 x0 x1 h K q)
theorem sz47 (x0:TyB0) (x1:Int) (h:0≤x1) (hi:InR .i64 x1) (hw:Wf (.cons .str (.cons (.int .i64) (.cons (.int .i64) (.cons (.int .i64) (.cons (.int .i64) .unit))))) x0) :
  P47 x0 x1 ∧ -1≤g47_0 x0 x1∧g47_0 x0 x1≤x1:=by
 have h0:x0.1.size≤9223372036854775807:=hw.1
 rw [i64_iff] at hi
 unfold P47 g47_0
 simp only [decide_eq_true_eq,i64_iff]
 repeat' (first | apply And.intro | split)
 all_goals first | trivial | omega
end
noncomputable section
def ext15:Ext:=[(47,S47)]
theorem ext15Ok:ExtOk Tryz.prog ext15:=⟨⟨ca47,con47⟩,trivial⟩
noncomputable def b15:Code:=bodyOf Tryz.f15
theorem hb15:Tryz.f15.body=some b15:=by kernel_rfl
def sig15:List AT:=[AT.v (Ty.sl YA3),AT.v (Ty.int .i64)]
def tys15:List Ty:=[Ty.int .i64]
def kds15:List RK:=[]
def oks15:List AT:=owns sig15
def E15_5 (v1:Int) (v5:Int) (x0:List TyB0):Env:=[(0,PV.a (Atom.sl YA3 x0)),(1,PV.a (Atom.val (Value.int .i64 v1))),(5,PV.a (Atom.val (Value.int .i64 v5)))]
def L15_5 (v1:Int) (v5:Int) (x0:List TyB0):Heap:=[]
mutual
def R15:Nat→List TyB0→Int→List Dyn→Prop
 | 0,_,_,_=>False
 | n+1,x0,x1,ds=>((InR .i64 (x1 - (↑(List.length x0):Int)))∧(if (decide (x1 - (↑(List.length x0):Int)<0))=true then (ds=[Dyn.mk (Ty.int .i64) (-1)]) else (R15_5 n (x1 - (↑(List.length x0):Int)) (0) (x0) ds)))
def R15_5:Nat→Int→Int→List TyB0→List Dyn→Prop
 | 0,_,_,_,_=>False
 | n+1,v1,v5,x0,ds=>(if (decide (v5<(↑(List.length x0):Int)))=true then ((0≤v5)∧(v5<(↑(List.length x0):Int))∧((P47 (List.getD x0 (Int.toNat v5) (ByteArray.empty,0,0,0,0,())) v1)∧(if (decide (g47_0 (List.getD x0 (Int.toNat v5) (ByteArray.empty,0,0,0,0,())) v1<0))=true then (ds=[Dyn.mk (Ty.int .i64) (-1)]) else ((InR .i64 (v5+1))∧(R15_5 n (g47_0 (List.getD x0 (Int.toNat v5) (ByteArray.empty,0,0,0,0,())) v1) (v5+1) (x0) ds))))) else (ds=[Dyn.mk (Ty.int .i64) v1]))
end
theorem snd15:∀ n,(∀ (x0:List TyB0) (x1:Int) ds,R15 n x0 x1 ds→∀ K q,AtV Tryz.prog 15 (PostR kds15 oks15 ds [] [] q K) 27 K q [] [.code b15] (entE 0 0 sig15 (x0,x1,())) (entL sig15 (x0,x1,())))∧(∀ (v1:Int) (v5:Int) (x0:List TyB0) ds,R15_5 n v1 v5 x0 ds→∀ K q,AtV Tryz.prog 15 (PostR kds15 oks15 ds [] [] q K) 27 K q [] (cutAt b15 5) (E15_5 v1 v5 x0) (L15_5 v1 v5 x0)):=by
 intro n
 induction n with
 | zero=>exact ⟨fun _ _ _ h=>by simp only [R15] at h,fun _ _ _ _ h=>by simp only [R15_5] at h⟩
 | succ n ih =>
 obtain ⟨ih,ih5⟩:=ih
 refine ⟨?_,?_⟩
 ·intro x0 x1 ds h K q
  rw [R15] at h
  obtain ⟨s0,h⟩:=h
  by_cases b0:(decide (x1 - (↑(List.length x0):Int)<0))=true
  ·rw [if_pos b0] at h
   subst h
   exact AtV.ret Tryz.func15 tabOk ext15Ok mixed false [] tys15 [true] (a1 s0 (a1 b0 trivial)) (by kernel_rfl)
  ·rw [if_neg b0] at h
   replace b0:=Bool.eq_false_iff.2 b0
   exact AtV.go tabOk ext15Ok mixed false [] [] [0,1,5] [] [false] (a1 s0 (a1 b0 trivial)) (ih5 _ _ _ _ h K q) (by kernel_rfl)
 ·intro v1 v5 x0 ds h K q
  rw [R15_5] at h
  by_cases b0:(decide (v5<(↑(List.length x0):Int)))=true
  ·rw [if_pos b0] at h
   obtain ⟨s0,s1,h⟩:=h
   obtain ⟨s2,h⟩:=h
   by_cases b1:(decide (g47_0 (List.getD x0 (Int.toNat v5) (ByteArray.empty,0,0,0,0,())) v1<0))=true
   ·rw [if_pos b1] at h
    subst h
    exact AtV.ret Tryz.func15 tabOk ext15Ok mixed false [] tys15 [true,true] (a1 b0 (a1 s0 (a1 s1 (a1 s2 (a1 b1 trivial))))) (by kernel_rfl)
   ·rw [if_neg b1] at h
    replace b1:=Bool.eq_false_iff.2 b1
    obtain ⟨s3,h⟩:=h
    exact AtV.go tabOk ext15Ok mixed false [] [] [0,1,5] [] [true,false] (a1 b0 (a1 s0 (a1 s1 (a1 s2 (a1 b1 (a1 s3 trivial)))))) (ih5 _ _ _ _ h K q) (by kernel_rfl)
  ·rw [if_neg b0] at h
   replace b0:=Bool.eq_false_iff.2 b0
   subst h
   exact AtV.ret Tryz.func15 tabOk ext15Ok mixed false [] tys15 [false] (a1 b0 trivial) (by kernel_rfl)
def szL15:List TyB0→Int→Int
 | [],l=>l
 | x :: r,l=>if g47_0 x l<0 then -1 else szL15 r (g47_0 x l)
theorem szL15_ok:∀ (x0:List TyB0) (l:Int),0≤l→InR .i64 l→(∀ x∈x0,Wf (.cons .str (.cons (.int .i64) (.cons (.int .i64) (.cons (.int .i64) (.cons (.int .i64) .unit))))) x)→szL15 x0 l≤l
 | [],l,_,_,_=>Int.le_refl _
 | x :: r,l,h,hi,hw=>by
  obtain ⟨_,h2,h3⟩:=sz47 x l h hi (hw x (List.mem_cons_self ..))
  simp only [szL15]
  rw [i64_iff] at hi
  split
  ·omega
  ·have:=szL15_ok r (g47_0 x l) (by omega) (by rw [i64_iff];omega) (fun y hy=>hw y (List.mem_cons_of_mem _ hy))
   omega
theorem run15 (x0:List TyB0) (hm:x0.length≤maxLen) (hw:∀ x∈x0,Wf (.cons .str (.cons (.int .i64) (.cons (.int .i64) (.cons (.int .i64) (.cons (.int .i64) .unit))))) x):∀ (k i:Nat) (l:Int),i+k=x0.length→0≤l→InR .i64 l →
  R15_5 (k+1) l (i:Int) x0 [⟨.int .i64,szL15 (x0.drop i) l⟩]:=by
 intro k
 induction k with
 | zero =>
  intro i l hi _ _
  rw [R15_5,if_neg (by simp;omega),drop_end x0 i (by omega)]
  rfl
 | succ k ih =>
  intro i l hi h0 hl
  rw [R15_5,if_pos (by simp;omega)]
  simp only [Int.toNat_natCast]
  have hmem:x0.getD i (ByteArray.empty,(0:Int),(0:Int),(0:Int),(0:Int),())∈x0:=by rw [getD_lt _ _ _ (by omega)];exact List.getElem_mem _
  obtain ⟨h1,h2,h3⟩:=sz47 _ l h0 hl (hw _ hmem)
  refine ⟨by omega,by omega,h1,?_⟩
  rw [drop_get x0 i (ByteArray.empty,(0:Int),(0:Int),(0:Int),(0:Int),()) (by omega)]
  simp only [szL15]
  have hl':=hl
  rw [i64_iff] at hl'
  by_cases hn:g47_0 (x0.getD i (ByteArray.empty,(0:Int),(0:Int),(0:Int),(0:Int),())) l<0
  ·rw [if_pos (by simpa using hn),if_pos hn]
  ·rw [if_neg (by simpa using hn),if_neg hn]
   exact ⟨inR_up hm (by omega),ih (i+1) _ (by omega) (by omega) (by rw [i64_iff];omega)⟩
def g15_0 (x0:List TyB0) (x1:Int):Int:=if x1 - x0.length<0 then -1 else szL15 x0 (x1 - x0.length)
def P15 (x0:List TyB0) (x1:Int):Prop:=0≤x1
theorem g15_le (x0:List TyB0) (x1:Int) (h:0≤x1) (hi:InR .i64 x1) (hw:Wf (.sl (.cons .str (.cons (.int .i64) (.cons (.int .i64) (.cons (.int .i64) (.cons (.int .i64) .unit)))))) x0) (hg:¬ g15_0 x0 x1<0):g15_0 x0 x1≤x1 - x0.length:=by
 unfold g15_0 at hg ⊢
 rw [i64_iff] at hi
 split
 ·rename_i h1
  rw [if_pos h1] at hg
  omega
 ·exact szL15_ok x0 _ (by omega) (by rw [i64_iff];omega) hw.2
theorem top15 (x0:List TyB0) (x1:Int) (hw:Wf (.sl (.cons .str (.cons (.int .i64) (.cons (.int .i64) (.cons (.int .i64) (.cons (.int .i64) .unit)))))) x0) (hi:InR .i64 x1) (h:0≤x1):R15 (x0.length+1+1) x0 x1 [⟨Ty.int .i64,g15_0 x0 x1⟩]:=by
 have hm:x0.length≤maxLen:=hw.1
 have hm':x0.length≤9223372036854775807:=hm
 rw [i64_iff] at hi
 rw [R15]
 refine ⟨by rw [i64_iff];omega,?_⟩
 unfold g15_0
 by_cases hn:x1 - (x0.length:Int)<0
 ·rw [if_pos (by simpa using hn),if_pos hn]
 ·rw [if_neg (by simpa using hn),if_neg hn]
  have:=run15 x0 hm hw.2 x0.length 0 (x1 - x0.length) (by omega) (by omega) (by rw [i64_iff];omega)
  simpa using this
def S15:Am.Spec:={ sig:=sig15,pre:=fun ⟨x0,x1,_⟩=>P15 x0 x1,res:=fun ⟨x0,x1,_⟩=>[⟨Ty.int .i64,g15_0 x0 x1⟩] }
theorem con15:Contract Tryz.prog 15 S15:=contract_of Tryz.func15 hb15 (Nat.le_of_ble_eq_true (by kernel_rfl)) (fun ⟨x0,x1,_⟩ h hwf K q =>
 (snd15 _).1 x0 x1 _ (top15 x0 x1 hwf.1 hwf.2.1 h) K q)
end
noncomputable section
def ext16:Ext:=[]
theorem ext16Ok:ExtOk Tryz.prog ext16:=trivial
noncomputable def b16:Code:=bodyOf Tryz.f16
theorem hb16:Tryz.f16.body=some b16:=by kernel_rfl
def sig16:List AT:=[AT.v (Ty.sl YA9),AT.v (Ty.int .i64)]
def tys16:List Ty:=[Ty.int .i64]
def kds16:List RK:=[]
def oks16:List AT:=owns sig16
def P16 (x0:List TyB4) (x1:Int):Prop:=((InR .i64 (x1 - (↑(List.length x0):Int)))∧True)
def g16_0 (x0:List TyB4) (x1:Int):Int:=(if (decide (x1 - (↑(List.length x0):Int)<0))=true then -1 else x1 - (↑(List.length x0):Int))
theorem at16 (x0:List TyB4) (x1:Int) (h:P16 x0 x1) (K:Ctx) (q:Nat→Value):AtV Tryz.prog 16 (PostR kds16 oks16 [⟨Ty.int .i64,g16_0 x0 x1⟩] [] [] q K) 12 K q [] [.code b16] (entE 0 0 sig16 (x0,x1,())) (entL sig16 (x0,x1,())):=by
 unfold P16 at h
 unfold g16_0
 obtain ⟨s0,h⟩:=h
 by_cases b0:(decide (x1 - (↑(List.length x0):Int)<0))=true
 ·try simp only [if_pos b0] at h ⊢
  exact AtV.ret Tryz.func16 tabOk ext16Ok mixed false [] tys16 [true] (a1 s0 (a1 b0 trivial)) (by kernel_rfl)
 ·try simp only [if_neg b0] at h ⊢
  replace b0:=Bool.eq_false_iff.2 b0
  exact AtV.ret Tryz.func16 tabOk ext16Ok mixed false [] tys16 [false] (a1 s0 (a1 b0 trivial)) (by kernel_rfl)
def S16:Am.Spec:={ sig:=sig16,pre:=fun ⟨x0,x1,_⟩=>P16 x0 x1,res:=fun ⟨x0,x1,_⟩=>[⟨Ty.int .i64,g16_0 x0 x1⟩],kds:=kds16 }
theorem con16:Contract Tryz.prog 16 S16:=contract_of Tryz.func16 hb16 (Nat.le_of_ble_eq_true (by kernel_rfl)) (fun ⟨x0,x1,_⟩ h _ K q=>at16 x0 x1 h K q)
theorem g16_le (x0:List TyB4) (x1:Int) (h:0≤x1) (hi:InR .i64 x1) (hw:Wf (.sl (.cons (.int .i64) (.cons (.int .i64) .unit))) x0) (hg:¬ g16_0 x0 x1<0):P16 x0 x1∧g16_0 x0 x1≤x1 - x0.length:=by
 have hm:x0.length≤9223372036854775807:=hw.1
 rw [i64_iff] at hi
 unfold g16_0 P16 at *
 simp only [decide_eq_true_eq,i64_iff] at *
 refine ⟨?_,?_⟩
 ·repeat' (first | apply And.intro | split)
  all_goals first | trivial | omega
 ·split at hg <;> rename_i hc
  ·omega
  ·rw [if_neg hc];omega
end
noncomputable section
def ext48:Ext:=[]
theorem ext48Ok:ExtOk Tryz.prog ext48:=trivial
noncomputable def b48:Code:=bodyOf Tryz.f48
theorem hb48:Tryz.f48.body=some b48:=by kernel_rfl
def sig48:List AT:=[AT.v YA6,AT.v (Ty.int .i64)]
def tys48:List Ty:=[Ty.int .i64]
def kds48:List RK:=[]
def oks48:List AT:=owns sig48
def P48 (x0:Int×Int×ByteArray×Int×Unit) (x1:Int):Prop:=((InR .i64 (x1 - (↑(ByteArray.size x0.2.2.1):Int)))∧True)
def g48_0 (x0:Int×Int×ByteArray×Int×Unit) (x1:Int):Int:=(if (decide (x1 - (↑(ByteArray.size x0.2.2.1):Int)<0))=true then -1 else x1 - (↑(ByteArray.size x0.2.2.1):Int))
theorem at48 (x0:Int×Int×ByteArray×Int×Unit) (x1:Int) (h:P48 x0 x1) (K:Ctx) (q:Nat→Value):AtV Tryz.prog 48 (PostR kds48 oks48 [⟨Ty.int .i64,g48_0 x0 x1⟩] [] [] q K) 13 K q [] [.code b48] (entE 0 0 sig48 (x0,x1,())) (entL sig48 (x0,x1,())):=by
 unfold P48 at h
 unfold g48_0
 obtain ⟨s0,h⟩:=h
 by_cases b0:(decide (x1 - (↑(ByteArray.size x0.2.2.1):Int)<0))=true
 ·try simp only [if_pos b0] at h ⊢
  exact AtV.ret Tryz.func48 tabOk ext48Ok mixed false [] tys48 [true] (a1 s0 (a1 b0 trivial)) (by kernel_rfl)
 ·try simp only [if_neg b0] at h ⊢
  replace b0:=Bool.eq_false_iff.2 b0
  exact AtV.ret Tryz.func48 tabOk ext48Ok mixed false [] tys48 [false] (a1 s0 (a1 b0 trivial)) (by kernel_rfl)
def S48:Am.Spec:={ sig:=sig48,pre:=fun ⟨x0,x1,_⟩=>P48 x0 x1,res:=fun ⟨x0,x1,_⟩=>[⟨Ty.int .i64,g48_0 x0 x1⟩],kds:=kds48 }
theorem con48:Contract Tryz.prog 48 S48:=contract_of Tryz.func48 hb48 (Nat.le_of_ble_eq_true (by kernel_rfl)) (fun ⟨x0,x1,_⟩ h _ K q=>at48 x0 x1 h K q)
theorem sz48 (x0:TyB2) (x1:Int) (h:0≤x1) (hi:InR .i64 x1) (hw:Wf (.cons (.int .i64) (.cons (.int .i64) (.cons .str (.cons (.int .i64) .unit)))) x0) :
  P48 x0 x1 ∧ -1≤g48_0 x0 x1∧g48_0 x0 x1≤x1:=by
 have h2:x0.2.2.1.size≤9223372036854775807:=hw.2.2.1
 rw [i64_iff] at hi
 unfold P48 g48_0
 simp only [decide_eq_true_eq,i64_iff]
 repeat' (first | apply And.intro | split)
 all_goals first | trivial | omega
end
noncomputable section
def ext17:Ext:=[(48,S48)]
theorem ext17Ok:ExtOk Tryz.prog ext17:=⟨⟨ca48,con48⟩,trivial⟩
noncomputable def b17:Code:=bodyOf Tryz.f17
theorem hb17:Tryz.f17.body=some b17:=by kernel_rfl
def sig17:List AT:=[AT.v (Ty.sl YA6),AT.v (Ty.int .i64)]
def tys17:List Ty:=[Ty.int .i64]
def kds17:List RK:=[]
def oks17:List AT:=owns sig17
def E17_5 (v1:Int) (v5:Int) (x0:List TyB2):Env:=[(0,PV.a (Atom.sl YA6 x0)),(1,PV.a (Atom.val (Value.int .i64 v1))),(5,PV.a (Atom.val (Value.int .i64 v5)))]
def L17_5 (v1:Int) (v5:Int) (x0:List TyB2):Heap:=[]
mutual
def R17:Nat→List TyB2→Int→List Dyn→Prop
 | 0,_,_,_=>False
 | n+1,x0,x1,ds=>((InR .i64 (x1 - (↑(List.length x0):Int)))∧(if (decide (x1 - (↑(List.length x0):Int)<0))=true then (ds=[Dyn.mk (Ty.int .i64) (-1)]) else (R17_5 n (x1 - (↑(List.length x0):Int)) (0) (x0) ds)))
def R17_5:Nat→Int→Int→List TyB2→List Dyn→Prop
 | 0,_,_,_,_=>False
 | n+1,v1,v5,x0,ds=>(if (decide (v5<(↑(List.length x0):Int)))=true then ((0≤v5)∧(v5<(↑(List.length x0):Int))∧((P48 (List.getD x0 (Int.toNat v5) (0,0,ByteArray.empty,0,())) v1)∧(if (decide (g48_0 (List.getD x0 (Int.toNat v5) (0,0,ByteArray.empty,0,())) v1<0))=true then (ds=[Dyn.mk (Ty.int .i64) (-1)]) else ((InR .i64 (v5+1))∧(R17_5 n (g48_0 (List.getD x0 (Int.toNat v5) (0,0,ByteArray.empty,0,())) v1) (v5+1) (x0) ds))))) else (ds=[Dyn.mk (Ty.int .i64) v1]))
end
theorem snd17:∀ n,(∀ (x0:List TyB2) (x1:Int) ds,R17 n x0 x1 ds→∀ K q,AtV Tryz.prog 17 (PostR kds17 oks17 ds [] [] q K) 27 K q [] [.code b17] (entE 0 0 sig17 (x0,x1,())) (entL sig17 (x0,x1,())))∧(∀ (v1:Int) (v5:Int) (x0:List TyB2) ds,R17_5 n v1 v5 x0 ds→∀ K q,AtV Tryz.prog 17 (PostR kds17 oks17 ds [] [] q K) 27 K q [] (cutAt b17 5) (E17_5 v1 v5 x0) (L17_5 v1 v5 x0)):=by
 intro n
 induction n with
 | zero=>exact ⟨fun _ _ _ h=>by simp only [R17] at h,fun _ _ _ _ h=>by simp only [R17_5] at h⟩
 | succ n ih =>
 obtain ⟨ih,ih5⟩:=ih
 refine ⟨?_,?_⟩
 ·intro x0 x1 ds h K q
  rw [R17] at h
  obtain ⟨s0,h⟩:=h
  by_cases b0:(decide (x1 - (↑(List.length x0):Int)<0))=true
  ·rw [if_pos b0] at h
   subst h
   exact AtV.ret Tryz.func17 tabOk ext17Ok mixed false [] tys17 [true] (a1 s0 (a1 b0 trivial)) (by kernel_rfl)
  ·rw [if_neg b0] at h
   replace b0:=Bool.eq_false_iff.2 b0
   exact AtV.go tabOk ext17Ok mixed false [] [] [0,1,5] [] [false] (a1 s0 (a1 b0 trivial)) (ih5 _ _ _ _ h K q) (by kernel_rfl)
 ·intro v1 v5 x0 ds h K q
  rw [R17_5] at h
  by_cases b0:(decide (v5<(↑(List.length x0):Int)))=true
  ·rw [if_pos b0] at h
   obtain ⟨s0,s1,h⟩:=h
   obtain ⟨s2,h⟩:=h
   by_cases b1:(decide (g48_0 (List.getD x0 (Int.toNat v5) (0,0,ByteArray.empty,0,())) v1<0))=true
   ·rw [if_pos b1] at h
    subst h
    exact AtV.ret Tryz.func17 tabOk ext17Ok mixed false [] tys17 [true,true] (a1 b0 (a1 s0 (a1 s1 (a1 s2 (a1 b1 trivial))))) (by kernel_rfl)
   ·rw [if_neg b1] at h
    replace b1:=Bool.eq_false_iff.2 b1
    obtain ⟨s3,h⟩:=h
    exact AtV.go tabOk ext17Ok mixed false [] [] [0,1,5] [] [true,false] (a1 b0 (a1 s0 (a1 s1 (a1 s2 (a1 b1 (a1 s3 trivial)))))) (ih5 _ _ _ _ h K q) (by kernel_rfl)
  ·rw [if_neg b0] at h
   replace b0:=Bool.eq_false_iff.2 b0
   subst h
   exact AtV.ret Tryz.func17 tabOk ext17Ok mixed false [] tys17 [false] (a1 b0 trivial) (by kernel_rfl)
def szL17:List TyB2→Int→Int
 | [],l=>l
 | x :: r,l=>if g48_0 x l<0 then -1 else szL17 r (g48_0 x l)
theorem szL17_ok:∀ (x0:List TyB2) (l:Int),0≤l→InR .i64 l→(∀ x∈x0,Wf (.cons (.int .i64) (.cons (.int .i64) (.cons .str (.cons (.int .i64) .unit)))) x)→szL17 x0 l≤l
 | [],l,_,_,_=>Int.le_refl _
 | x :: r,l,h,hi,hw=>by
  obtain ⟨_,h2,h3⟩:=sz48 x l h hi (hw x (List.mem_cons_self ..))
  simp only [szL17]
  rw [i64_iff] at hi
  split
  ·omega
  ·have:=szL17_ok r (g48_0 x l) (by omega) (by rw [i64_iff];omega) (fun y hy=>hw y (List.mem_cons_of_mem _ hy))
   omega
theorem run17 (x0:List TyB2) (hm:x0.length≤maxLen) (hw:∀ x∈x0,Wf (.cons (.int .i64) (.cons (.int .i64) (.cons .str (.cons (.int .i64) .unit)))) x):∀ (k i:Nat) (l:Int),i+k=x0.length→0≤l→InR .i64 l →
  R17_5 (k+1) l (i:Int) x0 [⟨.int .i64,szL17 (x0.drop i) l⟩]:=by
 intro k
 induction k with
 | zero =>
  intro i l hi _ _
  rw [R17_5,if_neg (by simp;omega),drop_end x0 i (by omega)]
  rfl
 | succ k ih =>
  intro i l hi h0 hl
  rw [R17_5,if_pos (by simp;omega)]
  simp only [Int.toNat_natCast]
  have hmem:x0.getD i ((0:Int),(0:Int),ByteArray.empty,(0:Int),())∈x0:=by rw [getD_lt _ _ _ (by omega)];exact List.getElem_mem _
  obtain ⟨h1,h2,h3⟩:=sz48 _ l h0 hl (hw _ hmem)
  refine ⟨by omega,by omega,h1,?_⟩
  rw [drop_get x0 i ((0:Int),(0:Int),ByteArray.empty,(0:Int),()) (by omega)]
  simp only [szL17]
  have hl':=hl
  rw [i64_iff] at hl'
  by_cases hn:g48_0 (x0.getD i ((0:Int),(0:Int),ByteArray.empty,(0:Int),())) l<0
  ·rw [if_pos (by simpa using hn),if_pos hn]
  ·rw [if_neg (by simpa using hn),if_neg hn]
   exact ⟨inR_up hm (by omega),ih (i+1) _ (by omega) (by omega) (by rw [i64_iff];omega)⟩
def g17_0 (x0:List TyB2) (x1:Int):Int:=if x1 - x0.length<0 then -1 else szL17 x0 (x1 - x0.length)
def P17 (x0:List TyB2) (x1:Int):Prop:=0≤x1
theorem g17_le (x0:List TyB2) (x1:Int) (h:0≤x1) (hi:InR .i64 x1) (hw:Wf (.sl (.cons (.int .i64) (.cons (.int .i64) (.cons .str (.cons (.int .i64) .unit))))) x0) (hg:¬ g17_0 x0 x1<0):g17_0 x0 x1≤x1 - x0.length:=by
 unfold g17_0 at hg ⊢
 rw [i64_iff] at hi
 split
 ·rename_i h1
  rw [if_pos h1] at hg
  omega
 ·exact szL17_ok x0 _ (by omega) (by rw [i64_iff];omega) hw.2
theorem top17 (x0:List TyB2) (x1:Int) (hw:Wf (.sl (.cons (.int .i64) (.cons (.int .i64) (.cons .str (.cons (.int .i64) .unit))))) x0) (hi:InR .i64 x1) (h:0≤x1):R17 (x0.length+1+1) x0 x1 [⟨Ty.int .i64,g17_0 x0 x1⟩]:=by
 have hm:x0.length≤maxLen:=hw.1
 have hm':x0.length≤9223372036854775807:=hm
 rw [i64_iff] at hi
 rw [R17]
 refine ⟨by rw [i64_iff];omega,?_⟩
 unfold g17_0
 by_cases hn:x1 - (x0.length:Int)<0
 ·rw [if_pos (by simpa using hn),if_pos hn]
 ·rw [if_neg (by simpa using hn),if_neg hn]
  have:=run17 x0 hm hw.2 x0.length 0 (x1 - x0.length) (by omega) (by omega) (by rw [i64_iff];omega)
  simpa using this
def S17:Am.Spec:={ sig:=sig17,pre:=fun ⟨x0,x1,_⟩=>P17 x0 x1,res:=fun ⟨x0,x1,_⟩=>[⟨Ty.int .i64,g17_0 x0 x1⟩] }
theorem con17:Contract Tryz.prog 17 S17:=contract_of Tryz.func17 hb17 (Nat.le_of_ble_eq_true (by kernel_rfl)) (fun ⟨x0,x1,_⟩ h hwf K q =>
 (snd17 _).1 x0 x1 _ (top17 x0 x1 hwf.1 hwf.2.1 h) K q)
end
noncomputable section
def ext4:Ext:=[(13,S13),(14,S14),(15,S15),(16,S16),(17,S17)]
theorem ext4Ok:ExtOk Tryz.prog ext4:=⟨⟨ca13,con13⟩,⟨ca14,con14⟩,⟨ca15,con15⟩,⟨ca16,con16⟩,⟨ca17,con17⟩,trivial⟩
noncomputable def b4:Code:=bodyOf Tryz.f4
theorem hb4:Tryz.f4.body=some b4:=by kernel_rfl
def sig4:List AT:=[AT.v YA0,AT.v (Ty.int .i64)]
def tys4:List Ty:=[Ty.int .i64]
def kds4:List RK:=[]
def oks4:List AT:=owns sig4
def P4 (x0:TyA0) (x1:Int):Prop:=((P13 x0.1 x1)∧(if (decide (g13_0 x0.1 x1<0))=true then True else ((P14 x0.2.2.2.2.1 (g13_0 x0.1 x1))∧(if (decide (g14_0 x0.2.2.2.2.1 (g13_0 x0.1 x1)<0))=true then True else ((P15 x0.2.2.2.2.2.2.1 (g14_0 x0.2.2.2.2.1 (g13_0 x0.1 x1)))∧(if (decide (g15_0 x0.2.2.2.2.2.2.1 (g14_0 x0.2.2.2.2.1 (g13_0 x0.1 x1))<0))=true then True else ((P16 x0.2.2.2.2.2.2.2.2.2.1 (g15_0 x0.2.2.2.2.2.2.1 (g14_0 x0.2.2.2.2.1 (g13_0 x0.1 x1))))∧(if (decide (g16_0 x0.2.2.2.2.2.2.2.2.2.1 (g15_0 x0.2.2.2.2.2.2.1 (g14_0 x0.2.2.2.2.1 (g13_0 x0.1 x1)))<0))=true then True else ((P17 x0.2.2.2.2.2.2.2.2.2.2.2.1 (g16_0 x0.2.2.2.2.2.2.2.2.2.1 (g15_0 x0.2.2.2.2.2.2.1 (g14_0 x0.2.2.2.2.1 (g13_0 x0.1 x1)))))∧True)))))))))
def g4_0 (x0:TyA0) (x1:Int):Int:=(if (decide (g13_0 x0.1 x1<0))=true then -1 else (if (decide (g14_0 x0.2.2.2.2.1 (g13_0 x0.1 x1)<0))=true then -1 else (if (decide (g15_0 x0.2.2.2.2.2.2.1 (g14_0 x0.2.2.2.2.1 (g13_0 x0.1 x1))<0))=true then -1 else (if (decide (g16_0 x0.2.2.2.2.2.2.2.2.2.1 (g15_0 x0.2.2.2.2.2.2.1 (g14_0 x0.2.2.2.2.1 (g13_0 x0.1 x1)))<0))=true then -1 else (if (decide (g17_0 x0.2.2.2.2.2.2.2.2.2.2.2.1 (g16_0 x0.2.2.2.2.2.2.2.2.2.1 (g15_0 x0.2.2.2.2.2.2.1 (g14_0 x0.2.2.2.2.1 (g13_0 x0.1 x1))))<0))=true then -1 else g17_0 x0.2.2.2.2.2.2.2.2.2.2.2.1 (g16_0 x0.2.2.2.2.2.2.2.2.2.1 (g15_0 x0.2.2.2.2.2.2.1 (g14_0 x0.2.2.2.2.1 (g13_0 x0.1 x1)))))))))
theorem at4 (x0:TyA0) (x1:Int) (h:P4 x0 x1) (K:Ctx) (q:Nat→Value):AtV Tryz.prog 4 (PostR kds4 oks4 [⟨Ty.int .i64,g4_0 x0 x1⟩] [] [] q K) 36 K q [] [.code b4] (entE 0 0 sig4 (x0,x1,())) (entL sig4 (x0,x1,())):=by
 unfold P4 at h
 unfold g4_0
 obtain ⟨s0,h⟩:=h
 by_cases b0:(decide (g13_0 x0.1 x1<0))=true
 ·try simp only [if_pos b0] at h ⊢
  exact AtV.ret Tryz.func4 tabOk ext4Ok mixed false [] tys4 [true] (a1 s0 (a1 b0 trivial)) (by kernel_rfl)
 ·try simp only [if_neg b0] at h ⊢
  replace b0:=Bool.eq_false_iff.2 b0
  obtain ⟨s1,h⟩:=h
  by_cases b1:(decide (g14_0 x0.2.2.2.2.1 (g13_0 x0.1 x1)<0))=true
  ·try simp only [if_pos b1] at h ⊢
   exact AtV.ret Tryz.func4 tabOk ext4Ok mixed false [] tys4 [false,true] (a1 s0 (a1 b0 (a1 s1 (a1 b1 trivial)))) (by kernel_rfl)
  ·try simp only [if_neg b1] at h ⊢
   replace b1:=Bool.eq_false_iff.2 b1
   obtain ⟨s2,h⟩:=h
   by_cases b2:(decide (g15_0 x0.2.2.2.2.2.2.1 (g14_0 x0.2.2.2.2.1 (g13_0 x0.1 x1))<0))=true
   ·try simp only [if_pos b2] at h ⊢
    exact AtV.ret Tryz.func4 tabOk ext4Ok mixed false [] tys4 [false,false,true] (a1 s0 (a1 b0 (a1 s1 (a1 b1 (a1 s2 (a1 b2 trivial)))))) (by kernel_rfl)
   ·try simp only [if_neg b2] at h ⊢
    replace b2:=Bool.eq_false_iff.2 b2
    obtain ⟨s3,h⟩:=h
    by_cases b3:(decide (g16_0 x0.2.2.2.2.2.2.2.2.2.1 (g15_0 x0.2.2.2.2.2.2.1 (g14_0 x0.2.2.2.2.1 (g13_0 x0.1 x1)))<0))=true
    ·try simp only [if_pos b3] at h ⊢
     exact AtV.ret Tryz.func4 tabOk ext4Ok mixed false [] tys4 [false,false,false,true] (a1 s0 (a1 b0 (a1 s1 (a1 b1 (a1 s2 (a1 b2 (a1 s3 (a1 b3 trivial)))))))) (by kernel_rfl)
    ·try simp only [if_neg b3] at h ⊢
     replace b3:=Bool.eq_false_iff.2 b3
     obtain ⟨s4,h⟩:=h
     by_cases b4:(decide (g17_0 x0.2.2.2.2.2.2.2.2.2.2.2.1 (g16_0 x0.2.2.2.2.2.2.2.2.2.1 (g15_0 x0.2.2.2.2.2.2.1 (g14_0 x0.2.2.2.2.1 (g13_0 x0.1 x1))))<0))=true
     ·try simp only [if_pos b4] at h ⊢
      exact AtV.ret Tryz.func4 tabOk ext4Ok mixed false [] tys4 [false,false,false,false,true] (a1 s0 (a1 b0 (a1 s1 (a1 b1 (a1 s2 (a1 b2 (a1 s3 (a1 b3 (a1 s4 (a1 b4 trivial)))))))))) (by kernel_rfl)
     ·try simp only [if_neg b4] at h ⊢
      replace b4:=Bool.eq_false_iff.2 b4
      exact AtV.ret Tryz.func4 tabOk ext4Ok mixed false [] tys4 [false,false,false,false,false] (a1 s0 (a1 b0 (a1 s1 (a1 b1 (a1 s2 (a1 b2 (a1 s3 (a1 b3 (a1 s4 (a1 b4 trivial)))))))))) (by kernel_rfl)
def S4:Am.Spec:={ sig:=sig4,pre:=fun ⟨x0,x1,_⟩=>P4 x0 x1,res:=fun ⟨x0,x1,_⟩=>[⟨Ty.int .i64,g4_0 x0 x1⟩],kds:=kds4 }
theorem con4:Contract Tryz.prog 4 S4:=contract_of Tryz.func4 hb4 (Nat.le_of_ble_eq_true (by kernel_rfl)) (fun ⟨x0,x1,_⟩ h _ K q=>at4 x0 x1 h K q)
end
noncomputable section
def ext91:Ext:=[]
theorem ext91Ok:ExtOk Tryz.prog ext91:=trivial
noncomputable def b91:Code:=bodyOf Tryz.f91
theorem hb91:Tryz.f91.body=some b91:=by kernel_rfl
def sig91:List AT:=[AT.v YA9]
def tys91:List Ty:=[Ty.cons (Ty.int .i64) (Ty.cons (Ty.int .i64) Ty.unit)]
def kds91:List RK:=[]
def oks91:List AT:=owns sig91
def P91 (x0:Int×Int×Unit):Prop:=True
def g91_0 (x0:Int×Int×Unit):Int×Int×Unit:=(x0.1,x0.2.1,())
theorem at91 (x0:Int×Int×Unit) (h:P91 x0) (K:Ctx) (q:Nat→Value):AtV Tryz.prog 91 (PostR kds91 oks91 [⟨Ty.cons (Ty.int .i64) (Ty.cons (Ty.int .i64) Ty.unit),g91_0 x0⟩] [] [] q K) 11 K q [] [.code b91] (entE 0 0 sig91 (x0,())) (entL sig91 (x0,())):=by
 unfold P91 at h
 unfold g91_0
 exact AtV.ret Tryz.func91 tabOk ext91Ok mixed false [] tys91 [] trivial (by kernel_rfl)
def S91:Am.Spec:={ sig:=sig91,pre:=fun ⟨x0,_⟩=>P91 x0,res:=fun ⟨x0,_⟩=>[⟨Ty.cons (Ty.int .i64) (Ty.cons (Ty.int .i64) Ty.unit),g91_0 x0⟩],kds:=kds91 }
theorem con91:Contract Tryz.prog 91 S91:=contract_of Tryz.func91 hb91 (Nat.le_of_ble_eq_true (by kernel_rfl)) (fun ⟨x0,_⟩ h _ K q=>at91 x0 h K q)
end
noncomputable section
def ext62:Ext:=[(91,S91)]
theorem ext62Ok:ExtOk Tryz.prog ext62:=⟨⟨ca91,con91⟩,trivial⟩
noncomputable def b62:Code:=bodyOf Tryz.f62
theorem hb62:Tryz.f62.body=some b62:=by kernel_rfl
def sig62:List AT:=[AT.v (Ty.sl YA9)]
def tys62:List Ty:=[Ty.sl YA9]
def kds62:List RK:=[]
def oks62:List AT:=owns sig62
def E62_3 (v4:Int) (h0:List TyB4) (x0:List TyB4):Env:=[(0,PV.a (Atom.sl YA9 x0)),(3,PV.a (Atom.osl 0 Option.none)),(4,PV.a (Atom.val (Value.int .i64 v4)))]
def L62_3 (v4:Int) (h0:List TyB4) (x0:List TyB4):Heap:=[Option.some (Arr.mk YA9 h0 false Option.none Option.none)]
mutual
def R62:Nat→List TyB4→List Dyn→Prop
 | 0,_,_=>False
 | n+1,x0,ds=>((0≤(↑(List.length x0):Int))∧((↑(List.length x0):Int)≤(↑(List.length x0):Int))∧(16*(↑(List.length x0):Int)≤281474976710656)∧(R62_3 n (0) (List.replicate (Int.toNat (↑(List.length x0):Int)) (0,0,())) (x0) ds))
def R62_3:Nat→Int→List TyB4→List TyB4→List Dyn→Prop
 | 0,_,_,_,_=>False
 | n+1,v4,h0,x0,ds=>(if (decide (v4<(↑(List.length x0):Int)))=true then ((0≤v4)∧(v4<(↑(List.length x0):Int))∧((0≤v4)∧(v4<(↑(List.length h0):Int))∧((InR .i64 (v4+1))∧(R62_3 n (v4+1) (List.set h0 (Int.toNat v4) ((List.getD x0 (Int.toNat v4) (0,0,())).1,(List.getD x0 (Int.toNat v4) (0,0,())).2.1,())) (x0) ds)))) else (ds=[Dyn.mk (Ty.sl YA9) h0]))
end
theorem snd62:∀ n,(∀ (x0:List TyB4) ds,R62 n x0 ds→∀ K q,AtV Tryz.prog 62 (PostR kds62 oks62 ds [] [] q K) 23 K q [] [.code b62] (entE 0 0 sig62 (x0,())) (entL sig62 (x0,())))∧(∀ (v4:Int) (h0:List TyB4) (x0:List TyB4) ds,R62_3 n v4 h0 x0 ds→∀ K q,AtV Tryz.prog 62 (PostR kds62 oks62 ds [] [] q K) 23 K q [] (cutAt b62 3) (E62_3 v4 h0 x0) (L62_3 v4 h0 x0)):=by
 intro n
 induction n with
 | zero=>exact ⟨fun _ _ h=>by simp only [R62] at h,fun _ _ _ _ h=>by simp only [R62_3] at h⟩
 | succ n ih =>
 obtain ⟨ih,ih3⟩:=ih
 refine ⟨?_,?_⟩
 ·intro x0 ds h K q
  rw [R62] at h
  obtain ⟨s0,s1,s2,h⟩:=h
  exact AtV.go tabOk ext62Ok mixed false [] [] [0,3,4] [0] [] (a1 s0 (a1 s1 (a1 s2 trivial))) (ih3 _ _ _ _ h K q) (by kernel_rfl)
 ·intro v4 h0 x0 ds h K q
  rw [R62_3] at h
  by_cases b0:(decide (v4<(↑(List.length x0):Int)))=true
  ·rw [if_pos b0] at h
   obtain ⟨s0,s1,h⟩:=h
   obtain ⟨s2,s3,h⟩:=h
   obtain ⟨s4,h⟩:=h
   exact AtV.go tabOk ext62Ok mixed false [] [] [0,3,4] [0] [true] (a1 b0 (a1 s0 (a1 s1 (a1 trivial (a1 s2 (a1 s3 (a1 s4 trivial))))))) (ih3 _ _ _ _ h K q) (by kernel_rfl)
  ·rw [if_neg b0] at h
   replace b0:=Bool.eq_false_iff.2 b0
   subst h
   exact AtV.ret Tryz.func62 tabOk ext62Ok mixed false [] tys62 [false] (a1 b0 trivial) (by kernel_rfl)
theorem run62 (x0:List TyB4) (hm:x0.length≤maxLen):∀ (k i:Nat),i+k=x0.length →
  R62_3 (k+1) (i:Int) (x0.take i++List.replicate k ((0:Int),(0:Int),())) x0 [⟨.sl (.cons (.int .i64) (.cons (.int .i64) .unit)),x0⟩]:=by
 intro k
 induction k with
 | zero =>
  intro i hi
  rw [R62_3,if_neg (by simp;omega),List.take_of_length_le (by omega)]
  simp
 | succ k ih =>
  intro i hi
  rw [R62_3,if_pos (by simp;omega)]
  simp only [Int.toNat_natCast]
  refine ⟨by omega,by omega,by omega,by simp;omega,inR_up hm (by omega),?_⟩
  have hs:=set_step x0 ((0:Int),(0:Int),()) i (by omega) (k+1) (by omega)
  have he:∀ y:TyB4,(y.1,y.2.1,())=y:=fun _=>rfl
  rw [he,hs]
  exact ih (i+1) (by omega)
def g62_0 (x0:List TyB4):List TyB4:=x0
def P62 (x0:List TyB4):Prop:=16*(x0.length:Int)≤281474976710656
def S62:Am.Spec:={ sig:=sig62,pre:=fun ⟨x0,_⟩=>P62 x0,res:=fun ⟨x0,_⟩=>[⟨.sl (.cons (.int .i64) (.cons (.int .i64) .unit)),g62_0 x0⟩] }
theorem con62:Contract Tryz.prog 62 S62:=contract_of Tryz.func62 hb62 (Nat.le_of_ble_eq_true (by kernel_rfl)) (fun ⟨x0,_⟩ h hwf K q=>by
 refine (snd62 (x0.length+2)).1 x0 _ ?_ K q
 show R62 (x0.length+1+1) x0 [⟨.sl (.cons (.int .i64) (.cons (.int .i64) .unit)),x0⟩]
 rw [R62]
 refine ⟨by omega,by omega,h,?_⟩
 have:=run62 x0 hwf.1.1 x0.length 0 (by omega)
 simpa using this)
end
noncomputable section
def ext20:Ext:=[(62,S62)]
theorem ext20Ok:ExtOk Tryz.prog ext20:=⟨⟨ca62,con62⟩,trivial⟩
noncomputable def b20:Code:=bodyOf Tryz.f20
theorem hb20:Tryz.f20.body=some b20:=by kernel_rfl
def sig20:List AT:=[AT.v YA2]
def tys20:List Ty:=[Ty.cons (Ty.sl YA9) YA9]
def kds20:List RK:=[]
def oks20:List AT:=owns sig20
def P20 (x0:List TyB4×Int×Int×Unit):Prop:=((P62 x0.1)∧True)
def g20_0 (x0:List TyB4×Int×Int×Unit):List TyB4×Int×Int×Unit:=(g62_0 x0.1,x0.2.1,x0.2.2.1,())
theorem at20 (x0:List TyB4×Int×Int×Unit) (h:P20 x0) (K:Ctx) (q:Nat→Value):AtV Tryz.prog 20 (PostR kds20 oks20 [⟨Ty.cons (Ty.sl YA9) YA9,g20_0 x0⟩] [] [] q K) 15 K q [] [.code b20] (entE 0 0 sig20 (x0,())) (entL sig20 (x0,())):=by
 unfold P20 at h
 unfold g20_0
 obtain ⟨s0,h⟩:=h
 exact AtV.ret Tryz.func20 tabOk ext20Ok mixed false [] tys20 [] (a1 s0 trivial) (by kernel_rfl)
def S20:Am.Spec:={ sig:=sig20,pre:=fun ⟨x0,_⟩=>P20 x0,res:=fun ⟨x0,_⟩=>[⟨Ty.cons (Ty.sl YA9) YA9,g20_0 x0⟩],kds:=kds20 }
theorem con20:Contract Tryz.prog 20 S20:=contract_of Tryz.func20 hb20 (Nat.le_of_ble_eq_true (by kernel_rfl)) (fun ⟨x0,_⟩ h _ K q=>at20 x0 h K q)
end
noncomputable section
def ext21:Ext:=[]
theorem ext21Ok:ExtOk Tryz.prog ext21:=trivial
noncomputable def b21:Code:=bodyOf Tryz.f21
theorem hb21:Tryz.f21.body=some b21:=by kernel_rfl
def sig21:List AT:=[AT.v YA9]
def tys21:List Ty:=[Ty.cons (Ty.int .i64) (Ty.cons (Ty.int .i64) Ty.unit)]
def kds21:List RK:=[]
def oks21:List AT:=owns sig21
def P21 (x0:Int×Int×Unit):Prop:=True
def g21_0 (x0:Int×Int×Unit):Int×Int×Unit:=(x0.1,x0.2.1,())
theorem at21 (x0:Int×Int×Unit) (h:P21 x0) (K:Ctx) (q:Nat→Value):AtV Tryz.prog 21 (PostR kds21 oks21 [⟨Ty.cons (Ty.int .i64) (Ty.cons (Ty.int .i64) Ty.unit),g21_0 x0⟩] [] [] q K) 11 K q [] [.code b21] (entE 0 0 sig21 (x0,())) (entL sig21 (x0,())):=by
 unfold P21 at h
 unfold g21_0
 exact AtV.ret Tryz.func21 tabOk ext21Ok mixed false [] tys21 [] trivial (by kernel_rfl)
def S21:Am.Spec:={ sig:=sig21,pre:=fun ⟨x0,_⟩=>P21 x0,res:=fun ⟨x0,_⟩=>[⟨Ty.cons (Ty.int .i64) (Ty.cons (Ty.int .i64) Ty.unit),g21_0 x0⟩],kds:=kds21 }
theorem con21:Contract Tryz.prog 21 S21:=contract_of Tryz.func21 hb21 (Nat.le_of_ble_eq_true (by kernel_rfl)) (fun ⟨x0,_⟩ h _ K q=>at21 x0 h K q)
end
noncomputable section
def ext22:Ext:=[]
theorem ext22Ok:ExtOk Tryz.prog ext22:=trivial
noncomputable def b22:Code:=bodyOf Tryz.f22
theorem hb22:Tryz.f22.body=some b22:=by kernel_rfl
def sig22:List AT:=[AT.v YA4]
def tys22:List Ty:=[Ty.cons (Ty.int .i64) YA7]
def kds22:List RK:=[]
def oks22:List AT:=owns sig22
def P22 (x0:Int×Int×Int×Int×Unit):Prop:=True
def g22_0 (x0:Int×Int×Int×Int×Unit):Int×Int×Int×Int×Unit:=(x0.1,x0.2.1,x0.2.2.1,x0.2.2.2.1,())
theorem at22 (x0:Int×Int×Int×Int×Unit) (h:P22 x0) (K:Ctx) (q:Nat→Value):AtV Tryz.prog 22 (PostR kds22 oks22 [⟨Ty.cons (Ty.int .i64) YA7,g22_0 x0⟩] [] [] q K) 17 K q [] [.code b22] (entE 0 0 sig22 (x0,())) (entL sig22 (x0,())):=by
 unfold P22 at h
 unfold g22_0
 exact AtV.ret Tryz.func22 tabOk ext22Ok mixed false [] tys22 [] trivial (by kernel_rfl)
def S22:Am.Spec:={ sig:=sig22,pre:=fun ⟨x0,_⟩=>P22 x0,res:=fun ⟨x0,_⟩=>[⟨Ty.cons (Ty.int .i64) YA7,g22_0 x0⟩],kds:=kds22 }
theorem con22:Contract Tryz.prog 22 S22:=contract_of Tryz.func22 hb22 (Nat.le_of_ble_eq_true (by kernel_rfl)) (fun ⟨x0,_⟩ h _ K q=>at22 x0 h K q)
end
noncomputable section
def ext63:Ext:=[]
theorem ext63Ok:ExtOk Tryz.prog ext63:=trivial
noncomputable def b63:Code:=bodyOf Tryz.f63
theorem hb63:Tryz.f63.body=some b63:=by kernel_rfl
def sig63:List AT:=[AT.v YA5]
def tys63:List Ty:=[Ty.cons Ty.str YA7]
def kds63:List RK:=[]
def oks63:List AT:=owns sig63
def P63 (x0:ByteArray×Int×Int×Int×Unit):Prop:=True
def g63_0 (x0:ByteArray×Int×Int×Int×Unit):ByteArray×Int×Int×Int×Unit:=(x0.1,x0.2.1,x0.2.2.1,x0.2.2.2.1,())
theorem at63 (x0:ByteArray×Int×Int×Int×Unit) (h:P63 x0) (K:Ctx) (q:Nat→Value):AtV Tryz.prog 63 (PostR kds63 oks63 [⟨Ty.cons Ty.str YA7,g63_0 x0⟩] [] [] q K) 17 K q [] [.code b63] (entE 0 0 sig63 (x0,())) (entL sig63 (x0,())):=by
 unfold P63 at h
 unfold g63_0
 exact AtV.ret Tryz.func63 tabOk ext63Ok mixed false [] tys63 [] trivial (by kernel_rfl)
def S63:Am.Spec:={ sig:=sig63,pre:=fun ⟨x0,_⟩=>P63 x0,res:=fun ⟨x0,_⟩=>[⟨Ty.cons Ty.str YA7,g63_0 x0⟩],kds:=kds63 }
theorem con63:Contract Tryz.prog 63 S63:=contract_of Tryz.func63 hb63 (Nat.le_of_ble_eq_true (by kernel_rfl)) (fun ⟨x0,_⟩ h _ K q=>at63 x0 h K q)
end
noncomputable section
def ext23:Ext:=[(63,S63)]
theorem ext23Ok:ExtOk Tryz.prog ext23:=⟨⟨ca63,con63⟩,trivial⟩
noncomputable def b23:Code:=bodyOf Tryz.f23
theorem hb23:Tryz.f23.body=some b23:=by kernel_rfl
def sig23:List AT:=[AT.v (Ty.sl YA5)]
def tys23:List Ty:=[Ty.sl YA5]
def kds23:List RK:=[]
def oks23:List AT:=owns sig23
def E23_3 (v4:Int) (h0:List TyB1) (x0:List TyB1):Env:=[(0,PV.a (Atom.sl YA5 x0)),(3,PV.a (Atom.osl 0 Option.none)),(4,PV.a (Atom.val (Value.int .i64 v4)))]
def L23_3 (v4:Int) (h0:List TyB1) (x0:List TyB1):Heap:=[Option.some (Arr.mk YA5 h0 false Option.none Option.none)]
mutual
def R23:Nat→List TyB1→List Dyn→Prop
 | 0,_,_=>False
 | n+1,x0,ds=>((0≤(↑(List.length x0):Int))∧((↑(List.length x0):Int)≤(↑(List.length x0):Int))∧(40*(↑(List.length x0):Int)≤281474976710656)∧(R23_3 n (0) (List.replicate (Int.toNat (↑(List.length x0):Int)) (ByteArray.empty,0,0,0,())) (x0) ds))
def R23_3:Nat→Int→List TyB1→List TyB1→List Dyn→Prop
 | 0,_,_,_,_=>False
 | n+1,v4,h0,x0,ds=>(if (decide (v4<(↑(List.length x0):Int)))=true then ((0≤v4)∧(v4<(↑(List.length x0):Int))∧((0≤v4)∧(v4<(↑(List.length h0):Int))∧((InR .i64 (v4+1))∧(R23_3 n (v4+1) (List.set h0 (Int.toNat v4) ((List.getD x0 (Int.toNat v4) (ByteArray.empty,0,0,0,())).1,(List.getD x0 (Int.toNat v4) (ByteArray.empty,0,0,0,())).2.1,(List.getD x0 (Int.toNat v4) (ByteArray.empty,0,0,0,())).2.2.1,(List.getD x0 (Int.toNat v4) (ByteArray.empty,0,0,0,())).2.2.2.1,())) (x0) ds)))) else (ds=[Dyn.mk (Ty.sl YA5) h0]))
end
theorem snd23:∀ n,(∀ (x0:List TyB1) ds,R23 n x0 ds→∀ K q,AtV Tryz.prog 23 (PostR kds23 oks23 ds [] [] q K) 23 K q [] [.code b23] (entE 0 0 sig23 (x0,())) (entL sig23 (x0,())))∧(∀ (v4:Int) (h0:List TyB1) (x0:List TyB1) ds,R23_3 n v4 h0 x0 ds→∀ K q,AtV Tryz.prog 23 (PostR kds23 oks23 ds [] [] q K) 23 K q [] (cutAt b23 3) (E23_3 v4 h0 x0) (L23_3 v4 h0 x0)):=by
 intro n
 induction n with
 | zero=>exact ⟨fun _ _ h=>by simp only [R23] at h,fun _ _ _ _ h=>by simp only [R23_3] at h⟩
 | succ n ih =>
 obtain ⟨ih,ih3⟩:=ih
 refine ⟨?_,?_⟩
 ·intro x0 ds h K q
  rw [R23] at h
  obtain ⟨s0,s1,s2,h⟩:=h
  exact AtV.go tabOk ext23Ok mixed false [] [] [0,3,4] [0] [] (a1 s0 (a1 s1 (a1 s2 trivial))) (ih3 _ _ _ _ h K q) (by kernel_rfl)
 ·intro v4 h0 x0 ds h K q
  rw [R23_3] at h
  by_cases b0:(decide (v4<(↑(List.length x0):Int)))=true
  ·rw [if_pos b0] at h
   obtain ⟨s0,s1,h⟩:=h
   obtain ⟨s2,s3,h⟩:=h
   obtain ⟨s4,h⟩:=h
   exact AtV.go tabOk ext23Ok mixed false [] [] [0,3,4] [0] [true] (a1 b0 (a1 s0 (a1 s1 (a1 trivial (a1 s2 (a1 s3 (a1 s4 trivial))))))) (ih3 _ _ _ _ h K q) (by kernel_rfl)
  ·rw [if_neg b0] at h
   replace b0:=Bool.eq_false_iff.2 b0
   subst h
   exact AtV.ret Tryz.func23 tabOk ext23Ok mixed false [] tys23 [false] (a1 b0 trivial) (by kernel_rfl)
theorem run23 (x0:List TyB1) (hm:x0.length≤maxLen):∀ (k i:Nat),i+k=x0.length →
  R23_3 (k+1) (i:Int) (x0.take i++List.replicate k (ByteArray.empty,(0:Int),(0:Int),(0:Int),())) x0 [⟨.sl (.cons .str (.cons (.int .i64) (.cons (.int .i64) (.cons (.int .i64) .unit)))),x0⟩]:=by
 intro k
 induction k with
 | zero =>
  intro i hi
  rw [R23_3,if_neg (by simp;omega),List.take_of_length_le (by omega)]
  simp
 | succ k ih =>
  intro i hi
  rw [R23_3,if_pos (by simp;omega)]
  simp only [Int.toNat_natCast]
  refine ⟨by omega,by omega,by omega,by simp;omega,inR_up hm (by omega),?_⟩
  have hs:=set_step x0 (ByteArray.empty,(0:Int),(0:Int),(0:Int),()) i (by omega) (k+1) (by omega)
  have he:∀ y:TyB1,(y.1,y.2.1,y.2.2.1,y.2.2.2.1,())=y:=fun _=>rfl
  rw [he,hs]
  exact ih (i+1) (by omega)
def g23_0 (x0:List TyB1):List TyB1:=x0
def P23 (x0:List TyB1):Prop:=40*(x0.length:Int)≤281474976710656
def S23:Am.Spec:={ sig:=sig23,pre:=fun ⟨x0,_⟩=>P23 x0,res:=fun ⟨x0,_⟩=>[⟨.sl (.cons .str (.cons (.int .i64) (.cons (.int .i64) (.cons (.int .i64) .unit)))),g23_0 x0⟩] }
theorem con23:Contract Tryz.prog 23 S23:=contract_of Tryz.func23 hb23 (Nat.le_of_ble_eq_true (by kernel_rfl)) (fun ⟨x0,_⟩ h hwf K q=>by
 refine (snd23 (x0.length+2)).1 x0 _ ?_ K q
 show R23 (x0.length+1+1) x0 [⟨.sl (.cons .str (.cons (.int .i64) (.cons (.int .i64) (.cons (.int .i64) .unit)))),x0⟩]
 rw [R23]
 refine ⟨by omega,by omega,h,?_⟩
 have:=run23 x0 hwf.1.1 x0.length 0 (by omega)
 simpa using this)
end
noncomputable section
def ext24:Ext:=[]
theorem ext24Ok:ExtOk Tryz.prog ext24:=trivial
noncomputable def b24:Code:=bodyOf Tryz.f24
theorem hb24:Tryz.f24.body=some b24:=by kernel_rfl
def sig24:List AT:=[AT.v YA7]
def tys24:List Ty:=[Ty.cons (Ty.int .i64) YA9]
def kds24:List RK:=[]
def oks24:List AT:=owns sig24
def P24 (x0:Int×Int×Int×Unit):Prop:=True
def g24_0 (x0:Int×Int×Int×Unit):Int×Int×Int×Unit:=(x0.1,x0.2.1,x0.2.2.1,())
theorem at24 (x0:Int×Int×Int×Unit) (h:P24 x0) (K:Ctx) (q:Nat→Value):AtV Tryz.prog 24 (PostR kds24 oks24 [⟨Ty.cons (Ty.int .i64) YA9,g24_0 x0⟩] [] [] q K) 14 K q [] [.code b24] (entE 0 0 sig24 (x0,())) (entL sig24 (x0,())):=by
 unfold P24 at h
 unfold g24_0
 exact AtV.ret Tryz.func24 tabOk ext24Ok mixed false [] tys24 [] trivial (by kernel_rfl)
def S24:Am.Spec:={ sig:=sig24,pre:=fun ⟨x0,_⟩=>P24 x0,res:=fun ⟨x0,_⟩=>[⟨Ty.cons (Ty.int .i64) YA9,g24_0 x0⟩],kds:=kds24 }
theorem con24:Contract Tryz.prog 24 S24:=contract_of Tryz.func24 hb24 (Nat.le_of_ble_eq_true (by kernel_rfl)) (fun ⟨x0,_⟩ h _ K q=>at24 x0 h K q)
end
noncomputable section
def ext64:Ext:=[]
theorem ext64Ok:ExtOk Tryz.prog ext64:=trivial
noncomputable def b64:Code:=bodyOf Tryz.f64
theorem hb64:Tryz.f64.body=some b64:=by kernel_rfl
def sig64:List AT:=[AT.v YA3]
def tys64:List Ty:=[Ty.cons Ty.str YA4]
def kds64:List RK:=[]
def oks64:List AT:=owns sig64
def P64 (x0:ByteArray×Int×Int×Int×Int×Unit):Prop:=True
def g64_0 (x0:ByteArray×Int×Int×Int×Int×Unit):ByteArray×Int×Int×Int×Int×Unit:=(x0.1,x0.2.1,x0.2.2.1,x0.2.2.2.1,x0.2.2.2.2.1,())
theorem at64 (x0:ByteArray×Int×Int×Int×Int×Unit) (h:P64 x0) (K:Ctx) (q:Nat→Value):AtV Tryz.prog 64 (PostR kds64 oks64 [⟨Ty.cons Ty.str YA4,g64_0 x0⟩] [] [] q K) 20 K q [] [.code b64] (entE 0 0 sig64 (x0,())) (entL sig64 (x0,())):=by
 unfold P64 at h
 unfold g64_0
 exact AtV.ret Tryz.func64 tabOk ext64Ok mixed false [] tys64 [] trivial (by kernel_rfl)
def S64:Am.Spec:={ sig:=sig64,pre:=fun ⟨x0,_⟩=>P64 x0,res:=fun ⟨x0,_⟩=>[⟨Ty.cons Ty.str YA4,g64_0 x0⟩],kds:=kds64 }
theorem con64:Contract Tryz.prog 64 S64:=contract_of Tryz.func64 hb64 (Nat.le_of_ble_eq_true (by kernel_rfl)) (fun ⟨x0,_⟩ h _ K q=>at64 x0 h K q)
end
noncomputable section
def ext25:Ext:=[(64,S64)]
theorem ext25Ok:ExtOk Tryz.prog ext25:=⟨⟨ca64,con64⟩,trivial⟩
noncomputable def b25:Code:=bodyOf Tryz.f25
theorem hb25:Tryz.f25.body=some b25:=by kernel_rfl
def sig25:List AT:=[AT.v (Ty.sl YA3)]
def tys25:List Ty:=[Ty.sl YA3]
def kds25:List RK:=[]
def oks25:List AT:=owns sig25
def E25_3 (v4:Int) (h0:List TyB0) (x0:List TyB0):Env:=[(0,PV.a (Atom.sl YA3 x0)),(3,PV.a (Atom.osl 0 Option.none)),(4,PV.a (Atom.val (Value.int .i64 v4)))]
def L25_3 (v4:Int) (h0:List TyB0) (x0:List TyB0):Heap:=[Option.some (Arr.mk YA3 h0 false Option.none Option.none)]
mutual
def R25:Nat→List TyB0→List Dyn→Prop
 | 0,_,_=>False
 | n+1,x0,ds=>((0≤(↑(List.length x0):Int))∧((↑(List.length x0):Int)≤(↑(List.length x0):Int))∧(48*(↑(List.length x0):Int)≤281474976710656)∧(R25_3 n (0) (List.replicate (Int.toNat (↑(List.length x0):Int)) (ByteArray.empty,0,0,0,0,())) (x0) ds))
def R25_3:Nat→Int→List TyB0→List TyB0→List Dyn→Prop
 | 0,_,_,_,_=>False
 | n+1,v4,h0,x0,ds=>(if (decide (v4<(↑(List.length x0):Int)))=true then ((0≤v4)∧(v4<(↑(List.length x0):Int))∧((0≤v4)∧(v4<(↑(List.length h0):Int))∧((InR .i64 (v4+1))∧(R25_3 n (v4+1) (List.set h0 (Int.toNat v4) ((List.getD x0 (Int.toNat v4) (ByteArray.empty,0,0,0,0,())).1,(List.getD x0 (Int.toNat v4) (ByteArray.empty,0,0,0,0,())).2.1,(List.getD x0 (Int.toNat v4) (ByteArray.empty,0,0,0,0,())).2.2.1,(List.getD x0 (Int.toNat v4) (ByteArray.empty,0,0,0,0,())).2.2.2.1,(List.getD x0 (Int.toNat v4) (ByteArray.empty,0,0,0,0,())).2.2.2.2.1,())) (x0) ds)))) else (ds=[Dyn.mk (Ty.sl YA3) h0]))
end
theorem snd25:∀ n,(∀ (x0:List TyB0) ds,R25 n x0 ds→∀ K q,AtV Tryz.prog 25 (PostR kds25 oks25 ds [] [] q K) 23 K q [] [.code b25] (entE 0 0 sig25 (x0,())) (entL sig25 (x0,())))∧(∀ (v4:Int) (h0:List TyB0) (x0:List TyB0) ds,R25_3 n v4 h0 x0 ds→∀ K q,AtV Tryz.prog 25 (PostR kds25 oks25 ds [] [] q K) 23 K q [] (cutAt b25 3) (E25_3 v4 h0 x0) (L25_3 v4 h0 x0)):=by
 intro n
 induction n with
 | zero=>exact ⟨fun _ _ h=>by simp only [R25] at h,fun _ _ _ _ h=>by simp only [R25_3] at h⟩
 | succ n ih =>
 obtain ⟨ih,ih3⟩:=ih
 refine ⟨?_,?_⟩
 ·intro x0 ds h K q
  rw [R25] at h
  obtain ⟨s0,s1,s2,h⟩:=h
  exact AtV.go tabOk ext25Ok mixed false [] [] [0,3,4] [0] [] (a1 s0 (a1 s1 (a1 s2 trivial))) (ih3 _ _ _ _ h K q) (by kernel_rfl)
 ·intro v4 h0 x0 ds h K q
  rw [R25_3] at h
  by_cases b0:(decide (v4<(↑(List.length x0):Int)))=true
  ·rw [if_pos b0] at h
   obtain ⟨s0,s1,h⟩:=h
   obtain ⟨s2,s3,h⟩:=h
   obtain ⟨s4,h⟩:=h
   exact AtV.go tabOk ext25Ok mixed false [] [] [0,3,4] [0] [true] (a1 b0 (a1 s0 (a1 s1 (a1 trivial (a1 s2 (a1 s3 (a1 s4 trivial))))))) (ih3 _ _ _ _ h K q) (by kernel_rfl)
  ·rw [if_neg b0] at h
   replace b0:=Bool.eq_false_iff.2 b0
   subst h
   exact AtV.ret Tryz.func25 tabOk ext25Ok mixed false [] tys25 [false] (a1 b0 trivial) (by kernel_rfl)
theorem run25 (x0:List TyB0) (hm:x0.length≤maxLen):∀ (k i:Nat),i+k=x0.length →
  R25_3 (k+1) (i:Int) (x0.take i++List.replicate k (ByteArray.empty,(0:Int),(0:Int),(0:Int),(0:Int),())) x0 [⟨.sl (.cons .str (.cons (.int .i64) (.cons (.int .i64) (.cons (.int .i64) (.cons (.int .i64) .unit))))),x0⟩]:=by
 intro k
 induction k with
 | zero =>
  intro i hi
  rw [R25_3,if_neg (by simp;omega),List.take_of_length_le (by omega)]
  simp
 | succ k ih =>
  intro i hi
  rw [R25_3,if_pos (by simp;omega)]
  simp only [Int.toNat_natCast]
  refine ⟨by omega,by omega,by omega,by simp;omega,inR_up hm (by omega),?_⟩
  have hs:=set_step x0 (ByteArray.empty,(0:Int),(0:Int),(0:Int),(0:Int),()) i (by omega) (k+1) (by omega)
  have he:∀ y:TyB0,(y.1,y.2.1,y.2.2.1,y.2.2.2.1,y.2.2.2.2.1,())=y:=fun _=>rfl
  rw [he,hs]
  exact ih (i+1) (by omega)
def g25_0 (x0:List TyB0):List TyB0:=x0
def P25 (x0:List TyB0):Prop:=48*(x0.length:Int)≤281474976710656
def S25:Am.Spec:={ sig:=sig25,pre:=fun ⟨x0,_⟩=>P25 x0,res:=fun ⟨x0,_⟩=>[⟨.sl (.cons .str (.cons (.int .i64) (.cons (.int .i64) (.cons (.int .i64) (.cons (.int .i64) .unit))))),g25_0 x0⟩] }
theorem con25:Contract Tryz.prog 25 S25:=contract_of Tryz.func25 hb25 (Nat.le_of_ble_eq_true (by kernel_rfl)) (fun ⟨x0,_⟩ h hwf K q=>by
 refine (snd25 (x0.length+2)).1 x0 _ ?_ K q
 show R25 (x0.length+1+1) x0 [⟨.sl (.cons .str (.cons (.int .i64) (.cons (.int .i64) (.cons (.int .i64) (.cons (.int .i64) .unit))))),x0⟩]
 rw [R25]
 refine ⟨by omega,by omega,h,?_⟩
 have:=run25 x0 hwf.1.1 x0.length 0 (by omega)
 simpa using this)
end
noncomputable section
def ext65:Ext:=[]
theorem ext65Ok:ExtOk Tryz.prog ext65:=trivial
noncomputable def b65:Code:=bodyOf Tryz.f65
theorem hb65:Tryz.f65.body=some b65:=by kernel_rfl
def sig65:List AT:=[AT.v YA9]
def tys65:List Ty:=[Ty.cons (Ty.int .i64) (Ty.cons (Ty.int .i64) Ty.unit)]
def kds65:List RK:=[]
def oks65:List AT:=owns sig65
def P65 (x0:Int×Int×Unit):Prop:=True
def g65_0 (x0:Int×Int×Unit):Int×Int×Unit:=(x0.1,x0.2.1,())
theorem at65 (x0:Int×Int×Unit) (h:P65 x0) (K:Ctx) (q:Nat→Value):AtV Tryz.prog 65 (PostR kds65 oks65 [⟨Ty.cons (Ty.int .i64) (Ty.cons (Ty.int .i64) Ty.unit),g65_0 x0⟩] [] [] q K) 11 K q [] [.code b65] (entE 0 0 sig65 (x0,())) (entL sig65 (x0,())):=by
 unfold P65 at h
 unfold g65_0
 exact AtV.ret Tryz.func65 tabOk ext65Ok mixed false [] tys65 [] trivial (by kernel_rfl)
def S65:Am.Spec:={ sig:=sig65,pre:=fun ⟨x0,_⟩=>P65 x0,res:=fun ⟨x0,_⟩=>[⟨Ty.cons (Ty.int .i64) (Ty.cons (Ty.int .i64) Ty.unit),g65_0 x0⟩],kds:=kds65 }
theorem con65:Contract Tryz.prog 65 S65:=contract_of Tryz.func65 hb65 (Nat.le_of_ble_eq_true (by kernel_rfl)) (fun ⟨x0,_⟩ h _ K q=>at65 x0 h K q)
end
noncomputable section
def ext26:Ext:=[(65,S65)]
theorem ext26Ok:ExtOk Tryz.prog ext26:=⟨⟨ca65,con65⟩,trivial⟩
noncomputable def b26:Code:=bodyOf Tryz.f26
theorem hb26:Tryz.f26.body=some b26:=by kernel_rfl
def sig26:List AT:=[AT.v (Ty.sl YA9)]
def tys26:List Ty:=[Ty.sl YA9]
def kds26:List RK:=[]
def oks26:List AT:=owns sig26
def E26_3 (v4:Int) (h0:List TyB4) (x0:List TyB4):Env:=[(0,PV.a (Atom.sl YA9 x0)),(3,PV.a (Atom.osl 0 Option.none)),(4,PV.a (Atom.val (Value.int .i64 v4)))]
def L26_3 (v4:Int) (h0:List TyB4) (x0:List TyB4):Heap:=[Option.some (Arr.mk YA9 h0 false Option.none Option.none)]
mutual
def R26:Nat→List TyB4→List Dyn→Prop
 | 0,_,_=>False
 | n+1,x0,ds=>((0≤(↑(List.length x0):Int))∧((↑(List.length x0):Int)≤(↑(List.length x0):Int))∧(16*(↑(List.length x0):Int)≤281474976710656)∧(R26_3 n (0) (List.replicate (Int.toNat (↑(List.length x0):Int)) (0,0,())) (x0) ds))
def R26_3:Nat→Int→List TyB4→List TyB4→List Dyn→Prop
 | 0,_,_,_,_=>False
 | n+1,v4,h0,x0,ds=>(if (decide (v4<(↑(List.length x0):Int)))=true then ((0≤v4)∧(v4<(↑(List.length x0):Int))∧((0≤v4)∧(v4<(↑(List.length h0):Int))∧((InR .i64 (v4+1))∧(R26_3 n (v4+1) (List.set h0 (Int.toNat v4) ((List.getD x0 (Int.toNat v4) (0,0,())).1,(List.getD x0 (Int.toNat v4) (0,0,())).2.1,())) (x0) ds)))) else (ds=[Dyn.mk (Ty.sl YA9) h0]))
end
theorem snd26:∀ n,(∀ (x0:List TyB4) ds,R26 n x0 ds→∀ K q,AtV Tryz.prog 26 (PostR kds26 oks26 ds [] [] q K) 23 K q [] [.code b26] (entE 0 0 sig26 (x0,())) (entL sig26 (x0,())))∧(∀ (v4:Int) (h0:List TyB4) (x0:List TyB4) ds,R26_3 n v4 h0 x0 ds→∀ K q,AtV Tryz.prog 26 (PostR kds26 oks26 ds [] [] q K) 23 K q [] (cutAt b26 3) (E26_3 v4 h0 x0) (L26_3 v4 h0 x0)):=by
 intro n
 induction n with
 | zero=>exact ⟨fun _ _ h=>by simp only [R26] at h,fun _ _ _ _ h=>by simp only [R26_3] at h⟩
 | succ n ih =>
 obtain ⟨ih,ih3⟩:=ih
 refine ⟨?_,?_⟩
 ·intro x0 ds h K q
  rw [R26] at h
  obtain ⟨s0,s1,s2,h⟩:=h
  exact AtV.go tabOk ext26Ok mixed false [] [] [0,3,4] [0] [] (a1 s0 (a1 s1 (a1 s2 trivial))) (ih3 _ _ _ _ h K q) (by kernel_rfl)
 ·intro v4 h0 x0 ds h K q
  rw [R26_3] at h
  by_cases b0:(decide (v4<(↑(List.length x0):Int)))=true
  ·rw [if_pos b0] at h
   obtain ⟨s0,s1,h⟩:=h
   obtain ⟨s2,s3,h⟩:=h
   obtain ⟨s4,h⟩:=h
   exact AtV.go tabOk ext26Ok mixed false [] [] [0,3,4] [0] [true] (a1 b0 (a1 s0 (a1 s1 (a1 trivial (a1 s2 (a1 s3 (a1 s4 trivial))))))) (ih3 _ _ _ _ h K q) (by kernel_rfl)
  ·rw [if_neg b0] at h
   replace b0:=Bool.eq_false_iff.2 b0
   subst h
   exact AtV.ret Tryz.func26 tabOk ext26Ok mixed false [] tys26 [false] (a1 b0 trivial) (by kernel_rfl)
theorem run26 (x0:List TyB4) (hm:x0.length≤maxLen):∀ (k i:Nat),i+k=x0.length →
  R26_3 (k+1) (i:Int) (x0.take i++List.replicate k ((0:Int),(0:Int),())) x0 [⟨.sl (.cons (.int .i64) (.cons (.int .i64) .unit)),x0⟩]:=by
 intro k
 induction k with
 | zero =>
  intro i hi
  rw [R26_3,if_neg (by simp;omega),List.take_of_length_le (by omega)]
  simp
 | succ k ih =>
  intro i hi
  rw [R26_3,if_pos (by simp;omega)]
  simp only [Int.toNat_natCast]
  refine ⟨by omega,by omega,by omega,by simp;omega,inR_up hm (by omega),?_⟩
  have hs:=set_step x0 ((0:Int),(0:Int),()) i (by omega) (k+1) (by omega)
  have he:∀ y:TyB4,(y.1,y.2.1,())=y:=fun _=>rfl
  rw [he,hs]
  exact ih (i+1) (by omega)
def g26_0 (x0:List TyB4):List TyB4:=x0
def P26 (x0:List TyB4):Prop:=16*(x0.length:Int)≤281474976710656
def S26:Am.Spec:={ sig:=sig26,pre:=fun ⟨x0,_⟩=>P26 x0,res:=fun ⟨x0,_⟩=>[⟨.sl (.cons (.int .i64) (.cons (.int .i64) .unit)),g26_0 x0⟩] }
theorem con26:Contract Tryz.prog 26 S26:=contract_of Tryz.func26 hb26 (Nat.le_of_ble_eq_true (by kernel_rfl)) (fun ⟨x0,_⟩ h hwf K q=>by
 refine (snd26 (x0.length+2)).1 x0 _ ?_ K q
 show R26 (x0.length+1+1) x0 [⟨.sl (.cons (.int .i64) (.cons (.int .i64) .unit)),x0⟩]
 rw [R26]
 refine ⟨by omega,by omega,h,?_⟩
 have:=run26 x0 hwf.1.1 x0.length 0 (by omega)
 simpa using this)
end
noncomputable section
def ext66:Ext:=[]
theorem ext66Ok:ExtOk Tryz.prog ext66:=trivial
noncomputable def b66:Code:=bodyOf Tryz.f66
theorem hb66:Tryz.f66.body=some b66:=by kernel_rfl
def sig66:List AT:=[AT.v YA6]
def tys66:List Ty:=[Ty.cons (Ty.int .i64) (Ty.cons (Ty.int .i64) (Ty.cons Ty.str (Ty.cons (Ty.int .i64) Ty.unit)))]
def kds66:List RK:=[]
def oks66:List AT:=owns sig66
def P66 (x0:Int×Int×ByteArray×Int×Unit):Prop:=True
def g66_0 (x0:Int×Int×ByteArray×Int×Unit):Int×Int×ByteArray×Int×Unit:=(x0.1,x0.2.1,x0.2.2.1,x0.2.2.2.1,())
theorem at66 (x0:Int×Int×ByteArray×Int×Unit) (h:P66 x0) (K:Ctx) (q:Nat→Value):AtV Tryz.prog 66 (PostR kds66 oks66 [⟨Ty.cons (Ty.int .i64) (Ty.cons (Ty.int .i64) (Ty.cons Ty.str (Ty.cons (Ty.int .i64) Ty.unit))),g66_0 x0⟩] [] [] q K) 17 K q [] [.code b66] (entE 0 0 sig66 (x0,())) (entL sig66 (x0,())):=by
 unfold P66 at h
 unfold g66_0
 exact AtV.ret Tryz.func66 tabOk ext66Ok mixed false [] tys66 [] trivial (by kernel_rfl)
def S66:Am.Spec:={ sig:=sig66,pre:=fun ⟨x0,_⟩=>P66 x0,res:=fun ⟨x0,_⟩=>[⟨Ty.cons (Ty.int .i64) (Ty.cons (Ty.int .i64) (Ty.cons Ty.str (Ty.cons (Ty.int .i64) Ty.unit))),g66_0 x0⟩],kds:=kds66 }
theorem con66:Contract Tryz.prog 66 S66:=contract_of Tryz.func66 hb66 (Nat.le_of_ble_eq_true (by kernel_rfl)) (fun ⟨x0,_⟩ h _ K q=>at66 x0 h K q)
end
noncomputable section
def ext27:Ext:=[(66,S66)]
theorem ext27Ok:ExtOk Tryz.prog ext27:=⟨⟨ca66,con66⟩,trivial⟩
noncomputable def b27:Code:=bodyOf Tryz.f27
theorem hb27:Tryz.f27.body=some b27:=by kernel_rfl
def sig27:List AT:=[AT.v (Ty.sl YA6)]
def tys27:List Ty:=[Ty.sl YA6]
def kds27:List RK:=[]
def oks27:List AT:=owns sig27
def E27_3 (v4:Int) (h0:List TyB2) (x0:List TyB2):Env:=[(0,PV.a (Atom.sl YA6 x0)),(3,PV.a (Atom.osl 0 Option.none)),(4,PV.a (Atom.val (Value.int .i64 v4)))]
def L27_3 (v4:Int) (h0:List TyB2) (x0:List TyB2):Heap:=[Option.some (Arr.mk YA6 h0 false Option.none Option.none)]
mutual
def R27:Nat→List TyB2→List Dyn→Prop
 | 0,_,_=>False
 | n+1,x0,ds=>((0≤(↑(List.length x0):Int))∧((↑(List.length x0):Int)≤(↑(List.length x0):Int))∧(40*(↑(List.length x0):Int)≤281474976710656)∧(R27_3 n (0) (List.replicate (Int.toNat (↑(List.length x0):Int)) (0,0,ByteArray.empty,0,())) (x0) ds))
def R27_3:Nat→Int→List TyB2→List TyB2→List Dyn→Prop
 | 0,_,_,_,_=>False
 | n+1,v4,h0,x0,ds=>(if (decide (v4<(↑(List.length x0):Int)))=true then ((0≤v4)∧(v4<(↑(List.length x0):Int))∧((0≤v4)∧(v4<(↑(List.length h0):Int))∧((InR .i64 (v4+1))∧(R27_3 n (v4+1) (List.set h0 (Int.toNat v4) ((List.getD x0 (Int.toNat v4) (0,0,ByteArray.empty,0,())).1,(List.getD x0 (Int.toNat v4) (0,0,ByteArray.empty,0,())).2.1,(List.getD x0 (Int.toNat v4) (0,0,ByteArray.empty,0,())).2.2.1,(List.getD x0 (Int.toNat v4) (0,0,ByteArray.empty,0,())).2.2.2.1,())) (x0) ds)))) else (ds=[Dyn.mk (Ty.sl YA6) h0]))
end
theorem snd27:∀ n,(∀ (x0:List TyB2) ds,R27 n x0 ds→∀ K q,AtV Tryz.prog 27 (PostR kds27 oks27 ds [] [] q K) 23 K q [] [.code b27] (entE 0 0 sig27 (x0,())) (entL sig27 (x0,())))∧(∀ (v4:Int) (h0:List TyB2) (x0:List TyB2) ds,R27_3 n v4 h0 x0 ds→∀ K q,AtV Tryz.prog 27 (PostR kds27 oks27 ds [] [] q K) 23 K q [] (cutAt b27 3) (E27_3 v4 h0 x0) (L27_3 v4 h0 x0)):=by
 intro n
 induction n with
 | zero=>exact ⟨fun _ _ h=>by simp only [R27] at h,fun _ _ _ _ h=>by simp only [R27_3] at h⟩
 | succ n ih =>
 obtain ⟨ih,ih3⟩:=ih
 refine ⟨?_,?_⟩
 ·intro x0 ds h K q
  rw [R27] at h
  obtain ⟨s0,s1,s2,h⟩:=h
  exact AtV.go tabOk ext27Ok mixed false [] [] [0,3,4] [0] [] (a1 s0 (a1 s1 (a1 s2 trivial))) (ih3 _ _ _ _ h K q) (by kernel_rfl)
 ·intro v4 h0 x0 ds h K q
  rw [R27_3] at h
  by_cases b0:(decide (v4<(↑(List.length x0):Int)))=true
  ·rw [if_pos b0] at h
   obtain ⟨s0,s1,h⟩:=h
   obtain ⟨s2,s3,h⟩:=h
   obtain ⟨s4,h⟩:=h
   exact AtV.go tabOk ext27Ok mixed false [] [] [0,3,4] [0] [true] (a1 b0 (a1 s0 (a1 s1 (a1 trivial (a1 s2 (a1 s3 (a1 s4 trivial))))))) (ih3 _ _ _ _ h K q) (by kernel_rfl)
  ·rw [if_neg b0] at h
   replace b0:=Bool.eq_false_iff.2 b0
   subst h
   exact AtV.ret Tryz.func27 tabOk ext27Ok mixed false [] tys27 [false] (a1 b0 trivial) (by kernel_rfl)
theorem run27 (x0:List TyB2) (hm:x0.length≤maxLen):∀ (k i:Nat),i+k=x0.length →
  R27_3 (k+1) (i:Int) (x0.take i++List.replicate k ((0:Int),(0:Int),ByteArray.empty,(0:Int),())) x0 [⟨.sl (.cons (.int .i64) (.cons (.int .i64) (.cons .str (.cons (.int .i64) .unit)))),x0⟩]:=by
 intro k
 induction k with
 | zero =>
  intro i hi
  rw [R27_3,if_neg (by simp;omega),List.take_of_length_le (by omega)]
  simp
 | succ k ih =>
  intro i hi
  rw [R27_3,if_pos (by simp;omega)]
  simp only [Int.toNat_natCast]
  refine ⟨by omega,by omega,by omega,by simp;omega,inR_up hm (by omega),?_⟩
  have hs:=set_step x0 ((0:Int),(0:Int),ByteArray.empty,(0:Int),()) i (by omega) (k+1) (by omega)
  have he:∀ y:TyB2,(y.1,y.2.1,y.2.2.1,y.2.2.2.1,())=y:=fun _=>rfl
  rw [he,hs]
  exact ih (i+1) (by omega)
def g27_0 (x0:List TyB2):List TyB2:=x0
def P27 (x0:List TyB2):Prop:=40*(x0.length:Int)≤281474976710656
def S27:Am.Spec:={ sig:=sig27,pre:=fun ⟨x0,_⟩=>P27 x0,res:=fun ⟨x0,_⟩=>[⟨.sl (.cons (.int .i64) (.cons (.int .i64) (.cons .str (.cons (.int .i64) .unit)))),g27_0 x0⟩] }
theorem con27:Contract Tryz.prog 27 S27:=contract_of Tryz.func27 hb27 (Nat.le_of_ble_eq_true (by kernel_rfl)) (fun ⟨x0,_⟩ h hwf K q=>by
 refine (snd27 (x0.length+2)).1 x0 _ ?_ K q
 show R27 (x0.length+1+1) x0 [⟨.sl (.cons (.int .i64) (.cons (.int .i64) (.cons .str (.cons (.int .i64) .unit)))),x0⟩]
 rw [R27]
 refine ⟨by omega,by omega,h,?_⟩
 have:=run27 x0 hwf.1.1 x0.length 0 (by omega)
 simpa using this)
end
noncomputable section
def ext6:Ext:=[(20,S20),(21,S21),(22,S22),(23,S23),(24,S24),(25,S25),(26,S26),(27,S27)]
theorem ext6Ok:ExtOk Tryz.prog ext6:=⟨⟨ca20,con20⟩,⟨ca21,con21⟩,⟨ca22,con22⟩,⟨ca23,con23⟩,⟨ca24,con24⟩,⟨ca25,con25⟩,⟨ca26,con26⟩,⟨ca27,con27⟩,trivial⟩
noncomputable def b6:Code:=bodyOf Tryz.f6
theorem hb6:Tryz.f6.body=some b6:=by kernel_rfl
def sig6:List AT:=[AT.v YA0]
def tys6:List Ty:=[Ty.cons YA2 YA1]
def kds6:List RK:=[]
def oks6:List AT:=owns sig6
def P6 (x0:TyA0):Prop:=((P20 x0.1)∧((P23 x0.2.2.2.2.1)∧((P25 x0.2.2.2.2.2.2.1)∧((P26 x0.2.2.2.2.2.2.2.2.2.1)∧((P27 x0.2.2.2.2.2.2.2.2.2.2.2.1)∧True)))))
def g6_0 (x0:TyA0):TyA0:=(((g20_0 x0.1).1,(g20_0 x0.1).2.1,(g20_0 x0.1).2.2.1,()),x0.2.1,(x0.2.2.1.1,x0.2.2.1.2.1,()),(x0.2.2.2.1.1,x0.2.2.2.1.2.1,x0.2.2.2.1.2.2.1,x0.2.2.2.1.2.2.2.1,()),g23_0 x0.2.2.2.2.1,(x0.2.2.2.2.2.1.1,x0.2.2.2.2.2.1.2.1,x0.2.2.2.2.2.1.2.2.1,()),g25_0 x0.2.2.2.2.2.2.1,x0.2.2.2.2.2.2.2.1,x0.2.2.2.2.2.2.2.2.1,g26_0 x0.2.2.2.2.2.2.2.2.2.1,x0.2.2.2.2.2.2.2.2.2.2.1,g27_0 x0.2.2.2.2.2.2.2.2.2.2.2.1,())
theorem at6 (x0:TyA0) (h:P6 x0) (K:Ctx) (q:Nat→Value):AtV Tryz.prog 6 (PostR kds6 oks6 [⟨Ty.cons YA2 YA1,g6_0 x0⟩] [] [] q K) 49 K q [] [.code b6] (entE 0 0 sig6 (x0,())) (entL sig6 (x0,())):=by
 unfold P6 at h
 unfold g6_0
 obtain ⟨s0,h⟩:=h
 obtain ⟨s1,h⟩:=h
 obtain ⟨s2,h⟩:=h
 obtain ⟨s3,h⟩:=h
 obtain ⟨s4,h⟩:=h
 exact AtV.ret Tryz.func6 tabOk ext6Ok mixed false [] tys6 [] (a1 s0 (a1 trivial (a1 trivial (a1 s1 (a1 trivial (a1 s2 (a1 s3 (a1 s4 trivial)))))))) (by kernel_rfl)
def S6:Am.Spec:={ sig:=sig6,pre:=fun ⟨x0,_⟩=>P6 x0,res:=fun ⟨x0,_⟩=>[⟨Ty.cons YA2 YA1,g6_0 x0⟩],kds:=kds6 }
theorem con6:Contract Tryz.prog 6 S6:=contract_of Tryz.func6 hb6 (Nat.le_of_ble_eq_true (by kernel_rfl)) (fun ⟨x0,_⟩ h _ K q=>at6 x0 h K q)
end
noncomputable section
def ext30:Ext:=[]
theorem ext30Ok:ExtOk Tryz.prog ext30:=trivial
noncomputable def b30:Code:=bodyOf Tryz.f30
theorem hb30:Tryz.f30.body=some b30:=by kernel_rfl
def sig30:List AT:=[AT.v YA8,AT.v YA8]
def tys30:List Ty:=[Ty.bool]
def kds30:List RK:=[]
def oks30:List AT:=owns sig30
def P30 (x0:Int×ByteArray×ByteArray×Unit) (x1:Int×ByteArray×ByteArray×Unit):Prop:=True
def g30_0 (x0:Int×ByteArray×ByteArray×Unit) (x1:Int×ByteArray×ByteArray×Unit):Bool:=(if (x0.1 != x1.1)=true then false else (if (!ByteArray.toList x0.2.1==ByteArray.toList x1.2.1)=true then false else (if (!ByteArray.toList x0.2.2.1==ByteArray.toList x1.2.2.1)=true then false else true)))
theorem at30 (x0:Int×ByteArray×ByteArray×Unit) (x1:Int×ByteArray×ByteArray×Unit) (h:P30 x0 x1) (K:Ctx) (q:Nat→Value):AtV Tryz.prog 30 (PostR kds30 oks30 [⟨Ty.bool,g30_0 x0 x1⟩] [] [] q K) 20 K q [] [.code b30] (entE 0 0 sig30 (x0,x1,())) (entL sig30 (x0,x1,())):=by
 unfold P30 at h
 unfold g30_0
 by_cases b0:(x0.1 != x1.1)=true
 ·try simp only [if_pos b0] at h ⊢
  exact AtV.ret Tryz.func30 tabOk ext30Ok mixed false [] tys30 [true] (a1 b0 trivial) (by kernel_rfl)
 ·try simp only [if_neg b0] at h ⊢
  replace b0:=Bool.eq_false_iff.2 b0
  by_cases b1:(!ByteArray.toList x0.2.1==ByteArray.toList x1.2.1)=true
  ·try simp only [if_pos b1] at h ⊢
   exact AtV.ret Tryz.func30 tabOk ext30Ok mixed false [] tys30 [false,true] (a1 b0 (a1 b1 trivial)) (by kernel_rfl)
  ·try simp only [if_neg b1] at h ⊢
   replace b1:=Bool.eq_false_iff.2 b1
   by_cases b2:(!ByteArray.toList x0.2.2.1==ByteArray.toList x1.2.2.1)=true
   ·try simp only [if_pos b2] at h ⊢
    exact AtV.ret Tryz.func30 tabOk ext30Ok mixed false [] tys30 [false,false,true] (a1 b0 (a1 b1 (a1 b2 trivial))) (by kernel_rfl)
   ·try simp only [if_neg b2] at h ⊢
    replace b2:=Bool.eq_false_iff.2 b2
    exact AtV.ret Tryz.func30 tabOk ext30Ok mixed false [] tys30 [false,false,false] (a1 b0 (a1 b1 (a1 b2 trivial))) (by kernel_rfl)
def S30:Am.Spec:={ sig:=sig30,pre:=fun ⟨x0,x1,_⟩=>P30 x0 x1,res:=fun ⟨x0,x1,_⟩=>[⟨Ty.bool,g30_0 x0 x1⟩],kds:=kds30 }
theorem con30:Contract Tryz.prog 30 S30:=contract_of Tryz.func30 hb30 (Nat.le_of_ble_eq_true (by kernel_rfl)) (fun ⟨x0,x1,_⟩ h _ K q=>at30 x0 x1 h K q)
theorem eqd30 (x y:TyB3):g30_0 x y=true↔x=y:=by
 obtain ⟨a,b,c,u⟩:=x
 obtain ⟨a',b',c',u'⟩:=y
 unfold g30_0
 simp only [Bool.not_eq_true',bytes_ne,bne_iff_ne,ne_eq,ite_not]
 by_cases h0:a=a'
 ·by_cases h1:b=b'
  ·by_cases h2:c=c'
   ·simp [h0,h1,h2]
   ·simp [h0,h1,h2]
  ·simp [h0,h1]
 ·simp [h0]
end
noncomputable section
def ext8:Ext:=[(30,S30)]
theorem ext8Ok:ExtOk Tryz.prog ext8:=⟨⟨ca30,con30⟩,trivial⟩
noncomputable def b8:Code:=bodyOf Tryz.f8
theorem hb8:Tryz.f8.body=some b8:=by kernel_rfl
def sig8:List AT:=[AT.v (Ty.sl YA8),AT.v (Ty.sl YA8)]
def tys8:List Ty:=[Ty.bool]
def kds8:List RK:=[]
def oks8:List AT:=owns sig8
def E8_4 (v5:Int) (x0:List TyB3) (x1:List TyB3):Env:=[(0,PV.a (Atom.sl YA8 x0)),(1,PV.a (Atom.sl YA8 x1)),(5,PV.a (Atom.val (Value.int .i64 v5)))]
def L8_4 (v5:Int) (x0:List TyB3) (x1:List TyB3):Heap:=[]
mutual
def R8:Nat→List TyB3→List TyB3→List Dyn→Prop
 | 0,_,_,_=>False
 | n+1,x0,x1,ds=>(if ((↑(List.length x0):Int) != (↑(List.length x1):Int))=true then (ds=[Dyn.mk Ty.bool false]) else (R8_4 n (0) (x0) (x1) ds))
def R8_4:Nat→Int→List TyB3→List TyB3→List Dyn→Prop
 | 0,_,_,_,_=>False
 | n+1,v5,x0,x1,ds=>(if (decide (v5<(↑(List.length x0):Int)))=true then ((0≤v5)∧(v5<(↑(List.length x0):Int))∧((0≤v5)∧(v5<(↑(List.length x1):Int))∧(if (!g30_0 (List.getD x0 (Int.toNat v5) (0,ByteArray.empty,ByteArray.empty,())) (List.getD x1 (Int.toNat v5) (0,ByteArray.empty,ByteArray.empty,())))=true then (ds=[Dyn.mk Ty.bool false]) else ((InR .i64 (v5+1))∧(R8_4 n (v5+1) (x0) (x1) ds))))) else (ds=[Dyn.mk Ty.bool true]))
end
theorem snd8:∀ n,(∀ (x0:List TyB3) (x1:List TyB3) ds,R8 n x0 x1 ds→∀ K q,AtV Tryz.prog 8 (PostR kds8 oks8 ds [] [] q K) 27 K q [] [.code b8] (entE 0 0 sig8 (x0,x1,())) (entL sig8 (x0,x1,())))∧(∀ (v5:Int) (x0:List TyB3) (x1:List TyB3) ds,R8_4 n v5 x0 x1 ds→∀ K q,AtV Tryz.prog 8 (PostR kds8 oks8 ds [] [] q K) 27 K q [] (cutAt b8 4) (E8_4 v5 x0 x1) (L8_4 v5 x0 x1)):=by
 intro n
 induction n with
 | zero=>exact ⟨fun _ _ _ h=>by simp only [R8] at h,fun _ _ _ _ h=>by simp only [R8_4] at h⟩
 | succ n ih =>
 obtain ⟨ih,ih4⟩:=ih
 refine ⟨?_,?_⟩
 ·intro x0 x1 ds h K q
  rw [R8] at h
  by_cases b0:((↑(List.length x0):Int) != (↑(List.length x1):Int))=true
  ·rw [if_pos b0] at h
   subst h
   exact AtV.ret Tryz.func8 tabOk ext8Ok mixed false [] tys8 [true] (a1 b0 trivial) (by kernel_rfl)
  ·rw [if_neg b0] at h
   replace b0:=Bool.eq_false_iff.2 b0
   exact AtV.go tabOk ext8Ok mixed false [] [] [0,1,5] [] [false] (a1 b0 trivial) (ih4 _ _ _ _ h K q) (by kernel_rfl)
 ·intro v5 x0 x1 ds h K q
  rw [R8_4] at h
  by_cases b0:(decide (v5<(↑(List.length x0):Int)))=true
  ·rw [if_pos b0] at h
   obtain ⟨s0,s1,h⟩:=h
   obtain ⟨s2,s3,h⟩:=h
   by_cases b1:(!g30_0 (List.getD x0 (Int.toNat v5) (0,ByteArray.empty,ByteArray.empty,())) (List.getD x1 (Int.toNat v5) (0,ByteArray.empty,ByteArray.empty,())))=true
   ·rw [if_pos b1] at h
    subst h
    exact AtV.ret Tryz.func8 tabOk ext8Ok mixed false [] tys8 [true,true] (a1 b0 (a1 s0 (a1 s1 (a1 s2 (a1 s3 (a1 trivial (a1 b1 trivial))))))) (by kernel_rfl)
   ·rw [if_neg b1] at h
    replace b1:=Bool.eq_false_iff.2 b1
    obtain ⟨s4,h⟩:=h
    exact AtV.go tabOk ext8Ok mixed false [] [] [0,1,5] [] [true,false] (a1 b0 (a1 s0 (a1 s1 (a1 s2 (a1 s3 (a1 trivial (a1 b1 (a1 s4 trivial)))))))) (ih4 _ _ _ _ h K q) (by kernel_rfl)
  ·rw [if_neg b0] at h
   replace b0:=Bool.eq_false_iff.2 b0
   subst h
   exact AtV.ret Tryz.func8 tabOk ext8Ok mixed false [] tys8 [false] (a1 b0 trivial) (by kernel_rfl)
theorem eq8 (x0 x1:List TyB3) (hl:x0.length=x1.length) (hm:x0.length≤maxLen):∀ k i:Nat,i+k=x0.length→R8_4 (k+1) (i:Int) x0 x1 [⟨.bool,decide (x0.drop i=x1.drop i)⟩]:=by
 intro k
 induction k with
 | zero =>
  intro i hi
  have h1:¬ (i:Int)<(x0.length:Int):=by omega
  rw [R8_4,if_neg (by simpa using h1),drop_end x0 i (by omega),drop_end x1 i (by omega)]
  simp
 | succ k ih =>
  intro i hi
  have h1:(i:Int)<(x0.length:Int):=by omega
  rw [R8_4,if_pos (by simpa using h1)]
  refine ⟨by omega,h1,by omega,by omega,?_⟩
  simp only [Int.toNat_natCast]
  rw [drop_get x0 i ((0:Int),ByteArray.empty,ByteArray.empty,()) (by omega),drop_get x1 i ((0:Int),ByteArray.empty,ByteArray.empty,()) (by omega)]
  by_cases he:x0.getD i ((0:Int),ByteArray.empty,ByteArray.empty,())=x1.getD i ((0:Int),ByteArray.empty,ByteArray.empty,())
  ·have hd:=(eqd30 _ _).2 he
   rw [if_neg (by rw [hd];simp)]
   refine ⟨inR_up hm (by omega),?_⟩
   have:=ih (i+1) (by omega)
   simp only [he,List.cons.injEq,true_and]
   exact this
  ·have hd:g30_0 (x0.getD i ((0:Int),ByteArray.empty,ByteArray.empty,())) (x1.getD i ((0:Int),ByteArray.empty,ByteArray.empty,()))=false :=
    Bool.eq_false_iff.2 fun h=>he ((eqd30 _ _).1 h)
   rw [if_pos (by rw [hd];rfl)]
   simp only [he,List.cons.injEq,false_and,decide_false]
def g8_0 (x0 x1:List TyB3):Bool:=decide (x0=x1)
def P8 (x0 x1:List TyB3):Prop:=True
def S8:Am.Spec:={ sig:=sig8,pre:=fun ⟨x0,x1,_⟩=>P8 x0 x1,res:=fun ⟨x0,x1,_⟩=>[⟨Ty.bool,g8_0 x0 x1⟩] }
theorem con8:Contract Tryz.prog 8 S8:=contract_of Tryz.func8 hb8 (Nat.le_of_ble_eq_true (by kernel_rfl)) (fun ⟨x0,x1,_⟩ h hwf K q=>by
 refine (snd8 (x0.length+2)).1 x0 x1 _ ?_ K q
 show R8 (x0.length+1+1) x0 x1 [⟨Ty.bool,decide (x0=x1)⟩]
 rw [R8]
 by_cases hl:x0.length=x1.length
 ·rw [if_neg (by simp [hl])]
  have:=eq8 x0 x1 hl hwf.1.1 x0.length 0 (by omega)
  simpa using this
 ·rw [if_pos (by simp;omega)]
  have:x0≠x1:=fun h=>hl (by rw [h])
  simp [this])
end
noncomputable section
def ext109:Ext:=[]
theorem ext109Ok:ExtOk Tryz.prog ext109:=trivial
noncomputable def b109:Code:=bodyOf Tryz.f109
theorem hb109:Tryz.f109.body=some b109:=by kernel_rfl
def sig109:List AT:=[AT.v YA9,AT.v YA9]
def tys109:List Ty:=[Ty.bool]
def kds109:List RK:=[]
def oks109:List AT:=owns sig109
def P109 (x0:Int×Int×Unit) (x1:Int×Int×Unit):Prop:=True
def g109_0 (x0:Int×Int×Unit) (x1:Int×Int×Unit):Bool:=(if (x0.1 != x1.1)=true then false else (if (x0.2.1 != x1.2.1)=true then false else true))
theorem at109 (x0:Int×Int×Unit) (x1:Int×Int×Unit) (h:P109 x0 x1) (K:Ctx) (q:Nat→Value):AtV Tryz.prog 109 (PostR kds109 oks109 [⟨Ty.bool,g109_0 x0 x1⟩] [] [] q K) 15 K q [] [.code b109] (entE 0 0 sig109 (x0,x1,())) (entL sig109 (x0,x1,())):=by
 unfold P109 at h
 unfold g109_0
 by_cases b0:(x0.1 != x1.1)=true
 ·try simp only [if_pos b0] at h ⊢
  exact AtV.ret Tryz.func109 tabOk ext109Ok mixed false [] tys109 [true] (a1 b0 trivial) (by kernel_rfl)
 ·try simp only [if_neg b0] at h ⊢
  replace b0:=Bool.eq_false_iff.2 b0
  by_cases b1:(x0.2.1 != x1.2.1)=true
  ·try simp only [if_pos b1] at h ⊢
   exact AtV.ret Tryz.func109 tabOk ext109Ok mixed false [] tys109 [false,true] (a1 b0 (a1 b1 trivial)) (by kernel_rfl)
  ·try simp only [if_neg b1] at h ⊢
   replace b1:=Bool.eq_false_iff.2 b1
   exact AtV.ret Tryz.func109 tabOk ext109Ok mixed false [] tys109 [false,false] (a1 b0 (a1 b1 trivial)) (by kernel_rfl)
def S109:Am.Spec:={ sig:=sig109,pre:=fun ⟨x0,x1,_⟩=>P109 x0 x1,res:=fun ⟨x0,x1,_⟩=>[⟨Ty.bool,g109_0 x0 x1⟩],kds:=kds109 }
theorem con109:Contract Tryz.prog 109 S109:=contract_of Tryz.func109 hb109 (Nat.le_of_ble_eq_true (by kernel_rfl)) (fun ⟨x0,x1,_⟩ h _ K q=>at109 x0 x1 h K q)
theorem eqd109 (x y:TyB4):g109_0 x y=true↔x=y:=by
 obtain ⟨a,b,u⟩:=x
 obtain ⟨a',b',u'⟩:=y
 unfold g109_0
 simp only [Bool.not_eq_true',bytes_ne,bne_iff_ne,ne_eq,ite_not]
 by_cases h0:a=a'
 ·by_cases h1:b=b'
  ·simp [h0,h1]
  ·simp [h0,h1]
 ·simp [h0]
end
noncomputable section
def ext72:Ext:=[(109,S109)]
theorem ext72Ok:ExtOk Tryz.prog ext72:=⟨⟨ca109,con109⟩,trivial⟩
noncomputable def b72:Code:=bodyOf Tryz.f72
theorem hb72:Tryz.f72.body=some b72:=by kernel_rfl
def sig72:List AT:=[AT.v (Ty.sl YA9),AT.v (Ty.sl YA9)]
def tys72:List Ty:=[Ty.bool]
def kds72:List RK:=[]
def oks72:List AT:=owns sig72
def E72_4 (v5:Int) (x0:List TyB4) (x1:List TyB4):Env:=[(0,PV.a (Atom.sl YA9 x0)),(1,PV.a (Atom.sl YA9 x1)),(5,PV.a (Atom.val (Value.int .i64 v5)))]
def L72_4 (v5:Int) (x0:List TyB4) (x1:List TyB4):Heap:=[]
mutual
def R72:Nat→List TyB4→List TyB4→List Dyn→Prop
 | 0,_,_,_=>False
 | n+1,x0,x1,ds=>(if ((↑(List.length x0):Int) != (↑(List.length x1):Int))=true then (ds=[Dyn.mk Ty.bool false]) else (R72_4 n (0) (x0) (x1) ds))
def R72_4:Nat→Int→List TyB4→List TyB4→List Dyn→Prop
 | 0,_,_,_,_=>False
 | n+1,v5,x0,x1,ds=>(if (decide (v5<(↑(List.length x0):Int)))=true then ((0≤v5)∧(v5<(↑(List.length x0):Int))∧((0≤v5)∧(v5<(↑(List.length x1):Int))∧(if (!g109_0 (List.getD x0 (Int.toNat v5) (0,0,())) (List.getD x1 (Int.toNat v5) (0,0,())))=true then (ds=[Dyn.mk Ty.bool false]) else ((InR .i64 (v5+1))∧(R72_4 n (v5+1) (x0) (x1) ds))))) else (ds=[Dyn.mk Ty.bool true]))
end
theorem snd72:∀ n,(∀ (x0:List TyB4) (x1:List TyB4) ds,R72 n x0 x1 ds→∀ K q,AtV Tryz.prog 72 (PostR kds72 oks72 ds [] [] q K) 27 K q [] [.code b72] (entE 0 0 sig72 (x0,x1,())) (entL sig72 (x0,x1,())))∧(∀ (v5:Int) (x0:List TyB4) (x1:List TyB4) ds,R72_4 n v5 x0 x1 ds→∀ K q,AtV Tryz.prog 72 (PostR kds72 oks72 ds [] [] q K) 27 K q [] (cutAt b72 4) (E72_4 v5 x0 x1) (L72_4 v5 x0 x1)):=by
 intro n
 induction n with
 | zero=>exact ⟨fun _ _ _ h=>by simp only [R72] at h,fun _ _ _ _ h=>by simp only [R72_4] at h⟩
 | succ n ih =>
 obtain ⟨ih,ih4⟩:=ih
 refine ⟨?_,?_⟩
 ·intro x0 x1 ds h K q
  rw [R72] at h
  by_cases b0:((↑(List.length x0):Int) != (↑(List.length x1):Int))=true
  ·rw [if_pos b0] at h
   subst h
   exact AtV.ret Tryz.func72 tabOk ext72Ok mixed false [] tys72 [true] (a1 b0 trivial) (by kernel_rfl)
  ·rw [if_neg b0] at h
   replace b0:=Bool.eq_false_iff.2 b0
   exact AtV.go tabOk ext72Ok mixed false [] [] [0,1,5] [] [false] (a1 b0 trivial) (ih4 _ _ _ _ h K q) (by kernel_rfl)
 ·intro v5 x0 x1 ds h K q
  rw [R72_4] at h
  by_cases b0:(decide (v5<(↑(List.length x0):Int)))=true
  ·rw [if_pos b0] at h
   obtain ⟨s0,s1,h⟩:=h
   obtain ⟨s2,s3,h⟩:=h
   by_cases b1:(!g109_0 (List.getD x0 (Int.toNat v5) (0,0,())) (List.getD x1 (Int.toNat v5) (0,0,())))=true
   ·rw [if_pos b1] at h
    subst h
    exact AtV.ret Tryz.func72 tabOk ext72Ok mixed false [] tys72 [true,true] (a1 b0 (a1 s0 (a1 s1 (a1 s2 (a1 s3 (a1 trivial (a1 b1 trivial))))))) (by kernel_rfl)
   ·rw [if_neg b1] at h
    replace b1:=Bool.eq_false_iff.2 b1
    obtain ⟨s4,h⟩:=h
    exact AtV.go tabOk ext72Ok mixed false [] [] [0,1,5] [] [true,false] (a1 b0 (a1 s0 (a1 s1 (a1 s2 (a1 s3 (a1 trivial (a1 b1 (a1 s4 trivial)))))))) (ih4 _ _ _ _ h K q) (by kernel_rfl)
  ·rw [if_neg b0] at h
   replace b0:=Bool.eq_false_iff.2 b0
   subst h
   exact AtV.ret Tryz.func72 tabOk ext72Ok mixed false [] tys72 [false] (a1 b0 trivial) (by kernel_rfl)
theorem eq72 (x0 x1:List TyB4) (hl:x0.length=x1.length) (hm:x0.length≤maxLen):∀ k i:Nat,i+k=x0.length→R72_4 (k+1) (i:Int) x0 x1 [⟨.bool,decide (x0.drop i=x1.drop i)⟩]:=by
 intro k
 induction k with
 | zero =>
  intro i hi
  have h1:¬ (i:Int)<(x0.length:Int):=by omega
  rw [R72_4,if_neg (by simpa using h1),drop_end x0 i (by omega),drop_end x1 i (by omega)]
  simp
 | succ k ih =>
  intro i hi
  have h1:(i:Int)<(x0.length:Int):=by omega
  rw [R72_4,if_pos (by simpa using h1)]
  refine ⟨by omega,h1,by omega,by omega,?_⟩
  simp only [Int.toNat_natCast]
  rw [drop_get x0 i ((0:Int),(0:Int),()) (by omega),drop_get x1 i ((0:Int),(0:Int),()) (by omega)]
  by_cases he:x0.getD i ((0:Int),(0:Int),())=x1.getD i ((0:Int),(0:Int),())
  ·have hd:=(eqd109 _ _).2 he
   rw [if_neg (by rw [hd];simp)]
   refine ⟨inR_up hm (by omega),?_⟩
   have:=ih (i+1) (by omega)
   simp only [he,List.cons.injEq,true_and]
   exact this
  ·have hd:g109_0 (x0.getD i ((0:Int),(0:Int),())) (x1.getD i ((0:Int),(0:Int),()))=false :=
    Bool.eq_false_iff.2 fun h=>he ((eqd109 _ _).1 h)
   rw [if_pos (by rw [hd];rfl)]
   simp only [he,List.cons.injEq,false_and,decide_false]
def g72_0 (x0 x1:List TyB4):Bool:=decide (x0=x1)
def P72 (x0 x1:List TyB4):Prop:=True
def S72:Am.Spec:={ sig:=sig72,pre:=fun ⟨x0,x1,_⟩=>P72 x0 x1,res:=fun ⟨x0,x1,_⟩=>[⟨Ty.bool,g72_0 x0 x1⟩] }
theorem con72:Contract Tryz.prog 72 S72:=contract_of Tryz.func72 hb72 (Nat.le_of_ble_eq_true (by kernel_rfl)) (fun ⟨x0,x1,_⟩ h hwf K q=>by
 refine (snd72 (x0.length+2)).1 x0 x1 _ ?_ K q
 show R72 (x0.length+1+1) x0 x1 [⟨Ty.bool,decide (x0=x1)⟩]
 rw [R72]
 by_cases hl:x0.length=x1.length
 ·rw [if_neg (by simp [hl])]
  have:=eq72 x0 x1 hl hwf.1.1 x0.length 0 (by omega)
  simpa using this
 ·rw [if_pos (by simp;omega)]
  have:x0≠x1:=fun h=>hl (by rw [h])
  simp [this])
end
noncomputable section
def ext31:Ext:=[(72,S72)]
theorem ext31Ok:ExtOk Tryz.prog ext31:=⟨⟨ca72,con72⟩,trivial⟩
noncomputable def b31:Code:=bodyOf Tryz.f31
theorem hb31:Tryz.f31.body=some b31:=by kernel_rfl
def sig31:List AT:=[AT.v YA2,AT.v YA2]
def tys31:List Ty:=[Ty.bool]
def kds31:List RK:=[]
def oks31:List AT:=owns sig31
def P31 (x0:List TyB4×Int×Int×Unit) (x1:List TyB4×Int×Int×Unit):Prop:=True
def g31_0 (x0:List TyB4×Int×Int×Unit) (x1:List TyB4×Int×Int×Unit):Bool:=(if (!g72_0 x0.1 x1.1)=true then false else (if (x0.2.1 != x1.2.1)=true then false else (if (x0.2.2.1 != x1.2.2.1)=true then false else true)))
theorem at31 (x0:List TyB4×Int×Int×Unit) (x1:List TyB4×Int×Int×Unit) (h:P31 x0 x1) (K:Ctx) (q:Nat→Value):AtV Tryz.prog 31 (PostR kds31 oks31 [⟨Ty.bool,g31_0 x0 x1⟩] [] [] q K) 21 K q [] [.code b31] (entE 0 0 sig31 (x0,x1,())) (entL sig31 (x0,x1,())):=by
 unfold P31 at h
 unfold g31_0
 by_cases b0:(!g72_0 x0.1 x1.1)=true
 ·try simp only [if_pos b0] at h ⊢
  exact AtV.ret Tryz.func31 tabOk ext31Ok mixed false [] tys31 [true] (a1 trivial (a1 b0 trivial)) (by kernel_rfl)
 ·try simp only [if_neg b0] at h ⊢
  replace b0:=Bool.eq_false_iff.2 b0
  by_cases b1:(x0.2.1 != x1.2.1)=true
  ·try simp only [if_pos b1] at h ⊢
   exact AtV.ret Tryz.func31 tabOk ext31Ok mixed false [] tys31 [false,true] (a1 trivial (a1 b0 (a1 b1 trivial))) (by kernel_rfl)
  ·try simp only [if_neg b1] at h ⊢
   replace b1:=Bool.eq_false_iff.2 b1
   by_cases b2:(x0.2.2.1 != x1.2.2.1)=true
   ·try simp only [if_pos b2] at h ⊢
    exact AtV.ret Tryz.func31 tabOk ext31Ok mixed false [] tys31 [false,false,true] (a1 trivial (a1 b0 (a1 b1 (a1 b2 trivial)))) (by kernel_rfl)
   ·try simp only [if_neg b2] at h ⊢
    replace b2:=Bool.eq_false_iff.2 b2
    exact AtV.ret Tryz.func31 tabOk ext31Ok mixed false [] tys31 [false,false,false] (a1 trivial (a1 b0 (a1 b1 (a1 b2 trivial)))) (by kernel_rfl)
def S31:Am.Spec:={ sig:=sig31,pre:=fun ⟨x0,x1,_⟩=>P31 x0 x1,res:=fun ⟨x0,x1,_⟩=>[⟨Ty.bool,g31_0 x0 x1⟩],kds:=kds31 }
theorem con31:Contract Tryz.prog 31 S31:=contract_of Tryz.func31 hb31 (Nat.le_of_ble_eq_true (by kernel_rfl)) (fun ⟨x0,x1,_⟩ h _ K q=>at31 x0 x1 h K q)
end
noncomputable section
def ext32:Ext:=[]
theorem ext32Ok:ExtOk Tryz.prog ext32:=trivial
noncomputable def b32:Code:=bodyOf Tryz.f32
theorem hb32:Tryz.f32.body=some b32:=by kernel_rfl
def sig32:List AT:=[AT.v YA9,AT.v YA9]
def tys32:List Ty:=[Ty.bool]
def kds32:List RK:=[]
def oks32:List AT:=owns sig32
def P32 (x0:Int×Int×Unit) (x1:Int×Int×Unit):Prop:=True
def g32_0 (x0:Int×Int×Unit) (x1:Int×Int×Unit):Bool:=(if (x0.1 != x1.1)=true then false else (if (x0.2.1 != x1.2.1)=true then false else true))
theorem at32 (x0:Int×Int×Unit) (x1:Int×Int×Unit) (h:P32 x0 x1) (K:Ctx) (q:Nat→Value):AtV Tryz.prog 32 (PostR kds32 oks32 [⟨Ty.bool,g32_0 x0 x1⟩] [] [] q K) 15 K q [] [.code b32] (entE 0 0 sig32 (x0,x1,())) (entL sig32 (x0,x1,())):=by
 unfold P32 at h
 unfold g32_0
 by_cases b0:(x0.1 != x1.1)=true
 ·try simp only [if_pos b0] at h ⊢
  exact AtV.ret Tryz.func32 tabOk ext32Ok mixed false [] tys32 [true] (a1 b0 trivial) (by kernel_rfl)
 ·try simp only [if_neg b0] at h ⊢
  replace b0:=Bool.eq_false_iff.2 b0
  by_cases b1:(x0.2.1 != x1.2.1)=true
  ·try simp only [if_pos b1] at h ⊢
   exact AtV.ret Tryz.func32 tabOk ext32Ok mixed false [] tys32 [false,true] (a1 b0 (a1 b1 trivial)) (by kernel_rfl)
  ·try simp only [if_neg b1] at h ⊢
   replace b1:=Bool.eq_false_iff.2 b1
   exact AtV.ret Tryz.func32 tabOk ext32Ok mixed false [] tys32 [false,false] (a1 b0 (a1 b1 trivial)) (by kernel_rfl)
def S32:Am.Spec:={ sig:=sig32,pre:=fun ⟨x0,x1,_⟩=>P32 x0 x1,res:=fun ⟨x0,x1,_⟩=>[⟨Ty.bool,g32_0 x0 x1⟩],kds:=kds32 }
theorem con32:Contract Tryz.prog 32 S32:=contract_of Tryz.func32 hb32 (Nat.le_of_ble_eq_true (by kernel_rfl)) (fun ⟨x0,x1,_⟩ h _ K q=>at32 x0 x1 h K q)
end
noncomputable section
def ext33:Ext:=[]
theorem ext33Ok:ExtOk Tryz.prog ext33:=trivial
noncomputable def b33:Code:=bodyOf Tryz.f33
theorem hb33:Tryz.f33.body=some b33:=by kernel_rfl
def sig33:List AT:=[AT.v YA4,AT.v YA4]
def tys33:List Ty:=[Ty.bool]
def kds33:List RK:=[]
def oks33:List AT:=owns sig33
def P33 (x0:Int×Int×Int×Int×Unit) (x1:Int×Int×Int×Int×Unit):Prop:=True
def g33_0 (x0:Int×Int×Int×Int×Unit) (x1:Int×Int×Int×Int×Unit):Bool:=(if (x0.1 != x1.1)=true then false else (if (x0.2.1 != x1.2.1)=true then false else (if (x0.2.2.1 != x1.2.2.1)=true then false else (if (x0.2.2.2.1 != x1.2.2.2.1)=true then false else true))))
theorem at33 (x0:Int×Int×Int×Int×Unit) (x1:Int×Int×Int×Int×Unit) (h:P33 x0 x1) (K:Ctx) (q:Nat→Value):AtV Tryz.prog 33 (PostR kds33 oks33 [⟨Ty.bool,g33_0 x0 x1⟩] [] [] q K) 25 K q [] [.code b33] (entE 0 0 sig33 (x0,x1,())) (entL sig33 (x0,x1,())):=by
 unfold P33 at h
 unfold g33_0
 by_cases b0:(x0.1 != x1.1)=true
 ·try simp only [if_pos b0] at h ⊢
  exact AtV.ret Tryz.func33 tabOk ext33Ok mixed false [] tys33 [true] (a1 b0 trivial) (by kernel_rfl)
 ·try simp only [if_neg b0] at h ⊢
  replace b0:=Bool.eq_false_iff.2 b0
  by_cases b1:(x0.2.1 != x1.2.1)=true
  ·try simp only [if_pos b1] at h ⊢
   exact AtV.ret Tryz.func33 tabOk ext33Ok mixed false [] tys33 [false,true] (a1 b0 (a1 b1 trivial)) (by kernel_rfl)
  ·try simp only [if_neg b1] at h ⊢
   replace b1:=Bool.eq_false_iff.2 b1
   by_cases b2:(x0.2.2.1 != x1.2.2.1)=true
   ·try simp only [if_pos b2] at h ⊢
    exact AtV.ret Tryz.func33 tabOk ext33Ok mixed false [] tys33 [false,false,true] (a1 b0 (a1 b1 (a1 b2 trivial))) (by kernel_rfl)
   ·try simp only [if_neg b2] at h ⊢
    replace b2:=Bool.eq_false_iff.2 b2
    by_cases b3:(x0.2.2.2.1 != x1.2.2.2.1)=true
    ·try simp only [if_pos b3] at h ⊢
     exact AtV.ret Tryz.func33 tabOk ext33Ok mixed false [] tys33 [false,false,false,true] (a1 b0 (a1 b1 (a1 b2 (a1 b3 trivial)))) (by kernel_rfl)
    ·try simp only [if_neg b3] at h ⊢
     replace b3:=Bool.eq_false_iff.2 b3
     exact AtV.ret Tryz.func33 tabOk ext33Ok mixed false [] tys33 [false,false,false,false] (a1 b0 (a1 b1 (a1 b2 (a1 b3 trivial)))) (by kernel_rfl)
def S33:Am.Spec:={ sig:=sig33,pre:=fun ⟨x0,x1,_⟩=>P33 x0 x1,res:=fun ⟨x0,x1,_⟩=>[⟨Ty.bool,g33_0 x0 x1⟩],kds:=kds33 }
theorem con33:Contract Tryz.prog 33 S33:=contract_of Tryz.func33 hb33 (Nat.le_of_ble_eq_true (by kernel_rfl)) (fun ⟨x0,x1,_⟩ h _ K q=>at33 x0 x1 h K q)
end
noncomputable section
def ext73:Ext:=[]
theorem ext73Ok:ExtOk Tryz.prog ext73:=trivial
noncomputable def b73:Code:=bodyOf Tryz.f73
theorem hb73:Tryz.f73.body=some b73:=by kernel_rfl
def sig73:List AT:=[AT.v YA5,AT.v YA5]
def tys73:List Ty:=[Ty.bool]
def kds73:List RK:=[]
def oks73:List AT:=owns sig73
def P73 (x0:ByteArray×Int×Int×Int×Unit) (x1:ByteArray×Int×Int×Int×Unit):Prop:=True
def g73_0 (x0:ByteArray×Int×Int×Int×Unit) (x1:ByteArray×Int×Int×Int×Unit):Bool:=(if (!ByteArray.toList x0.1==ByteArray.toList x1.1)=true then false else (if (x0.2.1 != x1.2.1)=true then false else (if (x0.2.2.1 != x1.2.2.1)=true then false else (if (x0.2.2.2.1 != x1.2.2.2.1)=true then false else true))))
theorem at73 (x0:ByteArray×Int×Int×Int×Unit) (x1:ByteArray×Int×Int×Int×Unit) (h:P73 x0 x1) (K:Ctx) (q:Nat→Value):AtV Tryz.prog 73 (PostR kds73 oks73 [⟨Ty.bool,g73_0 x0 x1⟩] [] [] q K) 25 K q [] [.code b73] (entE 0 0 sig73 (x0,x1,())) (entL sig73 (x0,x1,())):=by
 unfold P73 at h
 unfold g73_0
 by_cases b0:(!ByteArray.toList x0.1==ByteArray.toList x1.1)=true
 ·try simp only [if_pos b0] at h ⊢
  exact AtV.ret Tryz.func73 tabOk ext73Ok mixed false [] tys73 [true] (a1 b0 trivial) (by kernel_rfl)
 ·try simp only [if_neg b0] at h ⊢
  replace b0:=Bool.eq_false_iff.2 b0
  by_cases b1:(x0.2.1 != x1.2.1)=true
  ·try simp only [if_pos b1] at h ⊢
   exact AtV.ret Tryz.func73 tabOk ext73Ok mixed false [] tys73 [false,true] (a1 b0 (a1 b1 trivial)) (by kernel_rfl)
  ·try simp only [if_neg b1] at h ⊢
   replace b1:=Bool.eq_false_iff.2 b1
   by_cases b2:(x0.2.2.1 != x1.2.2.1)=true
   ·try simp only [if_pos b2] at h ⊢
    exact AtV.ret Tryz.func73 tabOk ext73Ok mixed false [] tys73 [false,false,true] (a1 b0 (a1 b1 (a1 b2 trivial))) (by kernel_rfl)
   ·try simp only [if_neg b2] at h ⊢
    replace b2:=Bool.eq_false_iff.2 b2
    by_cases b3:(x0.2.2.2.1 != x1.2.2.2.1)=true
    ·try simp only [if_pos b3] at h ⊢
     exact AtV.ret Tryz.func73 tabOk ext73Ok mixed false [] tys73 [false,false,false,true] (a1 b0 (a1 b1 (a1 b2 (a1 b3 trivial)))) (by kernel_rfl)
    ·try simp only [if_neg b3] at h ⊢
     replace b3:=Bool.eq_false_iff.2 b3
     exact AtV.ret Tryz.func73 tabOk ext73Ok mixed false [] tys73 [false,false,false,false] (a1 b0 (a1 b1 (a1 b2 (a1 b3 trivial)))) (by kernel_rfl)
def S73:Am.Spec:={ sig:=sig73,pre:=fun ⟨x0,x1,_⟩=>P73 x0 x1,res:=fun ⟨x0,x1,_⟩=>[⟨Ty.bool,g73_0 x0 x1⟩],kds:=kds73 }
theorem con73:Contract Tryz.prog 73 S73:=contract_of Tryz.func73 hb73 (Nat.le_of_ble_eq_true (by kernel_rfl)) (fun ⟨x0,x1,_⟩ h _ K q=>at73 x0 x1 h K q)
theorem eqd73 (x y:TyB1):g73_0 x y=true↔x=y:=by
 obtain ⟨a,b,c,d,u⟩:=x
 obtain ⟨a',b',c',d',u'⟩:=y
 unfold g73_0
 simp only [Bool.not_eq_true',bytes_ne,bne_iff_ne,ne_eq,ite_not]
 by_cases h0:a=a'
 ·by_cases h1:b=b'
  ·by_cases h2:c=c'
   ·by_cases h3:d=d'
    ·simp [h0,h1,h2,h3]
    ·simp [h0,h1,h2,h3]
   ·simp [h0,h1,h2]
  ·simp [h0,h1]
 ·simp [h0]
end
noncomputable section
def ext34:Ext:=[(73,S73)]
theorem ext34Ok:ExtOk Tryz.prog ext34:=⟨⟨ca73,con73⟩,trivial⟩
noncomputable def b34:Code:=bodyOf Tryz.f34
theorem hb34:Tryz.f34.body=some b34:=by kernel_rfl
def sig34:List AT:=[AT.v (Ty.sl YA5),AT.v (Ty.sl YA5)]
def tys34:List Ty:=[Ty.bool]
def kds34:List RK:=[]
def oks34:List AT:=owns sig34
def E34_4 (v5:Int) (x0:List TyB1) (x1:List TyB1):Env:=[(0,PV.a (Atom.sl YA5 x0)),(1,PV.a (Atom.sl YA5 x1)),(5,PV.a (Atom.val (Value.int .i64 v5)))]
def L34_4 (v5:Int) (x0:List TyB1) (x1:List TyB1):Heap:=[]
mutual
def R34:Nat→List TyB1→List TyB1→List Dyn→Prop
 | 0,_,_,_=>False
 | n+1,x0,x1,ds=>(if ((↑(List.length x0):Int) != (↑(List.length x1):Int))=true then (ds=[Dyn.mk Ty.bool false]) else (R34_4 n (0) (x0) (x1) ds))
def R34_4:Nat→Int→List TyB1→List TyB1→List Dyn→Prop
 | 0,_,_,_,_=>False
 | n+1,v5,x0,x1,ds=>(if (decide (v5<(↑(List.length x0):Int)))=true then ((0≤v5)∧(v5<(↑(List.length x0):Int))∧((0≤v5)∧(v5<(↑(List.length x1):Int))∧(if (!g73_0 (List.getD x0 (Int.toNat v5) (ByteArray.empty,0,0,0,())) (List.getD x1 (Int.toNat v5) (ByteArray.empty,0,0,0,())))=true then (ds=[Dyn.mk Ty.bool false]) else ((InR .i64 (v5+1))∧(R34_4 n (v5+1) (x0) (x1) ds))))) else (ds=[Dyn.mk Ty.bool true]))
end
theorem snd34:∀ n,(∀ (x0:List TyB1) (x1:List TyB1) ds,R34 n x0 x1 ds→∀ K q,AtV Tryz.prog 34 (PostR kds34 oks34 ds [] [] q K) 27 K q [] [.code b34] (entE 0 0 sig34 (x0,x1,())) (entL sig34 (x0,x1,())))∧(∀ (v5:Int) (x0:List TyB1) (x1:List TyB1) ds,R34_4 n v5 x0 x1 ds→∀ K q,AtV Tryz.prog 34 (PostR kds34 oks34 ds [] [] q K) 27 K q [] (cutAt b34 4) (E34_4 v5 x0 x1) (L34_4 v5 x0 x1)):=by
 intro n
 induction n with
 | zero=>exact ⟨fun _ _ _ h=>by simp only [R34] at h,fun _ _ _ _ h=>by simp only [R34_4] at h⟩
 | succ n ih =>
 obtain ⟨ih,ih4⟩:=ih
 refine ⟨?_,?_⟩
 ·intro x0 x1 ds h K q
  rw [R34] at h
  by_cases b0:((↑(List.length x0):Int) != (↑(List.length x1):Int))=true
  ·rw [if_pos b0] at h
   subst h
   exact AtV.ret Tryz.func34 tabOk ext34Ok mixed false [] tys34 [true] (a1 b0 trivial) (by kernel_rfl)
  ·rw [if_neg b0] at h
   replace b0:=Bool.eq_false_iff.2 b0
   exact AtV.go tabOk ext34Ok mixed false [] [] [0,1,5] [] [false] (a1 b0 trivial) (ih4 _ _ _ _ h K q) (by kernel_rfl)
 ·intro v5 x0 x1 ds h K q
  rw [R34_4] at h
  by_cases b0:(decide (v5<(↑(List.length x0):Int)))=true
  ·rw [if_pos b0] at h
   obtain ⟨s0,s1,h⟩:=h
   obtain ⟨s2,s3,h⟩:=h
   by_cases b1:(!g73_0 (List.getD x0 (Int.toNat v5) (ByteArray.empty,0,0,0,())) (List.getD x1 (Int.toNat v5) (ByteArray.empty,0,0,0,())))=true
   ·rw [if_pos b1] at h
    subst h
    exact AtV.ret Tryz.func34 tabOk ext34Ok mixed false [] tys34 [true,true] (a1 b0 (a1 s0 (a1 s1 (a1 s2 (a1 s3 (a1 trivial (a1 b1 trivial))))))) (by kernel_rfl)
   ·rw [if_neg b1] at h
    replace b1:=Bool.eq_false_iff.2 b1
    obtain ⟨s4,h⟩:=h
    exact AtV.go tabOk ext34Ok mixed false [] [] [0,1,5] [] [true,false] (a1 b0 (a1 s0 (a1 s1 (a1 s2 (a1 s3 (a1 trivial (a1 b1 (a1 s4 trivial)))))))) (ih4 _ _ _ _ h K q) (by kernel_rfl)
  ·rw [if_neg b0] at h
   replace b0:=Bool.eq_false_iff.2 b0
   subst h
   exact AtV.ret Tryz.func34 tabOk ext34Ok mixed false [] tys34 [false] (a1 b0 trivial) (by kernel_rfl)
theorem eq34 (x0 x1:List TyB1) (hl:x0.length=x1.length) (hm:x0.length≤maxLen):∀ k i:Nat,i+k=x0.length→R34_4 (k+1) (i:Int) x0 x1 [⟨.bool,decide (x0.drop i=x1.drop i)⟩]:=by
 intro k
 induction k with
 | zero =>
  intro i hi
  have h1:¬ (i:Int)<(x0.length:Int):=by omega
  rw [R34_4,if_neg (by simpa using h1),drop_end x0 i (by omega),drop_end x1 i (by omega)]
  simp
 | succ k ih =>
  intro i hi
  have h1:(i:Int)<(x0.length:Int):=by omega
  rw [R34_4,if_pos (by simpa using h1)]
  refine ⟨by omega,h1,by omega,by omega,?_⟩
  simp only [Int.toNat_natCast]
  rw [drop_get x0 i (ByteArray.empty,(0:Int),(0:Int),(0:Int),()) (by omega),drop_get x1 i (ByteArray.empty,(0:Int),(0:Int),(0:Int),()) (by omega)]
  by_cases he:x0.getD i (ByteArray.empty,(0:Int),(0:Int),(0:Int),())=x1.getD i (ByteArray.empty,(0:Int),(0:Int),(0:Int),())
  ·have hd:=(eqd73 _ _).2 he
   rw [if_neg (by rw [hd];simp)]
   refine ⟨inR_up hm (by omega),?_⟩
   have:=ih (i+1) (by omega)
   simp only [he,List.cons.injEq,true_and]
   exact this
  ·have hd:g73_0 (x0.getD i (ByteArray.empty,(0:Int),(0:Int),(0:Int),())) (x1.getD i (ByteArray.empty,(0:Int),(0:Int),(0:Int),()))=false :=
    Bool.eq_false_iff.2 fun h=>he ((eqd73 _ _).1 h)
   rw [if_pos (by rw [hd];rfl)]
   simp only [he,List.cons.injEq,false_and,decide_false]
def g34_0 (x0 x1:List TyB1):Bool:=decide (x0=x1)
def P34 (x0 x1:List TyB1):Prop:=True
def S34:Am.Spec:={ sig:=sig34,pre:=fun ⟨x0,x1,_⟩=>P34 x0 x1,res:=fun ⟨x0,x1,_⟩=>[⟨Ty.bool,g34_0 x0 x1⟩] }
theorem con34:Contract Tryz.prog 34 S34:=contract_of Tryz.func34 hb34 (Nat.le_of_ble_eq_true (by kernel_rfl)) (fun ⟨x0,x1,_⟩ h hwf K q=>by
 refine (snd34 (x0.length+2)).1 x0 x1 _ ?_ K q
 show R34 (x0.length+1+1) x0 x1 [⟨Ty.bool,decide (x0=x1)⟩]
 rw [R34]
 by_cases hl:x0.length=x1.length
 ·rw [if_neg (by simp [hl])]
  have:=eq34 x0 x1 hl hwf.1.1 x0.length 0 (by omega)
  simpa using this
 ·rw [if_pos (by simp;omega)]
  have:x0≠x1:=fun h=>hl (by rw [h])
  simp [this])
end
noncomputable section
def ext35:Ext:=[]
theorem ext35Ok:ExtOk Tryz.prog ext35:=trivial
noncomputable def b35:Code:=bodyOf Tryz.f35
theorem hb35:Tryz.f35.body=some b35:=by kernel_rfl
def sig35:List AT:=[AT.v YA7,AT.v YA7]
def tys35:List Ty:=[Ty.bool]
def kds35:List RK:=[]
def oks35:List AT:=owns sig35
def P35 (x0:Int×Int×Int×Unit) (x1:Int×Int×Int×Unit):Prop:=True
def g35_0 (x0:Int×Int×Int×Unit) (x1:Int×Int×Int×Unit):Bool:=(if (x0.1 != x1.1)=true then false else (if (x0.2.1 != x1.2.1)=true then false else (if (x0.2.2.1 != x1.2.2.1)=true then false else true)))
theorem at35 (x0:Int×Int×Int×Unit) (x1:Int×Int×Int×Unit) (h:P35 x0 x1) (K:Ctx) (q:Nat→Value):AtV Tryz.prog 35 (PostR kds35 oks35 [⟨Ty.bool,g35_0 x0 x1⟩] [] [] q K) 20 K q [] [.code b35] (entE 0 0 sig35 (x0,x1,())) (entL sig35 (x0,x1,())):=by
 unfold P35 at h
 unfold g35_0
 by_cases b0:(x0.1 != x1.1)=true
 ·try simp only [if_pos b0] at h ⊢
  exact AtV.ret Tryz.func35 tabOk ext35Ok mixed false [] tys35 [true] (a1 b0 trivial) (by kernel_rfl)
 ·try simp only [if_neg b0] at h ⊢
  replace b0:=Bool.eq_false_iff.2 b0
  by_cases b1:(x0.2.1 != x1.2.1)=true
  ·try simp only [if_pos b1] at h ⊢
   exact AtV.ret Tryz.func35 tabOk ext35Ok mixed false [] tys35 [false,true] (a1 b0 (a1 b1 trivial)) (by kernel_rfl)
  ·try simp only [if_neg b1] at h ⊢
   replace b1:=Bool.eq_false_iff.2 b1
   by_cases b2:(x0.2.2.1 != x1.2.2.1)=true
   ·try simp only [if_pos b2] at h ⊢
    exact AtV.ret Tryz.func35 tabOk ext35Ok mixed false [] tys35 [false,false,true] (a1 b0 (a1 b1 (a1 b2 trivial))) (by kernel_rfl)
   ·try simp only [if_neg b2] at h ⊢
    replace b2:=Bool.eq_false_iff.2 b2
    exact AtV.ret Tryz.func35 tabOk ext35Ok mixed false [] tys35 [false,false,false] (a1 b0 (a1 b1 (a1 b2 trivial))) (by kernel_rfl)
def S35:Am.Spec:={ sig:=sig35,pre:=fun ⟨x0,x1,_⟩=>P35 x0 x1,res:=fun ⟨x0,x1,_⟩=>[⟨Ty.bool,g35_0 x0 x1⟩],kds:=kds35 }
theorem con35:Contract Tryz.prog 35 S35:=contract_of Tryz.func35 hb35 (Nat.le_of_ble_eq_true (by kernel_rfl)) (fun ⟨x0,x1,_⟩ h _ K q=>at35 x0 x1 h K q)
end
noncomputable section
def ext74:Ext:=[]
theorem ext74Ok:ExtOk Tryz.prog ext74:=trivial
noncomputable def b74:Code:=bodyOf Tryz.f74
theorem hb74:Tryz.f74.body=some b74:=by kernel_rfl
def sig74:List AT:=[AT.v YA3,AT.v YA3]
def tys74:List Ty:=[Ty.bool]
def kds74:List RK:=[]
def oks74:List AT:=owns sig74
def P74 (x0:ByteArray×Int×Int×Int×Int×Unit) (x1:ByteArray×Int×Int×Int×Int×Unit):Prop:=True
def g74_0 (x0:ByteArray×Int×Int×Int×Int×Unit) (x1:ByteArray×Int×Int×Int×Int×Unit):Bool:=(if (!ByteArray.toList x0.1==ByteArray.toList x1.1)=true then false else (if (x0.2.1 != x1.2.1)=true then false else (if (x0.2.2.1 != x1.2.2.1)=true then false else (if (x0.2.2.2.1 != x1.2.2.2.1)=true then false else (if (x0.2.2.2.2.1 != x1.2.2.2.2.1)=true then false else true)))))
theorem at74 (x0:ByteArray×Int×Int×Int×Int×Unit) (x1:ByteArray×Int×Int×Int×Int×Unit) (h:P74 x0 x1) (K:Ctx) (q:Nat→Value):AtV Tryz.prog 74 (PostR kds74 oks74 [⟨Ty.bool,g74_0 x0 x1⟩] [] [] q K) 30 K q [] [.code b74] (entE 0 0 sig74 (x0,x1,())) (entL sig74 (x0,x1,())):=by
 unfold P74 at h
 unfold g74_0
 by_cases b0:(!ByteArray.toList x0.1==ByteArray.toList x1.1)=true
 ·try simp only [if_pos b0] at h ⊢
  exact AtV.ret Tryz.func74 tabOk ext74Ok mixed false [] tys74 [true] (a1 b0 trivial) (by kernel_rfl)
 ·try simp only [if_neg b0] at h ⊢
  replace b0:=Bool.eq_false_iff.2 b0
  by_cases b1:(x0.2.1 != x1.2.1)=true
  ·try simp only [if_pos b1] at h ⊢
   exact AtV.ret Tryz.func74 tabOk ext74Ok mixed false [] tys74 [false,true] (a1 b0 (a1 b1 trivial)) (by kernel_rfl)
  ·try simp only [if_neg b1] at h ⊢
   replace b1:=Bool.eq_false_iff.2 b1
   by_cases b2:(x0.2.2.1 != x1.2.2.1)=true
   ·try simp only [if_pos b2] at h ⊢
    exact AtV.ret Tryz.func74 tabOk ext74Ok mixed false [] tys74 [false,false,true] (a1 b0 (a1 b1 (a1 b2 trivial))) (by kernel_rfl)
   ·try simp only [if_neg b2] at h ⊢
    replace b2:=Bool.eq_false_iff.2 b2
    by_cases b3:(x0.2.2.2.1 != x1.2.2.2.1)=true
    ·try simp only [if_pos b3] at h ⊢
     exact AtV.ret Tryz.func74 tabOk ext74Ok mixed false [] tys74 [false,false,false,true] (a1 b0 (a1 b1 (a1 b2 (a1 b3 trivial)))) (by kernel_rfl)
    ·try simp only [if_neg b3] at h ⊢
     replace b3:=Bool.eq_false_iff.2 b3
     by_cases b4:(x0.2.2.2.2.1 != x1.2.2.2.2.1)=true
     ·try simp only [if_pos b4] at h ⊢
      exact AtV.ret Tryz.func74 tabOk ext74Ok mixed false [] tys74 [false,false,false,false,true] (a1 b0 (a1 b1 (a1 b2 (a1 b3 (a1 b4 trivial))))) (by kernel_rfl)
     ·try simp only [if_neg b4] at h ⊢
      replace b4:=Bool.eq_false_iff.2 b4
      exact AtV.ret Tryz.func74 tabOk ext74Ok mixed false [] tys74 [false,false,false,false,false] (a1 b0 (a1 b1 (a1 b2 (a1 b3 (a1 b4 trivial))))) (by kernel_rfl)
def S74:Am.Spec:={ sig:=sig74,pre:=fun ⟨x0,x1,_⟩=>P74 x0 x1,res:=fun ⟨x0,x1,_⟩=>[⟨Ty.bool,g74_0 x0 x1⟩],kds:=kds74 }
theorem con74:Contract Tryz.prog 74 S74:=contract_of Tryz.func74 hb74 (Nat.le_of_ble_eq_true (by kernel_rfl)) (fun ⟨x0,x1,_⟩ h _ K q=>at74 x0 x1 h K q)
theorem eqd74 (x y:TyB0):g74_0 x y=true↔x=y:=by
 obtain ⟨a,b,c,d,e,u⟩:=x
 obtain ⟨a',b',c',d',e',u'⟩:=y
 unfold g74_0
 simp only [Bool.not_eq_true',bytes_ne,bne_iff_ne,ne_eq,ite_not]
 by_cases h0:a=a'
 ·by_cases h1:b=b'
  ·by_cases h2:c=c'
   ·by_cases h3:d=d'
    ·by_cases h4:e=e'
     ·simp [h0,h1,h2,h3,h4]
     ·simp [h0,h1,h2,h3,h4]
    ·simp [h0,h1,h2,h3]
   ·simp [h0,h1,h2]
  ·simp [h0,h1]
 ·simp [h0]
end
noncomputable section
def ext36:Ext:=[(74,S74)]
theorem ext36Ok:ExtOk Tryz.prog ext36:=⟨⟨ca74,con74⟩,trivial⟩
noncomputable def b36:Code:=bodyOf Tryz.f36
theorem hb36:Tryz.f36.body=some b36:=by kernel_rfl
def sig36:List AT:=[AT.v (Ty.sl YA3),AT.v (Ty.sl YA3)]
def tys36:List Ty:=[Ty.bool]
def kds36:List RK:=[]
def oks36:List AT:=owns sig36
def E36_4 (v5:Int) (x0:List TyB0) (x1:List TyB0):Env:=[(0,PV.a (Atom.sl YA3 x0)),(1,PV.a (Atom.sl YA3 x1)),(5,PV.a (Atom.val (Value.int .i64 v5)))]
def L36_4 (v5:Int) (x0:List TyB0) (x1:List TyB0):Heap:=[]
mutual
def R36:Nat→List TyB0→List TyB0→List Dyn→Prop
 | 0,_,_,_=>False
 | n+1,x0,x1,ds=>(if ((↑(List.length x0):Int) != (↑(List.length x1):Int))=true then (ds=[Dyn.mk Ty.bool false]) else (R36_4 n (0) (x0) (x1) ds))
def R36_4:Nat→Int→List TyB0→List TyB0→List Dyn→Prop
 | 0,_,_,_,_=>False
 | n+1,v5,x0,x1,ds=>(if (decide (v5<(↑(List.length x0):Int)))=true then ((0≤v5)∧(v5<(↑(List.length x0):Int))∧((0≤v5)∧(v5<(↑(List.length x1):Int))∧(if (!g74_0 (List.getD x0 (Int.toNat v5) (ByteArray.empty,0,0,0,0,())) (List.getD x1 (Int.toNat v5) (ByteArray.empty,0,0,0,0,())))=true then (ds=[Dyn.mk Ty.bool false]) else ((InR .i64 (v5+1))∧(R36_4 n (v5+1) (x0) (x1) ds))))) else (ds=[Dyn.mk Ty.bool true]))
end
theorem snd36:∀ n,(∀ (x0:List TyB0) (x1:List TyB0) ds,R36 n x0 x1 ds→∀ K q,AtV Tryz.prog 36 (PostR kds36 oks36 ds [] [] q K) 27 K q [] [.code b36] (entE 0 0 sig36 (x0,x1,())) (entL sig36 (x0,x1,())))∧(∀ (v5:Int) (x0:List TyB0) (x1:List TyB0) ds,R36_4 n v5 x0 x1 ds→∀ K q,AtV Tryz.prog 36 (PostR kds36 oks36 ds [] [] q K) 27 K q [] (cutAt b36 4) (E36_4 v5 x0 x1) (L36_4 v5 x0 x1)):=by
 intro n
 induction n with
 | zero=>exact ⟨fun _ _ _ h=>by simp only [R36] at h,fun _ _ _ _ h=>by simp only [R36_4] at h⟩
 | succ n ih =>
 obtain ⟨ih,ih4⟩:=ih
 refine ⟨?_,?_⟩
 ·intro x0 x1 ds h K q
  rw [R36] at h
  by_cases b0:((↑(List.length x0):Int) != (↑(List.length x1):Int))=true
  ·rw [if_pos b0] at h
   subst h
   exact AtV.ret Tryz.func36 tabOk ext36Ok mixed false [] tys36 [true] (a1 b0 trivial) (by kernel_rfl)
  ·rw [if_neg b0] at h
   replace b0:=Bool.eq_false_iff.2 b0
   exact AtV.go tabOk ext36Ok mixed false [] [] [0,1,5] [] [false] (a1 b0 trivial) (ih4 _ _ _ _ h K q) (by kernel_rfl)
 ·intro v5 x0 x1 ds h K q
  rw [R36_4] at h
  by_cases b0:(decide (v5<(↑(List.length x0):Int)))=true
  ·rw [if_pos b0] at h
   obtain ⟨s0,s1,h⟩:=h
   obtain ⟨s2,s3,h⟩:=h
   by_cases b1:(!g74_0 (List.getD x0 (Int.toNat v5) (ByteArray.empty,0,0,0,0,())) (List.getD x1 (Int.toNat v5) (ByteArray.empty,0,0,0,0,())))=true
   ·rw [if_pos b1] at h
    subst h
    exact AtV.ret Tryz.func36 tabOk ext36Ok mixed false [] tys36 [true,true] (a1 b0 (a1 s0 (a1 s1 (a1 s2 (a1 s3 (a1 trivial (a1 b1 trivial))))))) (by kernel_rfl)
   ·rw [if_neg b1] at h
    replace b1:=Bool.eq_false_iff.2 b1
    obtain ⟨s4,h⟩:=h
    exact AtV.go tabOk ext36Ok mixed false [] [] [0,1,5] [] [true,false] (a1 b0 (a1 s0 (a1 s1 (a1 s2 (a1 s3 (a1 trivial (a1 b1 (a1 s4 trivial)))))))) (ih4 _ _ _ _ h K q) (by kernel_rfl)
  ·rw [if_neg b0] at h
   replace b0:=Bool.eq_false_iff.2 b0
   subst h
   exact AtV.ret Tryz.func36 tabOk ext36Ok mixed false [] tys36 [false] (a1 b0 trivial) (by kernel_rfl)
theorem eq36 (x0 x1:List TyB0) (hl:x0.length=x1.length) (hm:x0.length≤maxLen):∀ k i:Nat,i+k=x0.length→R36_4 (k+1) (i:Int) x0 x1 [⟨.bool,decide (x0.drop i=x1.drop i)⟩]:=by
 intro k
 induction k with
 | zero =>
  intro i hi
  have h1:¬ (i:Int)<(x0.length:Int):=by omega
  rw [R36_4,if_neg (by simpa using h1),drop_end x0 i (by omega),drop_end x1 i (by omega)]
  simp
 | succ k ih =>
  intro i hi
  have h1:(i:Int)<(x0.length:Int):=by omega
  rw [R36_4,if_pos (by simpa using h1)]
  refine ⟨by omega,h1,by omega,by omega,?_⟩
  simp only [Int.toNat_natCast]
  rw [drop_get x0 i (ByteArray.empty,(0:Int),(0:Int),(0:Int),(0:Int),()) (by omega),drop_get x1 i (ByteArray.empty,(0:Int),(0:Int),(0:Int),(0:Int),()) (by omega)]
  by_cases he:x0.getD i (ByteArray.empty,(0:Int),(0:Int),(0:Int),(0:Int),())=x1.getD i (ByteArray.empty,(0:Int),(0:Int),(0:Int),(0:Int),())
  ·have hd:=(eqd74 _ _).2 he
   rw [if_neg (by rw [hd];simp)]
   refine ⟨inR_up hm (by omega),?_⟩
   have:=ih (i+1) (by omega)
   simp only [he,List.cons.injEq,true_and]
   exact this
  ·have hd:g74_0 (x0.getD i (ByteArray.empty,(0:Int),(0:Int),(0:Int),(0:Int),())) (x1.getD i (ByteArray.empty,(0:Int),(0:Int),(0:Int),(0:Int),()))=false :=
    Bool.eq_false_iff.2 fun h=>he ((eqd74 _ _).1 h)
   rw [if_pos (by rw [hd];rfl)]
   simp only [he,List.cons.injEq,false_and,decide_false]
def g36_0 (x0 x1:List TyB0):Bool:=decide (x0=x1)
def P36 (x0 x1:List TyB0):Prop:=True
def S36:Am.Spec:={ sig:=sig36,pre:=fun ⟨x0,x1,_⟩=>P36 x0 x1,res:=fun ⟨x0,x1,_⟩=>[⟨Ty.bool,g36_0 x0 x1⟩] }
theorem con36:Contract Tryz.prog 36 S36:=contract_of Tryz.func36 hb36 (Nat.le_of_ble_eq_true (by kernel_rfl)) (fun ⟨x0,x1,_⟩ h hwf K q=>by
 refine (snd36 (x0.length+2)).1 x0 x1 _ ?_ K q
 show R36 (x0.length+1+1) x0 x1 [⟨Ty.bool,decide (x0=x1)⟩]
 rw [R36]
 by_cases hl:x0.length=x1.length
 ·rw [if_neg (by simp [hl])]
  have:=eq36 x0 x1 hl hwf.1.1 x0.length 0 (by omega)
  simpa using this
 ·rw [if_pos (by simp;omega)]
  have:x0≠x1:=fun h=>hl (by rw [h])
  simp [this])
end
noncomputable section
def ext75:Ext:=[]
theorem ext75Ok:ExtOk Tryz.prog ext75:=trivial
noncomputable def b75:Code:=bodyOf Tryz.f75
theorem hb75:Tryz.f75.body=some b75:=by kernel_rfl
def sig75:List AT:=[AT.v YA9,AT.v YA9]
def tys75:List Ty:=[Ty.bool]
def kds75:List RK:=[]
def oks75:List AT:=owns sig75
def P75 (x0:Int×Int×Unit) (x1:Int×Int×Unit):Prop:=True
def g75_0 (x0:Int×Int×Unit) (x1:Int×Int×Unit):Bool:=(if (x0.1 != x1.1)=true then false else (if (x0.2.1 != x1.2.1)=true then false else true))
theorem at75 (x0:Int×Int×Unit) (x1:Int×Int×Unit) (h:P75 x0 x1) (K:Ctx) (q:Nat→Value):AtV Tryz.prog 75 (PostR kds75 oks75 [⟨Ty.bool,g75_0 x0 x1⟩] [] [] q K) 15 K q [] [.code b75] (entE 0 0 sig75 (x0,x1,())) (entL sig75 (x0,x1,())):=by
 unfold P75 at h
 unfold g75_0
 by_cases b0:(x0.1 != x1.1)=true
 ·try simp only [if_pos b0] at h ⊢
  exact AtV.ret Tryz.func75 tabOk ext75Ok mixed false [] tys75 [true] (a1 b0 trivial) (by kernel_rfl)
 ·try simp only [if_neg b0] at h ⊢
  replace b0:=Bool.eq_false_iff.2 b0
  by_cases b1:(x0.2.1 != x1.2.1)=true
  ·try simp only [if_pos b1] at h ⊢
   exact AtV.ret Tryz.func75 tabOk ext75Ok mixed false [] tys75 [false,true] (a1 b0 (a1 b1 trivial)) (by kernel_rfl)
  ·try simp only [if_neg b1] at h ⊢
   replace b1:=Bool.eq_false_iff.2 b1
   exact AtV.ret Tryz.func75 tabOk ext75Ok mixed false [] tys75 [false,false] (a1 b0 (a1 b1 trivial)) (by kernel_rfl)
def S75:Am.Spec:={ sig:=sig75,pre:=fun ⟨x0,x1,_⟩=>P75 x0 x1,res:=fun ⟨x0,x1,_⟩=>[⟨Ty.bool,g75_0 x0 x1⟩],kds:=kds75 }
theorem con75:Contract Tryz.prog 75 S75:=contract_of Tryz.func75 hb75 (Nat.le_of_ble_eq_true (by kernel_rfl)) (fun ⟨x0,x1,_⟩ h _ K q=>at75 x0 x1 h K q)
theorem eqd75 (x y:TyB4):g75_0 x y=true↔x=y:=by
 obtain ⟨a,b,u⟩:=x
 obtain ⟨a',b',u'⟩:=y
 unfold g75_0
 simp only [Bool.not_eq_true',bytes_ne,bne_iff_ne,ne_eq,ite_not]
 by_cases h0:a=a'
 ·by_cases h1:b=b'
  ·simp [h0,h1]
  ·simp [h0,h1]
 ·simp [h0]
end
noncomputable section
def ext37:Ext:=[(75,S75)]
theorem ext37Ok:ExtOk Tryz.prog ext37:=⟨⟨ca75,con75⟩,trivial⟩
noncomputable def b37:Code:=bodyOf Tryz.f37
theorem hb37:Tryz.f37.body=some b37:=by kernel_rfl
def sig37:List AT:=[AT.v (Ty.sl YA9),AT.v (Ty.sl YA9)]
def tys37:List Ty:=[Ty.bool]
def kds37:List RK:=[]
def oks37:List AT:=owns sig37
def E37_4 (v5:Int) (x0:List TyB4) (x1:List TyB4):Env:=[(0,PV.a (Atom.sl YA9 x0)),(1,PV.a (Atom.sl YA9 x1)),(5,PV.a (Atom.val (Value.int .i64 v5)))]
def L37_4 (v5:Int) (x0:List TyB4) (x1:List TyB4):Heap:=[]
mutual
def R37:Nat→List TyB4→List TyB4→List Dyn→Prop
 | 0,_,_,_=>False
 | n+1,x0,x1,ds=>(if ((↑(List.length x0):Int) != (↑(List.length x1):Int))=true then (ds=[Dyn.mk Ty.bool false]) else (R37_4 n (0) (x0) (x1) ds))
def R37_4:Nat→Int→List TyB4→List TyB4→List Dyn→Prop
 | 0,_,_,_,_=>False
 | n+1,v5,x0,x1,ds=>(if (decide (v5<(↑(List.length x0):Int)))=true then ((0≤v5)∧(v5<(↑(List.length x0):Int))∧((0≤v5)∧(v5<(↑(List.length x1):Int))∧(if (!g75_0 (List.getD x0 (Int.toNat v5) (0,0,())) (List.getD x1 (Int.toNat v5) (0,0,())))=true then (ds=[Dyn.mk Ty.bool false]) else ((InR .i64 (v5+1))∧(R37_4 n (v5+1) (x0) (x1) ds))))) else (ds=[Dyn.mk Ty.bool true]))
end
theorem snd37:∀ n,(∀ (x0:List TyB4) (x1:List TyB4) ds,R37 n x0 x1 ds→∀ K q,AtV Tryz.prog 37 (PostR kds37 oks37 ds [] [] q K) 27 K q [] [.code b37] (entE 0 0 sig37 (x0,x1,())) (entL sig37 (x0,x1,())))∧(∀ (v5:Int) (x0:List TyB4) (x1:List TyB4) ds,R37_4 n v5 x0 x1 ds→∀ K q,AtV Tryz.prog 37 (PostR kds37 oks37 ds [] [] q K) 27 K q [] (cutAt b37 4) (E37_4 v5 x0 x1) (L37_4 v5 x0 x1)):=by
 intro n
 induction n with
 | zero=>exact ⟨fun _ _ _ h=>by simp only [R37] at h,fun _ _ _ _ h=>by simp only [R37_4] at h⟩
 | succ n ih =>
 obtain ⟨ih,ih4⟩:=ih
 refine ⟨?_,?_⟩
 ·intro x0 x1 ds h K q
  rw [R37] at h
  by_cases b0:((↑(List.length x0):Int) != (↑(List.length x1):Int))=true
  ·rw [if_pos b0] at h
   subst h
   exact AtV.ret Tryz.func37 tabOk ext37Ok mixed false [] tys37 [true] (a1 b0 trivial) (by kernel_rfl)
  ·rw [if_neg b0] at h
   replace b0:=Bool.eq_false_iff.2 b0
   exact AtV.go tabOk ext37Ok mixed false [] [] [0,1,5] [] [false] (a1 b0 trivial) (ih4 _ _ _ _ h K q) (by kernel_rfl)
 ·intro v5 x0 x1 ds h K q
  rw [R37_4] at h
  by_cases b0:(decide (v5<(↑(List.length x0):Int)))=true
  ·rw [if_pos b0] at h
   obtain ⟨s0,s1,h⟩:=h
   obtain ⟨s2,s3,h⟩:=h
   by_cases b1:(!g75_0 (List.getD x0 (Int.toNat v5) (0,0,())) (List.getD x1 (Int.toNat v5) (0,0,())))=true
   ·rw [if_pos b1] at h
    subst h
    exact AtV.ret Tryz.func37 tabOk ext37Ok mixed false [] tys37 [true,true] (a1 b0 (a1 s0 (a1 s1 (a1 s2 (a1 s3 (a1 trivial (a1 b1 trivial))))))) (by kernel_rfl)
   ·rw [if_neg b1] at h
    replace b1:=Bool.eq_false_iff.2 b1
    obtain ⟨s4,h⟩:=h
    exact AtV.go tabOk ext37Ok mixed false [] [] [0,1,5] [] [true,false] (a1 b0 (a1 s0 (a1 s1 (a1 s2 (a1 s3 (a1 trivial (a1 b1 (a1 s4 trivial)))))))) (ih4 _ _ _ _ h K q) (by kernel_rfl)
  ·rw [if_neg b0] at h
   replace b0:=Bool.eq_false_iff.2 b0
   subst h
   exact AtV.ret Tryz.func37 tabOk ext37Ok mixed false [] tys37 [false] (a1 b0 trivial) (by kernel_rfl)
theorem eq37 (x0 x1:List TyB4) (hl:x0.length=x1.length) (hm:x0.length≤maxLen):∀ k i:Nat,i+k=x0.length→R37_4 (k+1) (i:Int) x0 x1 [⟨.bool,decide (x0.drop i=x1.drop i)⟩]:=by
 intro k
 induction k with
 | zero =>
  intro i hi
  have h1:¬ (i:Int)<(x0.length:Int):=by omega
  rw [R37_4,if_neg (by simpa using h1),drop_end x0 i (by omega),drop_end x1 i (by omega)]
  simp
 | succ k ih =>
  intro i hi
  have h1:(i:Int)<(x0.length:Int):=by omega
  rw [R37_4,if_pos (by simpa using h1)]
  refine ⟨by omega,h1,by omega,by omega,?_⟩
  simp only [Int.toNat_natCast]
  rw [drop_get x0 i ((0:Int),(0:Int),()) (by omega),drop_get x1 i ((0:Int),(0:Int),()) (by omega)]
  by_cases he:x0.getD i ((0:Int),(0:Int),())=x1.getD i ((0:Int),(0:Int),())
  ·have hd:=(eqd75 _ _).2 he
   rw [if_neg (by rw [hd];simp)]
   refine ⟨inR_up hm (by omega),?_⟩
   have:=ih (i+1) (by omega)
   simp only [he,List.cons.injEq,true_and]
   exact this
  ·have hd:g75_0 (x0.getD i ((0:Int),(0:Int),())) (x1.getD i ((0:Int),(0:Int),()))=false :=
    Bool.eq_false_iff.2 fun h=>he ((eqd75 _ _).1 h)
   rw [if_pos (by rw [hd];rfl)]
   simp only [he,List.cons.injEq,false_and,decide_false]
def g37_0 (x0 x1:List TyB4):Bool:=decide (x0=x1)
def P37 (x0 x1:List TyB4):Prop:=True
def S37:Am.Spec:={ sig:=sig37,pre:=fun ⟨x0,x1,_⟩=>P37 x0 x1,res:=fun ⟨x0,x1,_⟩=>[⟨Ty.bool,g37_0 x0 x1⟩] }
theorem con37:Contract Tryz.prog 37 S37:=contract_of Tryz.func37 hb37 (Nat.le_of_ble_eq_true (by kernel_rfl)) (fun ⟨x0,x1,_⟩ h hwf K q=>by
 refine (snd37 (x0.length+2)).1 x0 x1 _ ?_ K q
 show R37 (x0.length+1+1) x0 x1 [⟨Ty.bool,decide (x0=x1)⟩]
 rw [R37]
 by_cases hl:x0.length=x1.length
 ·rw [if_neg (by simp [hl])]
  have:=eq37 x0 x1 hl hwf.1.1 x0.length 0 (by omega)
  simpa using this
 ·rw [if_pos (by simp;omega)]
  have:x0≠x1:=fun h=>hl (by rw [h])
  simp [this])
end
noncomputable section
def ext76:Ext:=[]
theorem ext76Ok:ExtOk Tryz.prog ext76:=trivial
noncomputable def b76:Code:=bodyOf Tryz.f76
theorem hb76:Tryz.f76.body=some b76:=by kernel_rfl
def sig76:List AT:=[AT.v YA6,AT.v YA6]
def tys76:List Ty:=[Ty.bool]
def kds76:List RK:=[]
def oks76:List AT:=owns sig76
def P76 (x0:Int×Int×ByteArray×Int×Unit) (x1:Int×Int×ByteArray×Int×Unit):Prop:=True
def g76_0 (x0:Int×Int×ByteArray×Int×Unit) (x1:Int×Int×ByteArray×Int×Unit):Bool:=(if (x0.1 != x1.1)=true then false else (if (x0.2.1 != x1.2.1)=true then false else (if (!ByteArray.toList x0.2.2.1==ByteArray.toList x1.2.2.1)=true then false else (if (x0.2.2.2.1 != x1.2.2.2.1)=true then false else true))))
theorem at76 (x0:Int×Int×ByteArray×Int×Unit) (x1:Int×Int×ByteArray×Int×Unit) (h:P76 x0 x1) (K:Ctx) (q:Nat→Value):AtV Tryz.prog 76 (PostR kds76 oks76 [⟨Ty.bool,g76_0 x0 x1⟩] [] [] q K) 25 K q [] [.code b76] (entE 0 0 sig76 (x0,x1,())) (entL sig76 (x0,x1,())):=by
 unfold P76 at h
 unfold g76_0
 by_cases b0:(x0.1 != x1.1)=true
 ·try simp only [if_pos b0] at h ⊢
  exact AtV.ret Tryz.func76 tabOk ext76Ok mixed false [] tys76 [true] (a1 b0 trivial) (by kernel_rfl)
 ·try simp only [if_neg b0] at h ⊢
  replace b0:=Bool.eq_false_iff.2 b0
  by_cases b1:(x0.2.1 != x1.2.1)=true
  ·try simp only [if_pos b1] at h ⊢
   exact AtV.ret Tryz.func76 tabOk ext76Ok mixed false [] tys76 [false,true] (a1 b0 (a1 b1 trivial)) (by kernel_rfl)
  ·try simp only [if_neg b1] at h ⊢
   replace b1:=Bool.eq_false_iff.2 b1
   by_cases b2:(!ByteArray.toList x0.2.2.1==ByteArray.toList x1.2.2.1)=true
   ·try simp only [if_pos b2] at h ⊢
    exact AtV.ret Tryz.func76 tabOk ext76Ok mixed false [] tys76 [false,false,true] (a1 b0 (a1 b1 (a1 b2 trivial))) (by kernel_rfl)
   ·try simp only [if_neg b2] at h ⊢
    replace b2:=Bool.eq_false_iff.2 b2
    by_cases b3:(x0.2.2.2.1 != x1.2.2.2.1)=true
    ·try simp only [if_pos b3] at h ⊢
     exact AtV.ret Tryz.func76 tabOk ext76Ok mixed false [] tys76 [false,false,false,true] (a1 b0 (a1 b1 (a1 b2 (a1 b3 trivial)))) (by kernel_rfl)
    ·try simp only [if_neg b3] at h ⊢
     replace b3:=Bool.eq_false_iff.2 b3
     exact AtV.ret Tryz.func76 tabOk ext76Ok mixed false [] tys76 [false,false,false,false] (a1 b0 (a1 b1 (a1 b2 (a1 b3 trivial)))) (by kernel_rfl)
def S76:Am.Spec:={ sig:=sig76,pre:=fun ⟨x0,x1,_⟩=>P76 x0 x1,res:=fun ⟨x0,x1,_⟩=>[⟨Ty.bool,g76_0 x0 x1⟩],kds:=kds76 }
theorem con76:Contract Tryz.prog 76 S76:=contract_of Tryz.func76 hb76 (Nat.le_of_ble_eq_true (by kernel_rfl)) (fun ⟨x0,x1,_⟩ h _ K q=>at76 x0 x1 h K q)
theorem eqd76 (x y:TyB2):g76_0 x y=true↔x=y:=by
 obtain ⟨a,b,c,d,u⟩:=x
 obtain ⟨a',b',c',d',u'⟩:=y
 unfold g76_0
 simp only [Bool.not_eq_true',bytes_ne,bne_iff_ne,ne_eq,ite_not]
 by_cases h0:a=a'
 ·by_cases h1:b=b'
  ·by_cases h2:c=c'
   ·by_cases h3:d=d'
    ·simp [h0,h1,h2,h3]
    ·simp [h0,h1,h2,h3]
   ·simp [h0,h1,h2]
  ·simp [h0,h1]
 ·simp [h0]
end
noncomputable section
def ext38:Ext:=[(76,S76)]
theorem ext38Ok:ExtOk Tryz.prog ext38:=⟨⟨ca76,con76⟩,trivial⟩
noncomputable def b38:Code:=bodyOf Tryz.f38
theorem hb38:Tryz.f38.body=some b38:=by kernel_rfl
def sig38:List AT:=[AT.v (Ty.sl YA6),AT.v (Ty.sl YA6)]
def tys38:List Ty:=[Ty.bool]
def kds38:List RK:=[]
def oks38:List AT:=owns sig38
def E38_4 (v5:Int) (x0:List TyB2) (x1:List TyB2):Env:=[(0,PV.a (Atom.sl YA6 x0)),(1,PV.a (Atom.sl YA6 x1)),(5,PV.a (Atom.val (Value.int .i64 v5)))]
def L38_4 (v5:Int) (x0:List TyB2) (x1:List TyB2):Heap:=[]
mutual
def R38:Nat→List TyB2→List TyB2→List Dyn→Prop
 | 0,_,_,_=>False
 | n+1,x0,x1,ds=>(if ((↑(List.length x0):Int) != (↑(List.length x1):Int))=true then (ds=[Dyn.mk Ty.bool false]) else (R38_4 n (0) (x0) (x1) ds))
def R38_4:Nat→Int→List TyB2→List TyB2→List Dyn→Prop
 | 0,_,_,_,_=>False
 | n+1,v5,x0,x1,ds=>(if (decide (v5<(↑(List.length x0):Int)))=true then ((0≤v5)∧(v5<(↑(List.length x0):Int))∧((0≤v5)∧(v5<(↑(List.length x1):Int))∧(if (!g76_0 (List.getD x0 (Int.toNat v5) (0,0,ByteArray.empty,0,())) (List.getD x1 (Int.toNat v5) (0,0,ByteArray.empty,0,())))=true then (ds=[Dyn.mk Ty.bool false]) else ((InR .i64 (v5+1))∧(R38_4 n (v5+1) (x0) (x1) ds))))) else (ds=[Dyn.mk Ty.bool true]))
end
theorem snd38:∀ n,(∀ (x0:List TyB2) (x1:List TyB2) ds,R38 n x0 x1 ds→∀ K q,AtV Tryz.prog 38 (PostR kds38 oks38 ds [] [] q K) 27 K q [] [.code b38] (entE 0 0 sig38 (x0,x1,())) (entL sig38 (x0,x1,())))∧(∀ (v5:Int) (x0:List TyB2) (x1:List TyB2) ds,R38_4 n v5 x0 x1 ds→∀ K q,AtV Tryz.prog 38 (PostR kds38 oks38 ds [] [] q K) 27 K q [] (cutAt b38 4) (E38_4 v5 x0 x1) (L38_4 v5 x0 x1)):=by
 intro n
 induction n with
 | zero=>exact ⟨fun _ _ _ h=>by simp only [R38] at h,fun _ _ _ _ h=>by simp only [R38_4] at h⟩
 | succ n ih =>
 obtain ⟨ih,ih4⟩:=ih
 refine ⟨?_,?_⟩
 ·intro x0 x1 ds h K q
  rw [R38] at h
  by_cases b0:((↑(List.length x0):Int) != (↑(List.length x1):Int))=true
  ·rw [if_pos b0] at h
   subst h
   exact AtV.ret Tryz.func38 tabOk ext38Ok mixed false [] tys38 [true] (a1 b0 trivial) (by kernel_rfl)
  ·rw [if_neg b0] at h
   replace b0:=Bool.eq_false_iff.2 b0
   exact AtV.go tabOk ext38Ok mixed false [] [] [0,1,5] [] [false] (a1 b0 trivial) (ih4 _ _ _ _ h K q) (by kernel_rfl)
 ·intro v5 x0 x1 ds h K q
  rw [R38_4] at h
  by_cases b0:(decide (v5<(↑(List.length x0):Int)))=true
  ·rw [if_pos b0] at h
   obtain ⟨s0,s1,h⟩:=h
   obtain ⟨s2,s3,h⟩:=h
   by_cases b1:(!g76_0 (List.getD x0 (Int.toNat v5) (0,0,ByteArray.empty,0,())) (List.getD x1 (Int.toNat v5) (0,0,ByteArray.empty,0,())))=true
   ·rw [if_pos b1] at h
    subst h
    exact AtV.ret Tryz.func38 tabOk ext38Ok mixed false [] tys38 [true,true] (a1 b0 (a1 s0 (a1 s1 (a1 s2 (a1 s3 (a1 trivial (a1 b1 trivial))))))) (by kernel_rfl)
   ·rw [if_neg b1] at h
    replace b1:=Bool.eq_false_iff.2 b1
    obtain ⟨s4,h⟩:=h
    exact AtV.go tabOk ext38Ok mixed false [] [] [0,1,5] [] [true,false] (a1 b0 (a1 s0 (a1 s1 (a1 s2 (a1 s3 (a1 trivial (a1 b1 (a1 s4 trivial)))))))) (ih4 _ _ _ _ h K q) (by kernel_rfl)
  ·rw [if_neg b0] at h
   replace b0:=Bool.eq_false_iff.2 b0
   subst h
   exact AtV.ret Tryz.func38 tabOk ext38Ok mixed false [] tys38 [false] (a1 b0 trivial) (by kernel_rfl)
theorem eq38 (x0 x1:List TyB2) (hl:x0.length=x1.length) (hm:x0.length≤maxLen):∀ k i:Nat,i+k=x0.length→R38_4 (k+1) (i:Int) x0 x1 [⟨.bool,decide (x0.drop i=x1.drop i)⟩]:=by
 intro k
 induction k with
 | zero =>
  intro i hi
  have h1:¬ (i:Int)<(x0.length:Int):=by omega
  rw [R38_4,if_neg (by simpa using h1),drop_end x0 i (by omega),drop_end x1 i (by omega)]
  simp
 | succ k ih =>
  intro i hi
  have h1:(i:Int)<(x0.length:Int):=by omega
  rw [R38_4,if_pos (by simpa using h1)]
  refine ⟨by omega,h1,by omega,by omega,?_⟩
  simp only [Int.toNat_natCast]
  rw [drop_get x0 i ((0:Int),(0:Int),ByteArray.empty,(0:Int),()) (by omega),drop_get x1 i ((0:Int),(0:Int),ByteArray.empty,(0:Int),()) (by omega)]
  by_cases he:x0.getD i ((0:Int),(0:Int),ByteArray.empty,(0:Int),())=x1.getD i ((0:Int),(0:Int),ByteArray.empty,(0:Int),())
  ·have hd:=(eqd76 _ _).2 he
   rw [if_neg (by rw [hd];simp)]
   refine ⟨inR_up hm (by omega),?_⟩
   have:=ih (i+1) (by omega)
   simp only [he,List.cons.injEq,true_and]
   exact this
  ·have hd:g76_0 (x0.getD i ((0:Int),(0:Int),ByteArray.empty,(0:Int),())) (x1.getD i ((0:Int),(0:Int),ByteArray.empty,(0:Int),()))=false :=
    Bool.eq_false_iff.2 fun h=>he ((eqd76 _ _).1 h)
   rw [if_pos (by rw [hd];rfl)]
   simp only [he,List.cons.injEq,false_and,decide_false]
def g38_0 (x0 x1:List TyB2):Bool:=decide (x0=x1)
def P38 (x0 x1:List TyB2):Prop:=True
def S38:Am.Spec:={ sig:=sig38,pre:=fun ⟨x0,x1,_⟩=>P38 x0 x1,res:=fun ⟨x0,x1,_⟩=>[⟨Ty.bool,g38_0 x0 x1⟩] }
theorem con38:Contract Tryz.prog 38 S38:=contract_of Tryz.func38 hb38 (Nat.le_of_ble_eq_true (by kernel_rfl)) (fun ⟨x0,x1,_⟩ h hwf K q=>by
 refine (snd38 (x0.length+2)).1 x0 x1 _ ?_ K q
 show R38 (x0.length+1+1) x0 x1 [⟨Ty.bool,decide (x0=x1)⟩]
 rw [R38]
 by_cases hl:x0.length=x1.length
 ·rw [if_neg (by simp [hl])]
  have:=eq38 x0 x1 hl hwf.1.1 x0.length 0 (by omega)
  simpa using this
 ·rw [if_pos (by simp;omega)]
  have:x0≠x1:=fun h=>hl (by rw [h])
  simp [this])
end
noncomputable section
def ext9:Ext:=[(31,S31),(32,S32),(33,S33),(34,S34),(35,S35),(36,S36),(37,S37),(38,S38)]
theorem ext9Ok:ExtOk Tryz.prog ext9:=⟨⟨ca31,con31⟩,⟨ca32,con32⟩,⟨ca33,con33⟩,⟨ca34,con34⟩,⟨ca35,con35⟩,⟨ca36,con36⟩,⟨ca37,con37⟩,⟨ca38,con38⟩,trivial⟩
noncomputable def b9:Code:=bodyOf Tryz.f9
theorem hb9:Tryz.f9.body=some b9:=by kernel_rfl
def sig9:List AT:=[AT.v YA0,AT.v YA0]
def tys9:List Ty:=[Ty.bool]
def kds9:List RK:=[]
def oks9:List AT:=owns sig9
def P9 (x0:TyA0) (x1:TyA0):Prop:=True
def g9_0 (x0:TyA0) (x1:TyA0):Bool:=(if (!g31_0 x0.1 x1.1)=true then false else (if (x0.2.1 != x1.2.1)=true then false else (if (!g32_0 x0.2.2.1 x1.2.2.1)=true then false else (if (!g33_0 x0.2.2.2.1 x1.2.2.2.1)=true then false else (if (!g34_0 x0.2.2.2.2.1 x1.2.2.2.2.1)=true then false else (if (!g35_0 x0.2.2.2.2.2.1 x1.2.2.2.2.2.1)=true then false else (if (!g36_0 x0.2.2.2.2.2.2.1 x1.2.2.2.2.2.2.1)=true then false else (if (x0.2.2.2.2.2.2.2.1 != x1.2.2.2.2.2.2.2.1)=true then false else (if (x0.2.2.2.2.2.2.2.2.1 != x1.2.2.2.2.2.2.2.2.1)=true then false else (if (!g37_0 x0.2.2.2.2.2.2.2.2.2.1 x1.2.2.2.2.2.2.2.2.2.1)=true then false else (if (x0.2.2.2.2.2.2.2.2.2.2.1 != x1.2.2.2.2.2.2.2.2.2.2.1)=true then false else (if (!g38_0 x0.2.2.2.2.2.2.2.2.2.2.2.1 x1.2.2.2.2.2.2.2.2.2.2.2.1)=true then false else true))))))))))))
theorem at9 (x0:TyA0) (x1:TyA0) (h:P9 x0 x1) (K:Ctx) (q:Nat→Value):AtV Tryz.prog 9 (PostR kds9 oks9 [⟨Ty.bool,g9_0 x0 x1⟩] [] [] q K) 73 K q [] [.code b9] (entE 0 0 sig9 (x0,x1,())) (entL sig9 (x0,x1,())):=by
 unfold P9 at h
 unfold g9_0
 by_cases b0:(!g31_0 x0.1 x1.1)=true
 ·try simp only [if_pos b0] at h ⊢
  exact AtV.ret Tryz.func9 tabOk ext9Ok mixed false [] tys9 [true] (a1 trivial (a1 b0 trivial)) (by kernel_rfl)
 ·try simp only [if_neg b0] at h ⊢
  replace b0:=Bool.eq_false_iff.2 b0
  by_cases b1:(x0.2.1 != x1.2.1)=true
  ·try simp only [if_pos b1] at h ⊢
   exact AtV.ret Tryz.func9 tabOk ext9Ok mixed false [] tys9 [false,true] (a1 trivial (a1 b0 (a1 b1 trivial))) (by kernel_rfl)
  ·try simp only [if_neg b1] at h ⊢
   replace b1:=Bool.eq_false_iff.2 b1
   by_cases b2:(!g32_0 x0.2.2.1 x1.2.2.1)=true
   ·try simp only [if_pos b2] at h ⊢
    exact AtV.ret Tryz.func9 tabOk ext9Ok mixed false [] tys9 [false,false,true] (a1 trivial (a1 b0 (a1 b1 (a1 trivial (a1 b2 trivial))))) (by kernel_rfl)
   ·try simp only [if_neg b2] at h ⊢
    replace b2:=Bool.eq_false_iff.2 b2
    by_cases b3:(!g33_0 x0.2.2.2.1 x1.2.2.2.1)=true
    ·try simp only [if_pos b3] at h ⊢
     exact AtV.ret Tryz.func9 tabOk ext9Ok mixed false [] tys9 [false,false,false,true] (a1 trivial (a1 b0 (a1 b1 (a1 trivial (a1 b2 (a1 trivial (a1 b3 trivial))))))) (by kernel_rfl)
    ·try simp only [if_neg b3] at h ⊢
     replace b3:=Bool.eq_false_iff.2 b3
     by_cases b4:(!g34_0 x0.2.2.2.2.1 x1.2.2.2.2.1)=true
     ·try simp only [if_pos b4] at h ⊢
      exact AtV.ret Tryz.func9 tabOk ext9Ok mixed false [] tys9 [false,false,false,false,true] (a1 trivial (a1 b0 (a1 b1 (a1 trivial (a1 b2 (a1 trivial (a1 b3 (a1 trivial (a1 b4 trivial))))))))) (by kernel_rfl)
     ·try simp only [if_neg b4] at h ⊢
      replace b4:=Bool.eq_false_iff.2 b4
      by_cases b5:(!g35_0 x0.2.2.2.2.2.1 x1.2.2.2.2.2.1)=true
      ·try simp only [if_pos b5] at h ⊢
       exact AtV.ret Tryz.func9 tabOk ext9Ok mixed false [] tys9 [false,false,false,false,false,true] (a1 trivial (a1 b0 (a1 b1 (a1 trivial (a1 b2 (a1 trivial (a1 b3 (a1 trivial (a1 b4 (a1 trivial (a1 b5 trivial))))))))))) (by kernel_rfl)
      ·try simp only [if_neg b5] at h ⊢
       replace b5:=Bool.eq_false_iff.2 b5
       by_cases b6:(!g36_0 x0.2.2.2.2.2.2.1 x1.2.2.2.2.2.2.1)=true
       ·try simp only [if_pos b6] at h ⊢
        exact AtV.ret Tryz.func9 tabOk ext9Ok mixed false [] tys9 [false,false,false,false,false,false,true] (a1 trivial (a1 b0 (a1 b1 (a1 trivial (a1 b2 (a1 trivial (a1 b3 (a1 trivial (a1 b4 (a1 trivial (a1 b5 (a1 trivial (a1 b6 trivial))))))))))))) (by kernel_rfl)
       ·try simp only [if_neg b6] at h ⊢
        replace b6:=Bool.eq_false_iff.2 b6
        by_cases b7:(x0.2.2.2.2.2.2.2.1 != x1.2.2.2.2.2.2.2.1)=true
        ·try simp only [if_pos b7] at h ⊢
         exact AtV.ret Tryz.func9 tabOk ext9Ok mixed false [] tys9 [false,false,false,false,false,false,false,true] (a1 trivial (a1 b0 (a1 b1 (a1 trivial (a1 b2 (a1 trivial (a1 b3 (a1 trivial (a1 b4 (a1 trivial (a1 b5 (a1 trivial (a1 b6 (a1 b7 trivial)))))))))))))) (by kernel_rfl)
        ·try simp only [if_neg b7] at h ⊢
         replace b7:=Bool.eq_false_iff.2 b7
         by_cases b8:(x0.2.2.2.2.2.2.2.2.1 != x1.2.2.2.2.2.2.2.2.1)=true
         ·try simp only [if_pos b8] at h ⊢
          exact AtV.ret Tryz.func9 tabOk ext9Ok mixed false [] tys9 [false,false,false,false,false,false,false,false,true] (a1 trivial (a1 b0 (a1 b1 (a1 trivial (a1 b2 (a1 trivial (a1 b3 (a1 trivial (a1 b4 (a1 trivial (a1 b5 (a1 trivial (a1 b6 (a1 b7 (a1 b8 trivial))))))))))))))) (by kernel_rfl)
         ·try simp only [if_neg b8] at h ⊢
          replace b8:=Bool.eq_false_iff.2 b8
          by_cases b9:(!g37_0 x0.2.2.2.2.2.2.2.2.2.1 x1.2.2.2.2.2.2.2.2.2.1)=true
          ·try simp only [if_pos b9] at h ⊢
           exact AtV.ret Tryz.func9 tabOk ext9Ok mixed false [] tys9 [false,false,false,false,false,false,false,false,false,true] (a1 trivial (a1 b0 (a1 b1 (a1 trivial (a1 b2 (a1 trivial (a1 b3 (a1 trivial (a1 b4 (a1 trivial (a1 b5 (a1 trivial (a1 b6 (a1 b7 (a1 b8 (a1 trivial (a1 b9 trivial))))))))))))))))) (by kernel_rfl)
          ·try simp only [if_neg b9] at h ⊢
           replace b9:=Bool.eq_false_iff.2 b9
           by_cases b10:(x0.2.2.2.2.2.2.2.2.2.2.1 != x1.2.2.2.2.2.2.2.2.2.2.1)=true
           ·try simp only [if_pos b10] at h ⊢
            exact AtV.ret Tryz.func9 tabOk ext9Ok mixed false [] tys9 [false,false,false,false,false,false,false,false,false,false,true] (a1 trivial (a1 b0 (a1 b1 (a1 trivial (a1 b2 (a1 trivial (a1 b3 (a1 trivial (a1 b4 (a1 trivial (a1 b5 (a1 trivial (a1 b6 (a1 b7 (a1 b8 (a1 trivial (a1 b9 (a1 b10 trivial)))))))))))))))))) (by kernel_rfl)
           ·try simp only [if_neg b10] at h ⊢
            replace b10:=Bool.eq_false_iff.2 b10
            by_cases b11:(!g38_0 x0.2.2.2.2.2.2.2.2.2.2.2.1 x1.2.2.2.2.2.2.2.2.2.2.2.1)=true
            ·try simp only [if_pos b11] at h ⊢
             exact AtV.ret Tryz.func9 tabOk ext9Ok mixed false [] tys9 [false,false,false,false,false,false,false,false,false,false,false,true] (a1 trivial (a1 b0 (a1 b1 (a1 trivial (a1 b2 (a1 trivial (a1 b3 (a1 trivial (a1 b4 (a1 trivial (a1 b5 (a1 trivial (a1 b6 (a1 b7 (a1 b8 (a1 trivial (a1 b9 (a1 b10 (a1 trivial (a1 b11 trivial)))))))))))))))))))) (by kernel_rfl)
            ·try simp only [if_neg b11] at h ⊢
             replace b11:=Bool.eq_false_iff.2 b11
             exact AtV.ret Tryz.func9 tabOk ext9Ok mixed false [] tys9 [false,false,false,false,false,false,false,false,false,false,false,false] (a1 trivial (a1 b0 (a1 b1 (a1 trivial (a1 b2 (a1 trivial (a1 b3 (a1 trivial (a1 b4 (a1 trivial (a1 b5 (a1 trivial (a1 b6 (a1 b7 (a1 b8 (a1 trivial (a1 b9 (a1 b10 (a1 trivial (a1 b11 trivial)))))))))))))))))))) (by kernel_rfl)
def S9:Am.Spec:={ sig:=sig9,pre:=fun ⟨x0,x1,_⟩=>P9 x0 x1,res:=fun ⟨x0,x1,_⟩=>[⟨Ty.bool,g9_0 x0 x1⟩],kds:=kds9 }
theorem con9:Contract Tryz.prog 9 S9:=contract_of Tryz.func9 hb9 (Nat.le_of_ble_eq_true (by kernel_rfl)) (fun ⟨x0,x1,_⟩ h _ K q=>at9 x0 x1 h K q)
end
noncomputable section
def ext77:Ext:=[]
theorem ext77Ok:ExtOk Tryz.prog ext77:=trivial
noncomputable def b77:Code:=bodyOf Tryz.f77
theorem hb77:Tryz.f77.body=some b77:=by kernel_rfl
def sig77:List AT:=[AT.own YA9,AT.v (Ty.int .i64)]
def tys77:List Ty:=[Ty.int .i64]
def kds77:List RK:=[]
def oks77:List AT:=owns sig77
def E77_2 (v5:Int) (x1:Int) (x0:List TyB4):Env:=[(0,PV.a (Atom.osl 0 Option.none)),(1,PV.a (Atom.val (Value.int .i64 x1))),(5,PV.a (Atom.val (Value.int .i64 v5)))]
def L77_2 (v5:Int) (x1:Int) (x0:List TyB4):Heap:=[Option.some (Arr.mk YA9 x0 false Option.none Option.none)]
mutual
def R77:Nat→List TyB4→Int→List Dyn→List (Option Lst)→Prop
 | 0,_,_,_,_=>False
 | n+1,x0,x1,ds,us=>(R77_2 n (0) (x1) (x0) ds us)
def R77_2:Nat→Int→Int→List TyB4→List Dyn→List (Option Lst)→Prop
 | 0,_,_,_,_,_=>False
 | n+1,v5,x1,x0,ds,us=>(if (decide (v5<(↑(List.length x0):Int)))=true then ((0≤v5)∧(v5<(↑(List.length x0):Int))∧((InR .i64 (x1+1))∧((0≤v5)∧(v5<(↑(List.length (List.set x0 (Int.toNat v5) (x1,(List.getD x0 (Int.toNat v5) (0,0,())).2))):Int))∧((InR .i64 (x1+1+1))∧((InR .i64 (v5+1))∧(R77_2 n (v5+1) (x1+1+1) (List.set (List.set x0 (Int.toNat v5) (x1,(List.getD x0 (Int.toNat v5) (0,0,())).2)) (Int.toNat v5) ((List.getD (List.set x0 (Int.toNat v5) (x1,(List.getD x0 (Int.toNat v5) (0,0,())).2)) (Int.toNat v5) (0,0,())).1,x1+1,(List.getD (List.set x0 (Int.toNat v5) (x1,(List.getD x0 (Int.toNat v5) (0,0,())).2)) (Int.toNat v5) (0,0,())).2.2)) ds us)))))) else (ds=[Dyn.mk (Ty.int .i64) x1]∧us=[Option.some (Lst.mk YA9 x0)]))
end
theorem snd77:∀ n,(∀ (x0:List TyB4) (x1:Int) ds us,R77 n x0 x1 ds us→∀ K q,AtV Tryz.prog 77 (PostR kds77 oks77 ds us [0] q K) 27 K q [0] [.code b77] (entE 0 0 sig77 (x0,x1,())) (entL sig77 (x0,x1,())))∧(∀ (v5:Int) (x1:Int) (x0:List TyB4) ds us,R77_2 n v5 x1 x0 ds us→∀ K q,AtV Tryz.prog 77 (PostR kds77 oks77 ds us [0] q K) 27 K q [0] (cutAt b77 2) (E77_2 v5 x1 x0) (L77_2 v5 x1 x0)):=by
 intro n
 induction n with
 | zero=>exact ⟨fun _ _ _ _ h=>by simp only [R77] at h,fun _ _ _ _ _ h=>by simp only [R77_2] at h⟩
 | succ n ih =>
 obtain ⟨ih,ih2⟩:=ih
 refine ⟨?_,?_⟩
 ·intro x0 x1 ds us h K q
  rw [R77] at h
  exact AtV.go tabOk ext77Ok mixed false [] [] [0,1,5] [0] [] trivial (ih2 _ _ _ _ _ h K q) (by kernel_rfl)
 ·intro v5 x1 x0 ds us h K q
  rw [R77_2] at h
  by_cases b0:(decide (v5<(↑(List.length x0):Int)))=true
  ·rw [if_pos b0] at h
   obtain ⟨s0,s1,h⟩:=h
   obtain ⟨s2,h⟩:=h
   obtain ⟨s3,s4,h⟩:=h
   obtain ⟨s5,h⟩:=h
   obtain ⟨s6,h⟩:=h
   exact AtV.go tabOk ext77Ok mixed false [] [] [0,1,5] [0] [true] (a1 b0 (a1 s0 (a1 s1 (a1 s2 (a1 s3 (a1 s4 (a1 s5 (a1 s6 trivial)))))))) (ih2 _ _ _ _ _ h K q) (by kernel_rfl)
  ·rw [if_neg b0] at h
   replace b0:=Bool.eq_false_iff.2 b0
   obtain ⟨h,h'⟩:=h;subst h;subst h'
   exact AtV.ret Tryz.func77 tabOk ext77Ok mixed false [] tys77 [false] (a1 b0 trivial) (by kernel_rfl)
def M77 (x1:Int) (n:Nat):List TyB4:=(List.range n).map fun (j:Nat)=>((x1+2*(j:Int)),(x1+2*(j:Int)+1),())
theorem M77_len (x1:Int) (n:Nat):(M77 x1 n).length=n:=by simp [M77]
theorem M77_succ (x1:Int) (n:Nat):M77 x1 (n+1)=M77 x1 n++[((x1+2*(n:Int)),(x1+2*(n:Int)+1),())]:=by
 simp [M77,List.range_succ]
theorem run77 (x0:List TyB4) (x1:Int) (hm:x0.length≤maxLen) (h0:0≤x1) (h1:x1+2*x0.length≤9223372036854775807):∀ (k i:Nat),i+k=x0.length →
  R77_2 (k+1) (i:Int) (x1+2*(i:Int)) (M77 x1 i++x0.drop i) [⟨.int .i64,x1+2*(x0.length:Int)⟩] [some ⟨(.cons (.int .i64) (.cons (.int .i64) .unit)),M77 x1 x0.length⟩]:=by
 intro k
 induction k with
 | zero =>
  intro i hi
  have hl:(M77 x1 i++x0.drop i).length=x0.length:=by simp [M77_len];omega
  rw [R77_2,if_neg (by rw [hl];simp;omega),drop_end x0 i (by omega),List.append_nil]
  have:i=x0.length:=by omega
  subst this
  exact ⟨rfl,rfl⟩
 | succ k ih =>
  intro i hi
  have hl:(M77 x1 i++x0.drop i).length=x0.length:=by simp [M77_len];omega
  have hA:=M77_len x1 i
  rw [R77_2,if_pos (by rw [hl];simp;omega)]
  rw [drop_get x0 i ((0:Int),(0:Int),()) (by omega)] at hl ⊢
  simp only [Int.toNat_natCast,set_mid _ _ _ _ i hA,get_mid _ _ _ _ i hA]
  have hl':∀ y:TyB4,((M77 x1 i++y :: x0.drop (i+1)).length:Int)=x0.length:=fun y=>by rw [← hl];simp
  simp only [hl']
  refine ⟨by omega,by omega,by rw [i64_iff];omega,by omega,by omega,by rw [i64_iff];omega,inR_up hm (by omega),?_⟩
  have hx:x1+2*(i:Int)+1+1=x1+2*((i+1:Nat):Int):=by omega
  have:=ih (i+1) (by omega)
  rw [M77_succ,List.append_assoc] at this
  rw [hx]
  simpa using this
def P77 (x0:List TyB4) (x1:Int):Prop:=0≤x1∧x1+2*x0.length≤9223372036854775807
def g77_0 (x0:List TyB4) (x1:Int):Int:=x1+2*(x0.length:Int)
def u77_0 (x0:List TyB4) (x1:Int):List TyB4:=M77 x1 x0.length
theorem top77 (x0:List TyB4) (x1:Int) (hm:x0.length≤maxLen) (h:P77 x0 x1):R77 (x0.length+1+1) x0 x1 [⟨.int .i64,g77_0 x0 x1⟩] [some ⟨(.cons (.int .i64) (.cons (.int .i64) .unit)),u77_0 x0 x1⟩]:=by
 rw [R77]
 have:=run77 x0 x1 hm h.1 h.2 x0.length 0 (by omega)
 simpa [M77,g77_0,u77_0] using this
def S77:Am.Spec:={ sig:=sig77,pre:=fun ⟨x0,x1,_⟩=>P77 x0 x1,upd:=fun ⟨x0,x1,_⟩=>[some ⟨(.cons (.int .i64) (.cons (.int .i64) .unit)),u77_0 x0 x1⟩],res:=fun ⟨x0,x1,_⟩=>[⟨.int .i64,g77_0 x0 x1⟩] }
theorem con77:Contract Tryz.prog 77 S77:=contract_of Tryz.func77 hb77 (Nat.le_of_ble_eq_true (by kernel_rfl)) (fun ⟨x0,x1,_⟩ h hwf K q =>
 (snd77 _).1 x0 x1 _ _ (top77 x0 x1 hwf.1.1 h) K q)
end
noncomputable section
def ext39:Ext:=[(77,S77)]
theorem ext39Ok:ExtOk Tryz.prog ext39:=⟨⟨ca77,con77⟩,trivial⟩
noncomputable def b39:Code:=bodyOf Tryz.f39
theorem hb39:Tryz.f39.body=some b39:=by kernel_rfl
def sig39:List AT:=[AT.sv YA2,AT.v (Ty.int .i64)]
def tys39:List Ty:=[Ty.int .i64]
def kds39:List RK:=[]
def oks39:List AT:=owns sig39
def P39 (x0:List TyB4×Int×Int×Unit) (x1:Int):Prop:=((P77 x0.1 x1)∧(List.length (u77_0 x0.1 x1)=List.length x0.1)∧True)
def g39_0 (x0:List TyB4×Int×Int×Unit) (x1:Int):Int:=g77_0 x0.1 x1
def u39_0 (x0:List TyB4×Int×Int×Unit) (x1:Int):List TyB4×Int×Int×Unit:=(u77_0 x0.1 x1,x0.2.1,x0.2.2.1,())
theorem at39 (x0:List TyB4×Int×Int×Unit) (x1:Int) (h:P39 x0 x1) (K:Ctx) (q:Nat→Value):AtV Tryz.prog 39 (PostR kds39 oks39 [⟨Ty.int .i64,g39_0 x0 x1⟩] [some ⟨Ty.cons (Ty.sl YA9) YA9,[u39_0 x0 x1]⟩] [0] q K) 10 K q [0] [.code b39] (entE 0 0 sig39 (x0,x1,())) (entL sig39 (x0,x1,())):=by
 unfold P39 at h
 unfold g39_0 u39_0
 obtain ⟨s0,s1,h⟩:=h
 exact AtV.weak (AtV.ret (us:=[Option.some (Lst.mk YA2 [(u77_0 x0.1 x1,x0.2.1,x0.2.2.1,())])]) Tryz.func39 tabOk ext39Ok mixed false [] tys39 [] (a1 s0 (a1 s1 trivial)) (by kernel_rfl)) ⟨.inl rfl,trivial⟩
def S39:Am.Spec:={ sig:=sig39,pre:=fun ⟨x0,x1,_⟩=>P39 x0 x1,upd:=fun ⟨x0,x1,_⟩=>[some ⟨Ty.cons (Ty.sl YA9) YA9,[u39_0 x0 x1]⟩],res:=fun ⟨x0,x1,_⟩=>[⟨Ty.int .i64,g39_0 x0 x1⟩],kds:=kds39 }
theorem con39:Contract Tryz.prog 39 S39:=contract_of Tryz.func39 hb39 (Nat.le_of_ble_eq_true (by kernel_rfl)) (fun ⟨x0,x1,_⟩ h _ K q=>at39 x0 x1 h K q)
end
noncomputable section
def ext44:Ext:=[]
theorem ext44Ok:ExtOk Tryz.prog ext44:=trivial
noncomputable def b44:Code:=bodyOf Tryz.f44
theorem hb44:Tryz.f44.body=some b44:=by kernel_rfl
def sig44:List AT:=[AT.v (Ty.int .i64)]
def tys44:List Ty:=[Ty.str]
def kds44:List RK:=[]
def oks44:List AT:=owns sig44
def E44_4 (v3:ByteArray) (x0:Int):Env:=[(0,PV.a (Atom.val (Value.int .i64 x0))),(3,PV.a (Atom.val (Value.string v3)))]
def L44_4 (v3:ByteArray) (x0:Int):Heap:=[]
mutual
def R44:Nat→Int→List Dyn→Prop
 | 0,_,_=>False
 | n+1,x0,ds=>(if (decide (x0≤0))=true then (ds=[Dyn.mk Ty.str (ByteArray.mk #[109,48])]) else (R44_4 n (ByteArray.mk #[]) (x0) ds))
def R44_4:Nat→ByteArray→Int→List Dyn→Prop
 | 0,_,_,_=>False
 | n+1,v3,x0,ds=>(if (decide (x0>0))=true then ((InR .i64 (Int.tmod x0 10))∧((InR .i64 (48+Int.tmod x0 10))∧((InR .u8 (48+Int.tmod x0 10))∧((ByteArray.size (bytesStr [48+Int.tmod x0 10])+ByteArray.size v3≤9223372036854775807)∧((InR .i64 (Int.tdiv x0 10))∧(R44_4 n (bytesStr [48+Int.tmod x0 10]++v3) (Int.tdiv x0 10) ds)))))) else ((1+ByteArray.size v3≤9223372036854775807)∧(ds=[Dyn.mk Ty.str (ByteArray.mk #[109]++v3)])))
end
theorem snd44:∀ n,(∀ (x0:Int) ds,R44 n x0 ds→∀ K q,AtV Tryz.prog 44 (PostR kds44 oks44 ds [] [] q K) 20 K q [] [.code b44] (entE 0 0 sig44 (x0,())) (entL sig44 (x0,())))∧(∀ (v3:ByteArray) (x0:Int) ds,R44_4 n v3 x0 ds→∀ K q,AtV Tryz.prog 44 (PostR kds44 oks44 ds [] [] q K) 20 K q [] (cutAt b44 4) (E44_4 v3 x0) (L44_4 v3 x0)):=by
 intro n
 induction n with
 | zero=>exact ⟨fun _ _ h=>by simp only [R44] at h,fun _ _ _ h=>by simp only [R44_4] at h⟩
 | succ n ih =>
 obtain ⟨ih,ih4⟩:=ih
 refine ⟨?_,?_⟩
 ·intro x0 ds h K q
  rw [R44] at h
  by_cases b0:(decide (x0≤0))=true
  ·rw [if_pos b0] at h
   subst h
   exact AtV.ret Tryz.func44 tabOk ext44Ok mixed false [] tys44 [true] (a1 b0 trivial) (by kernel_rfl)
  ·rw [if_neg b0] at h
   replace b0:=Bool.eq_false_iff.2 b0
   exact AtV.go tabOk ext44Ok mixed false [] [] [0,3] [] [false] (a1 b0 trivial) (ih4 _ _ _ h K q) (by kernel_rfl)
 ·intro v3 x0 ds h K q
  rw [R44_4] at h
  by_cases b0:(decide (x0>0))=true
  ·rw [if_pos b0] at h
   obtain ⟨s0,h⟩:=h
   obtain ⟨s1,h⟩:=h
   obtain ⟨s2,h⟩:=h
   obtain ⟨s3,h⟩:=h
   obtain ⟨s4,h⟩:=h
   exact AtV.go tabOk ext44Ok mixed false [] [] [0,3] [] [true] (a1 b0 (a1 ((by decide):(10:Int)≠(0:Int)) (a1 s0 (a1 s1 (a1 s2 (a1 s3 (a1 ((by decide):(10:Int)≠(0:Int)) (a1 s4 trivial)))))))) (ih4 _ _ _ h K q) (by kernel_rfl)
  ·rw [if_neg b0] at h
   replace b0:=Bool.eq_false_iff.2 b0
   obtain ⟨s0,h⟩:=h
   subst h
   exact AtV.ret Tryz.func44 tabOk ext44Ok mixed false [] tys44 [false] (a1 b0 (a1 s0 trivial)) (by kernel_rfl)
def loop44:Nat→ByteArray→Int→ByteArray
 | 0,v,_=>v
 | n+1,v,x=>if 0<x then loop44 n (bytesStr [48+Int.tmod x 10]++v) (Int.tdiv x 10) else v
theorem run44:∀ (n:Nat) (v:ByteArray) (x:Int),x<10 ^ n→InR .i64 x→v.size+n≤1000→R44_4 (n+1) v x [⟨.str,ByteArray.mk #[109]++loop44 n v x⟩]:=by
 intro n
 induction n with
 | zero =>
  intro v x h1 _ h2
  rw [R44_4,if_neg (by simp at h1 ⊢;omega)]
  exact ⟨by omega,rfl⟩
 | succ n ih =>
  intro v x h1 hi h2
  rw [i64_iff] at hi
  rw [R44_4]
  by_cases hx:0<x
  ·rw [if_pos (by simpa using hx)]
   have e1:Int.tmod x 10=x % 10:=Int.tmod_eq_emod_of_nonneg (by omega)
   have e2:Int.tdiv x 10=x / 10:=Int.tdiv_eq_ediv_of_nonneg (by omega)
   have hs:(bytesStr [48+Int.tmod x 10]).size=1:=bytesStr_size _
   have hp:(10:Int) ^ (n+1)=10*10 ^ n:=by rw [Int.pow_succ,Int.mul_comm]
   refine ⟨by rw [i64_iff,e1];omega,by rw [i64_iff,e1];omega,by rw [u8_iff,e1];omega,by rw [hs];omega,by rw [i64_iff,e2];omega,?_⟩
   have:=ih (bytesStr [48+Int.tmod x 10]++v) (Int.tdiv x 10) (by rw [e2];omega) (by rw [i64_iff,e2];omega) (by rw [ByteArray.size_append,hs];omega)
   simp only [loop44,if_pos hx]
   exact this
  ·rw [if_neg (by simp;omega)]
   simp only [loop44,if_neg hx]
   exact ⟨by omega,trivial⟩
def g44_0 (x0:Int):ByteArray:=if x0≤0 then ByteArray.mk #[109,48] else ByteArray.mk #[109]++loop44 19 (ByteArray.mk #[]) x0
def P44 (x0:Int):Prop:=True
theorem top44 (x0:Int) (hi:InR .i64 x0):R44 21 x0 [⟨.str,g44_0 x0⟩]:=by
 rw [R44]
 unfold g44_0
 by_cases h:x0≤0
 ·rw [if_pos (by simpa using h),if_pos h]
 ·rw [if_neg (by simpa using h),if_neg h]
  have hi':=hi
  rw [i64_iff] at hi'
  exact run44 19 _ x0 (by omega) hi (by decide)
def S44:Am.Spec:={ sig:=sig44,pre:=fun ⟨x0,_⟩=>P44 x0,res:=fun ⟨x0,_⟩=>[⟨.str,g44_0 x0⟩] }
theorem con44:Contract Tryz.prog 44 S44:=contract_of Tryz.func44 hb44 (Nat.le_of_ble_eq_true (by kernel_rfl)) (fun ⟨x0,_⟩ h hwf K q =>
 (snd44 _).1 x0 _ (top44 x0 hwf.1) K q)
end
noncomputable section
def ext40:Ext:=[(44,S44)]
theorem ext40Ok:ExtOk Tryz.prog ext40:=⟨⟨ca44,con44⟩,trivial⟩
noncomputable def b40:Code:=bodyOf Tryz.f40
theorem hb40:Tryz.f40.body=some b40:=by kernel_rfl
def sig40:List AT:=[AT.own YA5,AT.v (Ty.int .i64)]
def tys40:List Ty:=[Ty.int .i64]
def kds40:List RK:=[]
def oks40:List AT:=owns sig40
def E40_2 (v5:Int) (x1:Int) (x0:List TyB1):Env:=[(0,PV.a (Atom.osl 0 Option.none)),(1,PV.a (Atom.val (Value.int .i64 x1))),(5,PV.a (Atom.val (Value.int .i64 v5)))]
def L40_2 (v5:Int) (x1:Int) (x0:List TyB1):Heap:=[Option.some (Arr.mk YA5 x0 false Option.none Option.none)]
@[reducible] def q40_0 (v5:Int) (x1:Int) (x0:List TyB1):=List.set x0 (Int.toNat v5) (g44_0 x1,(List.getD x0 (Int.toNat v5) (ByteArray.empty,0,0,0,())).2)
@[reducible] def q40_1 (v5:Int) (x1:Int) (x0:List TyB1):=List.set (q40_0 v5 x1 x0) (Int.toNat v5) ((List.getD (q40_0 v5 x1 x0) (Int.toNat v5) (ByteArray.empty,0,0,0,())).1,x1+1,(List.getD (q40_0 v5 x1 x0) (Int.toNat v5) (ByteArray.empty,0,0,0,())).2.2)
@[reducible] def q40_2 (v5:Int) (x1:Int) (x0:List TyB1):=List.set (q40_1 v5 x1 x0) (Int.toNat v5) ((List.getD (q40_1 v5 x1 x0) (Int.toNat v5) (ByteArray.empty,0,0,0,())).1,(List.getD (q40_1 v5 x1 x0) (Int.toNat v5) (ByteArray.empty,0,0,0,())).2.1,x1+1+1,(List.getD (q40_1 v5 x1 x0) (Int.toNat v5) (ByteArray.empty,0,0,0,())).2.2.2)
mutual
def R40:Nat→List TyB1→Int→List Dyn→List (Option Lst)→Prop
 | 0,_,_,_,_=>False
 | n+1,x0,x1,ds,us=>(R40_2 n (0) (x1) (x0) ds us)
def R40_2:Nat→Int→Int→List TyB1→List Dyn→List (Option Lst)→Prop
 | 0,_,_,_,_,_=>False
 | n+1,v5,x1,x0,ds,us=>(if (decide (v5<(↑(List.length x0):Int)))=true then ((0≤v5)∧(v5<(↑(List.length x0):Int))∧((InR .i64 (x1+1))∧((0≤v5)∧(v5<(↑(List.length (q40_0 v5 x1 x0)):Int))∧((InR .i64 (x1+1+1))∧((0≤v5)∧(v5<(↑(List.length (q40_1 v5 x1 x0)):Int))∧((InR .i64 (x1+1+1+1))∧((0≤v5)∧(v5<(↑(List.length (q40_2 v5 x1 x0)):Int))∧((InR .i64 (x1+1+1+1+1))∧((InR .i64 (v5+1))∧(R40_2 n (v5+1) (x1+1+1+1+1) (List.set (q40_2 v5 x1 x0) (Int.toNat v5) ((List.getD (q40_2 v5 x1 x0) (Int.toNat v5) (ByteArray.empty,0,0,0,())).1,(List.getD (q40_2 v5 x1 x0) (Int.toNat v5) (ByteArray.empty,0,0,0,())).2.1,(List.getD (q40_2 v5 x1 x0) (Int.toNat v5) (ByteArray.empty,0,0,0,())).2.2.1,x1+1+1+1,(List.getD (q40_2 v5 x1 x0) (Int.toNat v5) (ByteArray.empty,0,0,0,())).2.2.2.2)) ds us)))))))))) else (ds=[Dyn.mk (Ty.int .i64) x1]∧us=[Option.some (Lst.mk YA5 x0)]))
end
theorem snd40:∀ n,(∀ (x0:List TyB1) (x1:Int) ds us,R40 n x0 x1 ds us→∀ K q,AtV Tryz.prog 40 (PostR kds40 oks40 ds us [0] q K) 42 K q [0] [.code b40] (entE 0 0 sig40 (x0,x1,())) (entL sig40 (x0,x1,())))∧(∀ (v5:Int) (x1:Int) (x0:List TyB1) ds us,R40_2 n v5 x1 x0 ds us→∀ K q,AtV Tryz.prog 40 (PostR kds40 oks40 ds us [0] q K) 42 K q [0] (cutAt b40 2) (E40_2 v5 x1 x0) (L40_2 v5 x1 x0)):=by
 intro n
 induction n with
 | zero=>exact ⟨fun _ _ _ _ h=>by simp only [R40] at h,fun _ _ _ _ _ h=>by simp only [R40_2] at h⟩
 | succ n ih =>
 obtain ⟨ih,ih2⟩:=ih
 refine ⟨?_,?_⟩
 ·intro x0 x1 ds us h K q
  rw [R40] at h
  exact AtV.go tabOk ext40Ok mixed false [] [] [0,1,5] [0] [] trivial (ih2 _ _ _ _ _ h K q) (by kernel_rfl)
 ·intro v5 x1 x0 ds us h K q
  rw [R40_2] at h
  by_cases b0:(decide (v5<(↑(List.length x0):Int)))=true
  ·rw [if_pos b0] at h
   obtain ⟨s0,s1,h⟩:=h
   obtain ⟨s2,h⟩:=h
   obtain ⟨s3,s4,h⟩:=h
   obtain ⟨s5,h⟩:=h
   obtain ⟨s6,s7,h⟩:=h
   obtain ⟨s8,h⟩:=h
   obtain ⟨s9,s10,h⟩:=h
   obtain ⟨s11,h⟩:=h
   obtain ⟨s12,h⟩:=h
   exact AtV.go tabOk ext40Ok mixed false [] [] [0,1,5] [0] [true] (a1 b0 (a1 trivial (a1 s0 (a1 s1 (a1 s2 (a1 s3 (a1 s4 (a1 s5 (a1 s6 (a1 s7 (a1 s8 (a1 s9 (a1 s10 (a1 s11 (a1 s12 trivial))))))))))))))) (ih2 _ _ _ _ _ h K q) (by kernel_rfl)
  ·rw [if_neg b0] at h
   replace b0:=Bool.eq_false_iff.2 b0
   obtain ⟨h,h'⟩:=h;subst h;subst h'
   exact AtV.ret Tryz.func40 tabOk ext40Ok mixed false [] tys40 [false] (a1 b0 trivial) (by kernel_rfl)
def M40 (x1:Int) (n:Nat):List TyB1:=(List.range n).map fun (j:Nat)=>(g44_0 (x1+4*(j:Int)),(x1+4*(j:Int)+1),(x1+4*(j:Int)+1+1),(x1+4*(j:Int)+1+1+1),())
theorem M40_len (x1:Int) (n:Nat):(M40 x1 n).length=n:=by simp [M40]
theorem M40_succ (x1:Int) (n:Nat):M40 x1 (n+1)=M40 x1 n++[(g44_0 (x1+4*(n:Int)),(x1+4*(n:Int)+1),(x1+4*(n:Int)+1+1),(x1+4*(n:Int)+1+1+1),())]:=by
 simp [M40,List.range_succ]
theorem run40 (x0:List TyB1) (x1:Int) (hm:x0.length≤maxLen) (h0:0≤x1) (h1:x1+4*x0.length≤9223372036854775807):∀ (k i:Nat),i+k=x0.length →
  R40_2 (k+1) (i:Int) (x1+4*(i:Int)) (M40 x1 i++x0.drop i) [⟨.int .i64,x1+4*(x0.length:Int)⟩] [some ⟨(.cons .str (.cons (.int .i64) (.cons (.int .i64) (.cons (.int .i64) .unit)))),M40 x1 x0.length⟩]:=by
 intro k
 induction k with
 | zero =>
  intro i hi
  have hl:(M40 x1 i++x0.drop i).length=x0.length:=by simp [M40_len];omega
  rw [R40_2,if_neg (by rw [hl];simp;omega),drop_end x0 i (by omega),List.append_nil]
  have:i=x0.length:=by omega
  subst this
  exact ⟨rfl,rfl⟩
 | succ k ih =>
  intro i hi
  have hl:(M40 x1 i++x0.drop i).length=x0.length:=by simp [M40_len];omega
  have hA:=M40_len x1 i
  rw [R40_2,if_pos (by rw [hl];simp;omega)]
  rw [drop_get x0 i (ByteArray.empty,(0:Int),(0:Int),(0:Int),()) (by omega)] at hl ⊢
  simp only [Int.toNat_natCast,q40_0,q40_1,q40_2,set_mid _ _ _ _ i hA,get_mid _ _ _ _ i hA]
  have hl':∀ y:TyB1,((M40 x1 i++y :: x0.drop (i+1)).length:Int)=x0.length:=fun y=>by rw [← hl];simp
  simp only [hl']
  refine ⟨by omega,by omega,by rw [i64_iff];omega,by omega,by omega,by rw [i64_iff];omega,by omega,by omega,by rw [i64_iff];omega,by omega,by omega,by rw [i64_iff];omega,inR_up hm (by omega),?_⟩
  have hx:x1+4*(i:Int)+1+1+1+1=x1+4*((i+1:Nat):Int):=by omega
  have:=ih (i+1) (by omega)
  rw [M40_succ,List.append_assoc] at this
  rw [hx]
  simpa using this
def P40 (x0:List TyB1) (x1:Int):Prop:=0≤x1∧x1+4*x0.length≤9223372036854775807
def g40_0 (x0:List TyB1) (x1:Int):Int:=x1+4*(x0.length:Int)
def u40_0 (x0:List TyB1) (x1:Int):List TyB1:=M40 x1 x0.length
theorem top40 (x0:List TyB1) (x1:Int) (hm:x0.length≤maxLen) (h:P40 x0 x1):R40 (x0.length+1+1) x0 x1 [⟨.int .i64,g40_0 x0 x1⟩] [some ⟨(.cons .str (.cons (.int .i64) (.cons (.int .i64) (.cons (.int .i64) .unit)))),u40_0 x0 x1⟩]:=by
 rw [R40]
 have:=run40 x0 x1 hm h.1 h.2 x0.length 0 (by omega)
 simpa [M40,g40_0,u40_0] using this
def S40:Am.Spec:={ sig:=sig40,pre:=fun ⟨x0,x1,_⟩=>P40 x0 x1,upd:=fun ⟨x0,x1,_⟩=>[some ⟨(.cons .str (.cons (.int .i64) (.cons (.int .i64) (.cons (.int .i64) .unit)))),u40_0 x0 x1⟩],res:=fun ⟨x0,x1,_⟩=>[⟨.int .i64,g40_0 x0 x1⟩] }
theorem con40:Contract Tryz.prog 40 S40:=contract_of Tryz.func40 hb40 (Nat.le_of_ble_eq_true (by kernel_rfl)) (fun ⟨x0,x1,_⟩ h hwf K q =>
 (snd40 _).1 x0 x1 _ _ (top40 x0 x1 hwf.1.1 h) K q)
end
noncomputable section
def ext41:Ext:=[(44,S44)]
theorem ext41Ok:ExtOk Tryz.prog ext41:=⟨⟨ca44,con44⟩,trivial⟩
noncomputable def b41:Code:=bodyOf Tryz.f41
theorem hb41:Tryz.f41.body=some b41:=by kernel_rfl
def sig41:List AT:=[AT.own YA3,AT.v (Ty.int .i64)]
def tys41:List Ty:=[Ty.int .i64]
def kds41:List RK:=[]
def oks41:List AT:=owns sig41
def E41_2 (v5:Int) (x1:Int) (x0:List TyB0):Env:=[(0,PV.a (Atom.osl 0 Option.none)),(1,PV.a (Atom.val (Value.int .i64 x1))),(5,PV.a (Atom.val (Value.int .i64 v5)))]
def L41_2 (v5:Int) (x1:Int) (x0:List TyB0):Heap:=[Option.some (Arr.mk YA3 x0 false Option.none Option.none)]
@[reducible] def q41_0 (v5:Int) (x1:Int) (x0:List TyB0):=List.set x0 (Int.toNat v5) (g44_0 x1,(List.getD x0 (Int.toNat v5) (ByteArray.empty,0,0,0,0,())).2)
@[reducible] def q41_1 (v5:Int) (x1:Int) (x0:List TyB0):=List.set (q41_0 v5 x1 x0) (Int.toNat v5) ((List.getD (q41_0 v5 x1 x0) (Int.toNat v5) (ByteArray.empty,0,0,0,0,())).1,x1+1,(List.getD (q41_0 v5 x1 x0) (Int.toNat v5) (ByteArray.empty,0,0,0,0,())).2.2)
@[reducible] def q41_2 (v5:Int) (x1:Int) (x0:List TyB0):=List.set (q41_1 v5 x1 x0) (Int.toNat v5) ((List.getD (q41_1 v5 x1 x0) (Int.toNat v5) (ByteArray.empty,0,0,0,0,())).1,(List.getD (q41_1 v5 x1 x0) (Int.toNat v5) (ByteArray.empty,0,0,0,0,())).2.1,x1+1+1,(List.getD (q41_1 v5 x1 x0) (Int.toNat v5) (ByteArray.empty,0,0,0,0,())).2.2.2)
@[reducible] def q41_3 (v5:Int) (x1:Int) (x0:List TyB0):=List.set (q41_2 v5 x1 x0) (Int.toNat v5) ((List.getD (q41_2 v5 x1 x0) (Int.toNat v5) (ByteArray.empty,0,0,0,0,())).1,(List.getD (q41_2 v5 x1 x0) (Int.toNat v5) (ByteArray.empty,0,0,0,0,())).2.1,(List.getD (q41_2 v5 x1 x0) (Int.toNat v5) (ByteArray.empty,0,0,0,0,())).2.2.1,x1+1+1+1,(List.getD (q41_2 v5 x1 x0) (Int.toNat v5) (ByteArray.empty,0,0,0,0,())).2.2.2.2)
mutual
def R41:Nat→List TyB0→Int→List Dyn→List (Option Lst)→Prop
 | 0,_,_,_,_=>False
 | n+1,x0,x1,ds,us=>(R41_2 n (0) (x1) (x0) ds us)
def R41_2:Nat→Int→Int→List TyB0→List Dyn→List (Option Lst)→Prop
 | 0,_,_,_,_,_=>False
 | n+1,v5,x1,x0,ds,us=>(if (decide (v5<(↑(List.length x0):Int)))=true then ((0≤v5)∧(v5<(↑(List.length x0):Int))∧((InR .i64 (x1+1))∧((0≤v5)∧(v5<(↑(List.length (q41_0 v5 x1 x0)):Int))∧((InR .i64 (x1+1+1))∧((0≤v5)∧(v5<(↑(List.length (q41_1 v5 x1 x0)):Int))∧((InR .i64 (x1+1+1+1))∧((0≤v5)∧(v5<(↑(List.length (q41_2 v5 x1 x0)):Int))∧((InR .i64 (x1+1+1+1+1))∧((0≤v5)∧(v5<(↑(List.length (q41_3 v5 x1 x0)):Int))∧((InR .i64 (x1+1+1+1+1+1))∧((InR .i64 (v5+1))∧(R41_2 n (v5+1) (x1+1+1+1+1+1) (List.set (q41_3 v5 x1 x0) (Int.toNat v5) ((List.getD (q41_3 v5 x1 x0) (Int.toNat v5) (ByteArray.empty,0,0,0,0,())).1,(List.getD (q41_3 v5 x1 x0) (Int.toNat v5) (ByteArray.empty,0,0,0,0,())).2.1,(List.getD (q41_3 v5 x1 x0) (Int.toNat v5) (ByteArray.empty,0,0,0,0,())).2.2.1,(List.getD (q41_3 v5 x1 x0) (Int.toNat v5) (ByteArray.empty,0,0,0,0,())).2.2.2.1,x1+1+1+1+1,(List.getD (q41_3 v5 x1 x0) (Int.toNat v5) (ByteArray.empty,0,0,0,0,())).2.2.2.2.2)) ds us)))))))))))) else (ds=[Dyn.mk (Ty.int .i64) x1]∧us=[Option.some (Lst.mk YA3 x0)]))
end
theorem snd41:∀ n,(∀ (x0:List TyB0) (x1:Int) ds us,R41 n x0 x1 ds us→∀ K q,AtV Tryz.prog 41 (PostR kds41 oks41 ds us [0] q K) 49 K q [0] [.code b41] (entE 0 0 sig41 (x0,x1,())) (entL sig41 (x0,x1,())))∧(∀ (v5:Int) (x1:Int) (x0:List TyB0) ds us,R41_2 n v5 x1 x0 ds us→∀ K q,AtV Tryz.prog 41 (PostR kds41 oks41 ds us [0] q K) 49 K q [0] (cutAt b41 2) (E41_2 v5 x1 x0) (L41_2 v5 x1 x0)):=by
 intro n
 induction n with
 | zero=>exact ⟨fun _ _ _ _ h=>by simp only [R41] at h,fun _ _ _ _ _ h=>by simp only [R41_2] at h⟩
 | succ n ih =>
 obtain ⟨ih,ih2⟩:=ih
 refine ⟨?_,?_⟩
 ·intro x0 x1 ds us h K q
  rw [R41] at h
  exact AtV.go tabOk ext41Ok mixed false [] [] [0,1,5] [0] [] trivial (ih2 _ _ _ _ _ h K q) (by kernel_rfl)
 ·intro v5 x1 x0 ds us h K q
  rw [R41_2] at h
  by_cases b0:(decide (v5<(↑(List.length x0):Int)))=true
  ·rw [if_pos b0] at h
   obtain ⟨s0,s1,h⟩:=h
   obtain ⟨s2,h⟩:=h
   obtain ⟨s3,s4,h⟩:=h
   obtain ⟨s5,h⟩:=h
   obtain ⟨s6,s7,h⟩:=h
   obtain ⟨s8,h⟩:=h
   obtain ⟨s9,s10,h⟩:=h
   obtain ⟨s11,h⟩:=h
   obtain ⟨s12,s13,h⟩:=h
   obtain ⟨s14,h⟩:=h
   obtain ⟨s15,h⟩:=h
   exact AtV.go tabOk ext41Ok mixed false [] [] [0,1,5] [0] [true] (a1 b0 (a1 trivial (a1 s0 (a1 s1 (a1 s2 (a1 s3 (a1 s4 (a1 s5 (a1 s6 (a1 s7 (a1 s8 (a1 s9 (a1 s10 (a1 s11 (a1 s12 (a1 s13 (a1 s14 (a1 s15 trivial)))))))))))))))))) (ih2 _ _ _ _ _ h K q) (by kernel_rfl)
  ·rw [if_neg b0] at h
   replace b0:=Bool.eq_false_iff.2 b0
   obtain ⟨h,h'⟩:=h;subst h;subst h'
   exact AtV.ret Tryz.func41 tabOk ext41Ok mixed false [] tys41 [false] (a1 b0 trivial) (by kernel_rfl)
def M41 (x1:Int) (n:Nat):List TyB0:=(List.range n).map fun (j:Nat)=>(g44_0 (x1+5*(j:Int)),(x1+5*(j:Int)+1),(x1+5*(j:Int)+1+1),(x1+5*(j:Int)+1+1+1),(x1+5*(j:Int)+1+1+1+1),())
theorem M41_len (x1:Int) (n:Nat):(M41 x1 n).length=n:=by simp [M41]
theorem M41_succ (x1:Int) (n:Nat):M41 x1 (n+1)=M41 x1 n++[(g44_0 (x1+5*(n:Int)),(x1+5*(n:Int)+1),(x1+5*(n:Int)+1+1),(x1+5*(n:Int)+1+1+1),(x1+5*(n:Int)+1+1+1+1),())]:=by
 simp [M41,List.range_succ]
theorem run41 (x0:List TyB0) (x1:Int) (hm:x0.length≤maxLen) (h0:0≤x1) (h1:x1+5*x0.length≤9223372036854775807):∀ (k i:Nat),i+k=x0.length →
  R41_2 (k+1) (i:Int) (x1+5*(i:Int)) (M41 x1 i++x0.drop i) [⟨.int .i64,x1+5*(x0.length:Int)⟩] [some ⟨(.cons .str (.cons (.int .i64) (.cons (.int .i64) (.cons (.int .i64) (.cons (.int .i64) .unit))))),M41 x1 x0.length⟩]:=by
 intro k
 induction k with
 | zero =>
  intro i hi
  have hl:(M41 x1 i++x0.drop i).length=x0.length:=by simp [M41_len];omega
  rw [R41_2,if_neg (by rw [hl];simp;omega),drop_end x0 i (by omega),List.append_nil]
  have:i=x0.length:=by omega
  subst this
  exact ⟨rfl,rfl⟩
 | succ k ih =>
  intro i hi
  have hl:(M41 x1 i++x0.drop i).length=x0.length:=by simp [M41_len];omega
  have hA:=M41_len x1 i
  rw [R41_2,if_pos (by rw [hl];simp;omega)]
  rw [drop_get x0 i (ByteArray.empty,(0:Int),(0:Int),(0:Int),(0:Int),()) (by omega)] at hl ⊢
  simp only [Int.toNat_natCast,q41_0,q41_1,q41_2,q41_3,set_mid _ _ _ _ i hA,get_mid _ _ _ _ i hA]
  have hl':∀ y:TyB0,((M41 x1 i++y :: x0.drop (i+1)).length:Int)=x0.length:=fun y=>by rw [← hl];simp
  simp only [hl']
  refine ⟨by omega,by omega,by rw [i64_iff];omega,by omega,by omega,by rw [i64_iff];omega,by omega,by omega,by rw [i64_iff];omega,by omega,by omega,by rw [i64_iff];omega,by omega,by omega,by rw [i64_iff];omega,inR_up hm (by omega),?_⟩
  have hx:x1+5*(i:Int)+1+1+1+1+1=x1+5*((i+1:Nat):Int):=by omega
  have:=ih (i+1) (by omega)
  rw [M41_succ,List.append_assoc] at this
  rw [hx]
  simpa using this
def P41 (x0:List TyB0) (x1:Int):Prop:=0≤x1∧x1+5*x0.length≤9223372036854775807
def g41_0 (x0:List TyB0) (x1:Int):Int:=x1+5*(x0.length:Int)
def u41_0 (x0:List TyB0) (x1:Int):List TyB0:=M41 x1 x0.length
theorem top41 (x0:List TyB0) (x1:Int) (hm:x0.length≤maxLen) (h:P41 x0 x1):R41 (x0.length+1+1) x0 x1 [⟨.int .i64,g41_0 x0 x1⟩] [some ⟨(.cons .str (.cons (.int .i64) (.cons (.int .i64) (.cons (.int .i64) (.cons (.int .i64) .unit))))),u41_0 x0 x1⟩]:=by
 rw [R41]
 have:=run41 x0 x1 hm h.1 h.2 x0.length 0 (by omega)
 simpa [M41,g41_0,u41_0] using this
def S41:Am.Spec:={ sig:=sig41,pre:=fun ⟨x0,x1,_⟩=>P41 x0 x1,upd:=fun ⟨x0,x1,_⟩=>[some ⟨(.cons .str (.cons (.int .i64) (.cons (.int .i64) (.cons (.int .i64) (.cons (.int .i64) .unit))))),u41_0 x0 x1⟩],res:=fun ⟨x0,x1,_⟩=>[⟨.int .i64,g41_0 x0 x1⟩] }
theorem con41:Contract Tryz.prog 41 S41:=contract_of Tryz.func41 hb41 (Nat.le_of_ble_eq_true (by kernel_rfl)) (fun ⟨x0,x1,_⟩ h hwf K q =>
 (snd41 _).1 x0 x1 _ _ (top41 x0 x1 hwf.1.1 h) K q)
end
noncomputable section
def ext42:Ext:=[]
theorem ext42Ok:ExtOk Tryz.prog ext42:=trivial
noncomputable def b42:Code:=bodyOf Tryz.f42
theorem hb42:Tryz.f42.body=some b42:=by kernel_rfl
def sig42:List AT:=[AT.own YA9,AT.v (Ty.int .i64)]
def tys42:List Ty:=[Ty.int .i64]
def kds42:List RK:=[]
def oks42:List AT:=owns sig42
def E42_2 (v5:Int) (x1:Int) (x0:List TyB4):Env:=[(0,PV.a (Atom.osl 0 Option.none)),(1,PV.a (Atom.val (Value.int .i64 x1))),(5,PV.a (Atom.val (Value.int .i64 v5)))]
def L42_2 (v5:Int) (x1:Int) (x0:List TyB4):Heap:=[Option.some (Arr.mk YA9 x0 false Option.none Option.none)]
mutual
def R42:Nat→List TyB4→Int→List Dyn→List (Option Lst)→Prop
 | 0,_,_,_,_=>False
 | n+1,x0,x1,ds,us=>(R42_2 n (0) (x1) (x0) ds us)
def R42_2:Nat→Int→Int→List TyB4→List Dyn→List (Option Lst)→Prop
 | 0,_,_,_,_,_=>False
 | n+1,v5,x1,x0,ds,us=>(if (decide (v5<(↑(List.length x0):Int)))=true then ((0≤v5)∧(v5<(↑(List.length x0):Int))∧((InR .i64 (x1+1))∧((0≤v5)∧(v5<(↑(List.length (List.set x0 (Int.toNat v5) (x1,(List.getD x0 (Int.toNat v5) (0,0,())).2))):Int))∧((InR .i64 (x1+1+1))∧((InR .i64 (v5+1))∧(R42_2 n (v5+1) (x1+1+1) (List.set (List.set x0 (Int.toNat v5) (x1,(List.getD x0 (Int.toNat v5) (0,0,())).2)) (Int.toNat v5) ((List.getD (List.set x0 (Int.toNat v5) (x1,(List.getD x0 (Int.toNat v5) (0,0,())).2)) (Int.toNat v5) (0,0,())).1,x1+1,(List.getD (List.set x0 (Int.toNat v5) (x1,(List.getD x0 (Int.toNat v5) (0,0,())).2)) (Int.toNat v5) (0,0,())).2.2)) ds us)))))) else (ds=[Dyn.mk (Ty.int .i64) x1]∧us=[Option.some (Lst.mk YA9 x0)]))
end
theorem snd42:∀ n,(∀ (x0:List TyB4) (x1:Int) ds us,R42 n x0 x1 ds us→∀ K q,AtV Tryz.prog 42 (PostR kds42 oks42 ds us [0] q K) 27 K q [0] [.code b42] (entE 0 0 sig42 (x0,x1,())) (entL sig42 (x0,x1,())))∧(∀ (v5:Int) (x1:Int) (x0:List TyB4) ds us,R42_2 n v5 x1 x0 ds us→∀ K q,AtV Tryz.prog 42 (PostR kds42 oks42 ds us [0] q K) 27 K q [0] (cutAt b42 2) (E42_2 v5 x1 x0) (L42_2 v5 x1 x0)):=by
 intro n
 induction n with
 | zero=>exact ⟨fun _ _ _ _ h=>by simp only [R42] at h,fun _ _ _ _ _ h=>by simp only [R42_2] at h⟩
 | succ n ih =>
 obtain ⟨ih,ih2⟩:=ih
 refine ⟨?_,?_⟩
 ·intro x0 x1 ds us h K q
  rw [R42] at h
  exact AtV.go tabOk ext42Ok mixed false [] [] [0,1,5] [0] [] trivial (ih2 _ _ _ _ _ h K q) (by kernel_rfl)
 ·intro v5 x1 x0 ds us h K q
  rw [R42_2] at h
  by_cases b0:(decide (v5<(↑(List.length x0):Int)))=true
  ·rw [if_pos b0] at h
   obtain ⟨s0,s1,h⟩:=h
   obtain ⟨s2,h⟩:=h
   obtain ⟨s3,s4,h⟩:=h
   obtain ⟨s5,h⟩:=h
   obtain ⟨s6,h⟩:=h
   exact AtV.go tabOk ext42Ok mixed false [] [] [0,1,5] [0] [true] (a1 b0 (a1 s0 (a1 s1 (a1 s2 (a1 s3 (a1 s4 (a1 s5 (a1 s6 trivial)))))))) (ih2 _ _ _ _ _ h K q) (by kernel_rfl)
  ·rw [if_neg b0] at h
   replace b0:=Bool.eq_false_iff.2 b0
   obtain ⟨h,h'⟩:=h;subst h;subst h'
   exact AtV.ret Tryz.func42 tabOk ext42Ok mixed false [] tys42 [false] (a1 b0 trivial) (by kernel_rfl)
def M42 (x1:Int) (n:Nat):List TyB4:=(List.range n).map fun (j:Nat)=>((x1+2*(j:Int)),(x1+2*(j:Int)+1),())
theorem M42_len (x1:Int) (n:Nat):(M42 x1 n).length=n:=by simp [M42]
theorem M42_succ (x1:Int) (n:Nat):M42 x1 (n+1)=M42 x1 n++[((x1+2*(n:Int)),(x1+2*(n:Int)+1),())]:=by
 simp [M42,List.range_succ]
theorem run42 (x0:List TyB4) (x1:Int) (hm:x0.length≤maxLen) (h0:0≤x1) (h1:x1+2*x0.length≤9223372036854775807):∀ (k i:Nat),i+k=x0.length →
  R42_2 (k+1) (i:Int) (x1+2*(i:Int)) (M42 x1 i++x0.drop i) [⟨.int .i64,x1+2*(x0.length:Int)⟩] [some ⟨(.cons (.int .i64) (.cons (.int .i64) .unit)),M42 x1 x0.length⟩]:=by
 intro k
 induction k with
 | zero =>
  intro i hi
  have hl:(M42 x1 i++x0.drop i).length=x0.length:=by simp [M42_len];omega
  rw [R42_2,if_neg (by rw [hl];simp;omega),drop_end x0 i (by omega),List.append_nil]
  have:i=x0.length:=by omega
  subst this
  exact ⟨rfl,rfl⟩
 | succ k ih =>
  intro i hi
  have hl:(M42 x1 i++x0.drop i).length=x0.length:=by simp [M42_len];omega
  have hA:=M42_len x1 i
  rw [R42_2,if_pos (by rw [hl];simp;omega)]
  rw [drop_get x0 i ((0:Int),(0:Int),()) (by omega)] at hl ⊢
  simp only [Int.toNat_natCast,set_mid _ _ _ _ i hA,get_mid _ _ _ _ i hA]
  have hl':∀ y:TyB4,((M42 x1 i++y :: x0.drop (i+1)).length:Int)=x0.length:=fun y=>by rw [← hl];simp
  simp only [hl']
  refine ⟨by omega,by omega,by rw [i64_iff];omega,by omega,by omega,by rw [i64_iff];omega,inR_up hm (by omega),?_⟩
  have hx:x1+2*(i:Int)+1+1=x1+2*((i+1:Nat):Int):=by omega
  have:=ih (i+1) (by omega)
  rw [M42_succ,List.append_assoc] at this
  rw [hx]
  simpa using this
def P42 (x0:List TyB4) (x1:Int):Prop:=0≤x1∧x1+2*x0.length≤9223372036854775807
def g42_0 (x0:List TyB4) (x1:Int):Int:=x1+2*(x0.length:Int)
def u42_0 (x0:List TyB4) (x1:Int):List TyB4:=M42 x1 x0.length
theorem top42 (x0:List TyB4) (x1:Int) (hm:x0.length≤maxLen) (h:P42 x0 x1):R42 (x0.length+1+1) x0 x1 [⟨.int .i64,g42_0 x0 x1⟩] [some ⟨(.cons (.int .i64) (.cons (.int .i64) .unit)),u42_0 x0 x1⟩]:=by
 rw [R42]
 have:=run42 x0 x1 hm h.1 h.2 x0.length 0 (by omega)
 simpa [M42,g42_0,u42_0] using this
def S42:Am.Spec:={ sig:=sig42,pre:=fun ⟨x0,x1,_⟩=>P42 x0 x1,upd:=fun ⟨x0,x1,_⟩=>[some ⟨(.cons (.int .i64) (.cons (.int .i64) .unit)),u42_0 x0 x1⟩],res:=fun ⟨x0,x1,_⟩=>[⟨.int .i64,g42_0 x0 x1⟩] }
theorem con42:Contract Tryz.prog 42 S42:=contract_of Tryz.func42 hb42 (Nat.le_of_ble_eq_true (by kernel_rfl)) (fun ⟨x0,x1,_⟩ h hwf K q =>
 (snd42 _).1 x0 x1 _ _ (top42 x0 x1 hwf.1.1 h) K q)
end
noncomputable section
def ext43:Ext:=[(44,S44)]
theorem ext43Ok:ExtOk Tryz.prog ext43:=⟨⟨ca44,con44⟩,trivial⟩
noncomputable def b43:Code:=bodyOf Tryz.f43
theorem hb43:Tryz.f43.body=some b43:=by kernel_rfl
def sig43:List AT:=[AT.own YA6,AT.v (Ty.int .i64)]
def tys43:List Ty:=[Ty.int .i64]
def kds43:List RK:=[]
def oks43:List AT:=owns sig43
def E43_2 (v5:Int) (x1:Int) (x0:List TyB2):Env:=[(0,PV.a (Atom.osl 0 Option.none)),(1,PV.a (Atom.val (Value.int .i64 x1))),(5,PV.a (Atom.val (Value.int .i64 v5)))]
def L43_2 (v5:Int) (x1:Int) (x0:List TyB2):Heap:=[Option.some (Arr.mk YA6 x0 false Option.none Option.none)]
@[reducible] def q43_0 (v5:Int) (x1:Int) (x0:List TyB2):=List.set x0 (Int.toNat v5) (x1,(List.getD x0 (Int.toNat v5) (0,0,ByteArray.empty,0,())).2)
@[reducible] def q43_1 (v5:Int) (x1:Int) (x0:List TyB2):=List.set (q43_0 v5 x1 x0) (Int.toNat v5) ((List.getD (q43_0 v5 x1 x0) (Int.toNat v5) (0,0,ByteArray.empty,0,())).1,x1+1,(List.getD (q43_0 v5 x1 x0) (Int.toNat v5) (0,0,ByteArray.empty,0,())).2.2)
@[reducible] def q43_2 (v5:Int) (x1:Int) (x0:List TyB2):=List.set (q43_1 v5 x1 x0) (Int.toNat v5) ((List.getD (q43_1 v5 x1 x0) (Int.toNat v5) (0,0,ByteArray.empty,0,())).1,(List.getD (q43_1 v5 x1 x0) (Int.toNat v5) (0,0,ByteArray.empty,0,())).2.1,g44_0 (x1+1+1),(List.getD (q43_1 v5 x1 x0) (Int.toNat v5) (0,0,ByteArray.empty,0,())).2.2.2)
mutual
def R43:Nat→List TyB2→Int→List Dyn→List (Option Lst)→Prop
 | 0,_,_,_,_=>False
 | n+1,x0,x1,ds,us=>(R43_2 n (0) (x1) (x0) ds us)
def R43_2:Nat→Int→Int→List TyB2→List Dyn→List (Option Lst)→Prop
 | 0,_,_,_,_,_=>False
 | n+1,v5,x1,x0,ds,us=>(if (decide (v5<(↑(List.length x0):Int)))=true then ((0≤v5)∧(v5<(↑(List.length x0):Int))∧((InR .i64 (x1+1))∧((0≤v5)∧(v5<(↑(List.length (q43_0 v5 x1 x0)):Int))∧((InR .i64 (x1+1+1))∧((0≤v5)∧(v5<(↑(List.length (q43_1 v5 x1 x0)):Int))∧((InR .i64 (x1+1+1+1))∧((0≤v5)∧(v5<(↑(List.length (q43_2 v5 x1 x0)):Int))∧((InR .i64 (x1+1+1+1+1))∧((InR .i64 (v5+1))∧(R43_2 n (v5+1) (x1+1+1+1+1) (List.set (q43_2 v5 x1 x0) (Int.toNat v5) ((List.getD (q43_2 v5 x1 x0) (Int.toNat v5) (0,0,ByteArray.empty,0,())).1,(List.getD (q43_2 v5 x1 x0) (Int.toNat v5) (0,0,ByteArray.empty,0,())).2.1,(List.getD (q43_2 v5 x1 x0) (Int.toNat v5) (0,0,ByteArray.empty,0,())).2.2.1,x1+1+1+1,(List.getD (q43_2 v5 x1 x0) (Int.toNat v5) (0,0,ByteArray.empty,0,())).2.2.2.2)) ds us)))))))))) else (ds=[Dyn.mk (Ty.int .i64) x1]∧us=[Option.some (Lst.mk YA6 x0)]))
end
theorem snd43:∀ n,(∀ (x0:List TyB2) (x1:Int) ds us,R43 n x0 x1 ds us→∀ K q,AtV Tryz.prog 43 (PostR kds43 oks43 ds us [0] q K) 42 K q [0] [.code b43] (entE 0 0 sig43 (x0,x1,())) (entL sig43 (x0,x1,())))∧(∀ (v5:Int) (x1:Int) (x0:List TyB2) ds us,R43_2 n v5 x1 x0 ds us→∀ K q,AtV Tryz.prog 43 (PostR kds43 oks43 ds us [0] q K) 42 K q [0] (cutAt b43 2) (E43_2 v5 x1 x0) (L43_2 v5 x1 x0)):=by
 intro n
 induction n with
 | zero=>exact ⟨fun _ _ _ _ h=>by simp only [R43] at h,fun _ _ _ _ _ h=>by simp only [R43_2] at h⟩
 | succ n ih =>
 obtain ⟨ih,ih2⟩:=ih
 refine ⟨?_,?_⟩
 ·intro x0 x1 ds us h K q
  rw [R43] at h
  exact AtV.go tabOk ext43Ok mixed false [] [] [0,1,5] [0] [] trivial (ih2 _ _ _ _ _ h K q) (by kernel_rfl)
 ·intro v5 x1 x0 ds us h K q
  rw [R43_2] at h
  by_cases b0:(decide (v5<(↑(List.length x0):Int)))=true
  ·rw [if_pos b0] at h
   obtain ⟨s0,s1,h⟩:=h
   obtain ⟨s2,h⟩:=h
   obtain ⟨s3,s4,h⟩:=h
   obtain ⟨s5,h⟩:=h
   obtain ⟨s6,s7,h⟩:=h
   obtain ⟨s8,h⟩:=h
   obtain ⟨s9,s10,h⟩:=h
   obtain ⟨s11,h⟩:=h
   obtain ⟨s12,h⟩:=h
   exact AtV.go tabOk ext43Ok mixed false [] [] [0,1,5] [0] [true] (a1 b0 (a1 s0 (a1 s1 (a1 s2 (a1 s3 (a1 s4 (a1 s5 (a1 trivial (a1 s6 (a1 s7 (a1 s8 (a1 s9 (a1 s10 (a1 s11 (a1 s12 trivial))))))))))))))) (ih2 _ _ _ _ _ h K q) (by kernel_rfl)
  ·rw [if_neg b0] at h
   replace b0:=Bool.eq_false_iff.2 b0
   obtain ⟨h,h'⟩:=h;subst h;subst h'
   exact AtV.ret Tryz.func43 tabOk ext43Ok mixed false [] tys43 [false] (a1 b0 trivial) (by kernel_rfl)
def M43 (x1:Int) (n:Nat):List TyB2:=(List.range n).map fun (j:Nat)=>((x1+4*(j:Int)),(x1+4*(j:Int)+1),g44_0 (x1+4*(j:Int)+1+1),(x1+4*(j:Int)+1+1+1),())
theorem M43_len (x1:Int) (n:Nat):(M43 x1 n).length=n:=by simp [M43]
theorem M43_succ (x1:Int) (n:Nat):M43 x1 (n+1)=M43 x1 n++[((x1+4*(n:Int)),(x1+4*(n:Int)+1),g44_0 (x1+4*(n:Int)+1+1),(x1+4*(n:Int)+1+1+1),())]:=by
 simp [M43,List.range_succ]
theorem run43 (x0:List TyB2) (x1:Int) (hm:x0.length≤maxLen) (h0:0≤x1) (h1:x1+4*x0.length≤9223372036854775807):∀ (k i:Nat),i+k=x0.length →
  R43_2 (k+1) (i:Int) (x1+4*(i:Int)) (M43 x1 i++x0.drop i) [⟨.int .i64,x1+4*(x0.length:Int)⟩] [some ⟨(.cons (.int .i64) (.cons (.int .i64) (.cons .str (.cons (.int .i64) .unit)))),M43 x1 x0.length⟩]:=by
 intro k
 induction k with
 | zero =>
  intro i hi
  have hl:(M43 x1 i++x0.drop i).length=x0.length:=by simp [M43_len];omega
  rw [R43_2,if_neg (by rw [hl];simp;omega),drop_end x0 i (by omega),List.append_nil]
  have:i=x0.length:=by omega
  subst this
  exact ⟨rfl,rfl⟩
 | succ k ih =>
  intro i hi
  have hl:(M43 x1 i++x0.drop i).length=x0.length:=by simp [M43_len];omega
  have hA:=M43_len x1 i
  rw [R43_2,if_pos (by rw [hl];simp;omega)]
  rw [drop_get x0 i ((0:Int),(0:Int),ByteArray.empty,(0:Int),()) (by omega)] at hl ⊢
  simp only [Int.toNat_natCast,q43_0,q43_1,q43_2,set_mid _ _ _ _ i hA,get_mid _ _ _ _ i hA]
  have hl':∀ y:TyB2,((M43 x1 i++y :: x0.drop (i+1)).length:Int)=x0.length:=fun y=>by rw [← hl];simp
  simp only [hl']
  refine ⟨by omega,by omega,by rw [i64_iff];omega,by omega,by omega,by rw [i64_iff];omega,by omega,by omega,by rw [i64_iff];omega,by omega,by omega,by rw [i64_iff];omega,inR_up hm (by omega),?_⟩
  have hx:x1+4*(i:Int)+1+1+1+1=x1+4*((i+1:Nat):Int):=by omega
  have:=ih (i+1) (by omega)
  rw [M43_succ,List.append_assoc] at this
  rw [hx]
  simpa using this
def P43 (x0:List TyB2) (x1:Int):Prop:=0≤x1∧x1+4*x0.length≤9223372036854775807
def g43_0 (x0:List TyB2) (x1:Int):Int:=x1+4*(x0.length:Int)
def u43_0 (x0:List TyB2) (x1:Int):List TyB2:=M43 x1 x0.length
theorem top43 (x0:List TyB2) (x1:Int) (hm:x0.length≤maxLen) (h:P43 x0 x1):R43 (x0.length+1+1) x0 x1 [⟨.int .i64,g43_0 x0 x1⟩] [some ⟨(.cons (.int .i64) (.cons (.int .i64) (.cons .str (.cons (.int .i64) .unit)))),u43_0 x0 x1⟩]:=by
 rw [R43]
 have:=run43 x0 x1 hm h.1 h.2 x0.length 0 (by omega)
 simpa [M43,g43_0,u43_0] using this
def S43:Am.Spec:={ sig:=sig43,pre:=fun ⟨x0,x1,_⟩=>P43 x0 x1,upd:=fun ⟨x0,x1,_⟩=>[some ⟨(.cons (.int .i64) (.cons (.int .i64) (.cons .str (.cons (.int .i64) .unit)))),u43_0 x0 x1⟩],res:=fun ⟨x0,x1,_⟩=>[⟨.int .i64,g43_0 x0 x1⟩] }
theorem con43:Contract Tryz.prog 43 S43:=contract_of Tryz.func43 hb43 (Nat.le_of_ble_eq_true (by kernel_rfl)) (fun ⟨x0,x1,_⟩ h hwf K q =>
 (snd43 _).1 x0 x1 _ _ (top43 x0 x1 hwf.1.1 h) K q)
end
noncomputable section
def ext10:Ext:=[(39,S39),(40,S40),(41,S41),(42,S42),(43,S43)]
theorem ext10Ok:ExtOk Tryz.prog ext10:=⟨⟨ca39,con39⟩,⟨ca40,con40⟩,⟨ca41,con41⟩,⟨ca42,con42⟩,⟨ca43,con43⟩,trivial⟩
noncomputable def b10:Code:=bodyOf Tryz.f10
theorem hb10:Tryz.f10.body=some b10:=by kernel_rfl
def sig10:List AT:=[AT.sv YA0,AT.v (Ty.int .i64)]
def tys10:List Ty:=[Ty.int .i64]
def kds10:List RK:=[]
def oks10:List AT:=owns sig10
def P10 (x0:TyA0) (x1:Int):Prop:=((P39 (x0.1.1,x0.1.2.1,x0.1.2.2.1,()) x1)∧(List.length (u39_0 (x0.1.1,x0.1.2.1,x0.1.2.2.1,()) x1).1=List.length x0.1.1)∧((P40 x0.2.2.2.2.1 (g39_0 (x0.1.1,x0.1.2.1,x0.1.2.2.1,()) x1))∧(List.length (u40_0 x0.2.2.2.2.1 (g39_0 (x0.1.1,x0.1.2.1,x0.1.2.2.1,()) x1))=List.length x0.2.2.2.2.1)∧((P41 x0.2.2.2.2.2.2.1 (g40_0 x0.2.2.2.2.1 (g39_0 (x0.1.1,x0.1.2.1,x0.1.2.2.1,()) x1)))∧(List.length (u41_0 x0.2.2.2.2.2.2.1 (g40_0 x0.2.2.2.2.1 (g39_0 (x0.1.1,x0.1.2.1,x0.1.2.2.1,()) x1)))=List.length x0.2.2.2.2.2.2.1)∧((P42 x0.2.2.2.2.2.2.2.2.2.1 (g41_0 x0.2.2.2.2.2.2.1 (g40_0 x0.2.2.2.2.1 (g39_0 (x0.1.1,x0.1.2.1,x0.1.2.2.1,()) x1))))∧(List.length (u42_0 x0.2.2.2.2.2.2.2.2.2.1 (g41_0 x0.2.2.2.2.2.2.1 (g40_0 x0.2.2.2.2.1 (g39_0 (x0.1.1,x0.1.2.1,x0.1.2.2.1,()) x1))))=List.length x0.2.2.2.2.2.2.2.2.2.1)∧((P43 x0.2.2.2.2.2.2.2.2.2.2.2.1 (g42_0 x0.2.2.2.2.2.2.2.2.2.1 (g41_0 x0.2.2.2.2.2.2.1 (g40_0 x0.2.2.2.2.1 (g39_0 (x0.1.1,x0.1.2.1,x0.1.2.2.1,()) x1)))))∧(List.length (u43_0 x0.2.2.2.2.2.2.2.2.2.2.2.1 (g42_0 x0.2.2.2.2.2.2.2.2.2.1 (g41_0 x0.2.2.2.2.2.2.1 (g40_0 x0.2.2.2.2.1 (g39_0 (x0.1.1,x0.1.2.1,x0.1.2.2.1,()) x1)))))=List.length x0.2.2.2.2.2.2.2.2.2.2.2.1)∧True)))))
def g10_0 (x0:TyA0) (x1:Int):Int:=g43_0 x0.2.2.2.2.2.2.2.2.2.2.2.1 (g42_0 x0.2.2.2.2.2.2.2.2.2.1 (g41_0 x0.2.2.2.2.2.2.1 (g40_0 x0.2.2.2.2.1 (g39_0 (x0.1.1,x0.1.2.1,x0.1.2.2.1,()) x1))))
def u10_0 (x0:TyA0) (x1:Int):TyA0:=(((u39_0 (x0.1.1,x0.1.2.1,x0.1.2.2.1,()) x1).1,x0.1.2.1,x0.1.2.2.1,()),x0.2.1,(x0.2.2.1.1,x0.2.2.1.2.1,()),(x0.2.2.2.1.1,x0.2.2.2.1.2.1,x0.2.2.2.1.2.2.1,x0.2.2.2.1.2.2.2.1,()),u40_0 x0.2.2.2.2.1 (g39_0 (x0.1.1,x0.1.2.1,x0.1.2.2.1,()) x1),(x0.2.2.2.2.2.1.1,x0.2.2.2.2.2.1.2.1,x0.2.2.2.2.2.1.2.2.1,()),u41_0 x0.2.2.2.2.2.2.1 (g40_0 x0.2.2.2.2.1 (g39_0 (x0.1.1,x0.1.2.1,x0.1.2.2.1,()) x1)),x0.2.2.2.2.2.2.2.1,x0.2.2.2.2.2.2.2.2.1,u42_0 x0.2.2.2.2.2.2.2.2.2.1 (g41_0 x0.2.2.2.2.2.2.1 (g40_0 x0.2.2.2.2.1 (g39_0 (x0.1.1,x0.1.2.1,x0.1.2.2.1,()) x1))),x0.2.2.2.2.2.2.2.2.2.2.1,u43_0 x0.2.2.2.2.2.2.2.2.2.2.2.1 (g42_0 x0.2.2.2.2.2.2.2.2.2.1 (g41_0 x0.2.2.2.2.2.2.1 (g40_0 x0.2.2.2.2.1 (g39_0 (x0.1.1,x0.1.2.1,x0.1.2.2.1,()) x1)))),())
theorem at10 (x0:TyA0) (x1:Int) (h:P10 x0 x1) (K:Ctx) (q:Nat→Value):AtV Tryz.prog 10 (PostR kds10 oks10 [⟨Ty.int .i64,g10_0 x0 x1⟩] [some ⟨Ty.cons YA2 YA1,[u10_0 x0 x1]⟩] [0] q K) 26 K q [0] [.code b10] (entE 0 0 sig10 (x0,x1,())) (entL sig10 (x0,x1,())):=by
 unfold P10 at h
 unfold g10_0 u10_0
 obtain ⟨s0,s1,h⟩:=h
 obtain ⟨s2,s3,h⟩:=h
 obtain ⟨s4,s5,h⟩:=h
 obtain ⟨s6,s7,h⟩:=h
 obtain ⟨s8,s9,h⟩:=h
 exact AtV.weak (AtV.ret (us:=[Option.some (Lst.mk YA0 [(((u39_0 (x0.1.1,x0.1.2.1,x0.1.2.2.1,()) x1).1,x0.1.2.1,x0.1.2.2.1,()),x0.2.1,(x0.2.2.1.1,x0.2.2.1.2.1,()),(x0.2.2.2.1.1,x0.2.2.2.1.2.1,x0.2.2.2.1.2.2.1,x0.2.2.2.1.2.2.2.1,()),u40_0 x0.2.2.2.2.1 (g39_0 (x0.1.1,x0.1.2.1,x0.1.2.2.1,()) x1),(x0.2.2.2.2.2.1.1,x0.2.2.2.2.2.1.2.1,x0.2.2.2.2.2.1.2.2.1,()),u41_0 x0.2.2.2.2.2.2.1 (g40_0 x0.2.2.2.2.1 (g39_0 (x0.1.1,x0.1.2.1,x0.1.2.2.1,()) x1)),x0.2.2.2.2.2.2.2.1,x0.2.2.2.2.2.2.2.2.1,u42_0 x0.2.2.2.2.2.2.2.2.2.1 (g41_0 x0.2.2.2.2.2.2.1 (g40_0 x0.2.2.2.2.1 (g39_0 (x0.1.1,x0.1.2.1,x0.1.2.2.1,()) x1))),x0.2.2.2.2.2.2.2.2.2.2.1,u43_0 x0.2.2.2.2.2.2.2.2.2.2.2.1 (g42_0 x0.2.2.2.2.2.2.2.2.2.1 (g41_0 x0.2.2.2.2.2.2.1 (g40_0 x0.2.2.2.2.1 (g39_0 (x0.1.1,x0.1.2.1,x0.1.2.2.1,()) x1)))),())])]) Tryz.func10 tabOk ext10Ok mixed false [] tys10 [] (a1 s0 (a1 s1 (a1 s2 (a1 s3 (a1 s4 (a1 s5 (a1 s6 (a1 s7 (a1 s8 (a1 s9 trivial)))))))))) (by kernel_rfl)) ⟨.inl rfl,trivial⟩
def S10:Am.Spec:={ sig:=sig10,pre:=fun ⟨x0,x1,_⟩=>P10 x0 x1,upd:=fun ⟨x0,x1,_⟩=>[some ⟨Ty.cons YA2 YA1,[u10_0 x0 x1]⟩],res:=fun ⟨x0,x1,_⟩=>[⟨Ty.int .i64,g10_0 x0 x1⟩],kds:=kds10 }
theorem con10:Contract Tryz.prog 10 S10:=contract_of Tryz.func10 hb10 (Nat.le_of_ble_eq_true (by kernel_rfl)) (fun ⟨x0,x1,_⟩ h _ K q=>at10 x0 x1 h K q)
end
end Go.Proofs.YthpljjnbniefpaaGreatDoor
