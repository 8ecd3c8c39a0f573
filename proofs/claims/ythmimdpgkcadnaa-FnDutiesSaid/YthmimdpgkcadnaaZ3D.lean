/- Several texts in one: the functions that this law reaches, and their laws. -/
import Derived.Test.YthmimdpgkcadnaaZ3A
import Derived.Test.YthmimdpgkcadnaaZ3B
import Derived.Test.YthmimdpgkcadnaaZ3C
import Derived.Shelf.Small.Bits
import Derived.Shelf.Strconv.Itoa0
import Derived.Shelf.Sort.Plain
import Derived.Shelf.Slices.In.SortNone
import Derived.Ground.SlgfProg
import Derived.Shelf.SlicesE.IndexFunc
import Derived.Lib.SliceRun
import Derived.Laws.AppendOwn
import Derived.WalkKit
import Derived.Deep.LoopGhost
import Derived.Lib.Walk
import Derived.Shelf.RegionOpenPlain
import Derived.Deep.RegionLaw
import Derived.Deep.AppendSrc
import Derived.Lib.JoinLaws
import Derived.Lib.AppendZeros
import Derived.Lib.AppendZerosOnto
import Derived.Lib.Overlaps
import Derived.Laws.Externs
import Derived.Laws.IdiomCopy
set_option linter.unusedVariables false
set_option linter.unusedSimpArgs false
set_option maxRecDepth 100000
namespace Go.Proofs.Ythmimdpgkcadnaa
open Go Go.Am Go.Proofs
noncomputable section
def ext59:Ext:=[(28,S28)]
theorem ext59Ok:ExtOk Try.prog ext59:=⟨⟨ca28,con28⟩,trivial⟩
noncomputable def b59:Code:=bodyOf Try.f59
theorem hb59:Try.f59.body=some b59:=by kernel_rfl
def sig59:List AT:=[AT.v (.sl YA3),AT.v (.int .i64)]
def tys59:List Ty:=[.sl .bool]
def kds59:List RK:=[]
def oks59:List AT:=owns sig59
def E59_3 (v6:Int) (h0:List Bool) (x0:List (ByteArray×List ByteArray×Unit)) (x1:Int):Env:=[(0,.a (.sl YA3 x0)),(1,.a (.val (.int .i64 x1))),(5,.a (.osl 0 Option.none)),(6,.a (.val (.int .i64 v6)))]
def L59_3 (v6:Int) (h0:List Bool) (x0:List (ByteArray×List ByteArray×Unit)) (x1:Int):Heap:=[Option.some (Arr.mk .bool h0 false Option.none Option.none)]
def E59_6 (v7:Int) (h0:List Bool) (x0:List (ByteArray×List ByteArray×Unit)) (x1:Int) (v6:Int):Env:=[(0,.a (.sl YA3 x0)),(1,.a (.val (.int .i64 x1))),(5,.a (.osl 0 Option.none)),(6,.a (.val (.int .i64 v6))),(7,.a (.val (.int .i64 v7)))]
def L59_6 (v7:Int) (h0:List Bool) (x0:List (ByteArray×List ByteArray×Unit)) (x1:Int) (v6:Int):Heap:=[Option.some (Arr.mk .bool h0 false Option.none Option.none)]
def E59_9 (v8:Int) (h0:List Bool) (x0:List (ByteArray×List ByteArray×Unit)) (x1:Int) (v6:Int) (v7:Int):Env:=[(0,.a (.sl YA3 x0)),(1,.a (.val (.int .i64 x1))),(5,.a (.osl 0 Option.none)),(6,.a (.val (.int .i64 v6))),(7,.a (.val (.int .i64 v7))),(8,.a (.val (.int .i64 v8)))]
def L59_9 (v8:Int) (h0:List Bool) (x0:List (ByteArray×List ByteArray×Unit)) (x1:Int) (v6:Int) (v7:Int):Heap:=[Option.some (Arr.mk .bool h0 false Option.none Option.none)]
mutual
def R59:Nat→List (ByteArray×List ByteArray×Unit)→Int→List Dyn→Prop
 | 0,_,_,_=>False
 | n+1,x0,x1,ds=>((0≤(x0.length:Int))∧((x0.length:Int)≤(x0.length:Int))∧(1*(x0.length:Int)≤281474976710656)∧(R59_3 n (0) (List.replicate (Int.toNat (x0.length:Int)) false) (x0) (x1) ds))
def R59_3:Nat→Int→List Bool→List (ByteArray×List ByteArray×Unit)→Int→List Dyn→Prop
 | 0,_,_,_,_,_=>False
 | n+1,v6,h0,x0,x1,ds=>(if (decide (v6<(x0.length:Int)))=true then (R59_6 n (0) (h0) (x0) (x1) (v6) ds) else (ds=[Dyn.mk (.sl .bool) h0]))
def R59_6:Nat→Int→List Bool→List (ByteArray×List ByteArray×Unit)→Int→Int→List Dyn→Prop
 | 0,_,_,_,_,_,_=>False
 | n+1,v7,h0,x0,x1,v6,ds=>(if (decide (v7<(x0.length:Int)))=true then (R59_9 n (0) (h0) (x0) (x1) (v6) (v7) ds) else ((InR .i64 (v6+1))∧(R59_3 n (v6+1) (h0) (x0) (x1) ds)))
def R59_9:Nat→Int→List Bool→List (ByteArray×List ByteArray×Unit)→Int→Int→Int→List Dyn→Prop
 | 0,_,_,_,_,_,_,_=>False
 | n+1,v8,h0,x0,x1,v6,v7,ds=>((0≤v7)∧(v7<(x0.length:Int))∧(if (decide (v8<(↑(List.length (List.getD x0 (Int.toNat v7) (ByteArray.empty,[],())).2.1):Int)))=true then (if (v7==x1)=true then ((0≤v7)∧(v7<(x0.length:Int))∧((0≤v8)∧(v8<(↑(List.length (List.getD x0 (Int.toNat v7) (ByteArray.empty,[],())).2.1):Int))∧((0≤g28_0 x0 (List.getD (List.getD x0 (Int.toNat v7) (ByteArray.empty,[],())).2.1 (Int.toNat v8) ByteArray.empty))∧(g28_0 x0 (List.getD (List.getD x0 (Int.toNat v7) (ByteArray.empty,[],())).2.1 (Int.toNat v8) ByteArray.empty)<(h0.length:Int))∧((InR .i64 (v8+1))∧(R59_9 n (v8+1) (List.set h0 (Int.toNat (g28_0 x0 (List.getD (List.getD x0 (Int.toNat v7) (ByteArray.empty,[],())).2.1 (Int.toNat v8) ByteArray.empty))) true) (x0) (x1) (v6) (v7) ds))))) else ((0≤v7)∧(v7<(h0.length:Int))∧(if (List.getD h0 (Int.toNat v7) false)=true then ((0≤v7)∧(v7<(x0.length:Int))∧((0≤v8)∧(v8<(↑(List.length (List.getD x0 (Int.toNat v7) (ByteArray.empty,[],())).2.1):Int))∧((0≤g28_0 x0 (List.getD (List.getD x0 (Int.toNat v7) (ByteArray.empty,[],())).2.1 (Int.toNat v8) ByteArray.empty))∧(g28_0 x0 (List.getD (List.getD x0 (Int.toNat v7) (ByteArray.empty,[],())).2.1 (Int.toNat v8) ByteArray.empty)<(h0.length:Int))∧((InR .i64 (v8+1))∧(R59_9 n (v8+1) (List.set h0 (Int.toNat (g28_0 x0 (List.getD (List.getD x0 (Int.toNat v7) (ByteArray.empty,[],())).2.1 (Int.toNat v8) ByteArray.empty))) true) (x0) (x1) (v6) (v7) ds))))) else ((InR .i64 (v7+1))∧(R59_6 n (v7+1) (h0) (x0) (x1) (v6) ds))))) else ((InR .i64 (v7+1))∧(R59_6 n (v7+1) (h0) (x0) (x1) (v6) ds))))
end
theorem snd59:∀ n,(∀ (x0:List (ByteArray×List ByteArray×Unit)) (x1:Int) ds,R59 n x0 x1 ds→∀ K q,AtV Try.prog 59 (PostR kds59 oks59 ds [] [] q K) 58 K q [] [.code b59] (entE 0 0 sig59 (x0,x1,())) (entL sig59 (x0,x1,())))∧(∀ (v6:Int) (h0:List Bool) (x0:List (ByteArray×List ByteArray×Unit)) (x1:Int) ds,R59_3 n v6 h0 x0 x1 ds→∀ K q,AtV Try.prog 59 (PostR kds59 oks59 ds [] [] q K) 58 K q [] (cutAt b59 3) (E59_3 v6 h0 x0 x1) (L59_3 v6 h0 x0 x1))∧(∀ (v7:Int) (h0:List Bool) (x0:List (ByteArray×List ByteArray×Unit)) (x1:Int) (v6:Int) ds,R59_6 n v7 h0 x0 x1 v6 ds→∀ K q,AtV Try.prog 59 (PostR kds59 oks59 ds [] [] q K) 58 K q [] (cutAt b59 6) (E59_6 v7 h0 x0 x1 v6) (L59_6 v7 h0 x0 x1 v6))∧(∀ (v8:Int) (h0:List Bool) (x0:List (ByteArray×List ByteArray×Unit)) (x1:Int) (v6:Int) (v7:Int) ds,R59_9 n v8 h0 x0 x1 v6 v7 ds→∀ K q,AtV Try.prog 59 (PostR kds59 oks59 ds [] [] q K) 58 K q [] (cutAt b59 9) (E59_9 v8 h0 x0 x1 v6 v7) (L59_9 v8 h0 x0 x1 v6 v7)):=by
 intro n
 induction n with
 | zero=>exact ⟨fun _ _ _ h=>by simp only [R59] at h,fun _ _ _ _ _ h=>by simp only [R59_3] at h,fun _ _ _ _ _ _ h=>by simp only [R59_6] at h,fun _ _ _ _ _ _ _ h=>by simp only [R59_9] at h⟩
 | succ n ih =>
 obtain ⟨ih,ih3,ih6,ih9⟩:=ih
 refine ⟨?_,?_,?_,?_⟩
 ·intro x0 x1 ds h K q
  rw [R59] at h
  obtain ⟨s0,s1,s2,h⟩:=h
  exact AtV.go tabOk ext59Ok mixed false [] [] [0,1,5,6] [0] [] (a1 s0 (a1 s1 (a1 s2 trivial))) (ih3 _ _ _ _ _ h K q) (by kernel_rfl)
 ·intro v6 h0 x0 x1 ds h K q
  rw [R59_3] at h
  by_cases b0:(decide (v6<(x0.length:Int)))=true
  ·rw [if_pos b0] at h
   exact AtV.go tabOk ext59Ok mixed false [] [] [0,1,5,6,7] [0] [true] (a1 b0 trivial) (ih6 _ _ _ _ _ _ h K q) (by kernel_rfl)
  ·rw [if_neg b0] at h
   replace b0:=bf_ b0
   subst h
   exact AtV.ret Try.func59 tabOk ext59Ok mixed false [] tys59 [false] (a1 b0 trivial) (by kernel_rfl)
 ·intro v7 h0 x0 x1 v6 ds h K q
  rw [R59_6] at h
  by_cases b0:(decide (v7<(x0.length:Int)))=true
  ·rw [if_pos b0] at h
   exact AtV.go tabOk ext59Ok mixed false [] [] [0,1,5,6,7,8] [0] [true] (a1 b0 trivial) (ih9 _ _ _ _ _ _ _ h K q) (by kernel_rfl)
  ·rw [if_neg b0] at h
   replace b0:=bf_ b0
   obtain ⟨s0,h⟩:=h
   exact AtV.go tabOk ext59Ok mixed false [] [] [0,1,5,6] [0] [false] (a1 b0 (a1 s0 trivial)) (ih3 _ _ _ _ _ h K q) (by kernel_rfl)
 ·intro v8 h0 x0 x1 v6 v7 ds h K q
  rw [R59_9] at h
  obtain ⟨s0,s1,h⟩:=h
  by_cases b0:(decide (v8<(↑(List.length (List.getD x0 (Int.toNat v7) (ByteArray.empty,[],())).2.1):Int)))=true
  ·rw [if_pos b0] at h
   by_cases b1:(v7==x1)=true
   ·rw [if_pos b1] at h
    obtain ⟨s2,s3,h⟩:=h
    obtain ⟨s4,s5,h⟩:=h
    obtain ⟨s6,s7,h⟩:=h
    obtain ⟨s8,h⟩:=h
    exact AtV.go tabOk ext59Ok mixed false [] [] [0,1,5,6,7,8] [0] [true,true,true] (a1 s0 (a1 s1 (a1 b0 (a1 b1 (a1 (rfl:true=true) (a1 s2 (a1 s3 (a1 s4 (a1 s5 (a1 trivial (a1 s6 (a1 s7 (a1 s8 trivial))))))))))))) (ih9 _ _ _ _ _ _ _ h K q) (by kernel_rfl)
   ·rw [if_neg b1] at h
    replace b1:=bf_ b1
    obtain ⟨s2,s3,h⟩:=h
    by_cases b2:(List.getD h0 (Int.toNat v7) false)=true
    ·rw [if_pos b2] at h
     obtain ⟨s4,s5,h⟩:=h
     obtain ⟨s6,s7,h⟩:=h
     obtain ⟨s8,s9,h⟩:=h
     obtain ⟨s10,h⟩:=h
     exact AtV.go tabOk ext59Ok mixed false [] [] [0,1,5,6,7,8] [0] [true,false,true] (a1 s0 (a1 s1 (a1 b0 (a1 b1 (a1 s2 (a1 s3 (a1 b2 (a1 s4 (a1 s5 (a1 s6 (a1 s7 (a1 trivial (a1 s8 (a1 s9 (a1 s10 trivial))))))))))))))) (ih9 _ _ _ _ _ _ _ h K q) (by kernel_rfl)
    ·rw [if_neg b2] at h
     replace b2:=bf_ b2
     obtain ⟨s4,h⟩:=h
     exact AtV.go tabOk ext59Ok mixed false [] [] [0,1,5,6,7] [0] [true,false,false] (a1 s0 (a1 s1 (a1 b0 (a1 b1 (a1 s2 (a1 s3 (a1 b2 (a1 s4 trivial)))))))) (ih6 _ _ _ _ _ _ h K q) (by kernel_rfl)
  ·rw [if_neg b0] at h
   replace b0:=bf_ b0
   obtain ⟨s2,h⟩:=h
   exact AtV.go tabOk ext59Ok mixed false [] [] [0,1,5,6,7] [0] [false,false] (a1 s0 (a1 s1 (a1 b0 (a1 (rfl:false=false) (a1 s2 trivial))))) (ih6 _ _ _ _ _ _ h K q) (by kernel_rfl)
abbrev RL59:=ByteArray×List ByteArray×Unit
abbrev und59 (x0:List RL59) (i:Nat):List ByteArray:=(x0.getD i (ByteArray.empty,[],())).2.1
def mark59 (x0:List RL59) (h:List Bool) (n:ByteArray):List Bool:=h.set (g28_0 x0 n).toNat true
def role59 (x0:List RL59) (x1:Int) (h:List Bool) (i:Nat):List Bool:=if (i:Int)=x1∨h.getD i false=true then (und59 x0 i).foldl (mark59 x0) h else h
def turn59 (x0:List RL59) (x1:Int):Nat→Nat→List Bool→List Bool
 | 0,_,h=>h
 | k+1,i,h=>turn59 x0 x1 k (i+1) (role59 x0 x1 h i)
def turns59 (x0:List RL59) (x1:Int):Nat→List Bool→List Bool
 | 0,h=>h
 | k+1,h=>turns59 x0 x1 k (turn59 x0 x1 x0.length 0 h)
def g59_0 (x0:List RL59) (x1:Int):List Bool:=turns59 x0 x1 x0.length (List.replicate x0.length false)
def P59 (x0:List RL59) (x1:Int):Prop:=x0.length≤1000∧∀ r∈x0,∀ n∈r.2.1,0≤g28_0 x0 n∧g28_0 x0 n<(x0.length:Int)
theorem mark_len59 (x0:List RL59) (h:List Bool) (n:ByteArray):(mark59 x0 h n).length=h.length:=List.length_set
theorem marks_len59 (x0:List RL59):∀ (l:List ByteArray) (h:List Bool),(l.foldl (mark59 x0) h).length=h.length
 | [],_=>rfl
 | a :: l,h=>by rw [List.foldl_cons,marks_len59 x0 l,mark_len59]
theorem role_len59 (x0:List RL59) (x1:Int) (h:List Bool) (i:Nat):(role59 x0 x1 h i).length=h.length:=by
 unfold role59
 split
 ·exact marks_len59 x0 _ h
 ·rfl
theorem turn_len59 (x0:List RL59) (x1:Int):∀ (k i:Nat) (h:List Bool),(turn59 x0 x1 k i h).length=h.length
 | 0,_,_=>rfl
 | k+1,i,h=>by rw [turn59,turn_len59 x0 x1 k,role_len59]
theorem turns_len59 (x0:List RL59) (x1:Int):∀ (k:Nat) (h:List Bool),(turns59 x0 x1 k h).length=h.length
 | 0,_=>rfl
 | k+1,h=>by rw [turns59,turns_len59 x0 x1 k,turn_len59]
theorem len59 (x0:List RL59) (x1:Int):(g59_0 x0 x1).length=x0.length:=by
 unfold g59_0
 rw [turns_len59,List.length_replicate]
theorem mark_up59 (x0:List RL59) (h:List Bool) (n:ByteArray) (i:Nat) (hi:h.getD i false=true):(mark59 x0 h n).getD i false=true:=by
 unfold mark59
 rw [List.getD_eq_getElem?_getD,List.getElem?_set]
 split
 ·split
  ·rfl
  ·rename_i h1 h2
   subst h1
   rw [List.getD_eq_getElem?_getD,List.getElem?_eq_none (by omega)] at hi
   cases hi
 ·rw [← List.getD_eq_getElem?_getD];exact hi
theorem names59 (x0:List RL59) (x1:Int) (h:P59 x0 x1) (ds:List Dyn) (v6:Int) (i m:Nat) (hi:i<x0.length) (hul:(x0.getD i (ByteArray.empty,[],())).2.1.length≤maxLen):∀ (k j:Nat) (h0:List Bool),j+k=(x0.getD i (ByteArray.empty,[],())).2.1.length→h0.length=x0.length→((i:Int)=x1∨h0.getD i false=true)→R59_6 m ((i:Int)+1) (((x0.getD i (ByteArray.empty,[],())).2.1.drop j).foldl (mark59 x0) h0) x0 x1 v6 ds→R59_9 (m+k+1) (j:Int) h0 x0 x1 v6 (i:Int) ds:=by
 obtain ⟨p1,p2⟩:=h
 intro k
 induction k with
 | zero =>
  intro j h0 hj hl hc hr
  rw [List.drop_eq_nil_of_le (by omega)] at hr
  show R59_9 (m+0+1) _ _ _ _ _ _ _
  rw [R59_9]
  simp only [Int.toNat_natCast]
  refine ⟨by omega,by omega,?_⟩
  rw [if_neg (by simp only [decide_eq_true_eq];omega)]
  exact ⟨by rw [i64_iff];omega,hr⟩
 | succ k ih =>
  intro j h0 hj hl hc hr
  have hlt:j<(x0.getD i (ByteArray.empty,[],())).2.1.length:=by omega
  obtain ⟨f1,f2⟩:=p2 _ (mem_getD x0 i (ByteArray.empty,[],()) hi) _ (mem_getD _ j ByteArray.empty hlt)
  rw [drop_get _ j ByteArray.empty hlt,List.foldl_cons] at hr
  have e3:(j:Int)+1=((j+1:Nat):Int):=by omega
  have ih:=ih (j+1) (mark59 x0 h0 ((x0.getD i (ByteArray.empty,[],())).2.1.getD j ByteArray.empty)) (by omega) (by rw [mark_len59];exact hl) (hc.imp id (mark_up59 x0 h0 _ i)) hr
  show R59_9 (m+k+1+1) _ _ _ _ _ _ _
  rw [R59_9]
  simp only [Int.toNat_natCast]
  refine ⟨by omega,by omega,?_⟩
  rw [if_pos (by simp only [decide_eq_true_eq];omega)]
  by_cases c:((i:Int)==x1)=true
  ·rw [if_pos c]
   exact ⟨by omega,by omega,by omega,by omega,f1,by rw [hl];exact f2,by rw [e3];exact inR_up hul hlt,by rw [e3];exact ih⟩
  ·have c2:=hc.resolve_left (by simpa using c)
   rw [if_neg c]
   refine ⟨by omega,by omega,?_⟩
   rw [if_pos c2]
   exact ⟨by omega,by omega,by omega,by omega,f1,by rw [hl];exact f2,by rw [e3];exact inR_up hul hlt,by rw [e3];exact ih⟩
theorem roles59 (x0:List RL59) (x1:Int) (h:P59 x0 x1) (hw:∀ r∈x0,r.2.1.length≤maxLen) (ds:List Dyn) (v6:Int) (i6:InR .i64 (v6+1)) (m:Nat):∀ (k i:Nat) (h0:List Bool),i+k=x0.length→h0.length=x0.length→R59_3 m (v6+1) (turn59 x0 x1 k i h0) x0 x1 ds→∃ n,R59_6 n (i:Int) h0 x0 x1 v6 ds:=by
 intro k
 induction k with
 | zero =>
  intro i h0 hi hl hr
  refine ⟨m+1,?_⟩
  rw [R59_6,if_neg (by simp only [decide_eq_true_eq];omega)]
  exact ⟨i6,hr⟩
 | succ k ih =>
  intro i h0 hi hl hr
  have hlt:i<x0.length:=by omega
  have hu:=hw _ (mem_getD x0 i (ByteArray.empty,[],()) hlt)
  obtain ⟨n,hn⟩:=ih (i+1) (role59 x0 x1 h0 i) (by omega) (by rw [role_len59];exact hl) hr
  have e3:((i+1:Nat):Int)=(i:Int)+1:=by omega
  rw [e3] at hn
  unfold role59 at hn
  by_cases c:(i:Int)=x1∨h0.getD i false=true
  ·rw [if_pos c] at hn
   have:=names59 x0 x1 h ds v6 i n hlt hu _ 0 h0 (by rw [Nat.zero_add]) hl c (by rw [List.drop_zero];exact hn)
   exact ⟨_+1,by
    rw [R59_6,if_pos (by simp only [decide_eq_true_eq];omega)]
    exact this⟩
  ·rw [if_neg c] at hn
   refine ⟨n+1+1,?_⟩
   rw [R59_6,if_pos (by simp only [decide_eq_true_eq];omega),R59_9]
   simp only [Int.toNat_natCast]
   have c1:¬ ((i:Int)==x1)=true:=fun hh=>c (.inl (by simpa using hh))
   have c2:¬ h0.getD i false=true:=fun hh=>c (.inr hh)
   refine ⟨by omega,by omega,?_⟩
   by_cases c3:decide ((0:Int)<((x0.getD i (ByteArray.empty,[],())).2.1.length:Int))=true
   ·rw [if_pos c3,if_neg c1]
    refine ⟨by omega,by omega,?_⟩
    rw [if_neg c2]
    exact ⟨by have:=h.1;rw [i64_iff];omega,hn⟩
   ·rw [if_neg c3]
    exact ⟨by have:=h.1;rw [i64_iff];omega,hn⟩
theorem tops59 (x0:List RL59) (x1:Int) (h:P59 x0 x1) (hw:∀ r∈x0,r.2.1.length≤maxLen):∀ (k i:Nat) (h0:List Bool),i+k=x0.length→h0.length=x0.length→∃ n,R59_3 n (i:Int) h0 x0 x1 [⟨.sl .bool,turns59 x0 x1 k h0⟩]:=by
 have p1:=h.1
 intro k
 induction k with
 | zero =>
  intro i h0 hi hl
  refine ⟨1,?_⟩
  rw [R59_3,if_neg (by simp only [decide_eq_true_eq];omega)]
  rfl
 | succ k ih =>
  intro i h0 hi hl
  obtain ⟨m,hm⟩:=ih (i+1) (turn59 x0 x1 x0.length 0 h0) (by omega) (by rw [turn_len59];exact hl)
  have e3:((i+1:Nat):Int)=(i:Int)+1:=by omega
  rw [e3] at hm
  obtain ⟨n,hn⟩:=roles59 x0 x1 h hw _ (i:Int) (by rw [i64_iff];omega) m x0.length 0 h0 (by omega) hl hm
  refine ⟨n+1,?_⟩
  rw [R59_3,if_pos (by simp only [decide_eq_true_eq];omega)]
  exact hn
theorem top59 (x0:List RL59) (x1:Int) (h:P59 x0 x1) (hw:∀ r∈x0,r.2.1.length≤maxLen):∃ n,R59 n x0 x1 [⟨.sl .bool,g59_0 x0 x1⟩]:=by
 have p1:=h.1
 obtain ⟨n,hn⟩:=tops59 x0 x1 h hw x0.length 0 (List.replicate x0.length false) (by omega) (by rw [List.length_replicate])
 refine ⟨n+1,?_⟩
 rw [R59]
 simp only [Int.toNat_natCast]
 exact ⟨by omega,by omega,by omega,hn⟩
def S59:Am.Spec:={ sig:=sig59,pre:=fun ⟨x0,x1,_⟩=>P59 x0 x1,res:=fun ⟨x0,x1,_⟩=>[⟨.sl .bool,g59_0 x0 x1⟩] }
theorem con59:Contract Try.prog 59 S59:=contract_of Try.func59 hb59 (bl_ (by kernel_rfl)) (fun ⟨x0,x1,_⟩ h hwf K q =>
 let ⟨_,hn⟩:=top59 x0 x1 h (fun r hr=>(hwf.1.2 r hr).2.1.1)
 (snd59 _).1 x0 x1 _ hn K q)
end
noncomputable section
def ext55:Ext:=[(78,S78),(28,S28),(59,S59)]
theorem ext55Ok:ExtOk Try.prog ext55:=⟨⟨ca78,con78⟩,⟨ca28,con28⟩,⟨ca59,con59⟩,trivial⟩
noncomputable def b55:Code:=bodyOf Try.f55
theorem hb55:Try.f55.body=some b55:=by kernel_rfl
def sig55:List AT:=[AT.v (.sl YA3)]
def tys55:List Ty:=[.bool]
def kds55:List RK:=[]
def oks55:List AT:=owns sig55
def E55_4 (v3:Int) (x0:List (ByteArray×List ByteArray×Unit)):Env:=[(0,.a (.sl YA3 x0)),(3,.a (.val (.int .i64 v3)))]
def L55_4 (v3:Int) (x0:List (ByteArray×List ByteArray×Unit)):Heap:=[]
def E55_9 (v4:Int) (v38:Bool) (x0:List (ByteArray×List ByteArray×Unit)) (v3:Int):Env:=[(0,.a (.sl YA3 x0)),(3,.a (.val (.int .i64 v3))),(4,.a (.val (.int .i64 v4))),(23,.a (.val (.int .i64 v3))),(24,.a (.val (.bool (decide (v3>0))))),(25,.a (.val (.bool (decide (v3>0))))),(38,.a (.val (.bool v38)))]
def L55_9 (v4:Int) (v38:Bool) (x0:List (ByteArray×List ByteArray×Unit)) (v3:Int):Heap:=[]
def E55_14 (v5:Int) (x0:List (ByteArray×List ByteArray×Unit)):Env:=[(0,.a (.sl YA3 x0)),(5,.a (.val (.int .i64 v5)))]
def L55_14 (v5:Int) (x0:List (ByteArray×List ByteArray×Unit)):Heap:=[]
mutual
def R55:Nat→List (ByteArray×List ByteArray×Unit)→List Dyn→Prop
 | 0,_,_=>False
 | n+1,x0,ds=>(if (decide ((x0.length:Int)>12))=true then (ds=[Dyn.mk .bool false]) else (R55_4 n (0) (x0) ds))
def R55_4:Nat→Int→List (ByteArray×List ByteArray×Unit)→List Dyn→Prop
 | 0,_,_,_=>False
 | n+1,v3,x0,ds=>(if (decide (v3<(x0.length:Int)))=true then ((0≤v3)∧(v3<(x0.length:Int))∧(if (!g78_0 (List.getD x0 (Int.toNat v3) (ByteArray.empty,[],())).1)=true then (ds=[Dyn.mk .bool false]) else (if (decide (v3>0))=true then ((InR .i64 (v3 - 1))∧((0≤v3 - 1)∧(v3 - 1<(x0.length:Int))∧((0≤v3)∧(v3<(x0.length:Int))∧(if (!Op.bytesLess (ByteArray.toList (List.getD x0 (Int.toNat (v3 - 1)) (ByteArray.empty,[],())).1) (ByteArray.toList (List.getD x0 (Int.toNat v3) (ByteArray.empty,[],())).1))=true then (ds=[Dyn.mk .bool false]) else (R55_9 n (0) (!Op.bytesLess (ByteArray.toList (List.getD x0 (Int.toNat (v3 - 1)) (ByteArray.empty,[],())).1) (ByteArray.toList (List.getD x0 (Int.toNat v3) (ByteArray.empty,[],())).1)) (x0) (v3) ds))))) else (R55_9 n (0) (false) (x0) (v3) ds)))) else (R55_14 n (0) (x0) ds))
def R55_9:Nat→Int→Bool→List (ByteArray×List ByteArray×Unit)→Int→List Dyn→Prop
 | 0,_,_,_,_,_=>False
 | n+1,v4,v38,x0,v3,ds=>((0≤v3)∧(v3<(x0.length:Int))∧(if (decide (v4<(↑(List.length (List.getD x0 (Int.toNat v3) (ByteArray.empty,[],())).2.1):Int)))=true then ((0≤v3)∧(v3<(x0.length:Int))∧((0≤v4)∧(v4<(↑(List.length (List.getD x0 (Int.toNat v3) (ByteArray.empty,[],())).2.1):Int))∧(if (decide (g28_0 x0 (List.getD (List.getD x0 (Int.toNat v3) (ByteArray.empty,[],())).2.1 (Int.toNat v4) ByteArray.empty)<0))=true then (ds=[Dyn.mk .bool false]) else (if (decide (v4>0))=true then ((0≤v3)∧(v3<(x0.length:Int))∧((InR .i64 (v4 - 1))∧((0≤v4 - 1)∧(v4 - 1<(↑(List.length (List.getD x0 (Int.toNat v3) (ByteArray.empty,[],())).2.1):Int))∧((0≤v3)∧(v3<(x0.length:Int))∧((0≤v4)∧(v4<(↑(List.length (List.getD x0 (Int.toNat v3) (ByteArray.empty,[],())).2.1):Int))∧(if (!Op.bytesLess (ByteArray.toList (List.getD (List.getD x0 (Int.toNat v3) (ByteArray.empty,[],())).2.1 (Int.toNat (v4 - 1)) ByteArray.empty)) (ByteArray.toList (List.getD (List.getD x0 (Int.toNat v3) (ByteArray.empty,[],())).2.1 (Int.toNat v4) ByteArray.empty)))=true then (ds=[Dyn.mk .bool false]) else ((InR .i64 (v4+1))∧(R55_9 n (v4+1) (v38) (x0) (v3) ds)))))))) else ((InR .i64 (v4+1))∧(R55_9 n (v4+1) (v38) (x0) (v3) ds)))))) else ((InR .i64 (v3+1))∧(R55_4 n (v3+1) (x0) ds))))
def R55_14:Nat→Int→List (ByteArray×List ByteArray×Unit)→List Dyn→Prop
 | 0,_,_,_=>False
 | n+1,v5,x0,ds=>(if (decide (v5<(x0.length:Int)))=true then ((P59 x0 v5)∧((0≤v5)∧(v5<(↑(List.length (g59_0 x0 v5)):Int))∧(if (List.getD (g59_0 x0 v5) (Int.toNat v5) false)=true then (ds=[Dyn.mk .bool false]) else ((InR .i64 (v5+1))∧(R55_14 n (v5+1) (x0) ds))))) else (ds=[Dyn.mk .bool true]))
end
theorem snd55:∀ n,(∀ (x0:List (ByteArray×List ByteArray×Unit)) ds,R55 n x0 ds→∀ K q,AtV Try.prog 55 (PostR kds55 oks55 ds [] [] q K) 97 K q [] [.code b55] (entE 0 0 sig55 (x0,())) (entL sig55 (x0,())))∧(∀ (v3:Int) (x0:List (ByteArray×List ByteArray×Unit)) ds,R55_4 n v3 x0 ds→∀ K q,AtV Try.prog 55 (PostR kds55 oks55 ds [] [] q K) 97 K q [] (cutAt b55 4) (E55_4 v3 x0) (L55_4 v3 x0))∧(∀ (v4:Int) (v38:Bool) (x0:List (ByteArray×List ByteArray×Unit)) (v3:Int) ds,R55_9 n v4 v38 x0 v3 ds→∀ K q,AtV Try.prog 55 (PostR kds55 oks55 ds [] [] q K) 97 K q [] (cutAt b55 9) (E55_9 v4 v38 x0 v3) (L55_9 v4 v38 x0 v3))∧(∀ (v5:Int) (x0:List (ByteArray×List ByteArray×Unit)) ds,R55_14 n v5 x0 ds→∀ K q,AtV Try.prog 55 (PostR kds55 oks55 ds [] [] q K) 97 K q [] (cutAt b55 14) (E55_14 v5 x0) (L55_14 v5 x0)):=by
 intro n
 induction n with
 | zero=>exact ⟨fun _ _ h=>by simp only [R55] at h,fun _ _ _ h=>by simp only [R55_4] at h,fun _ _ _ _ _ h=>by simp only [R55_9] at h,fun _ _ _ h=>by simp only [R55_14] at h⟩
 | succ n ih =>
 obtain ⟨ih,ih4,ih9,ih14⟩:=ih
 refine ⟨?_,?_,?_,?_⟩
 ·intro x0 ds h K q
  rw [R55] at h
  by_cases b0:(decide ((x0.length:Int)>12))=true
  ·rw [if_pos b0] at h
   subst h
   exact AtV.ret Try.func55 tabOk ext55Ok mixed false [] tys55 [true] (a1 b0 trivial) (by kernel_rfl)
  ·rw [if_neg b0] at h
   replace b0:=bf_ b0
   exact AtV.go tabOk ext55Ok mixed false [] [] [0,3] [] [false] (a1 b0 trivial) (ih4 _ _ _ h K q) (by kernel_rfl)
 ·intro v3 x0 ds h K q
  rw [R55_4] at h
  by_cases b0:(decide (v3<(x0.length:Int)))=true
  ·rw [if_pos b0] at h
   obtain ⟨s0,s1,h⟩:=h
   by_cases b1:(!g78_0 (List.getD x0 (Int.toNat v3) (ByteArray.empty,[],())).1)=true
   ·rw [if_pos b1] at h
    subst h
    exact AtV.ret Try.func55 tabOk ext55Ok mixed false [] tys55 [true,true,true] (a1 b0 (a1 s0 (a1 s1 (a1 trivial (a1 b1 (a1 (rfl:true=true) trivial)))))) (by kernel_rfl)
   ·rw [if_neg b1] at h
    replace b1:=bf_ b1
    by_cases b2:(decide (v3>0))=true
    ·rw [if_pos b2] at h
     obtain ⟨s2,h⟩:=h
     obtain ⟨s3,s4,h⟩:=h
     obtain ⟨s5,s6,h⟩:=h
     by_cases b3:(!Op.bytesLess (ByteArray.toList (List.getD x0 (Int.toNat (v3 - 1)) (ByteArray.empty,[],())).1) (ByteArray.toList (List.getD x0 (Int.toNat v3) (ByteArray.empty,[],())).1))=true
     ·rw [if_pos b3] at h
      subst h
      exact AtV.ret Try.func55 tabOk ext55Ok mixed false [] tys55 [true,false,true,true] (a1 b0 (a1 s0 (a1 s1 (a1 trivial (a1 b1 (a1 b2 (a1 s2 (a1 s3 (a1 s4 (a1 s5 (a1 s6 (a1 b3 trivial)))))))))))) (by kernel_rfl)
     ·rw [if_neg b3] at h
      replace b3:=bf_ b3
      exact AtV.go tabOk ext55Ok mixed false [] [] [0,3,4,23,24,25,38] [] [true,false,true,false] (a1 b0 (a1 s0 (a1 s1 (a1 trivial (a1 b1 (a1 b2 (a1 s2 (a1 s3 (a1 s4 (a1 s5 (a1 s6 (a1 b3 trivial)))))))))))) (ih9 _ _ _ _ _ h K q) (by kernel_rfl)
    ·rw [if_neg b2] at h
     replace b2:=bf_ b2
     exact AtV.go tabOk ext55Ok mixed false [] [] [0,3,4,23,24,25,38] [] [true,false,false,false] (a1 b0 (a1 s0 (a1 s1 (a1 trivial (a1 b1 (a1 b2 (a1 (rfl:false=false) trivial))))))) (ih9 _ _ _ _ _ h K q) (by kernel_rfl)
  ·rw [if_neg b0] at h
   replace b0:=bf_ b0
   exact AtV.go tabOk ext55Ok mixed false [] [] [0,5] [] [false] (a1 b0 trivial) (ih14 _ _ _ h K q) (by kernel_rfl)
 ·intro v4 v38 x0 v3 ds h K q
  rw [R55_9] at h
  obtain ⟨s0,s1,h⟩:=h
  by_cases b0:(decide (v4<(↑(List.length (List.getD x0 (Int.toNat v3) (ByteArray.empty,[],())).2.1):Int)))=true
  ·rw [if_pos b0] at h
   obtain ⟨s2,s3,h⟩:=h
   obtain ⟨s4,s5,h⟩:=h
   by_cases b1:(decide (g28_0 x0 (List.getD (List.getD x0 (Int.toNat v3) (ByteArray.empty,[],())).2.1 (Int.toNat v4) ByteArray.empty)<0))=true
   ·rw [if_pos b1] at h
    subst h
    exact AtV.ret Try.func55 tabOk ext55Ok mixed false [] tys55 [true,true,true] (a1 s0 (a1 s1 (a1 b0 (a1 s2 (a1 s3 (a1 s4 (a1 s5 (a1 trivial (a1 b1 (a1 (rfl:true=true) trivial)))))))))) (by kernel_rfl)
   ·rw [if_neg b1] at h
    replace b1:=bf_ b1
    by_cases b2:(decide (v4>0))=true
    ·rw [if_pos b2] at h
     obtain ⟨s6,s7,h⟩:=h
     obtain ⟨s8,h⟩:=h
     obtain ⟨s9,s10,h⟩:=h
     obtain ⟨s11,s12,h⟩:=h
     obtain ⟨s13,s14,h⟩:=h
     by_cases b3:(!Op.bytesLess (ByteArray.toList (List.getD (List.getD x0 (Int.toNat v3) (ByteArray.empty,[],())).2.1 (Int.toNat (v4 - 1)) ByteArray.empty)) (ByteArray.toList (List.getD (List.getD x0 (Int.toNat v3) (ByteArray.empty,[],())).2.1 (Int.toNat v4) ByteArray.empty)))=true
     ·rw [if_pos b3] at h
      subst h
      exact AtV.ret Try.func55 tabOk ext55Ok mixed false [] tys55 [true,false,true,true] (a1 s0 (a1 s1 (a1 b0 (a1 s2 (a1 s3 (a1 s4 (a1 s5 (a1 trivial (a1 b1 (a1 b2 (a1 s6 (a1 s7 (a1 s8 (a1 s9 (a1 s10 (a1 s11 (a1 s12 (a1 s13 (a1 s14 (a1 b3 trivial)))))))))))))))))))) (by kernel_rfl)
     ·rw [if_neg b3] at h
      replace b3:=bf_ b3
      obtain ⟨s15,h⟩:=h
      exact AtV.go tabOk ext55Ok mixed false [] [] [0,3,4,23,24,25,38] [] [true,false,true,false] (a1 s0 (a1 s1 (a1 b0 (a1 s2 (a1 s3 (a1 s4 (a1 s5 (a1 trivial (a1 b1 (a1 b2 (a1 s6 (a1 s7 (a1 s8 (a1 s9 (a1 s10 (a1 s11 (a1 s12 (a1 s13 (a1 s14 (a1 b3 (a1 s15 trivial))))))))))))))))))))) (ih9 _ _ _ _ _ h K q) (by kernel_rfl)
    ·rw [if_neg b2] at h
     replace b2:=bf_ b2
     obtain ⟨s6,h⟩:=h
     exact AtV.go tabOk ext55Ok mixed false [] [] [0,3,4,23,24,25,38] [] [true,false,false,false] (a1 s0 (a1 s1 (a1 b0 (a1 s2 (a1 s3 (a1 s4 (a1 s5 (a1 trivial (a1 b1 (a1 b2 (a1 (rfl:false=false) (a1 s6 trivial)))))))))))) (ih9 _ _ _ _ _ h K q) (by kernel_rfl)
  ·rw [if_neg b0] at h
   replace b0:=bf_ b0
   obtain ⟨s2,h⟩:=h
   exact AtV.go tabOk ext55Ok mixed false [] [] [0,3] [] [false] (a1 s0 (a1 s1 (a1 b0 (a1 s2 trivial)))) (ih4 _ _ _ h K q) (by kernel_rfl)
 ·intro v5 x0 ds h K q
  rw [R55_14] at h
  by_cases b0:(decide (v5<(x0.length:Int)))=true
  ·rw [if_pos b0] at h
   obtain ⟨s0,h⟩:=h
   obtain ⟨s1,s2,h⟩:=h
   by_cases b1:(List.getD (g59_0 x0 v5) (Int.toNat v5) false)=true
   ·rw [if_pos b1] at h
    subst h
    exact AtV.ret Try.func55 tabOk ext55Ok mixed false [] tys55 [true,true] (a1 b0 (a1 s0 (a1 s1 (a1 s2 (a1 b1 trivial))))) (by kernel_rfl)
   ·rw [if_neg b1] at h
    replace b1:=bf_ b1
    obtain ⟨s3,h⟩:=h
    exact AtV.go tabOk ext55Ok mixed false [] [] [0,5] [] [true,false] (a1 b0 (a1 s0 (a1 s1 (a1 s2 (a1 b1 (a1 s3 trivial)))))) (ih14 _ _ _ h K q) (by kernel_rfl)
  ·rw [if_neg b0] at h
   replace b0:=bf_ b0
   subst h
   exact AtV.ret Try.func55 tabOk ext55Ok mixed false [] tys55 [false] (a1 b0 trivial) (by kernel_rfl)
abbrev RL55:=ByteArray×List ByteArray×Unit
def lt55 (a b:ByteArray):Bool:=Op.bytesLess (ByteArray.toList a) (ByteArray.toList b)
def un55 (x0:List RL55) (l:List ByteArray) (j:Nat) (n:ByteArray):Bool := !decide (g28_0 x0 n<0)&&(j==0||lt55 (l.getD (j - 1) ByteArray.empty) n)
def role55 (x0:List RL55) (i:Nat) (r:RL55):Bool:=g78_0 r.1&&((i==0||lt55 (x0.getD (i - 1) (ByteArray.empty,[],())).1 r.1)&&allI (un55 x0 r.2.1) 0 r.2.1)
def free55 (x0:List RL55) (i:Nat) (_:RL55):Bool := !(g59_0 x0 (i:Int)).getD i false
def g55_0 (x0:List RL55):Bool:=if decide (x0.length≤12)=true then (if allI (role55 x0) 0 x0=true then allI (free55 x0) 0 x0 else false) else false
def P55 (x0:List RL55):Prop:=True
theorem allm55 {α:Type} (q:Nat→α→Bool):∀ (l:List α) (i:Nat),allI q i l=true→∀ x∈l,∃ j,q j x=true
 | [],_,_,x,hx=>by cases hx
 | a :: r,i,h,x,hx=>by
  simp only [allI,Bool.and_eq_true] at h
  rcases List.mem_cons.1 hx with rfl | hx
  ·exact ⟨i,h.1⟩
  ·exact allm55 q r (i+1) h.2 x hx
theorem closed55 {x0:List RL55} (h:allI (role55 x0) 0 x0=true):∀ r∈x0,∀ n∈r.2.1,0≤g28_0 x0 n∧g28_0 x0 n<(x0.length:Int):=fun r hr n hn=>by
 obtain ⟨i,hi⟩:=allm55 _ _ _ h r hr
 unfold role55 at hi
 simp only [Bool.and_eq_true] at hi
 obtain ⟨j,hj⟩:=allm55 _ _ _ hi.2.2 n hn
 unfold un55 at hj
 simp only [Bool.and_eq_true,Bool.not_eq_true',decide_eq_false_iff_not] at hj
 refine ⟨by omega,?_⟩
 have h0:=hj.1
 unfold g28_0 at h0 ⊢
 cases hf:x0.findIdx? (is28 n) with
 | none=>rw [hf] at h0;exact absurd (show idx none<0 by decide) h0
 | some k =>
  obtain ⟨hk,_⟩:=List.findIdx?_eq_some_iff_getElem.1 hf
  show (k:Int)<_
  omega
theorem third55 (x0:List RL55) (hl:x0.length≤12) (hp:P59 x0 0):∀ (k i:Nat),i+k=x0.length→R55_14 (k+1) (i:Int) x0 [⟨.bool,allI (free55 x0) i (x0.drop i)⟩]:=by
 intro k
 induction k with
 | zero =>
  intro i hi
  rw [R55_14,if_neg (by simp only [decide_eq_true_eq];omega),List.drop_eq_nil_of_le (by omega)]
  rfl
 | succ k ih =>
  intro i hi
  have e3:(i:Int)+1=((i+1:Nat):Int):=by omega
  rw [R55_14,if_pos (by simp only [decide_eq_true_eq];omega),drop_get x0 i (ByteArray.empty,[],()) (by omega)]
  simp only [Int.toNat_natCast,allI]
  refine ⟨hp,by omega,by rw [len59];omega,?_⟩
  unfold free55
  by_cases c:(g59_0 x0 (i:Int)).getD i false=true
  ·rw [if_pos c,c]
   rfl
  ·rw [if_neg c,bf_ c,e3]
   exact ⟨by rw [i64_iff];omega,ih (i+1) (by omega)⟩
theorem inner55 (x0:List RL55) (hl:x0.length≤12) (i m:Nat) (hi:i<x0.length) (hu:(x0.getD i (ByteArray.empty,[],())).2.1.length≤maxLen) (D:List Dyn) (v38:Bool):∀ (k j:Nat),j+k=(x0.getD i (ByteArray.empty,[],())).2.1.length →
  (allI (un55 x0 (x0.getD i (ByteArray.empty,[],())).2.1) j ((x0.getD i (ByteArray.empty,[],())).2.1.drop j)=true→R55_4 m ((i:Int)+1) x0 D)→(allI (un55 x0 (x0.getD i (ByteArray.empty,[],())).2.1) j ((x0.getD i (ByteArray.empty,[],())).2.1.drop j)=false→D=[⟨.bool,false⟩])→R55_9 (m+k+1) (j:Int) v38 x0 (i:Int) D:=by
 have hmx:maxLen≤9223372036854775807:=by decide
 intro k
 induction k with
 | zero =>
  intro j hj hr _
  rw [List.drop_eq_nil_of_le (by omega)] at hr
  have hr:=hr rfl
  show R55_9 (m+0+1) _ _ _ _ D
  rw [R55_9]
  simp only [Int.toNat_natCast]
  refine ⟨by omega,by omega,(if_neg (by simp only [decide_eq_true_eq];omega)).mpr ⟨by rw [i64_iff];omega,hr⟩⟩
 | succ k ih =>
  intro j hj hr hn
  have hlt:j<(x0.getD i (ByteArray.empty,[],())).2.1.length:=by omega
  have e3:(j:Int)+1=((j+1:Nat):Int):=by omega
  rw [drop_get _ j ByteArray.empty hlt] at hr hn
  simp only [allI] at hr hn
  show R55_9 (m+k+1+1) _ _ _ _ _
  rw [R55_9]
  simp only [Int.toNat_natCast]
  refine ⟨by omega,by omega,(if_pos (by simp only [decide_eq_true_eq];omega)).mpr ?_⟩
  refine ⟨by omega,by omega,by omega,by omega,?_⟩
  by_cases hc:un55 x0 (x0.getD i (ByteArray.empty,[],())).2.1 j ((x0.getD i (ByteArray.empty,[],())).2.1.getD j ByteArray.empty)=true
  ·have hnext:R55_9 (m+k+1) ((j+1:Nat):Int) v38 x0 (i:Int) D:=ih (j+1) (by omega) (fun h=>hr (by rw [hc,h];rfl)) (fun h=>hn (by rw [hc,h];rfl))
   unfold un55 at hc
   simp only [Bool.and_eq_true,Bool.not_eq_true',decide_eq_false_iff_not] at hc
   refine (if_neg (by simpa using hc.1)).mpr ?_
   by_cases h0:(j:Int)>0
   ·have ej:((j:Int) - 1).toNat=j - 1:=by omega
    have hb:lt55 ((x0.getD i (ByteArray.empty,[],())).2.1.getD (j - 1) ByteArray.empty) ((x0.getD i (ByteArray.empty,[],())).2.1.getD j ByteArray.empty)=true:=by
     rcases (Bool.or_eq_true _ _).mp hc.2 with h | h
     ·have:j=0:=by simpa using h
      omega
     ·exact h
    unfold lt55 at hb
    refine (if_pos (decide_eq_true h0)).mpr ?_
    simp only [ej]
    refine ⟨by omega,by omega,by rw [i64_iff];omega,by omega,by omega,by omega,by omega,by omega,by omega,(if_neg (by rw [hb];decide)).mpr ?_⟩
    rw [e3]
    exact ⟨inR_up hu hlt,hnext⟩
   ·refine (if_neg (by simpa using h0)).mpr ?_
    rw [e3]
    exact ⟨inR_up hu hlt,hnext⟩
  ·have hc:=bf_ hc
   have hD:D=[⟨.bool,false⟩]:=hn (by rw [hc];rfl)
   unfold un55 at hc
   by_cases h1:g28_0 x0 ((x0.getD i (ByteArray.empty,[],())).2.1.getD j ByteArray.empty)<0
   ·exact (if_pos (decide_eq_true h1)).mpr hD
   ·refine (if_neg (by simpa using h1)).mpr ?_
    rw [decide_eq_false h1] at hc
    by_cases h0:(j:Int)>0
    ·have ej:((j:Int) - 1).toNat=j - 1:=by omega
     have j0:(j==0)=false:=by simp;omega
     rw [j0] at hc
     have hb:lt55 ((x0.getD i (ByteArray.empty,[],())).2.1.getD (j - 1) ByteArray.empty) ((x0.getD i (ByteArray.empty,[],())).2.1.getD j ByteArray.empty)=false:=by simpa using hc
     unfold lt55 at hb
     refine (if_pos (decide_eq_true h0)).mpr ?_
     simp only [ej]
     exact ⟨by omega,by omega,by rw [i64_iff];omega,by omega,by omega,by omega,by omega,by omega,by omega,(if_pos (by rw [hb];decide)).mpr hD⟩
    ·have j0:(j==0)=true:=by simp;omega
     rw [j0] at hc
     cases hc
theorem first55 (x0:List RL55) (hl:x0.length≤12) (hw:∀ r∈x0,r.2.1.length≤maxLen) (D:List Dyn) (m:Nat):∀ (k i:Nat),i+k=x0.length→(allI (role55 x0) i (x0.drop i)=true→R55_14 m 0 x0 D)→(allI (role55 x0) i (x0.drop i)=false→D=[⟨.bool,false⟩])→∃ n,R55_4 n (i:Int) x0 D:=by
 intro k
 induction k with
 | zero =>
  intro i hi hr _
  rw [List.drop_eq_nil_of_le (by omega)] at hr
  refine ⟨m+1,?_⟩
  rw [R55_4,if_neg (by simp only [decide_eq_true_eq];omega)]
  exact hr rfl
 | succ k ih =>
  intro i hi hr hn
  have hlt:i<x0.length:=by omega
  have hu:=hw _ (mem_getD x0 i (ByteArray.empty,[],()) hlt)
  have e3:((i+1:Nat):Int)=(i:Int)+1:=by omega
  rw [drop_get x0 i (ByteArray.empty,[],()) hlt] at hr hn
  simp only [allI] at hr hn
  have key:∀ v38:Bool,(g78_0 (x0.getD i (ByteArray.empty,[],())).1&&(i==0||lt55 (x0.getD (i - 1) (ByteArray.empty,[],())).1 (x0.getD i (ByteArray.empty,[],())).1))=true→∃ n,R55_9 n 0 v38 x0 (i:Int) D:=fun v38 hc=>by
   have er:role55 x0 i (x0.getD i (ByteArray.empty,[],()))=allI (un55 x0 (x0.getD i (ByteArray.empty,[],())).2.1) 0 (x0.getD i (ByteArray.empty,[],())).2.1:=by
    unfold role55
    rw [← Bool.and_assoc,hc,Bool.true_and]
   by_cases ha:allI (un55 x0 (x0.getD i (ByteArray.empty,[],())).2.1) 0 (x0.getD i (ByteArray.empty,[],())).2.1=true
   ·obtain ⟨n,hn⟩:=ih (i+1) (by omega) (fun h=>hr (by rw [er,ha,h];rfl)) (fun h=>hn (by rw [er,ha,h];rfl))
    rw [e3] at hn
    exact ⟨_,inner55 x0 hl i n hlt hu D v38 _ 0 (by rw [Nat.zero_add]) (fun _=>hn) (fun h=>by rw [List.drop_zero,ha] at h;cases h)⟩
   ·exact ⟨_,inner55 x0 hl i 0 hlt hu D v38 _ 0 (by rw [Nat.zero_add]) (fun h=>absurd (by rw [List.drop_zero] at h;exact h) ha) (fun h=>hn (by rw [er,bf_ ha];rfl))⟩
  by_cases hc1:g78_0 (x0.getD i (ByteArray.empty,[],())).1=true
  case neg =>
   have er:role55 x0 i (x0.getD i (ByteArray.empty,[],()))=false:=by unfold role55;rw [bf_ hc1];rfl
   refine ⟨1,?_⟩
   rw [R55_4,if_pos (by simp only [decide_eq_true_eq];omega)]
   simp only [Int.toNat_natCast]
   exact ⟨by omega,by omega,(if_pos (by rw [bf_ hc1];rfl)).mpr (hn (by rw [er];rfl))⟩
  by_cases h0:(i:Int)>0
  ·have ej:((i:Int) - 1).toNat=i - 1:=by omega
   have i0:(i==0)=false:=by simp;omega
   by_cases hb:lt55 (x0.getD (i - 1) (ByteArray.empty,[],())).1 (x0.getD i (ByteArray.empty,[],())).1=true
   case neg =>
    have hb:=bf_ hb
    have er:role55 x0 i (x0.getD i (ByteArray.empty,[],()))=false:=by unfold role55;rw [hc1,i0,hb];rfl
    refine ⟨1,?_⟩
    rw [R55_4,if_pos (by simp only [decide_eq_true_eq];omega)]
    unfold lt55 at hb
    simp only [Int.toNat_natCast,ej]
    exact ⟨by omega,by omega,(if_neg (by rw [hc1];decide)).mpr ((if_pos (decide_eq_true h0)).mpr ⟨by rw [i64_iff];omega,by omega,by omega,by omega,by omega,(if_pos (by rw [hb];decide)).mpr (hn (by rw [er];rfl))⟩)⟩
   obtain ⟨n,hn⟩:=key (!Op.bytesLess (ByteArray.toList (x0.getD (i - 1) (ByteArray.empty,[],())).1) (ByteArray.toList (x0.getD i (ByteArray.empty,[],())).1)) (by rw [hc1,hb];simp)
   refine ⟨n+1,?_⟩
   rw [R55_4,if_pos (by simp only [decide_eq_true_eq];omega)]
   unfold lt55 at hb
   simp only [Int.toNat_natCast,ej]
   exact ⟨by omega,by omega,(if_neg (by rw [hc1];decide)).mpr ((if_pos (decide_eq_true h0)).mpr ⟨by rw [i64_iff];omega,by omega,by omega,by omega,by omega,(if_neg (by rw [hb];decide)).mpr hn⟩)⟩
  ·have i0:(i==0)=true:=by simp;omega
   obtain ⟨n,hn⟩:=key false (by rw [hc1,i0];rfl)
   refine ⟨n+1,?_⟩
   rw [R55_4,if_pos (by simp only [decide_eq_true_eq];omega)]
   simp only [Int.toNat_natCast]
   exact ⟨by omega,by omega,(if_neg (by rw [hc1];decide)).mpr ((if_neg (by simpa using h0)).mpr hn)⟩
theorem top55 (x0:List RL55) (hw:∀ r∈x0,r.2.1.length≤maxLen):∃ n,R55 n x0 [⟨.bool,g55_0 x0⟩]:=by
 unfold g55_0
 by_cases c:x0.length≤12
 ·rw [if_pos (decide_eq_true c)]
  obtain ⟨n,hn⟩:=first55 x0 c hw [⟨.bool,if allI (role55 x0) 0 x0=true then allI (free55 x0) 0 x0 else false⟩] (x0.length+1) x0.length 0 (by omega) (fun h=>by
   rw [List.drop_zero] at h
   have:=third55 x0 c ⟨by omega,closed55 h⟩ x0.length 0 (by omega)
   rw [List.drop_zero] at this
   rw [if_pos h]
   exact this) (fun h=>by
   rw [List.drop_zero] at h
   rw [if_neg (by rw [h];decide)])
  refine ⟨n+1,?_⟩
  rw [R55,if_neg (by simp only [decide_eq_true_eq];omega)]
  exact hn
 ·rw [if_neg (by simpa using c)]
  exact ⟨1,by rw [R55,if_pos (by simp only [decide_eq_true_eq];omega)]⟩
def S55:Am.Spec:={ sig:=sig55,pre:=fun ⟨x0,_⟩=>P55 x0,res:=fun ⟨x0,_⟩=>[⟨.bool,g55_0 x0⟩] }
theorem con55:Contract Try.prog 55 S55:=contract_of Try.func55 hb55 (bl_ (by kernel_rfl)) (fun ⟨x0,_⟩ h hwf K q =>
 let ⟨_,hn⟩:=top55 x0 (fun r hr=>(hwf.1.2 r hr).2.1.1)
 (snd55 _).1 x0 _ hn K q)
end
noncomputable section
def ext58:Ext:=[]
theorem ext58Ok:ExtOk Try.prog ext58:=trivial
noncomputable def b58:Code:=bodyOf Try.f58
theorem hb58:Try.f58.body=some b58:=by kernel_rfl
def sig58:List AT:=[AT.v (.int .i64),AT.v (.int .i64),AT.v (.int .i64)]
def tys58:List Ty:=[.bool]
def kds58:List RK:=[]
def oks58:List AT:=owns sig58
def P58 (x0:Int) (x1:Int) (x2:Int):Prop:=True
def g58_0 (x0:Int) (x1:Int) (x2:Int):Bool:=(if (decide (x0≥x1))=true then decide (x0≤x2) else false)
theorem at58 (x0:Int) (x1:Int) (x2:Int) (h:P58 x0 x1 x2) (K:Ctx) (q:Nat→Value):AtV Try.prog 58 (PostR kds58 oks58 [⟨.bool,g58_0 x0 x1 x2⟩] [] [] q K) 15 K q [] [.code b58] (entE 0 0 sig58 (x0,x1,x2,())) (entL sig58 (x0,x1,x2,())):=by
 unfold P58 at h
 unfold g58_0
 by_cases b0:(decide (x0≥x1))=true
 ·try simp only [if_pos b0] at h ⊢
  exact AtV.ret Try.func58 tabOk ext58Ok mixed false [] tys58 [true] (a1 b0 trivial) (by kernel_rfl)
 ·try simp only [if_neg b0] at h ⊢
  replace b0:=bf_ b0
  exact AtV.ret Try.func58 tabOk ext58Ok mixed false [] tys58 [false] (a1 b0 trivial) (by kernel_rfl)
def S58:Am.Spec:={ sig:=sig58,pre:=fun ⟨x0,x1,x2,_⟩=>P58 x0 x1 x2,res:=fun ⟨x0,x1,x2,_⟩=>[⟨.bool,g58_0 x0 x1 x2⟩],kds:=kds58 }
theorem con58:Contract Try.prog 58 S58:=contract_of Try.func58 hb58 (bl_ (by kernel_rfl)) (fun ⟨x0,x1,x2,_⟩ h _ K q=>at58 x0 x1 x2 h K q)
end
noncomputable section
def ext29:Ext:=[(58,S58)]
theorem ext29Ok:ExtOk Try.prog ext29:=⟨⟨ca58,con58⟩,trivial⟩
noncomputable def b29:Code:=bodyOf Try.f29
theorem hb29:Try.f29.body=some b29:=by kernel_rfl
def sig29:List AT:=[AT.v (.int .i64)]
def tys29:List Ty:=[.bool]
def kds29:List RK:=[]
def oks29:List AT:=owns sig29
def P29 (x0:Int):Prop:=True
def g29_0 (x0:Int):Bool:=g58_0 x0 1 3
theorem at29 (x0:Int) (h:P29 x0) (K:Ctx) (q:Nat→Value):AtV Try.prog 29 (PostR kds29 oks29 [⟨.bool,g29_0 x0⟩] [] [] q K) 5 K q [] [.code b29] (entE 0 0 sig29 (x0,())) (entL sig29 (x0,())):=by
 unfold P29 at h
 unfold g29_0
 exact AtV.ret Try.func29 tabOk ext29Ok mixed false [] tys29 [] (a1 trivial trivial) (by kernel_rfl)
def S29:Am.Spec:={ sig:=sig29,pre:=fun ⟨x0,_⟩=>P29 x0,res:=fun ⟨x0,_⟩=>[⟨.bool,g29_0 x0⟩],kds:=kds29 }
theorem con29:Contract Try.prog 29 S29:=contract_of Try.func29 hb29 (bl_ (by kernel_rfl)) (fun ⟨x0,_⟩ h _ K q=>at29 x0 h K q)
end
noncomputable section
def ext56:Ext:=[(28,S28),(78,S78),(29,S29)]
theorem ext56Ok:ExtOk Try.prog ext56:=⟨⟨ca28,con28⟩,⟨ca78,con78⟩,⟨ca29,con29⟩,trivial⟩
noncomputable def b56:Code:=bodyOf Try.f56
theorem hb56:Try.f56.body=some b56:=by kernel_rfl
def sig56:List AT:=[AT.v (.sl YA3),AT.p YA1]
def tys56:List Ty:=[.bool]
def kds56:List RK:=[]
def oks56:List AT:=owns sig56
def P56 (x0:List (ByteArray×List ByteArray×Unit)) (x1:ByteArray×ByteArray×Int×Unit):Prop:=True
def g56_0 (x0:List (ByteArray×List ByteArray×Unit)) (x1:ByteArray×ByteArray×Int×Unit):Bool:=(if (decide (g28_0 x0 x1.1≥0))=true then (if (g78_0 x1.2.1)=true then g29_0 x1.2.2.1 else false) else false)
theorem at56 (x0:List (ByteArray×List ByteArray×Unit)) (x1:ByteArray×ByteArray×Int×Unit) (h:P56 x0 x1) (K:Ctx) (q:Nat→Value):AtV Try.prog 56 (PostR kds56 oks56 [⟨.bool,g56_0 x0 x1⟩] [] [] q K) 26 K q [] [.code b56] (entE 0 0 sig56 (x0,x1,())) (entL sig56 (x0,x1,())):=by
 unfold P56 at h
 unfold g56_0
 by_cases b0:(decide (g28_0 x0 x1.1≥0))=true
 ·try simp only [if_pos b0] at h ⊢
  by_cases b1:(g78_0 x1.2.1)=true
  ·try simp only [if_pos b1] at h ⊢
   exact AtV.ret Try.func56 tabOk ext56Ok mixed false [] tys56 [true,true] (a1 trivial (a1 b0 (a1 trivial (a1 b1 (a1 trivial trivial))))) (by kernel_rfl)
  ·try simp only [if_neg b1] at h ⊢
   replace b1:=bf_ b1
   exact AtV.ret Try.func56 tabOk ext56Ok mixed false [] tys56 [true,false] (a1 trivial (a1 b0 (a1 trivial (a1 b1 trivial)))) (by kernel_rfl)
 ·try simp only [if_neg b0] at h ⊢
  replace b0:=bf_ b0
  exact AtV.ret Try.func56 tabOk ext56Ok mixed false [] tys56 [false,false] (a1 trivial (a1 b0 (a1 (rfl:false=false) trivial))) (by kernel_rfl)
def S56:Am.Spec:={ sig:=sig56,pre:=fun ⟨x0,x1,_⟩=>P56 x0 x1,res:=fun ⟨x0,x1,_⟩=>[⟨.bool,g56_0 x0 x1⟩],kds:=kds56 }
theorem con56:Contract Try.prog 56 S56:=contract_of Try.func56 hb56 (bl_ (by kernel_rfl)) (fun ⟨x0,x1,_⟩ h _ K q=>at56 x0 x1 h K q)
end
noncomputable section
def ext57:Ext:=[]
theorem ext57Ok:ExtOk Try.prog ext57:=trivial
noncomputable def b57:Code:=bodyOf Try.f57
theorem hb57:Try.f57.body=some b57:=by kernel_rfl
def sig57:List AT:=[AT.p YA1,AT.p YA1]
def tys57:List Ty:=[.bool]
def kds57:List RK:=[]
def oks57:List AT:=owns sig57
def P57 (x0:ByteArray×ByteArray×Int×Unit) (x1:ByteArray×ByteArray×Int×Unit):Prop:=True
def g57_0 (x0:ByteArray×ByteArray×Int×Unit) (x1:ByteArray×ByteArray×Int×Unit):Bool:=(if (!ByteArray.toList x0.1==ByteArray.toList x1.1)=true then Op.bytesLess (ByteArray.toList x0.1) (ByteArray.toList x1.1) else (if (!ByteArray.toList x0.2.1==ByteArray.toList x1.2.1)=true then Op.bytesLess (ByteArray.toList x0.2.1) (ByteArray.toList x1.2.1) else decide (x0.2.2.1<x1.2.2.1)))
theorem at57 (x0:ByteArray×ByteArray×Int×Unit) (x1:ByteArray×ByteArray×Int×Unit) (h:P57 x0 x1) (K:Ctx) (q:Nat→Value):AtV Try.prog 57 (PostR kds57 oks57 [⟨.bool,g57_0 x0 x1⟩] [] [] q K) 50 K q [] [.code b57] (entE 0 0 sig57 (x0,x1,())) (entL sig57 (x0,x1,())):=by
 unfold P57 at h
 unfold g57_0
 by_cases b0:(!ByteArray.toList x0.1==ByteArray.toList x1.1)=true
 ·try simp only [if_pos b0] at h ⊢
  exact AtV.ret Try.func57 tabOk ext57Ok mixed false [] tys57 [true] (a1 b0 trivial) (by kernel_rfl)
 ·try simp only [if_neg b0] at h ⊢
  replace b0:=bf_ b0
  by_cases b1:(!ByteArray.toList x0.2.1==ByteArray.toList x1.2.1)=true
  ·try simp only [if_pos b1] at h ⊢
   exact AtV.ret Try.func57 tabOk ext57Ok mixed false [] tys57 [false,true] (a1 b0 (a1 b1 trivial)) (by kernel_rfl)
  ·try simp only [if_neg b1] at h ⊢
   replace b1:=bf_ b1
   exact AtV.ret Try.func57 tabOk ext57Ok mixed false [] tys57 [false,false] (a1 b0 (a1 b1 trivial)) (by kernel_rfl)
def S57:Am.Spec:={ sig:=sig57,pre:=fun ⟨x0,x1,_⟩=>P57 x0 x1,res:=fun ⟨x0,x1,_⟩=>[⟨.bool,g57_0 x0 x1⟩],kds:=kds57 }
theorem con57:Contract Try.prog 57 S57:=contract_of Try.func57 hb57 (bl_ (by kernel_rfl)) (fun ⟨x0,x1,_⟩ h _ K q=>at57 x0 x1 h K q)
end
noncomputable section
def ext27:Ext:=[(55,S55),(56,S56),(57,S57)]
theorem ext27Ok:ExtOk Try.prog ext27:=⟨⟨ca55,con55⟩,⟨ca56,con56⟩,⟨ca57,con57⟩,trivial⟩
noncomputable def b27:Code:=bodyOf Try.f27
theorem hb27:Try.f27.body=some b27:=by kernel_rfl
def sig27:List AT:=[AT.v (.sl YA3),AT.v (.sl YA1)]
def tys27:List Ty:=[.bool]
def kds27:List RK:=[]
def oks27:List AT:=owns sig27
def E27_4 (v5:Int) (x0:List (ByteArray×List ByteArray×Unit)) (x1:List TyB0):Env:=[(0,.a (.sl YA3 x0)),(1,.a (.sl YA1 x1)),(5,.a (.val (.int .i64 v5)))]
def L27_4 (v5:Int) (x0:List (ByteArray×List ByteArray×Unit)) (x1:List TyB0):Heap:=[]
mutual
def R27:Nat→List (ByteArray×List ByteArray×Unit)→List TyB0→List Dyn→Prop
 | 0,_,_,_=>False
 | n+1,x0,x1,ds=>(if (!g55_0 x0)=true then (ds=[Dyn.mk .bool false]) else (if (decide ((x1.length:Int)>48))=true then (ds=[Dyn.mk .bool false]) else (R27_4 n (0) (x0) (x1) ds)))
def R27_4:Nat→Int→List (ByteArray×List ByteArray×Unit)→List TyB0→List Dyn→Prop
 | 0,_,_,_,_=>False
 | n+1,v5,x0,x1,ds=>(if (decide (v5<(x1.length:Int)))=true then ((0≤v5)∧(v5<(x1.length:Int))∧(if (!g56_0 x0 (List.getD x1 (Int.toNat v5) (ByteArray.empty,ByteArray.empty,0,())))=true then (ds=[Dyn.mk .bool false]) else (if (decide (v5>0))=true then ((InR .i64 (v5 - 1))∧((0≤v5 - 1)∧(v5 - 1<(x1.length:Int))∧((0≤v5)∧(v5<(x1.length:Int))∧(if (!g57_0 (List.getD x1 (Int.toNat (v5 - 1)) (ByteArray.empty,ByteArray.empty,0,())) (List.getD x1 (Int.toNat v5) (ByteArray.empty,ByteArray.empty,0,())))=true then (ds=[Dyn.mk .bool false]) else ((InR .i64 (v5+1))∧(R27_4 n (v5+1) (x0) (x1) ds)))))) else ((InR .i64 (v5+1))∧(R27_4 n (v5+1) (x0) (x1) ds))))) else (ds=[Dyn.mk .bool true]))
end
theorem snd27:∀ n,(∀ (x0:List (ByteArray×List ByteArray×Unit)) (x1:List TyB0) ds,R27 n x0 x1 ds→∀ K q,AtV Try.prog 27 (PostR kds27 oks27 ds [] [] q K) 41 K q [] [.code b27] (entE 0 0 sig27 (x0,x1,())) (entL sig27 (x0,x1,())))∧(∀ (v5:Int) (x0:List (ByteArray×List ByteArray×Unit)) (x1:List TyB0) ds,R27_4 n v5 x0 x1 ds→∀ K q,AtV Try.prog 27 (PostR kds27 oks27 ds [] [] q K) 41 K q [] (cutAt b27 4) (E27_4 v5 x0 x1) (L27_4 v5 x0 x1)):=by
 intro n
 induction n with
 | zero=>exact ⟨fun _ _ _ h=>by simp only [R27] at h,fun _ _ _ _ h=>by simp only [R27_4] at h⟩
 | succ n ih =>
 obtain ⟨ih,ih4⟩:=ih
 refine ⟨?_,?_⟩
 ·intro x0 x1 ds h K q
  rw [R27] at h
  by_cases b0:(!g55_0 x0)=true
  ·rw [if_pos b0] at h
   subst h
   exact AtV.ret Try.func27 tabOk ext27Ok mixed false [] tys27 [true,true] (a1 trivial (a1 b0 (a1 (rfl:true=true) trivial))) (by kernel_rfl)
  ·rw [if_neg b0] at h
   replace b0:=bf_ b0
   by_cases b1:(decide ((x1.length:Int)>48))=true
   ·rw [if_pos b1] at h
    subst h
    exact AtV.ret Try.func27 tabOk ext27Ok mixed false [] tys27 [false,true] (a1 trivial (a1 b0 (a1 b1 trivial))) (by kernel_rfl)
   ·rw [if_neg b1] at h
    replace b1:=bf_ b1
    exact AtV.go tabOk ext27Ok mixed false [] [] [0,1,5] [] [false,false] (a1 trivial (a1 b0 (a1 b1 trivial))) (ih4 _ _ _ _ h K q) (by kernel_rfl)
 ·intro v5 x0 x1 ds h K q
  rw [R27_4] at h
  by_cases b0:(decide (v5<(x1.length:Int)))=true
  ·rw [if_pos b0] at h
   obtain ⟨s0,s1,h⟩:=h
   by_cases b1:(!g56_0 x0 (List.getD x1 (Int.toNat v5) (ByteArray.empty,ByteArray.empty,0,())))=true
   ·rw [if_pos b1] at h
    subst h
    exact AtV.ret Try.func27 tabOk ext27Ok mixed false [] tys27 [true,true,true] (a1 b0 (a1 s0 (a1 s1 (a1 trivial (a1 b1 (a1 (rfl:true=true) trivial)))))) (by kernel_rfl)
   ·rw [if_neg b1] at h
    replace b1:=bf_ b1
    by_cases b2:(decide (v5>0))=true
    ·rw [if_pos b2] at h
     obtain ⟨s2,h⟩:=h
     obtain ⟨s3,s4,h⟩:=h
     obtain ⟨s5,s6,h⟩:=h
     by_cases b3:(!g57_0 (List.getD x1 (Int.toNat (v5 - 1)) (ByteArray.empty,ByteArray.empty,0,())) (List.getD x1 (Int.toNat v5) (ByteArray.empty,ByteArray.empty,0,())))=true
     ·rw [if_pos b3] at h
      subst h
      exact AtV.ret Try.func27 tabOk ext27Ok mixed false [] tys27 [true,false,true,true] (a1 b0 (a1 s0 (a1 s1 (a1 trivial (a1 b1 (a1 b2 (a1 s2 (a1 s3 (a1 s4 (a1 s5 (a1 s6 (a1 trivial (a1 b3 trivial))))))))))))) (by kernel_rfl)
     ·rw [if_neg b3] at h
      replace b3:=bf_ b3
      obtain ⟨s7,h⟩:=h
      exact AtV.go tabOk ext27Ok mixed false [] [] [0,1,5] [] [true,false,true,false] (a1 b0 (a1 s0 (a1 s1 (a1 trivial (a1 b1 (a1 b2 (a1 s2 (a1 s3 (a1 s4 (a1 s5 (a1 s6 (a1 trivial (a1 b3 (a1 s7 trivial)))))))))))))) (ih4 _ _ _ _ h K q) (by kernel_rfl)
    ·rw [if_neg b2] at h
     replace b2:=bf_ b2
     obtain ⟨s2,h⟩:=h
     exact AtV.go tabOk ext27Ok mixed false [] [] [0,1,5] [] [true,false,false,false] (a1 b0 (a1 s0 (a1 s1 (a1 trivial (a1 b1 (a1 b2 (a1 (rfl:false=false) (a1 s2 trivial)))))))) (ih4 _ _ _ _ h K q) (by kernel_rfl)
  ·rw [if_neg b0] at h
   replace b0:=bf_ b0
   subst h
   exact AtV.ret Try.func27 tabOk ext27Ok mixed false [] tys27 [false] (a1 b0 trivial) (by kernel_rfl)
abbrev RL27:=ByteArray×List ByteArray×Unit
abbrev GR27:=ByteArray×ByteArray×Int×Unit
def ok27 (x0:List RL27) (x1:List GR27) (i:Nat) (x:GR27):Bool:=g56_0 x0 x&&(i==0||g57_0 (x1.getD (i - 1) (ByteArray.empty,ByteArray.empty,0,())) x)
def g27_0 (x0:List RL27) (x1:List GR27):Bool:=if g55_0 x0=true then (if decide ((x1.length:Int)≤48)=true then allI (ok27 x0 x1) 0 x1 else false) else false
def P27 (x0:List RL27) (x1:List GR27):Prop:=True
theorem step27 (n i:Nat) (x0:List RL27) (x1:List GR27) (hm:x1.length≤maxLen) (hi:i<x1.length) (ds:List Dyn)
  (h:if ok27 x0 x1 i (x1.getD i (ByteArray.empty,ByteArray.empty,0,()))=true then R27_4 n ((i:Int)+1) x0 x1 ds else ds=[⟨.bool,false⟩]):R27_4 (n+1) (i:Int) x0 x1 ds:=by
 have hu:=inR_up hm hi
 have hmx:maxLen≤9223372036854775807:=by decide
 rw [R27_4,if_pos (by simp only [decide_eq_true_eq];omega)]
 simp only [Int.toNat_natCast]
 refine ⟨by omega,by omega,?_⟩
 unfold ok27 at h
 by_cases h1:g56_0 x0 (x1.getD i (ByteArray.empty,ByteArray.empty,0,()))=true
 case neg =>
  have h1:=bf_ h1
  refine (if_pos (by rw [h1];rfl)).mpr ?_
  rw [h1] at h
  simpa using h
 refine (if_neg (by rw [h1];decide)).mpr ?_
 rw [h1] at h
 by_cases h0:(i:Int)>0
 case neg =>
  refine (if_neg (by simpa using h0)).mpr ?_
  have hi0:(i==0)=true:=by simp;omega
  rw [hi0] at h
  exact ⟨hu,by simpa using h⟩
 refine (if_pos (by simpa using h0)).mpr ?_
 have hi0:(i==0)=false:=by simp;omega
 have e:((i:Int) - 1).toNat=i - 1:=by omega
 have hd:InR .i64 ((i:Int) - 1):=by rw [i64_iff];omega
 rw [hi0] at h
 simp only [e]
 refine ⟨hd,by omega,by omega,by omega,by omega,?_⟩
 by_cases h3:g57_0 (x1.getD (i - 1) (ByteArray.empty,ByteArray.empty,0,())) (x1.getD i (ByteArray.empty,ByteArray.empty,0,()))=true
 ·refine (if_neg (by rw [h3];decide)).mpr ?_
  rw [h3] at h
  exact ⟨hu,by simpa using h⟩
 ·have h3:=bf_ h3
  refine (if_pos (by rw [h3];rfl)).mpr ?_
  rw [h3] at h
  simpa using h
theorem top27 (x0:List RL27) (x1:List GR27) (hw:x1.length≤maxLen):∃ n,R27 n x0 x1 [⟨.bool,g27_0 x0 x1⟩]:=by
 unfold g27_0
 by_cases c:g55_0 x0=true
 ·rw [if_pos c]
  by_cases c2:(x1.length:Int)≤48
  ·rw [if_pos (decide_eq_true c2)]
   have key:=loop_testI x1 (ByteArray.empty,ByteArray.empty,0,()) (ok27 x0 x1) [(⟨.bool,false⟩:Dyn)] [⟨.bool,true⟩] (fun n i ds=>R27_4 n i x0 x1 ds) (fun n => ?_) (fun n i hi hok ds hr => ?_) (fun n i hi hok => ?_)
   ·refine ⟨x1.length+1+1,?_⟩
    rw [R27]
    refine (if_neg (by rw [c];decide)).mpr ((if_neg (by simp only [decide_eq_true_eq];omega)).mpr ?_)
    cases h:allI (ok27 x0 x1) 0 x1 with
    | true=>rw [if_pos h] at key;simpa using key
    | false=>rw [if_neg (by rw [h];simp)] at key;simpa using key
   ·rw [R27_4,if_neg (by simp)]
   ·exact step27 n i x0 x1 hw hi ds (by rw [if_pos hok];exact hr)
   ·exact step27 n i x0 x1 hw hi _ (by rw [if_neg (by rw [hok];simp)])
  ·rw [if_neg (by simpa using c2)]
   exact ⟨1,by rw [R27];exact (if_neg (by rw [c];decide)).mpr ((if_pos (by simp only [decide_eq_true_eq];omega)).mpr rfl)⟩
 ·rw [if_neg c]
  exact ⟨1,by rw [R27];exact (if_pos (by rw [bf_ c];rfl)).mpr rfl⟩
def S27:Am.Spec:={ sig:=sig27,pre:=fun ⟨x0,x1,_⟩=>P27 x0 x1,res:=fun ⟨x0,x1,_⟩=>[⟨.bool,g27_0 x0 x1⟩] }
theorem con27:Contract Try.prog 27 S27:=contract_of Try.func27 hb27 (bl_ (by kernel_rfl)) (fun ⟨x0,x1,_⟩ h hwf K q =>
 let ⟨_,hn⟩:=top27 x0 x1 hwf.2.1.1
 (snd27 _).1 x0 x1 _ hn K q)
end
noncomputable section
def ext42:Ext:=[(27,S27),(56,S56),(57,S57)]
theorem ext42Ok:ExtOk Try.prog ext42:=⟨⟨ca27,con27⟩,⟨ca56,con56⟩,⟨ca57,con57⟩,trivial⟩
noncomputable def b42:Code:=bodyOf Try.f42
theorem hb42:Try.f42.body=some b42:=by kernel_rfl
def sig42:List AT:=[AT.v (.sl YA3),AT.v (.sl YA1),AT.v YA1]
def tys42:List Ty:=[.sl YA1,.int .i64]
def kds42:List RK:=[]
def oks42:List AT:=owns sig42
def E42_6 (v8:Int) (x1:List TyB0) (x2:ByteArray×ByteArray×Int×Unit):Env:=[(1,.a (.sl YA1 x1)),(5,.a (.optr 0 0 [])),(8,.a (.val (.int .i64 v8)))]
def L42_6 (v8:Int) (x1:List TyB0) (x2:ByteArray×ByteArray×Int×Unit):Heap:=[Option.some (Arr.mk YA1 [x2] true Option.none (Option.some false))]
mutual
def R42:Nat→List (ByteArray×List ByteArray×Unit)→List TyB0→ByteArray×ByteArray×Int×Unit→List Dyn→Prop
 | 0,_,_,_,_=>False
 | n+1,x0,x1,x2,ds=>(if (!g27_0 x0 x1)=true then (ds=[Dyn.mk (.sl YA1) [],Dyn.mk (.int .i64) 1]) else (if (!g56_0 x0 x2)=true then (ds=[Dyn.mk (.sl YA1) [],Dyn.mk (.int .i64) 2]) else (R42_6 n (0) (x1) (x2) ds)))
def R42_6:Nat→Int→List TyB0→ByteArray×ByteArray×Int×Unit→List Dyn→Prop
 | 0,_,_,_,_=>False
 | n+1,v8,x1,x2,ds=>(if (decide (v8<(x1.length:Int)))=true then ((0≤v8)∧(v8<(x1.length:Int))∧(if (g57_0 (List.getD x1 (Int.toNat v8) (ByteArray.empty,ByteArray.empty,0,())) x2)=true then ((InR .i64 (v8+1))∧(R42_6 n (v8+1) (x1) (x2) ds)) else ((0≤v8)∧(v8<(x1.length:Int))∧(if (eqD YA1 (List.getD x1 (Int.toNat v8) (ByteArray.empty,ByteArray.empty,0,())) x2)=true then (ds=[Dyn.mk (.sl YA1) [],Dyn.mk (.int .i64) 4]) else (if ((x1.length:Int)==48)=true then (ds=[Dyn.mk (.sl YA1) [],Dyn.mk (.int .i64) 5]) else ((0≤v8)∧(v8≤(x1.length:Int))∧(((0+List.length (List.take (Int.toNat v8) x1))*40≤140737488355328)∧(((List.length ([]++List.take (Int.toNat v8) x1)+1)*40≤140737488355328)∧((0≤v8)∧(v8≤(x1.length:Int))∧(((List.length ([]++List.take (Int.toNat v8) x1++[x2])+List.length (List.drop (Int.toNat v8) x1))*40≤140737488355328)∧(ds=[Dyn.mk (.sl YA1) ([]++List.take (Int.toNat v8) x1++[x2]++List.drop (Int.toNat v8) x1),Dyn.mk (.int .i64) 0]))))))))))) else (if ((x1.length:Int)==48)=true then (ds=[Dyn.mk (.sl YA1) [],Dyn.mk (.int .i64) 5]) else ((0≤v8)∧(v8≤(x1.length:Int))∧(((0+List.length (List.take (Int.toNat v8) x1))*40≤140737488355328)∧(((List.length ([]++List.take (Int.toNat v8) x1)+1)*40≤140737488355328)∧((0≤v8)∧(v8≤(x1.length:Int))∧(((List.length ([]++List.take (Int.toNat v8) x1++[x2])+List.length (List.drop (Int.toNat v8) x1))*40≤140737488355328)∧(ds=[Dyn.mk (.sl YA1) ([]++List.take (Int.toNat v8) x1++[x2]++List.drop (Int.toNat v8) x1),Dyn.mk (.int .i64) 0]))))))))
end
theorem snd42:∀ n,(∀ (x0:List (ByteArray×List ByteArray×Unit)) (x1:List TyB0) (x2:ByteArray×ByteArray×Int×Unit) ds,R42 n x0 x1 x2 ds→∀ K q,AtV Try.prog 42 (PostR kds42 oks42 ds [] [] q K) 58 K q [] [.code b42] (entE 0 0 sig42 (x0,x1,x2,())) (entL sig42 (x0,x1,x2,())))∧(∀ (v8:Int) (x1:List TyB0) (x2:ByteArray×ByteArray×Int×Unit) ds,R42_6 n v8 x1 x2 ds→∀ K q,AtV Try.prog 42 (PostR kds42 oks42 ds [] [] q K) 58 K q [] (cutAt b42 6) (E42_6 v8 x1 x2) (L42_6 v8 x1 x2)):=by
 intro n
 induction n with
 | zero=>exact ⟨fun _ _ _ _ h=>by simp only [R42] at h,fun _ _ _ _ h=>by simp only [R42_6] at h⟩
 | succ n ih =>
 obtain ⟨ih,ih6⟩:=ih
 refine ⟨?_,?_⟩
 ·intro x0 x1 x2 ds h K q
  rw [R42] at h
  by_cases b0:(!g27_0 x0 x1)=true
  ·rw [if_pos b0] at h
   subst h
   exact AtV.ret Try.func42 tabOk ext42Ok mixed false [] tys42 [true] (a1 trivial (a1 b0 trivial)) (by kernel_rfl)
  ·rw [if_neg b0] at h
   replace b0:=bf_ b0
   by_cases b1:(!g56_0 x0 x2)=true
   ·rw [if_pos b1] at h
    subst h
    exact AtV.ret Try.func42 tabOk ext42Ok mixed false [] tys42 [false,true] (a1 trivial (a1 b0 (a1 trivial (a1 b1 trivial)))) (by kernel_rfl)
   ·rw [if_neg b1] at h
    replace b1:=bf_ b1
    exact AtV.go tabOk ext42Ok mixed false [] [] [1,5,8] [0] [false,false] (a1 trivial (a1 b0 (a1 trivial (a1 b1 trivial)))) (ih6 _ _ _ _ h K q) (by kernel_rfl)
 ·intro v8 x1 x2 ds h K q
  rw [R42_6] at h
  by_cases b0:(decide (v8<(x1.length:Int)))=true
  ·rw [if_pos b0] at h
   obtain ⟨s0,s1,h⟩:=h
   by_cases b1:(g57_0 (List.getD x1 (Int.toNat v8) (ByteArray.empty,ByteArray.empty,0,())) x2)=true
   ·rw [if_pos b1] at h
    obtain ⟨s2,h⟩:=h
    exact AtV.go tabOk ext42Ok mixed false [] [] [1,5,8] [0] [true,true] (a1 b0 (a1 s0 (a1 s1 (a1 trivial (a1 b1 (a1 s2 trivial)))))) (ih6 _ _ _ _ h K q) (by kernel_rfl)
   ·rw [if_neg b1] at h
    replace b1:=bf_ b1
    obtain ⟨s2,s3,h⟩:=h
    by_cases b2:(eqD YA1 (List.getD x1 (Int.toNat v8) (ByteArray.empty,ByteArray.empty,0,())) x2)=true
    ·rw [if_pos b2] at h
     subst h
     exact AtV.ret Try.func42 tabOk ext42Ok mixed false [] tys42 [true,false,true,true] (a1 b0 (a1 s0 (a1 s1 (a1 trivial (a1 b1 (a1 b0 (a1 s2 (a1 s3 (a1 b2 trivial))))))))) (by kernel_rfl)
    ·rw [if_neg b2] at h
     replace b2:=bf_ b2
     by_cases b3:((x1.length:Int)==48)=true
     ·rw [if_pos b3] at h
      subst h
      exact AtV.ret Try.func42 tabOk ext42Ok mixed false [] tys42 [true,false,true,false,true] (a1 b0 (a1 s0 (a1 s1 (a1 trivial (a1 b1 (a1 b0 (a1 s2 (a1 s3 (a1 b2 (a1 b3 trivial)))))))))) (by kernel_rfl)
     ·rw [if_neg b3] at h
      replace b3:=bf_ b3
      obtain ⟨s4,s5,h⟩:=h
      obtain ⟨s6,h⟩:=h
      obtain ⟨s7,h⟩:=h
      obtain ⟨s8,s9,h⟩:=h
      obtain ⟨s10,h⟩:=h
      subst h
      exact AtV.ret Try.func42 tabOk ext42Ok mixed false [] tys42 [true,false,true,false,false] (a1 b0 (a1 s0 (a1 s1 (a1 trivial (a1 b1 (a1 b0 (a1 s2 (a1 s3 (a1 b2 (a1 b3 (a1 s4 (a1 s5 (a1 s6 (a1 s7 (a1 s8 (a1 s9 (a1 s10 trivial))))))))))))))))) (by kernel_rfl)
  ·rw [if_neg b0] at h
   replace b0:=bf_ b0
   by_cases b1:((x1.length:Int)==48)=true
   ·rw [if_pos b1] at h
    subst h
    exact AtV.ret Try.func42 tabOk ext42Ok mixed false [] tys42 [false,false,false,false,true] (a1 b0 (a1 (rfl:false=false) (a1 b0 (a1 (rfl:false=false) (a1 b1 trivial))))) (by kernel_rfl)
   ·rw [if_neg b1] at h
    replace b1:=bf_ b1
    obtain ⟨s0,s1,h⟩:=h
    obtain ⟨s2,h⟩:=h
    obtain ⟨s3,h⟩:=h
    obtain ⟨s4,s5,h⟩:=h
    obtain ⟨s6,h⟩:=h
    subst h
    exact AtV.ret Try.func42 tabOk ext42Ok mixed false [] tys42 [false,false,false,false,false] (a1 b0 (a1 (rfl:false=false) (a1 b0 (a1 (rfl:false=false) (a1 b1 (a1 s0 (a1 s1 (a1 s2 (a1 s3 (a1 s4 (a1 s5 (a1 s6 trivial)))))))))))) (by kernel_rfl)
abbrev RL42:=ByteArray×List ByteArray×Unit
abbrev GR42:=ByteArray×ByteArray×Int×Unit
abbrev GY42:Ty := .cons .str (.cons .str (.cons (.int .i64) .unit))
abbrev D42:GR42:=(ByteArray.empty,ByteArray.empty,0,())
def at42 (x:GR42):List GR42→Nat
 | []=>0
 | y :: r=>if g57_0 y x=true then at42 x r+1 else 0
def code42 (x1:List GR42) (x2:GR42) (i:Nat):Int:=if (decide (i<x1.length)&&eqD GY42 (x1.getD i D42) x2)=true then 4 else if ((x1.length:Int)==48)=true then 5 else 0
def val42 (x1:List GR42) (x2:GR42) (i:Nat):List GR42:=if code42 x1 x2 i=0 then x1.take i++[x2]++x1.drop i else []
def g42_1 (x0:List RL42) (x1:List GR42) (x2:GR42):Int:=if (!g27_0 x0 x1)=true then 1 else if (!g56_0 x0 x2)=true then 2 else code42 x1 x2 (at42 x2 x1)
def g42_0 (x0:List RL42) (x1:List GR42) (x2:GR42):List GR42:=if (!g27_0 x0 x1)=true then [] else if (!g56_0 x0 x2)=true then [] else val42 x1 x2 (at42 x2 x1)
def P42 (x0:List RL42) (x1:List GR42) (x2:GR42):Prop:=True
theorem at_le42 (x:GR42):∀ l:List GR42,at42 x l≤l.length
 | []=>Nat.le_refl _
 | y :: r=>by
  unfold at42
  split
  ·have:=at_le42 x r
   simp only [List.length_cons]
   omega
  ·exact Nat.zero_le _
theorem run42 (x1:List GR42) (x2:GR42) (hl:x1.length≤48):∀ (k i:Nat),i+k=x1.length→R42_6 (k+1) (i:Int) x1 x2 [⟨.sl GY42,val42 x1 x2 (i+at42 x2 (x1.drop i))⟩,⟨.int .i64,code42 x1 x2 (i+at42 x2 (x1.drop i))⟩]:=by
 have hmx:maxLen≤9223372036854775807:=by decide
 intro k
 induction k with
 | zero =>
  intro i hi
  have hd:x1.drop i=[]:=List.drop_eq_nil_of_le (by omega)
  rw [hd]
  show R42_6 1 _ x1 x2 [⟨.sl GY42,val42 x1 x2 (i+0)⟩,⟨.int .i64,code42 x1 x2 (i+0)⟩]
  rw [Nat.add_zero,R42_6,if_neg (by simp only [decide_eq_true_eq];omega)]
  have hc:code42 x1 x2 i=if ((x1.length:Int)==48)=true then 5 else 0:=by
   unfold code42
   rw [if_neg (by rw [decide_eq_false (by omega)];simp)]
  unfold val42
  rw [hc]
  by_cases c:((x1.length:Int)==48)=true
  ·rw [if_pos c,if_pos c,if_neg (by decide)]
  ·rw [if_neg c,if_neg c,if_pos rfl]
   simp only [Int.toNat_natCast,List.nil_append,List.length_append,List.length_take,List.length_drop,List.length_cons,List.length_nil]
   exact ⟨by omega,by omega,by omega,by omega,by omega,by omega,by omega,by first | rfl | trivial⟩
 | succ k ih =>
  intro i hi
  have hlt:i<x1.length:=by omega
  have e3:(i:Int)+1=((i+1:Nat):Int):=by omega
  rw [drop_get x1 i D42 hlt]
  by_cases hb:g57_0 (x1.getD i D42) x2=true
  ·have ea:at42 x2 (x1.getD i D42 :: x1.drop (i+1))=at42 x2 (x1.drop (i+1))+1:=by
    conv=>lhs;unfold at42
    rw [if_pos hb]
   have:=ih (i+1) (by omega)
   rw [ea,show i+(at42 x2 (x1.drop (i+1))+1)=i+1+at42 x2 (x1.drop (i+1)) by omega,R42_6,if_pos (by simp only [decide_eq_true_eq];omega)]
   simp only [Int.toNat_natCast]
   rw [e3]
   exact ⟨by omega,by omega,(if_pos hb).mpr ⟨by rw [i64_iff];omega,this⟩⟩
  ·have ea:at42 x2 (x1.getD i D42 :: x1.drop (i+1))=0:=by
    unfold at42
    rw [if_neg hb]
   rw [ea,show i+0=i from rfl,R42_6,if_pos (by simp only [decide_eq_true_eq];omega)]
   simp only [Int.toNat_natCast]
   refine ⟨by omega,by omega,(if_neg hb).mpr ⟨by omega,by omega,?_⟩⟩
   unfold val42 code42
   rw [decide_eq_true hlt,Bool.true_and]
   by_cases he:eqD GY42 (x1.getD i D42) x2=true
   ·refine (if_pos he).mpr ?_
    rw [if_pos he,if_neg (by decide)]
   ·refine (if_neg he).mpr ?_
    rw [if_neg he]
    by_cases c:((x1.length:Int)==48)=true
    ·rw [if_pos c,if_pos c,if_neg (by decide)]
    ·rw [if_neg c,if_neg c,if_pos rfl]
     simp only [List.nil_append,List.length_append,List.length_take,List.length_drop,List.length_cons,List.length_nil]
     exact ⟨by omega,by omega,by omega,by omega,by omega,by omega,by omega,by first | rfl | trivial⟩
theorem len42 {x0:List RL42} {x1:List GR42} (h:g27_0 x0 x1=true):x1.length≤48:=by
 unfold g27_0 at h
 by_cases c:g55_0 x0=true
 case neg=>rw [if_neg c] at h;cases h
 rw [if_pos c] at h
 by_cases c2:(x1.length:Int)≤48
 ·omega
 ·rw [if_neg (by simpa using c2)] at h;cases h
theorem top42 (x0:List RL42) (x1:List GR42) (x2:GR42):∃ n,R42 n x0 x1 x2 [⟨.sl GY42,g42_0 x0 x1 x2⟩,⟨.int .i64,g42_1 x0 x1 x2⟩]:=by
 unfold g42_0 g42_1
 by_cases c:(!g27_0 x0 x1)=true
 ·exact ⟨1,by rw [R42,if_pos c,if_pos c,if_pos c]⟩
 by_cases c2:(!g56_0 x0 x2)=true
 ·exact ⟨1,by rw [R42,if_neg c,if_neg c,if_neg c,if_pos c2,if_pos c2,if_pos c2]⟩
 have hl:x1.length≤48:=len42 (x0:=x0) (by simpa using c)
 have:=run42 x1 x2 hl x1.length 0 (by omega)
 rw [List.drop_zero,Nat.zero_add] at this
 exact ⟨x1.length+1+1,by rw [R42,if_neg c,if_neg c,if_neg c,if_neg c2,if_neg c2,if_neg c2];exact this⟩
def S42:Am.Spec:={ sig:=sig42,pre:=fun ⟨x0,x1,x2,_⟩=>P42 x0 x1 x2,res:=fun ⟨x0,x1,x2,_⟩=>[⟨.sl GY42,g42_0 x0 x1 x2⟩,⟨.int .i64,g42_1 x0 x1 x2⟩] }
theorem con42:Contract Try.prog 42 S42:=contract_of Try.func42 hb42 (bl_ (by kernel_rfl)) (fun ⟨x0,x1,x2,_⟩ h hwf K q =>
 let ⟨_,hn⟩:=top42 x0 x1 x2
 (snd42 _).1 x0 x1 x2 _ hn K q)
end
theorem draw_grant {n:Int} {s:(List Int×Int×Int×Unit)} (h:SrcOk n s) (hn:n≤1000000000) (l:List (ByteArray×List ByteArray×Unit)):P19 s l∧SrcOk (n+12) (u19_0 s l):=by
 obtain ⟨p1,s1,_⟩:=text_ok h [ByteArray.mk #[98,114,97,107,101],ByteArray.mk #[114,111,112,101],ByteArray.mk #[115,116,111,99,107]] (by decide) (by omega)
 have q1:P44 s:=⟨p1,trivial⟩
 have s1:SrcOk (n+2) (u44_0 s):=s1
 obtain ⟨p2,s2,a2,b2,_⟩:=pick_ok s1 3 (by omega)
 have b2:=b2 (by decide)
 have i2:InR .i64 (1+g41_0 (u44_0 s) 3):=by rw [i64_iff];omega
 have fin:∀ {m:Int} {z:(List Int×Int×Int×Unit)},SrcOk m z→m≤2000000000→(P41 z 24∧SrcOk (m+2) (u41_0 z 24))∧(P43 (u41_0 z 24) [0,4]∧SrcOk (m+4) (u43_0 (u41_0 z 24) [0,4]))∧∀ l:List ByteArray,1≤l.length→P45 (u41_0 z 24) l∧SrcOk (m+4) (u45_0 (u41_0 z 24) l):=fun hz hm=>by
  obtain ⟨p3,s3,_⟩:=pick_ok hz 24 (by omega)
  obtain ⟨p4,s4,_⟩:=among_ok s3 [0,4] (by decide) (by omega)
  refine ⟨⟨p3,s3⟩,⟨p4,s4.up (by omega)⟩,fun l hl => ?_⟩
  obtain ⟨p5,s5,_⟩:=text_ok s3 l hl (by omega)
  exact ⟨p5,s5.up (by omega)⟩
 unfold P19 u19_0
 by_cases c:decide ((l.length:Int)>0)=true
 ·simp only [if_pos c]
  obtain ⟨p3,s3,a3,b3,_⟩:=pick_ok s2 (l.length:Int) (by omega)
  have b3:=b3 (by have:=of_decide_eq_true c;omega)
  obtain ⟨⟨f1,f2⟩,⟨f3,f4⟩,f5⟩:=fin s3 (by omega)
  obtain ⟨t1,t2⟩:=f5 [ByteArray.mk #[122,122],ByteArray.mk #[]] (by decide)
  obtain ⟨t3,t4⟩:=f5 [ByteArray.mk #[],ByteArray.mk #[66]] (by decide)
  by_cases c0:(g41_0 (u41_0 (u41_0 (u44_0 s) 3) (l.length:Int)) 24==0)=true
  ·simp only [if_pos c0]
   exact ⟨⟨q1,p2,i2,p3,a3,b3,f1,f3,trivial⟩,f4.up (by omega)⟩
  ·by_cases c1:(g41_0 (u41_0 (u41_0 (u44_0 s) 3) (l.length:Int)) 24==1)=true
   ·simp only [if_neg c0,if_pos c1]
    exact ⟨⟨q1,p2,i2,p3,a3,b3,f1,t1,trivial⟩,t2.up (by omega)⟩
   ·by_cases c2:(g41_0 (u41_0 (u41_0 (u44_0 s) 3) (l.length:Int)) 24==2)=true
    ·simp only [if_neg c0,if_neg c1,if_pos c2]
     exact ⟨⟨q1,p2,i2,p3,a3,b3,f1,t3,trivial⟩,t4.up (by omega)⟩
    ·simp only [if_neg c0,if_neg c1,if_neg c2]
     exact ⟨⟨q1,p2,i2,p3,a3,b3,f1,trivial⟩,f2.up (by omega)⟩
 ·simp only [if_neg c]
  obtain ⟨⟨f1,f2⟩,⟨f3,f4⟩,f5⟩:=fin s2 (by omega)
  obtain ⟨t1,t2⟩:=f5 [ByteArray.mk #[122,122],ByteArray.mk #[]] (by decide)
  obtain ⟨t3,t4⟩:=f5 [ByteArray.mk #[],ByteArray.mk #[66]] (by decide)
  by_cases c0:(g41_0 (u41_0 (u44_0 s) 3) 24==0)=true
  ·simp only [if_pos c0]
   exact ⟨⟨q1,p2,i2,f1,f3,trivial⟩,f4.up (by omega)⟩
  ·by_cases c1:(g41_0 (u41_0 (u44_0 s) 3) 24==1)=true
   ·simp only [if_neg c0,if_pos c1]
    exact ⟨⟨q1,p2,i2,f1,t1,trivial⟩,t2.up (by omega)⟩
   ·by_cases c2:(g41_0 (u41_0 (u44_0 s) 3) 24==2)=true
    ·simp only [if_neg c0,if_neg c1,if_pos c2]
     exact ⟨⟨q1,p2,i2,f1,t3,trivial⟩,t4.up (by omega)⟩
    ·simp only [if_neg c0,if_neg c1,if_neg c2]
     exact ⟨⟨q1,p2,i2,f1,trivial⟩,f2.up (by omega)⟩
noncomputable section
def ext17:Ext:=[(40,S40),(41,S41),(19,S19),(42,S42),(43,S43)]
theorem ext17Ok:ExtOk Try.prog ext17:=⟨⟨ca40,con40⟩,⟨ca41,con41⟩,⟨ca19,con19⟩,⟨ca42,con42⟩,⟨ca43,con43⟩,trivial⟩
noncomputable def b17:Code:=bodyOf Try.f17
theorem hb17:Try.f17.body=some b17:=by kernel_rfl
def sig17:List AT:=[AT.pb YA0]
def tys17:List Ty:=[.sl YA3,.sl YA1]
def kds17:List RK:=[.frz,.own]
def oks17:List AT:=owns sig17
def E17_4 (v6:Int) (h0:List Int×Int×Int×Unit) (h1:List TyB0) (x0:List Int×Int×Int×Unit):Env:=[(0,.a (.optr 0 0 [])),(4,.a (.sl YA3 (g40_0 x0))),(5,.a (.osl 1 Option.none)),(6,.a (.val (.int .i64 v6)))]
def L17_4 (v6:Int) (h0:List Int×Int×Int×Unit) (h1:List TyB0) (x0:List Int×Int×Int×Unit):Heap:=[Option.some (Arr.mk YA0 [h0] true Option.none (Option.some true)),Option.some (Arr.mk YA1 h1 false Option.none Option.none)]
def E17_16 (v10:Int) (h1:List TyB0) (x0:List Int×Int×Int×Unit) (h0:List Int×Int×Int×Unit):Env:=[(0,.a (.optr 0 0 [])),(4,.a (.sl YA3 (g40_0 x0))),(5,.a (.osl 1 Option.none)),(9,.a (.val (.int .i64 (g43_0 (u41_0 h0 20) [48,49])))),(10,.a (.val (.int .i64 v10)))]
def L17_16 (v10:Int) (h1:List TyB0) (x0:List Int×Int×Int×Unit) (h0:List Int×Int×Int×Unit):Heap:=[Option.some (Arr.mk YA0 [u43_0 (u41_0 h0 20) [48,49]] true Option.none (Option.some true)),Option.some (Arr.mk YA1 h1 false Option.none Option.none)]
mutual
def R17:Nat→List Int×Int×Int×Unit→List Dyn→List (Option Lst)→Prop
 | 0,_,_,_=>False
 | n+1,x0,ds,us=>((P40 x0)∧((P41 (u40_0 x0) 9)∧(R17_4 n (g41_0 (u40_0 x0) 9) (u41_0 (u40_0 x0) 9) ([]) (x0) ds us)))
def R17_4:Nat→Int→List Int×Int×Int×Unit→List TyB0→List Int×Int×Int×Unit→List Dyn→List (Option Lst)→Prop
 | 0,_,_,_,_,_,_=>False
 | n+1,v6,h0,h1,x0,ds,us=>(if (decide (v6>0))=true then ((P19 h0 (g40_0 x0))∧(if (g42_1 (g40_0 x0) h1 (g19_0 h0 (g40_0 x0))==0)=true then ((InR .i64 (v6 - 1))∧(R17_4 n (v6 - 1) (u19_0 h0 (g40_0 x0)) (g42_0 (g40_0 x0) h1 (g19_0 h0 (g40_0 x0))) (x0) ds us)) else ((InR .i64 (v6 - 1))∧(R17_4 n (v6 - 1) (u19_0 h0 (g40_0 x0)) (h1) (x0) ds us)))) else ((P41 h0 20)∧(if (g41_0 h0 20==0)=true then ((P19 (u41_0 h0 20) (g40_0 x0))∧(((List.length h1+1)*40≤140737488355328)∧(ds=[Dyn.mk (.sl YA3) (g40_0 x0),Dyn.mk (.sl YA1) (h1++[g19_0 (u41_0 h0 20) (g40_0 x0)])]∧us=[Option.some (Lst.mk YA0 [u19_0 (u41_0 h0 20) (g40_0 x0)])]))) else (if (g41_0 h0 20==1)=true then ((P43 (u41_0 h0 20) [48,49])∧(R17_16 n (0) ([]) (x0) (h0) ds us)) else (ds=[Dyn.mk (.sl YA3) (g40_0 x0),Dyn.mk (.sl YA1) h1]∧us=[Option.some (Lst.mk YA0 [u41_0 h0 20])])))))
def R17_16:Nat→Int→List TyB0→List Int×Int×Int×Unit→List Int×Int×Int×Unit→List Dyn→List (Option Lst)→Prop
 | 0,_,_,_,_,_,_=>False
 | n+1,v10,h1,x0,h0,ds,us=>(if (decide (v10<g43_0 (u41_0 h0 20) [48,49]))=true then (if (decide ((↑(List.length (g40_0 x0)):Int)>0))=true then ((0<(↑(List.length (g40_0 x0)):Int))∧((InR .i64 (Int.tdiv v10 3))∧((InR .i64 (97+Int.tdiv v10 3))∧((InR .u8 (97+Int.tdiv v10 3))∧((InR .i64 (Int.tmod v10 3))∧((InR .i64 (1+Int.tmod v10 3))∧((1+ByteArray.size (bytesStr [97+Int.tdiv v10 3])≤9223372036854775807)∧(((List.length h1+1)*40≤140737488355328)∧((InR .i64 (v10+1))∧(R17_16 n (v10+1) (h1++[((List.getD (g40_0 x0) 0 (ByteArray.empty,[],())).1,ByteArray.mk #[111]++bytesStr [97+Int.tdiv v10 3],1+Int.tmod v10 3,())]) (x0) (h0) ds us)))))))))) else (ds=[Dyn.mk (.sl YA3) (g40_0 x0),Dyn.mk (.sl YA1) h1]∧us=[Option.some (Lst.mk YA0 [u43_0 (u41_0 h0 20) [48,49]])])) else (ds=[Dyn.mk (.sl YA3) (g40_0 x0),Dyn.mk (.sl YA1) h1]∧us=[Option.some (Lst.mk YA0 [u43_0 (u41_0 h0 20) [48,49]])]))
end
theorem snd17:∀ n,(∀ (x0:List Int×Int×Int×Unit) ds us,R17 n x0 ds us→∀ K q,AtV Try.prog 17 (PostR kds17 oks17 ds us [0] q K) 78 K q [0] [.code b17] (entE 0 0 sig17 (x0,())) (entL sig17 (x0,())))∧(∀ (v6:Int) (h0:List Int×Int×Int×Unit) (h1:List TyB0) (x0:List Int×Int×Int×Unit) ds us,R17_4 n v6 h0 h1 x0 ds us→∀ K q,AtV Try.prog 17 (PostR kds17 oks17 ds us [0] q K) 78 K q [0] (cutAt b17 4) (E17_4 v6 h0 h1 x0) (L17_4 v6 h0 h1 x0))∧(∀ (v10:Int) (h1:List TyB0) (x0:List Int×Int×Int×Unit) (h0:List Int×Int×Int×Unit) ds us,R17_16 n v10 h1 x0 h0 ds us→∀ K q,AtV Try.prog 17 (PostR kds17 oks17 ds us [0] q K) 78 K q [0] (cutAt b17 16) (E17_16 v10 h1 x0 h0) (L17_16 v10 h1 x0 h0)):=by
 intro n
 induction n with
 | zero=>exact ⟨fun _ _ _ h=>by simp only [R17] at h,fun _ _ _ _ _ _ h=>by simp only [R17_4] at h,fun _ _ _ _ _ _ h=>by simp only [R17_16] at h⟩
 | succ n ih =>
 obtain ⟨ih,ih4,ih16⟩:=ih
 refine ⟨?_,?_,?_⟩
 ·intro x0 ds us h K q
  rw [R17] at h
  obtain ⟨s0,h⟩:=h
  obtain ⟨s1,h⟩:=h
  exact AtV.go tabOk ext17Ok mixed false [] [] [0,4,5,6] [0,1] [] (a1 s0 (a1 s1 trivial)) (ih4 _ _ _ _ _ _ h K q) (by kernel_rfl)
 ·intro v6 h0 h1 x0 ds us h K q
  rw [R17_4] at h
  by_cases b0:(decide (v6>0))=true
  ·rw [if_pos b0] at h
   obtain ⟨s0,h⟩:=h
   by_cases b1:(g42_1 (g40_0 x0) h1 (g19_0 h0 (g40_0 x0))==0)=true
   ·rw [if_pos b1] at h
    obtain ⟨s1,h⟩:=h
    exact AtV.go tabOk ext17Ok mixed false [] [] [0,4,5,6] [0,2] [true,true] (a1 b0 (a1 s0 (a1 trivial (a1 b1 (a1 s1 trivial))))) (ih4 _ _ _ _ _ _ h K q) (by kernel_rfl)
   ·rw [if_neg b1] at h
    replace b1:=bf_ b1
    obtain ⟨s1,h⟩:=h
    exact AtV.go tabOk ext17Ok mixed false [] [] [0,4,5,6] [0,1] [true,false] (a1 b0 (a1 s0 (a1 trivial (a1 b1 (a1 s1 trivial))))) (ih4 _ _ _ _ _ _ h K q) (by kernel_rfl)
  ·rw [if_neg b0] at h
   replace b0:=bf_ b0
   obtain ⟨s0,h⟩:=h
   by_cases b1:(g41_0 h0 20==0)=true
   ·rw [if_pos b1] at h
    obtain ⟨s1,h⟩:=h
    obtain ⟨s2,h⟩:=h
    obtain ⟨h,h'⟩:=h;subst h;subst h'
    exact AtV.ret Try.func17 tabOk ext17Ok mixed false [] tys17 [false,true] (a1 b0 (a1 s0 (a1 b1 (a1 s1 (a1 s2 trivial))))) (by kernel_rfl)
   ·rw [if_neg b1] at h
    replace b1:=bf_ b1
    by_cases b2:(g41_0 h0 20==1)=true
    ·rw [if_pos b2] at h
     obtain ⟨s1,h⟩:=h
     exact AtV.go tabOk ext17Ok mixed false [] [] [0,4,5,9,10] [0,3] [false,false,true] (a1 b0 (a1 s0 (a1 b1 (a1 b2 (a1 s1 trivial))))) (ih16 _ _ _ _ _ _ h K q) (by kernel_rfl)
    ·rw [if_neg b2] at h
     replace b2:=bf_ b2
     obtain ⟨h,h'⟩:=h;subst h;subst h'
     exact AtV.ret Try.func17 tabOk ext17Ok mixed false [] tys17 [false,false,false] (a1 b0 (a1 s0 (a1 b1 (a1 b2 trivial)))) (by kernel_rfl)
 ·intro v10 h1 x0 h0 ds us h K q
  rw [R17_16] at h
  by_cases b0:(decide (v10<g43_0 (u41_0 h0 20) [48,49]))=true
  ·rw [if_pos b0] at h
   by_cases b1:(decide ((↑(List.length (g40_0 x0)):Int)>0))=true
   ·rw [if_pos b1] at h
    obtain ⟨s0,h⟩:=h
    obtain ⟨s1,h⟩:=h
    obtain ⟨s2,h⟩:=h
    obtain ⟨s3,h⟩:=h
    obtain ⟨s4,h⟩:=h
    obtain ⟨s5,h⟩:=h
    obtain ⟨s6,h⟩:=h
    obtain ⟨s7,h⟩:=h
    obtain ⟨s8,h⟩:=h
    exact AtV.go tabOk ext17Ok mixed false [] [] [0,4,5,9,10] [0,1] [true,true] (a1 b0 (a1 b1 (a1 ((by decide):(0:Int)≤(0:Int)) (a1 s0 (a1 ((by decide):(3:Int)≠(0:Int)) (a1 s1 (a1 s2 (a1 s3 (a1 ((by decide):(3:Int)≠(0:Int)) (a1 s4 (a1 s5 (a1 s6 (a1 s7 (a1 s8 trivial)))))))))))))) (ih16 _ _ _ _ _ _ h K q) (by kernel_rfl)
   ·rw [if_neg b1] at h
    replace b1:=bf_ b1
    obtain ⟨h,h'⟩:=h;subst h;subst h'
    exact AtV.ret Try.func17 tabOk ext17Ok mixed false [] tys17 [true,false] (a1 b0 (a1 b1 trivial)) (by kernel_rfl)
  ·rw [if_neg b0] at h
   replace b0:=bf_ b0
   obtain ⟨h,h'⟩:=h;subst h;subst h'
   exact AtV.ret Try.func17 tabOk ext17Ok mixed false [] tys17 [false,false] (a1 b0 (a1 (rfl:false=false) trivial)) (by kernel_rfl)
abbrev RL17:=ByteArray×List ByteArray×Unit
abbrev GR17:=ByteArray×ByteArray×Int×Unit
abbrev RY17:Ty := .sl (.cons .str (.cons (.sl .str) .unit))
abbrev GY17:Ty := .cons .str (.cons .str (.cons (.int .i64) .unit))
abbrev ro17 (x0:(List Int×Int×Int×Unit)):List RL17:=g40_0 x0
def P17 (x0:(List Int×Int×Int×Unit)):Prop:=SrcOk 700000000 x0
def Q17 (x0:(List Int×Int×Int×Unit)) (y:List GR17) (s:(List Int×Int×Int×Unit)):Prop:=SrcOk (x0.2.1+2000) s∧y.length≤60∧∃ n,R17 n x0 [⟨RY17,ro17 x0⟩,⟨.sl GY17,y⟩] [some ⟨(.cons (.sl (.int .u8)) (.cons (.int .i64) (.cons (.int .u64) .unit))),[s]⟩]
theorem add_len17 (r:List RL17) (l:List GR17) (x:GR17) (h:(g42_1 r l x==0)=true):(g42_0 r l x).length≤49:=by
 unfold g42_1 at h
 unfold g42_0
 by_cases c:(!g27_0 r l)=true
 ·rw [if_pos c] at h;exact absurd h (by decide)
 rw [if_neg c] at h ⊢
 by_cases c2:(!g56_0 r x)=true
 ·rw [if_pos c2] at h;exact absurd h (by decide)
 rw [if_neg c2] at h ⊢
 have hl:l.length≤48:=len42 (x0:=r) (by simpa using c)
 have ha:=at_le42 x l
 unfold val42
 split
 ·simp only [List.length_append,List.length_take,List.length_drop,List.length_cons,List.length_nil]
  omega
 ·simp
theorem many17 (x0 h0:(List Int×Int×Int×Unit)) (N:Int) (hN:N≤49) (he:g43_0 (u41_0 h0 20) [48,49]=N):∀ (k:Nat) (v:Int) (h1:List GR17),v+(k:Int)=N→0≤v→(h1.length:Int)≤v →
  ∃ (n:Nat) (y:List GR17),y.length≤60∧R17_16 n v h1 x0 h0 [⟨RY17,ro17 x0⟩,⟨.sl GY17,y⟩] [some ⟨(.cons (.sl (.int .u8)) (.cons (.int .i64) (.cons (.int .u64) .unit))),[u43_0 (u41_0 h0 20) [48,49]]⟩]:=by
 intro k
 induction k with
 | zero =>
  intro v h1 hv h0' hl
  refine ⟨1,h1,by omega,?_⟩
  rw [R17_16,he,if_neg (by simp only [decide_eq_true_eq];omega)]
  exact ⟨rfl,rfl⟩
 | succ k ih =>
  intro v h1 hv h0' hl
  by_cases c:decide (((ro17 x0).length:Int)>0)=true
  ·have e1:Int.tdiv v 3=v / 3:=Int.tdiv_eq_ediv_of_nonneg h0'
   have e2:Int.tmod v 3=v % 3:=Int.tmod_eq_emod_of_nonneg h0'
   obtain ⟨n,y,a1,a2⟩:=ih (v+1) (h1++[((List.getD (ro17 x0) 0 (ByteArray.empty,[],())).1,ByteArray.mk #[111]++bytesStr [97+Int.tdiv v 3],1+Int.tmod v 3,())]) (by omega) (by omega) (by rw [List.length_append,List.length_singleton];omega)
   refine ⟨n+1,y,a1,?_⟩
   rw [R17_16,he,if_pos (by simp only [decide_eq_true_eq];omega),if_pos c]
   have hz:(bytesStr [97+Int.tdiv v 3]).size=1:=by rw [bytesStr_size];rfl
   refine ⟨by have:=of_decide_eq_true c;omega,by rw [e1,i64_iff];omega,by rw [e1,i64_iff];omega,by rw [e1,u8_iff];omega,by rw [e2,i64_iff];omega,by rw [e2,i64_iff];omega,by rw [hz];omega,by omega,by rw [i64_iff];omega,a2⟩
  ·refine ⟨1,h1,by omega,?_⟩
   rw [R17_16,he,if_pos (by simp only [decide_eq_true_eq];omega),if_neg c]
   exact ⟨rfl,rfl⟩
theorem run17 (x0:(List Int×Int×Int×Unit)):∀ (k:Nat) (v:Int) (s:(List Int×Int×Int×Unit)) (h:List GR17) (m:Int),v=(k:Int)→SrcOk m s→m+12*(k:Int)≤900000000→h.length≤49 →
  ∃ (n:Nat) (y:List GR17) (z:(List Int×Int×Int×Unit)),SrcOk (m+12*(k:Int)+20) z∧y.length≤60∧R17_4 n v s h x0 [⟨RY17,ro17 x0⟩,⟨.sl GY17,y⟩] [some ⟨(.cons (.sl (.int .u8)) (.cons (.int .i64) (.cons (.int .u64) .unit))),[z]⟩]:=by
 intro k
 induction k with
 | zero =>
  intro v s h m hv hs hm hl
  obtain ⟨p1,s1,_⟩:=pick_ok hs 20 (by omega)
  by_cases c0:(g41_0 s 20==0)=true
  ·obtain ⟨p2,s2⟩:=draw_grant s1 (by omega) (ro17 x0)
   refine ⟨1,h++[g19_0 (u41_0 s 20) (ro17 x0)],_,s2.up (by omega),by rw [List.length_append,List.length_singleton];omega,?_⟩
   rw [R17_4,if_neg (by simp only [decide_eq_true_eq];omega)]
   exact ⟨p1,(if_pos c0).mpr ⟨p2,by omega,rfl,rfl⟩⟩
  ·by_cases c1:(g41_0 s 20==1)=true
   ·obtain ⟨p2,s2,hm2⟩:=among_ok s1 [48,49] (by decide) (by omega)
    have hN:g43_0 (u41_0 s 20) [48,49]≤49∧0≤g43_0 (u41_0 s 20) [48,49]:=by
     simp only [List.mem_cons,List.mem_nil_iff,or_false] at hm2
     omega
    obtain ⟨n,y,a1,a2⟩:=many17 x0 s _ hN.1 rfl (g43_0 (u41_0 s 20) [48,49]).toNat 0 [] (by omega) (by omega) (by simp)
    refine ⟨n+1,y,_,s2.up (by omega),a1,?_⟩
    rw [R17_4,if_neg (by simp only [decide_eq_true_eq];omega)]
    exact ⟨p1,(if_neg c0).mpr ((if_pos c1).mpr ⟨p2,a2⟩)⟩
   ·refine ⟨1,h,_,s1.up (by omega),by omega,?_⟩
    rw [R17_4,if_neg (by simp only [decide_eq_true_eq];omega)]
    exact ⟨p1,(if_neg c0).mpr ((if_neg c1).mpr ⟨rfl,rfl⟩)⟩
 | succ k ih =>
  intro v s h m hv hs hm hl
  have hb:0≤m:=Int.le_trans hs.2.1 hs.2.2
  obtain ⟨p1,s1⟩:=draw_grant hs (by omega) (ro17 x0)
  by_cases c:(g42_1 (ro17 x0) h (g19_0 s (ro17 x0))==0)=true
  ·obtain ⟨n,y,z,a1,a2,a3⟩:=ih (v - 1) _ (g42_0 (ro17 x0) h (g19_0 s (ro17 x0))) _ (by omega) s1 (by omega) (add_len17 _ _ _ c)
   refine ⟨n+1,y,z,a1.up (by omega),a2,?_⟩
   rw [R17_4,if_pos (by simp only [decide_eq_true_eq];omega)]
   exact ⟨p1,(if_pos c).mpr ⟨by rw [i64_iff];omega,a3⟩⟩
  ·obtain ⟨n,y,z,a1,a2,a3⟩:=ih (v - 1) _ h _ (by omega) s1 (by omega) hl
   refine ⟨n+1,y,z,a1.up (by omega),a2,?_⟩
   rw [R17_4,if_pos (by simp only [decide_eq_true_eq];omega)]
   exact ⟨p1,(if_neg c).mpr ⟨by rw [i64_iff];omega,a3⟩⟩
theorem ex17 (x0:(List Int×Int×Int×Unit)) (h:P17 x0):∃ y s,Q17 x0 y s:=by
 have h0:x0.2.1≤700000000:=h.2.2
 have p1:P40 x0:=h.up (by decide)
 obtain ⟨s1,_⟩:=q40 x0 p1
 obtain ⟨p2,s2,a2,b2,_⟩:=pick_ok s1 9 (by omega)
 have b2:=b2 (by decide)
 obtain ⟨n,y,t,a1,a3,a4⟩:=run17 x0 (g41_0 (u40_0 x0) 9).toNat (g41_0 (u40_0 x0) 9) _ [] _ (by omega) s2 (by omega) (by simp)
 exact ⟨y,t,a1.up (by omega),a3,n+1,by rw [R17];exact ⟨p1,p2,a4⟩⟩
def g17_0 (x0:(List Int×Int×Int×Unit)):List RL17:=ro17 x0
def g17_1 (x0:(List Int×Int×Int×Unit)):List GR17:=(sel2 [] x0 (Q17 x0)).1
def u17_0 (x0:(List Int×Int×Int×Unit)):(List Int×Int×Int×Unit):=(sel2 ([]:List GR17) x0 (Q17 x0)).2
theorem q17 (x0:(List Int×Int×Int×Unit)) (h:P17 x0):Q17 x0 (g17_1 x0) (u17_0 x0):=by
 obtain ⟨y,s,hq⟩:=ex17 x0 h
 exact sel2_spec hq
def S17:Am.Spec:={ sig:=sig17,pre:=fun ⟨x0,_⟩=>P17 x0,upd:=fun ⟨x0,_⟩=>[some ⟨(.cons (.sl (.int .u8)) (.cons (.int .i64) (.cons (.int .u64) .unit))),[u17_0 x0]⟩],res:=fun ⟨x0,_⟩=>[⟨RY17,g17_0 x0⟩,⟨.sl GY17,g17_1 x0⟩],kds:=kds17 }
theorem con17:Contract Try.prog 17 S17:=contract_of Try.func17 hb17 (bl_ (by kernel_rfl)) (fun ⟨x0,_⟩ h hwf K q =>
 let ⟨n,hn⟩:=(q17 x0 h).2.2
 (snd17 n).1 x0 _ _ hn K q)
end
noncomputable section
def ext5:Ext:=[(16,S16),(17,S17),(18,S18),(19,S19)]
theorem ext5Ok:ExtOk Try.prog ext5:=⟨⟨ca16,con16⟩,⟨ca17,con17⟩,⟨ca18,con18⟩,⟨ca19,con19⟩,trivial⟩
noncomputable def b5:Code:=bodyOf Try.f5
theorem hb5:Try.f5.body=some b5:=by kernel_rfl
def sig5:List AT:=[AT.v (.sl (.int .u8))]
def tys5:List Ty:=[.sl YA3,.sl YA1,.cons .str YA4]
def kds5:List RK:=[.frz,.own,.own]
def oks5:List AT:=owns sig5
def P5 (x0:List Int):Prop:=((P17 (g16_0 x0))∧(if (decide ((↑(List.length (g17_1 (g16_0 x0))):Int)>0))=true then ((P18 (u17_0 (g16_0 x0)) 8)∧(if (g18_0 (u17_0 (g16_0 x0)) 8)=true then ((0<(↑(List.length (g17_1 (g16_0 x0))):Int))∧True) else ((P19 (u18_0 (u17_0 (g16_0 x0)) 8) (g17_0 (g16_0 x0)))∧True))) else ((P19 (u17_0 (g16_0 x0)) (g17_0 (g16_0 x0)))∧True)))
def g5_0 (x0:List Int):List (ByteArray×List ByteArray×Unit):=(if (decide ((↑(List.length (g17_1 (g16_0 x0))):Int)>0))=true then (if (g18_0 (u17_0 (g16_0 x0)) 8)=true then g17_0 (g16_0 x0) else g17_0 (g16_0 x0)) else g17_0 (g16_0 x0))
def g5_1 (x0:List Int):List TyB0:=(if (decide ((↑(List.length (g17_1 (g16_0 x0))):Int)>0))=true then (if (g18_0 (u17_0 (g16_0 x0)) 8)=true then g17_1 (g16_0 x0) else g17_1 (g16_0 x0)) else g17_1 (g16_0 x0))
def g5_2 (x0:List Int):ByteArray×ByteArray×Int×Unit:=(if (decide ((↑(List.length (g17_1 (g16_0 x0))):Int)>0))=true then (if (g18_0 (u17_0 (g16_0 x0)) 8)=true then List.getD (g17_1 (g16_0 x0)) 0 (ByteArray.empty,ByteArray.empty,0,()) else g19_0 (u18_0 (u17_0 (g16_0 x0)) 8) (g17_0 (g16_0 x0))) else g19_0 (u17_0 (g16_0 x0)) (g17_0 (g16_0 x0)))
theorem at5 (x0:List Int) (h:P5 x0) (K:Ctx) (q:Nat→Value):AtV Try.prog 5 (PostR kds5 oks5 [⟨.sl YA3,g5_0 x0⟩,⟨.sl YA1,g5_1 x0⟩,⟨.cons .str YA4,g5_2 x0⟩] [] [] q K) 32 K q [] [.code b5] (entE 0 0 sig5 (x0,())) (entL sig5 (x0,())):=by
 unfold P5 at h
 unfold g5_0 g5_1 g5_2
 obtain ⟨s0,h⟩:=h
 by_cases b0:(decide ((↑(List.length (g17_1 (g16_0 x0))):Int)>0))=true
 ·try simp only [if_pos b0] at h ⊢
  obtain ⟨s1,h⟩:=h
  by_cases b1:(g18_0 (u17_0 (g16_0 x0)) 8)=true
  ·try simp only [if_pos b1] at h ⊢
   obtain ⟨s2,h⟩:=h
   exact AtV.ret Try.func5 tabOk ext5Ok mixed false [] tys5 [true,true] (a1 trivial (a1 s0 (a1 b0 (a1 s1 (a1 b1 (a1 ((by decide):(0:Int)≤(0:Int)) (a1 s2 trivial))))))) (by kernel_rfl)
  ·try simp only [if_neg b1] at h ⊢
   replace b1:=bf_ b1
   obtain ⟨s2,h⟩:=h
   exact AtV.ret Try.func5 tabOk ext5Ok mixed false [] tys5 [true,false] (a1 trivial (a1 s0 (a1 b0 (a1 s1 (a1 b1 (a1 s2 trivial)))))) (by kernel_rfl)
 ·try simp only [if_neg b0] at h ⊢
  replace b0:=bf_ b0
  obtain ⟨s1,h⟩:=h
  exact AtV.ret Try.func5 tabOk ext5Ok mixed false [] tys5 [false,false] (a1 trivial (a1 s0 (a1 b0 (a1 (rfl:false=false) (a1 s1 trivial))))) (by kernel_rfl)
def S5:Am.Spec:={ sig:=sig5,pre:=fun ⟨x0,_⟩=>P5 x0,res:=fun ⟨x0,_⟩=>[⟨.sl YA3,g5_0 x0⟩,⟨.sl YA1,g5_1 x0⟩,⟨.cons .str YA4,g5_2 x0⟩],kds:=kds5 }
theorem con5:Contract Try.prog 5 S5:=contract_of Try.func5 hb5 (bl_ (by kernel_rfl)) (fun ⟨x0,_⟩ h _ K q=>at5 x0 h K q)
end
noncomputable section
def ext51:Ext:=[]
theorem ext51Ok:ExtOk Try.prog ext51:=trivial
noncomputable def b51:Code:=bodyOf Try.f51
theorem hb51:Try.f51.body=some b51:=by kernel_rfl
def sig51:List AT:=[AT.v (.str)]
def tys51:List Ty:=[.bool]
def kds51:List RK:=[]
def oks51:List AT:=owns sig51
def E51_4 (v18:Int) (x0:ByteArray):Env:=[(16,.a (.osl 0 Option.none)),(17,.a (.val (.int .i64 (↑(List.length (bytesOf x0)):Int)))),(18,.a (.val (.int .i64 v18)))]
def L51_4 (v18:Int) (x0:ByteArray):Heap:=[Option.some (Arr.mk (.int .u8) (bytesOf x0) false Option.none Option.none)]
mutual
def R51:Nat→ByteArray→List Dyn→Prop
 | 0,_,_=>False
 | n+1,x0,ds=>(if (decide ((↑(ByteArray.size x0):Int)<1))=true then (ds=[Dyn.mk .bool false]) else (if (decide ((↑(ByteArray.size x0):Int)>10))=true then (ds=[Dyn.mk .bool false]) else (R51_4 n (0) (x0) ds)))
def R51_4:Nat→Int→ByteArray→List Dyn→Prop
 | 0,_,_,_=>False
 | n+1,v18,x0,ds=>(if (decide (v18<(↑(List.length (bytesOf x0)):Int)))=true then ((0≤v18)∧(v18<(↑(List.length (bytesOf x0)):Int))∧(if (decide (List.getD (bytesOf x0) (Int.toNat v18) 0≥97))=true then (if (decide (List.getD (bytesOf x0) (Int.toNat v18) 0≥48))=true then (if (!decide (List.getD (bytesOf x0) (Int.toNat v18) 0≤122))=true then (if (v18==0)=true then (ds=[Dyn.mk .bool false]) else (if (!decide (List.getD (bytesOf x0) (Int.toNat v18) 0≤57))=true then (ds=[Dyn.mk .bool false]) else ((InR .i64 (v18+1))∧(R51_4 n (v18+1) (x0) ds)))) else ((InR .i64 (v18+1))∧(R51_4 n (v18+1) (x0) ds))) else (if (!decide (List.getD (bytesOf x0) (Int.toNat v18) 0≤122))=true then (if (v18==0)=true then (ds=[Dyn.mk .bool false]) else (ds=[Dyn.mk .bool false])) else ((InR .i64 (v18+1))∧(R51_4 n (v18+1) (x0) ds)))) else (if (decide (List.getD (bytesOf x0) (Int.toNat v18) 0≥48))=true then (if (v18==0)=true then (ds=[Dyn.mk .bool false]) else (if (!decide (List.getD (bytesOf x0) (Int.toNat v18) 0≤57))=true then (ds=[Dyn.mk .bool false]) else ((InR .i64 (v18+1))∧(R51_4 n (v18+1) (x0) ds)))) else (if (v18==0)=true then (ds=[Dyn.mk .bool false]) else (ds=[Dyn.mk .bool false]))))) else (ds=[Dyn.mk .bool true]))
end
theorem snd51:∀ n,(∀ (x0:ByteArray) ds,R51 n x0 ds→∀ K q,AtV Try.prog 51 (PostR kds51 oks51 ds [] [] q K) 46 K q [] [.code b51] (entE 0 0 sig51 (x0,())) (entL sig51 (x0,())))∧(∀ (v18:Int) (x0:ByteArray) ds,R51_4 n v18 x0 ds→∀ K q,AtV Try.prog 51 (PostR kds51 oks51 ds [] [] q K) 46 K q [] (cutAt b51 4) (E51_4 v18 x0) (L51_4 v18 x0)):=by
 intro n
 induction n with
 | zero=>exact ⟨fun _ _ h=>by simp only [R51] at h,fun _ _ _ h=>by simp only [R51_4] at h⟩
 | succ n ih =>
 obtain ⟨ih,ih4⟩:=ih
 refine ⟨?_,?_⟩
 ·intro x0 ds h K q
  rw [R51] at h
  by_cases b0:(decide ((↑(ByteArray.size x0):Int)<1))=true
  ·rw [if_pos b0] at h
   subst h
   exact AtV.ret Try.func51 tabOk ext51Ok mixed false [] tys51 [true,true] (a1 b0 (a1 (rfl:true=true) trivial)) (by kernel_rfl)
  ·rw [if_neg b0] at h
   replace b0:=bf_ b0
   by_cases b1:(decide ((↑(ByteArray.size x0):Int)>10))=true
   ·rw [if_pos b1] at h
    subst h
    exact AtV.ret Try.func51 tabOk ext51Ok mixed false [] tys51 [false,true] (a1 b0 (a1 b1 trivial)) (by kernel_rfl)
   ·rw [if_neg b1] at h
    replace b1:=bf_ b1
    exact AtV.go tabOk ext51Ok mixed false [] [] [16,17,18] [0] [false,false] (a1 b0 (a1 b1 trivial)) (ih4 _ _ _ h K q) (by kernel_rfl)
 ·intro v18 x0 ds h K q
  rw [R51_4] at h
  by_cases b0:(decide (v18<(↑(List.length (bytesOf x0)):Int)))=true
  ·rw [if_pos b0] at h
   obtain ⟨s0,s1,h⟩:=h
   by_cases b1:(decide (List.getD (bytesOf x0) (Int.toNat v18) 0≥97))=true
   ·rw [if_pos b1] at h
    by_cases b2:(decide (List.getD (bytesOf x0) (Int.toNat v18) 0≥48))=true
    ·rw [if_pos b2] at h
     by_cases b3:(!decide (List.getD (bytesOf x0) (Int.toNat v18) 0≤122))=true
     ·rw [if_pos b3] at h
      by_cases b4:(v18==0)=true
      ·rw [if_pos b4] at h
       subst h
       exact AtV.ret Try.func51 tabOk ext51Ok mixed false [] tys51 [true,true,true,true,true,true] (a1 b0 (a1 s0 (a1 s1 (a1 b1 (a1 b2 (a1 b3 (a1 b4 (a1 (rfl:true=true) trivial)))))))) (by kernel_rfl)
      ·rw [if_neg b4] at h
       replace b4:=bf_ b4
       by_cases b5:(!decide (List.getD (bytesOf x0) (Int.toNat v18) 0≤57))=true
       ·rw [if_pos b5] at h
        subst h
        exact AtV.ret Try.func51 tabOk ext51Ok mixed false [] tys51 [true,true,true,true,false,true] (a1 b0 (a1 s0 (a1 s1 (a1 b1 (a1 b2 (a1 b3 (a1 b4 (a1 b5 trivial)))))))) (by kernel_rfl)
       ·rw [if_neg b5] at h
        replace b5:=bf_ b5
        obtain ⟨s2,h⟩:=h
        exact AtV.go tabOk ext51Ok mixed false [] [] [16,17,18] [0] [true,true,true,true,false,false] (a1 b0 (a1 s0 (a1 s1 (a1 b1 (a1 b2 (a1 b3 (a1 b4 (a1 b5 (a1 s2 trivial))))))))) (ih4 _ _ _ h K q) (by kernel_rfl)
     ·rw [if_neg b3] at h
      replace b3:=bf_ b3
      obtain ⟨s2,h⟩:=h
      exact AtV.go tabOk ext51Ok mixed false [] [] [16,17,18] [0] [true,true,true,false,false] (a1 b0 (a1 s0 (a1 s1 (a1 b1 (a1 b2 (a1 b3 (a1 (rfl:false=false) (a1 s2 trivial)))))))) (ih4 _ _ _ h K q) (by kernel_rfl)
    ·rw [if_neg b2] at h
     replace b2:=bf_ b2
     by_cases b3:(!decide (List.getD (bytesOf x0) (Int.toNat v18) 0≤122))=true
     ·rw [if_pos b3] at h
      by_cases b4:(v18==0)=true
      ·rw [if_pos b4] at h
       subst h
       exact AtV.ret Try.func51 tabOk ext51Ok mixed false [] tys51 [true,true,false,true,true,true] (a1 b0 (a1 s0 (a1 s1 (a1 b1 (a1 b2 (a1 b3 (a1 b4 (a1 (rfl:true=true) trivial)))))))) (by kernel_rfl)
      ·rw [if_neg b4] at h
       replace b4:=bf_ b4
       subst h
       exact AtV.ret Try.func51 tabOk ext51Ok mixed false [] tys51 [true,true,false,true,false,true] (a1 b0 (a1 s0 (a1 s1 (a1 b1 (a1 b2 (a1 b3 (a1 b4 (a1 (rfl:true=true) trivial)))))))) (by kernel_rfl)
     ·rw [if_neg b3] at h
      replace b3:=bf_ b3
      obtain ⟨s2,h⟩:=h
      exact AtV.go tabOk ext51Ok mixed false [] [] [16,17,18] [0] [true,true,false,false,false] (a1 b0 (a1 s0 (a1 s1 (a1 b1 (a1 b2 (a1 b3 (a1 (rfl:false=false) (a1 s2 trivial)))))))) (ih4 _ _ _ h K q) (by kernel_rfl)
   ·rw [if_neg b1] at h
    replace b1:=bf_ b1
    by_cases b2:(decide (List.getD (bytesOf x0) (Int.toNat v18) 0≥48))=true
    ·rw [if_pos b2] at h
     by_cases b3:(v18==0)=true
     ·rw [if_pos b3] at h
      subst h
      exact AtV.ret Try.func51 tabOk ext51Ok mixed false [] tys51 [true,false,true,true,true,true] (a1 b0 (a1 s0 (a1 s1 (a1 b1 (a1 b2 (a1 (rfl:true=true) (a1 b3 (a1 (rfl:true=true) trivial)))))))) (by kernel_rfl)
     ·rw [if_neg b3] at h
      replace b3:=bf_ b3
      by_cases b4:(!decide (List.getD (bytesOf x0) (Int.toNat v18) 0≤57))=true
      ·rw [if_pos b4] at h
       subst h
       exact AtV.ret Try.func51 tabOk ext51Ok mixed false [] tys51 [true,false,true,true,false,true] (a1 b0 (a1 s0 (a1 s1 (a1 b1 (a1 b2 (a1 (rfl:true=true) (a1 b3 (a1 b4 trivial)))))))) (by kernel_rfl)
      ·rw [if_neg b4] at h
       replace b4:=bf_ b4
       obtain ⟨s2,h⟩:=h
       exact AtV.go tabOk ext51Ok mixed false [] [] [16,17,18] [0] [true,false,true,true,false,false] (a1 b0 (a1 s0 (a1 s1 (a1 b1 (a1 b2 (a1 (rfl:true=true) (a1 b3 (a1 b4 (a1 s2 trivial))))))))) (ih4 _ _ _ h K q) (by kernel_rfl)
    ·rw [if_neg b2] at h
     replace b2:=bf_ b2
     by_cases b3:(v18==0)=true
     ·rw [if_pos b3] at h
      subst h
      exact AtV.ret Try.func51 tabOk ext51Ok mixed false [] tys51 [true,false,false,true,true,true] (a1 b0 (a1 s0 (a1 s1 (a1 b1 (a1 b2 (a1 (rfl:true=true) (a1 b3 (a1 (rfl:true=true) trivial)))))))) (by kernel_rfl)
     ·rw [if_neg b3] at h
      replace b3:=bf_ b3
      subst h
      exact AtV.ret Try.func51 tabOk ext51Ok mixed false [] tys51 [true,false,false,true,false,true] (a1 b0 (a1 s0 (a1 s1 (a1 b1 (a1 b2 (a1 (rfl:true=true) (a1 b3 (a1 (rfl:true=true) trivial)))))))) (by kernel_rfl)
  ·rw [if_neg b0] at h
   replace b0:=bf_ b0
   subst h
   exact AtV.ret Try.func51 tabOk ext51Ok mixed false [] tys51 [false] (a1 b0 trivial) (by kernel_rfl)
def ok51 (i:Nat) (b:Int):Bool:=(decide (97≤b)&&decide (b≤122))||(!(i==0)&&(decide (48≤b)&&decide (b≤57)))
def g51_0 (x0:ByteArray):Bool:=decide (1≤x0.size)&&decide (x0.size≤10)&&allI ok51 0 (bytesOf x0)
def P51 (x0:ByteArray):Prop:=True
theorem step51 (n i:Nat) (x0:ByteArray) (hw:Wf .str x0) (hi:i<(bytesOf x0).length) (ds:List Dyn) :
  R51_4 (n+1) (i:Int) x0 ds↔(if ok51 i ((bytesOf x0).getD i 0)=true then R51_4 n ((i:Int)+1) x0 ds else ds=[⟨.bool,false⟩]):=by
 have hu:=inR_up (xs:=bytesOf x0) (by rw [bytesOf_length];exact hw) hi
 rw [R51_4,if_pos (by simp;omega)]
 simp only [Int.toNat_natCast]
 have hb:(0:Int)≤(i:Int)∧(i:Int)<((bytesOf x0).length:Int):=by omega
 have hz:((i:Int)==0)=(i==0):=by
  cases i with
  | zero=>rfl
  | succ k=>simp;omega
 simp only [hz,ok51,hu,true_and,hb.1,hb.2,ge_iff_le]
 by_cases h1:(97:Int)≤(bytesOf x0).getD i 0 <;> by_cases h2:(bytesOf x0).getD i 0≤122 <;> by_cases h3:(48:Int)≤(bytesOf x0).getD i 0 <;> by_cases h4:(bytesOf x0).getD i 0≤57 <;> rcases Bool.eq_false_or_eq_true (i==0) with e0 | e0 <;> first | (exfalso;omega) | simp only [h1,h2,h3,h4,e0,decide_true,decide_false,Bool.not_true,Bool.not_false,Bool.true_and,Bool.false_and,Bool.and_true,Bool.and_false,Bool.true_or,Bool.or_true,Bool.or_false,Bool.false_or,if_true,if_false,Bool.false_eq_true]
theorem top51 (x0:ByteArray) (hw:Wf .str x0):R51 (x0.size+1+1) x0 [⟨.bool,g51_0 x0⟩]:=by
 have hl:=bytesOf_length x0
 rw [R51]
 by_cases h0:(x0.size:Int)<1
 ·rw [if_pos (by simpa using h0)]
  have:¬ 1≤x0.size:=by omega
  simp [g51_0,this]
 ·rw [if_neg (by simpa using h0)]
  by_cases h1:(x0.size:Int)>10
  ·rw [if_pos (by simpa using h1)]
   have:¬ x0.size≤10:=by omega
   simp [g51_0,this]
  ·rw [if_neg (by simpa using h1)]
   have key:=loop_testI (bytesOf x0) 0 ok51 [(⟨.bool,false⟩:Dyn)] [⟨.bool,true⟩] (fun n i ds=>R51_4 n i x0 ds) (fun n => ?_) (fun n i hi hok ds hr => ?_) (fun n i hi hok => ?_)
   ·rw [hl] at key
    have e:g51_0 x0=allI ok51 0 (bytesOf x0):=by
     have a:1≤x0.size:=by omega
     have b:x0.size≤10:=by omega
     simp [g51_0,a,b]
    rw [e]
    cases h:allI ok51 0 (bytesOf x0) with
    | true=>rw [if_pos h] at key;exact key
    | false=>rw [if_neg (by rw [h];simp)] at key;exact key
   ·show R51_4 (n+1) ((bytesOf x0).length:Int) x0 _
    rw [R51_4,if_neg (by simp)]
   ·exact (step51 n i x0 hw hi ds).2 (by rw [if_pos hok];exact hr)
   ·exact (step51 n i x0 hw hi _).2 (by rw [if_neg (by rw [hok];simp)])
def S51:Am.Spec:={ sig:=sig51,pre:=fun ⟨x0,_⟩=>P51 x0,res:=fun ⟨x0,_⟩=>[⟨.bool,g51_0 x0⟩] }
theorem con51:Contract Try.prog 51 S51:=contract_of Try.func51 hb51 (bl_ (by kernel_rfl)) (fun ⟨x0,_⟩ h hwf K q =>
 (snd51 _).1 x0 _ (top51 x0 hwf.1) K q)
end
noncomputable section
def ext71:Ext:=[(51,S51)]
theorem ext71Ok:ExtOk Try.prog ext71:=⟨⟨ca51,con51⟩,trivial⟩
noncomputable def b71:Code:=bodyOf Try.f71
theorem hb71:Try.f71.body=some b71:=by kernel_rfl
def sig71:List AT:=[AT.v (.sl .str)]
def tys71:List Ty:=[.bool]
def kds71:List RK:=[]
def oks71:List AT:=owns sig71
def E71_2 (v7:Int) (x0:List ByteArray):Env:=[(0,.a (.sl .str x0)),(5,.a (.sl .str x0)),(6,.a (.val (.int .i64 (x0.length:Int)))),(7,.a (.val (.int .i64 v7)))]
def L71_2 (v7:Int) (x0:List ByteArray):Heap:=[]
mutual
def R71:Nat→List ByteArray→List Dyn→Prop
 | 0,_,_=>False
 | n+1,x0,ds=>(R71_2 n (0) (x0) ds)
def R71_2:Nat→Int→List ByteArray→List Dyn→Prop
 | 0,_,_,_=>False
 | n+1,v7,x0,ds=>(if (decide (v7<(x0.length:Int)))=true then ((0≤v7)∧(v7<(x0.length:Int))∧(if (!g51_0 (List.getD x0 (Int.toNat v7) ByteArray.empty))=true then (ds=[Dyn.mk .bool false]) else (if (decide (v7>0))=true then ((InR .i64 (v7 - 1))∧((0≤v7 - 1)∧(v7 - 1<(x0.length:Int))∧(if (Op.bytesLess (ByteArray.toList (List.getD x0 (Int.toNat v7) ByteArray.empty)) (ByteArray.toList (List.getD x0 (Int.toNat (v7 - 1)) ByteArray.empty))||ByteArray.toList (List.getD x0 (Int.toNat v7) ByteArray.empty)==ByteArray.toList (List.getD x0 (Int.toNat (v7 - 1)) ByteArray.empty))=true then (ds=[Dyn.mk .bool false]) else ((InR .i64 (v7+1))∧(R71_2 n (v7+1) (x0) ds))))) else ((InR .i64 (v7+1))∧(R71_2 n (v7+1) (x0) ds))))) else (ds=[Dyn.mk .bool true]))
end
theorem snd71:∀ n,(∀ (x0:List ByteArray) ds,R71 n x0 ds→∀ K q,AtV Try.prog 71 (PostR kds71 oks71 ds [] [] q K) 29 K q [] [.code b71] (entE 0 0 sig71 (x0,())) (entL sig71 (x0,())))∧(∀ (v7:Int) (x0:List ByteArray) ds,R71_2 n v7 x0 ds→∀ K q,AtV Try.prog 71 (PostR kds71 oks71 ds [] [] q K) 29 K q [] (cutAt b71 2) (E71_2 v7 x0) (L71_2 v7 x0)):=by
 intro n
 induction n with
 | zero=>exact ⟨fun _ _ h=>by simp only [R71] at h,fun _ _ _ h=>by simp only [R71_2] at h⟩
 | succ n ih =>
 obtain ⟨ih,ih2⟩:=ih
 refine ⟨?_,?_⟩
 ·intro x0 ds h K q
  rw [R71] at h
  exact AtV.go tabOk ext71Ok mixed false [] [] [0,5,6,7] [] [] trivial (ih2 _ _ _ h K q) (by kernel_rfl)
 ·intro v7 x0 ds h K q
  rw [R71_2] at h
  by_cases b0:(decide (v7<(x0.length:Int)))=true
  ·rw [if_pos b0] at h
   obtain ⟨s0,s1,h⟩:=h
   by_cases b1:(!g51_0 (List.getD x0 (Int.toNat v7) ByteArray.empty))=true
   ·rw [if_pos b1] at h
    subst h
    exact AtV.ret Try.func71 tabOk ext71Ok mixed false [] tys71 [true,true,true] (a1 b0 (a1 s0 (a1 s1 (a1 trivial (a1 b1 (a1 (rfl:true=true) trivial)))))) (by kernel_rfl)
   ·rw [if_neg b1] at h
    replace b1:=bf_ b1
    by_cases b2:(decide (v7>0))=true
    ·rw [if_pos b2] at h
     obtain ⟨s2,h⟩:=h
     obtain ⟨s3,s4,h⟩:=h
     by_cases b3:(Op.bytesLess (ByteArray.toList (List.getD x0 (Int.toNat v7) ByteArray.empty)) (ByteArray.toList (List.getD x0 (Int.toNat (v7 - 1)) ByteArray.empty))||ByteArray.toList (List.getD x0 (Int.toNat v7) ByteArray.empty)==ByteArray.toList (List.getD x0 (Int.toNat (v7 - 1)) ByteArray.empty))=true
     ·rw [if_pos b3] at h
      subst h
      exact AtV.ret Try.func71 tabOk ext71Ok mixed false [] tys71 [true,false,true,true] (a1 b0 (a1 s0 (a1 s1 (a1 trivial (a1 b1 (a1 b2 (a1 s2 (a1 s3 (a1 s4 (a1 b3 trivial)))))))))) (by kernel_rfl)
     ·rw [if_neg b3] at h
      replace b3:=bf_ b3
      obtain ⟨s5,h⟩:=h
      exact AtV.go tabOk ext71Ok mixed false [] [] [0,5,6,7] [] [true,false,true,false] (a1 b0 (a1 s0 (a1 s1 (a1 trivial (a1 b1 (a1 b2 (a1 s2 (a1 s3 (a1 s4 (a1 b3 (a1 s5 trivial))))))))))) (ih2 _ _ _ h K q) (by kernel_rfl)
    ·rw [if_neg b2] at h
     replace b2:=bf_ b2
     obtain ⟨s2,h⟩:=h
     exact AtV.go tabOk ext71Ok mixed false [] [] [0,5,6,7] [] [true,false,false,false] (a1 b0 (a1 s0 (a1 s1 (a1 trivial (a1 b1 (a1 b2 (a1 (rfl:false=false) (a1 s2 trivial)))))))) (ih2 _ _ _ h K q) (by kernel_rfl)
  ·rw [if_neg b0] at h
   replace b0:=bf_ b0
   subst h
   exact AtV.ret Try.func71 tabOk ext71Ok mixed false [] tys71 [false] (a1 b0 trivial) (by kernel_rfl)
def le71 (a b:ByteArray):Bool:=Op.bytesLess (ByteArray.toList a) (ByteArray.toList b)||ByteArray.toList a==ByteArray.toList b
def ok71 (x0:List ByteArray) (i:Nat) (x:ByteArray):Bool:=g51_0 x&&(i==0 || !le71 x (x0.getD (i - 1) ByteArray.empty))
def g71_0 (x0:List ByteArray):Bool:=allI (ok71 x0) 0 x0
def P71 (x0:List ByteArray):Prop:=True
theorem step71 (n i:Nat) (x0:List ByteArray) (hm:x0.length≤maxLen) (hi:i<x0.length) (ds:List Dyn)
  (h:if ok71 x0 i (x0.getD i ByteArray.empty)=true then R71_2 n ((i:Int)+1) x0 ds else ds=[⟨.bool,false⟩]):R71_2 (n+1) (i:Int) x0 ds:=by
 have hu:=inR_up hm hi
 have hmx:maxLen≤9223372036854775807:=by decide
 rw [R71_2,if_pos (by simp only [decide_eq_true_eq];omega)]
 simp only [Int.toNat_natCast]
 refine ⟨by omega,by omega,?_⟩
 unfold ok71 le71 at h
 cases h1:g51_0 (x0.getD i ByteArray.empty) with
 | false =>
  rw [if_pos (by rfl)]
  rw [h1] at h
  simpa using h
 | true =>
  rw [if_neg (by decide)]
  rw [h1] at h
  by_cases h0:(i:Int)>0
  case neg =>
   rw [if_neg (by simpa using h0)]
   have hi0:(i==0)=true:=by simp;omega
   rw [hi0] at h
   exact ⟨hu,by simpa using h⟩
  rw [if_pos (by simpa using h0)]
  have hi0:(i==0)=false:=by simp;omega
  have e:((i:Int) - 1).toNat=i - 1:=by omega
  have hd:InR .i64 ((i:Int) - 1):=by rw [i64_iff];omega
  rw [hi0] at h
  simp only [e]
  refine ⟨hd,by omega,by omega,?_⟩
  cases h3:Op.bytesLess (ByteArray.toList (x0.getD i ByteArray.empty)) (ByteArray.toList (x0.getD (i - 1) ByteArray.empty))||ByteArray.toList (x0.getD i ByteArray.empty)==ByteArray.toList (x0.getD (i - 1) ByteArray.empty) with
  | true =>
   rw [if_pos rfl]
   rw [h3] at h
   exact h
  | false =>
   rw [if_neg (by decide)]
   rw [h3] at h
   exact ⟨hu,h⟩
theorem top71 (x0:List ByteArray) (hw:x0.length≤maxLen):R71 (x0.length+1+1) x0 [⟨.bool,g71_0 x0⟩]:=by
 rw [R71]
 have key:=loop_testI x0 ByteArray.empty (ok71 x0) [(⟨.bool,false⟩:Dyn)] [⟨.bool,true⟩] (fun n i ds=>R71_2 n i x0 ds) (fun n => ?_) (fun n i hi hok ds hr => ?_) (fun n i hi hok => ?_)
 ·unfold g71_0
  cases h:allI (ok71 x0) 0 x0 with
  | true=>rw [if_pos h] at key;simpa using key
  | false=>rw [if_neg (by rw [h];simp)] at key;simpa using key
 ·rw [R71_2,if_neg (by simp)]
 ·exact step71 n i x0 hw hi ds (by rw [if_pos hok];exact hr)
 ·exact step71 n i x0 hw hi _ (by rw [if_neg (by rw [hok];simp)])
def S71:Am.Spec:={ sig:=sig71,pre:=fun ⟨x0,_⟩=>P71 x0,res:=fun ⟨x0,_⟩=>[⟨.bool,g71_0 x0⟩] }
theorem con71:Contract Try.prog 71 S71:=contract_of Try.func71 hb71 (bl_ (by kernel_rfl)) (fun ⟨x0,_⟩ h hwf K q =>
 (snd71 _).1 x0 _ (top71 x0 hwf.1.1) K q)
end
noncomputable section
def ext75:Ext:=[]
theorem ext75Ok:ExtOk Try.prog ext75:=trivial
noncomputable def b75:Code:=bodyOf Try.f75
theorem hb75:Try.f75.body=some b75:=by kernel_rfl
def sig75:List AT:=[AT.v YA3,AT.p .str]
def tys75:List Ty:=[.bool]
def kds75:List RK:=[]
def oks75:List AT:=owns sig75
def P75 (x0:ByteArray×List ByteArray×Unit) (x1:ByteArray):Prop:=True
def g75_0 (x0:ByteArray×List ByteArray×Unit) (x1:ByteArray):Bool:=ByteArray.toList x0.1==ByteArray.toList x1
theorem at75 (x0:ByteArray×List ByteArray×Unit) (x1:ByteArray) (h:P75 x0 x1) (K:Ctx) (q:Nat→Value):AtV Try.prog 75 (PostR kds75 oks75 [⟨.bool,g75_0 x0 x1⟩] [] [] q K) 8 K q [] [.code b75] (entE 0 0 sig75 (x0,x1,())) (entL sig75 (x0,x1,())):=by
 unfold P75 at h
 unfold g75_0
 exact AtV.ret Try.func75 tabOk ext75Ok mixed false [] tys75 [] trivial (by kernel_rfl)
def S75:Am.Spec:={ sig:=sig75,pre:=fun ⟨x0,x1,_⟩=>P75 x0 x1,res:=fun ⟨x0,x1,_⟩=>[⟨.bool,g75_0 x0 x1⟩],kds:=kds75 }
theorem con75:Contract Try.prog 75 S75:=contract_of Try.func75 hb75 (bl_ (by kernel_rfl)) (fun ⟨x0,x1,_⟩ h _ K q=>at75 x0 x1 h K q)
end
noncomputable section
def ext61c75:Ext:=[(75,S75)]
theorem ext61c75Ok:ExtOk Try.prog ext61c75:=⟨⟨ca75,con75⟩,trivial⟩
noncomputable def b61c75:Code:=bodyOf Try.f61
theorem hb61c75:Try.f61.body=some b61c75:=by kernel_rfl
def sig61c75:List AT:=[AT.v (.sl YA3),AT.fn 75 [(true,.str)]]
def tys61c75:List Ty:=[.int .i64]
def kds61c75:List RK:=[]
def oks61c75:List AT:=owns sig61c75
def E61c75_2 (v8:Int) (x0:List (ByteArray×List ByteArray×Unit)) (x1:ByteArray):Env:=[(0,.a (.sl YA3 x0)),(1,PV.fn 75 [Atom.ptr .str x1]),(7,.a (.val (.int .i64 (x0.length:Int)))),(8,.a (.val (.int .i64 v8)))]
def L61c75_2 (v8:Int) (x0:List (ByteArray×List ByteArray×Unit)) (x1:ByteArray):Heap:=[]
mutual
def R61c75:Nat→List (ByteArray×List ByteArray×Unit)→ByteArray→List Dyn→Prop
 | 0,_,_,_=>False
 | n+1,x0,x1,ds=>(R61c75_2 n (0) (x0) (x1) ds)
def R61c75_2:Nat→Int→List (ByteArray×List ByteArray×Unit)→ByteArray→List Dyn→Prop
 | 0,_,_,_,_=>False
 | n+1,v8,x0,x1,ds=>(if (decide (v8<(x0.length:Int)))=true then ((0≤v8)∧(v8<(x0.length:Int))∧(if (g75_0 (List.getD x0 (Int.toNat v8) (ByteArray.empty,[],())) x1)=true then (ds=[Dyn.mk (.int .i64) v8]) else ((InR .i64 (v8+1))∧(R61c75_2 n (v8+1) (x0) (x1) ds)))) else (ds=[Dyn.mk (.int .i64) (-1)]))
end
theorem snd61c75:∀ n,(∀ (x0:List (ByteArray×List ByteArray×Unit)) (x1:ByteArray) ds,R61c75 n x0 x1 ds→∀ K q,AtV Try.prog 61 (PostR kds61c75 oks61c75 ds [] [] q K) 19 K q [] [.code b61c75] (entE 0 0 sig61c75 (x0,(x1,()),())) (entL sig61c75 (x0,(x1,()),())))∧(∀ (v8:Int) (x0:List (ByteArray×List ByteArray×Unit)) (x1:ByteArray) ds,R61c75_2 n v8 x0 x1 ds→∀ K q,AtV Try.prog 61 (PostR kds61c75 oks61c75 ds [] [] q K) 19 K q [] (cutAt b61c75 2) (E61c75_2 v8 x0 x1) (L61c75_2 v8 x0 x1)):=by
 intro n
 induction n with
 | zero=>exact ⟨fun _ _ _ h=>by simp only [R61c75] at h,fun _ _ _ _ h=>by simp only [R61c75_2] at h⟩
 | succ n ih =>
 obtain ⟨ih,ih2⟩:=ih
 refine ⟨?_,?_⟩
 ·intro x0 x1 ds h K q
  rw [R61c75] at h
  exact AtV.go tabOk ext61c75Ok mixed false [] [] [0,1,7,8] [] [] trivial (ih2 _ _ _ _ h K q) (by kernel_rfl)
 ·intro v8 x0 x1 ds h K q
  rw [R61c75_2] at h
  by_cases b0:(decide (v8<(x0.length:Int)))=true
  ·rw [if_pos b0] at h
   obtain ⟨s0,s1,h⟩:=h
   by_cases b1:(g75_0 (List.getD x0 (Int.toNat v8) (ByteArray.empty,[],())) x1)=true
   ·rw [if_pos b1] at h
    subst h
    exact AtV.ret Try.func61 tabOk ext61c75Ok mixed false [] tys61c75 [true,true] (a1 b0 (a1 s0 (a1 s1 (a1 trivial (a1 b1 trivial))))) (by kernel_rfl)
   ·rw [if_neg b1] at h
    replace b1:=bf_ b1
    obtain ⟨s2,h⟩:=h
    exact AtV.go tabOk ext61c75Ok mixed false [] [] [0,1,7,8] [] [true,false] (a1 b0 (a1 s0 (a1 s1 (a1 trivial (a1 b1 (a1 s2 trivial)))))) (ih2 _ _ _ _ h K q) (by kernel_rfl)
  ·rw [if_neg b0] at h
   replace b0:=bf_ b0
   subst h
   exact AtV.ret Try.func61 tabOk ext61c75Ok mixed false [] tys61c75 [false] (a1 b0 trivial) (by kernel_rfl)
def g61c75_0 (x0:List (ByteArray×List (ByteArray)×Unit)) (y0:ByteArray):Int:=idx (x0.findIdx? (fun x=>g75_0 x y0))
def P61c75 (x0:List (ByteArray×List (ByteArray)×Unit)) (y0:ByteArray):Prop:=True
theorem top61c75 (x0:List (ByteArray×List (ByteArray)×Unit)) (y0:ByteArray) (hm:x0.length≤maxLen):R61c75 (x0.length+1+1) x0 y0 [⟨.int .i64,g61c75_0 x0 y0⟩]:=by
 rw [R61c75]
 have key:=loop_find x0 (ByteArray.empty,[],()) (fun x=>g75_0 x y0) [(⟨.int .i64, -1⟩:Dyn)] (fun k=>[⟨.int .i64,k⟩]) (fun n i ds=>R61c75_2 n i x0 y0 ds) (fun n => ?_) (fun n i hi hok ds hr => ?_) (fun n i hi hok => ?_)
 ·unfold g61c75_0
  cases h:x0.findIdx? (fun x=>g75_0 x y0) <;> rw [h] at key <;> exact key
 ·rw [R61c75_2,if_neg (by simp)]
 ·rw [R61c75_2,if_pos (by simp;omega)]
  simp only [Int.toNat_natCast]
  refine ⟨by omega,by omega,?_⟩
  rw [if_neg (by rw [hok];simp)]
  exact ⟨inR_up hm hi,hr⟩
 ·rw [R61c75_2,if_pos (by simp;omega)]
  simp only [Int.toNat_natCast]
  refine ⟨by omega,by omega,?_⟩
  rw [if_pos hok] <;> trivial
def S61c75:Am.Spec:={ sig:=sig61c75,pre:=fun ⟨x0,⟨y0,_⟩,_⟩=>P61c75 x0 y0,res:=fun ⟨x0,⟨y0,_⟩,_⟩=>[⟨.int .i64,g61c75_0 x0 y0⟩] }
theorem con61c75:Contract Try.prog 61 S61c75:=contract_of Try.func61 hb61c75 (bl_ (by kernel_rfl)) (fun ⟨x0,⟨y0,_⟩,_⟩ h hwf K q =>
 (snd61c75 _).1 x0 y0 _ (top61c75 x0 y0 hwf.1.1) K q)
end
noncomputable section
def ext50:Ext:=[(61,S61c75)]
theorem ext50Ok:ExtOk Try.prog ext50:=⟨⟨ca61,con61c75⟩,trivial⟩
noncomputable def b50:Code:=bodyOf Try.f50
theorem hb50:Try.f50.body=some b50:=by kernel_rfl
def sig50:List AT:=[AT.v (.sl YA3),AT.v (.str)]
def tys50:List Ty:=[.int .i64]
def kds50:List RK:=[]
def oks50:List AT:=owns sig50
def P50 (x0:List (ByteArray×List ByteArray×Unit)) (x1:ByteArray):Prop:=True
def g50_0 (x0:List (ByteArray×List ByteArray×Unit)) (x1:ByteArray):Int:=g61c75_0 x0 x1
theorem at50 (x0:List (ByteArray×List ByteArray×Unit)) (x1:ByteArray) (h:P50 x0 x1) (K:Ctx) (q:Nat→Value):AtV Try.prog 50 (PostR kds50 oks50 [⟨.int .i64,g50_0 x0 x1⟩] [] [] q K) 8 K q [] [.code b50] (entE 0 0 sig50 (x0,x1,())) (entL sig50 (x0,x1,())):=by
 unfold P50 at h
 unfold g50_0
 exact AtV.ret Try.func50 tabOk ext50Ok mixed false [] tys50 [] (a1 trivial trivial) (by kernel_rfl)
def S50:Am.Spec:={ sig:=sig50,pre:=fun ⟨x0,x1,_⟩=>P50 x0 x1,res:=fun ⟨x0,x1,_⟩=>[⟨.int .i64,g50_0 x0 x1⟩],kds:=kds50 }
theorem con50:Contract Try.prog 50 S50:=contract_of Try.func50 hb50 (bl_ (by kernel_rfl)) (fun ⟨x0,x1,_⟩ h _ K q=>at50 x0 x1 h K q)
end
noncomputable section
def ext73:Ext:=[(50,S50)]
theorem ext73Ok:ExtOk Try.prog ext73:=⟨⟨ca50,con50⟩,trivial⟩
noncomputable def b73:Code:=bodyOf Try.f73
theorem hb73:Try.f73.body=some b73:=by kernel_rfl
def sig73:List AT:=[AT.v (.str),AT.p (.sl (.cons .str (.cons (.sl .str) .unit)))]
def tys73:List Ty:=[.bool]
def kds73:List RK:=[]
def oks73:List AT:=owns sig73
def P73 (x0:ByteArray) (x1:List (ByteArray×List ByteArray×Unit)):Prop:=True
def g73_0 (x0:ByteArray) (x1:List (ByteArray×List ByteArray×Unit)):Bool:=decide (g50_0 x1 x0<0)
theorem at73 (x0:ByteArray) (x1:List (ByteArray×List ByteArray×Unit)) (h:P73 x0 x1) (K:Ctx) (q:Nat→Value):AtV Try.prog 73 (PostR kds73 oks73 [⟨.bool,g73_0 x0 x1⟩] [] [] q K) 8 K q [] [.code b73] (entE 0 0 sig73 (x0,x1,())) (entL sig73 (x0,x1,())):=by
 unfold P73 at h
 unfold g73_0
 exact AtV.ret Try.func73 tabOk ext73Ok mixed false [] tys73 [] (a1 trivial trivial) (by kernel_rfl)
def S73:Am.Spec:={ sig:=sig73,pre:=fun ⟨x0,x1,_⟩=>P73 x0 x1,res:=fun ⟨x0,x1,_⟩=>[⟨.bool,g73_0 x0 x1⟩],kds:=kds73 }
theorem con73:Contract Try.prog 73 S73:=contract_of Try.func73 hb73 (bl_ (by kernel_rfl)) (fun ⟨x0,x1,_⟩ h _ K q=>at73 x0 x1 h K q)
end
noncomputable section
def ext83c73:Ext:=[(73,S73)]
theorem ext83c73Ok:ExtOk Try.prog ext83c73:=⟨⟨ca73,con73⟩,trivial⟩
noncomputable def b83c73:Code:=bodyOf Try.f83
theorem hb83c73:Try.f83.body=some b83c73:=by kernel_rfl
def sig83c73:List AT:=[AT.v (.sl .str),AT.fn 73 [(true,(.sl (.cons .str (.cons (.sl .str) .unit))))]]
def tys83c73:List Ty:=[.int .i64]
def kds83c73:List RK:=[]
def oks83c73:List AT:=owns sig83c73
def E83c73_2 (v8:Int) (x0:List ByteArray) (x1:List (ByteArray×List ByteArray×Unit)):Env:=[(0,.a (.sl .str x0)),(1,PV.fn 73 [Atom.ptr (.sl YA3) x1]),(7,.a (.val (.int .i64 (x0.length:Int)))),(8,.a (.val (.int .i64 v8)))]
def L83c73_2 (v8:Int) (x0:List ByteArray) (x1:List (ByteArray×List ByteArray×Unit)):Heap:=[]
mutual
def R83c73:Nat→List ByteArray→List (ByteArray×List ByteArray×Unit)→List Dyn→Prop
 | 0,_,_,_=>False
 | n+1,x0,x1,ds=>(R83c73_2 n (0) (x0) (x1) ds)
def R83c73_2:Nat→Int→List ByteArray→List (ByteArray×List ByteArray×Unit)→List Dyn→Prop
 | 0,_,_,_,_=>False
 | n+1,v8,x0,x1,ds=>(if (decide (v8<(x0.length:Int)))=true then ((0≤v8)∧(v8<(x0.length:Int))∧(if (g73_0 (List.getD x0 (Int.toNat v8) ByteArray.empty) x1)=true then (ds=[Dyn.mk (.int .i64) v8]) else ((InR .i64 (v8+1))∧(R83c73_2 n (v8+1) (x0) (x1) ds)))) else (ds=[Dyn.mk (.int .i64) (-1)]))
end
theorem snd83c73:∀ n,(∀ (x0:List ByteArray) (x1:List (ByteArray×List ByteArray×Unit)) ds,R83c73 n x0 x1 ds→∀ K q,AtV Try.prog 83 (PostR kds83c73 oks83c73 ds [] [] q K) 19 K q [] [.code b83c73] (entE 0 0 sig83c73 (x0,(x1,()),())) (entL sig83c73 (x0,(x1,()),())))∧(∀ (v8:Int) (x0:List ByteArray) (x1:List (ByteArray×List ByteArray×Unit)) ds,R83c73_2 n v8 x0 x1 ds→∀ K q,AtV Try.prog 83 (PostR kds83c73 oks83c73 ds [] [] q K) 19 K q [] (cutAt b83c73 2) (E83c73_2 v8 x0 x1) (L83c73_2 v8 x0 x1)):=by
 intro n
 induction n with
 | zero=>exact ⟨fun _ _ _ h=>by simp only [R83c73] at h,fun _ _ _ _ h=>by simp only [R83c73_2] at h⟩
 | succ n ih =>
 obtain ⟨ih,ih2⟩:=ih
 refine ⟨?_,?_⟩
 ·intro x0 x1 ds h K q
  rw [R83c73] at h
  exact AtV.go tabOk ext83c73Ok mixed false [] [] [0,1,7,8] [] [] trivial (ih2 _ _ _ _ h K q) (by kernel_rfl)
 ·intro v8 x0 x1 ds h K q
  rw [R83c73_2] at h
  by_cases b0:(decide (v8<(x0.length:Int)))=true
  ·rw [if_pos b0] at h
   obtain ⟨s0,s1,h⟩:=h
   by_cases b1:(g73_0 (List.getD x0 (Int.toNat v8) ByteArray.empty) x1)=true
   ·rw [if_pos b1] at h
    subst h
    exact AtV.ret Try.func83 tabOk ext83c73Ok mixed false [] tys83c73 [true,true] (a1 b0 (a1 s0 (a1 s1 (a1 trivial (a1 b1 trivial))))) (by kernel_rfl)
   ·rw [if_neg b1] at h
    replace b1:=bf_ b1
    obtain ⟨s2,h⟩:=h
    exact AtV.go tabOk ext83c73Ok mixed false [] [] [0,1,7,8] [] [true,false] (a1 b0 (a1 s0 (a1 s1 (a1 trivial (a1 b1 (a1 s2 trivial)))))) (ih2 _ _ _ _ h K q) (by kernel_rfl)
  ·rw [if_neg b0] at h
   replace b0:=bf_ b0
   subst h
   exact AtV.ret Try.func83 tabOk ext83c73Ok mixed false [] tys83c73 [false] (a1 b0 trivial) (by kernel_rfl)
def g83c73_0 (x0:List (ByteArray)) (y0:List (ByteArray×List (ByteArray)×Unit)):Int:=idx (x0.findIdx? (fun x=>g73_0 x y0))
def P83c73 (x0:List (ByteArray)) (y0:List (ByteArray×List (ByteArray)×Unit)):Prop:=True
theorem top83c73 (x0:List (ByteArray)) (y0:List (ByteArray×List (ByteArray)×Unit)) (hm:x0.length≤maxLen):R83c73 (x0.length+1+1) x0 y0 [⟨.int .i64,g83c73_0 x0 y0⟩]:=by
 rw [R83c73]
 have key:=loop_find x0 ByteArray.empty (fun x=>g73_0 x y0) [(⟨.int .i64, -1⟩:Dyn)] (fun k=>[⟨.int .i64,k⟩]) (fun n i ds=>R83c73_2 n i x0 y0 ds) (fun n => ?_) (fun n i hi hok ds hr => ?_) (fun n i hi hok => ?_)
 ·unfold g83c73_0
  cases h:x0.findIdx? (fun x=>g73_0 x y0) <;> rw [h] at key <;> exact key
 ·rw [R83c73_2,if_neg (by simp)]
 ·rw [R83c73_2,if_pos (by simp;omega)]
  simp only [Int.toNat_natCast]
  refine ⟨by omega,by omega,?_⟩
  rw [if_neg (by rw [hok];simp)]
  exact ⟨inR_up hm hi,hr⟩
 ·rw [R83c73_2,if_pos (by simp;omega)]
  simp only [Int.toNat_natCast]
  refine ⟨by omega,by omega,?_⟩
  rw [if_pos hok] <;> trivial
def S83c73:Am.Spec:={ sig:=sig83c73,pre:=fun ⟨x0,⟨y0,_⟩,_⟩=>P83c73 x0 y0,res:=fun ⟨x0,⟨y0,_⟩,_⟩=>[⟨.int .i64,g83c73_0 x0 y0⟩] }
theorem con83c73:Contract Try.prog 83 S83c73:=contract_of Try.func83 hb83c73 (bl_ (by kernel_rfl)) (fun ⟨x0,⟨y0,_⟩,_⟩ h hwf K q =>
 (snd83c73 _).1 x0 y0 _ (top83c73 x0 y0 hwf.1.1) K q)
theorem any83c73 (x0:List (ByteArray)) (y0:List (ByteArray×List (ByteArray)×Unit)):decide (g83c73_0 x0 y0≥0)=x0.any (fun x=>g73_0 x y0):=by
 have:=findIdx_any (fun x=>g73_0 x y0) x0
 unfold g83c73_0
 cases h:x0.any (fun x=>g73_0 x y0) with
 | true=>rw [h] at this;simpa using this
 | false=>rw [h] at this;simpa using this
end
noncomputable section
def ext72c73:Ext:=[(83,S83c73),(73,S73)]
theorem ext72c73Ok:ExtOk Try.prog ext72c73:=⟨⟨ca83,con83c73⟩,⟨ca73,con73⟩,trivial⟩
noncomputable def b72c73:Code:=bodyOf Try.f72
theorem hb72c73:Try.f72.body=some b72c73:=by kernel_rfl
def sig72c73:List AT:=[AT.v (.sl .str),AT.fn 73 [(true,(.sl (.cons .str (.cons (.sl .str) .unit))))]]
def tys72c73:List Ty:=[.bool]
def kds72c73:List RK:=[]
def oks72c73:List AT:=owns sig72c73
def P72c73 (x0:List ByteArray) (x1:List (ByteArray×List ByteArray×Unit)):Prop:=True
def g72c73_0 (x0:List ByteArray) (x1:List (ByteArray×List ByteArray×Unit)):Bool:=decide (g83c73_0 x0 x1≥0)
theorem at72c73 (x0:List ByteArray) (x1:List (ByteArray×List ByteArray×Unit)) (h:P72c73 x0 x1) (K:Ctx) (q:Nat→Value):AtV Try.prog 72 (PostR kds72c73 oks72c73 [⟨.bool,g72c73_0 x0 x1⟩] [] [] q K) 9 K q [] [.code b72c73] (entE 0 0 sig72c73 (x0,(x1,()),())) (entL sig72c73 (x0,(x1,()),())):=by
 unfold P72c73 at h
 unfold g72c73_0
 exact AtV.ret Try.func72 tabOk ext72c73Ok mixed false [] tys72c73 [] (a1 trivial trivial) (by kernel_rfl)
def S72c73:Am.Spec:={ sig:=sig72c73,pre:=fun ⟨x0,⟨x1,_⟩,_⟩=>P72c73 x0 x1,res:=fun ⟨x0,⟨x1,_⟩,_⟩=>[⟨.bool,g72c73_0 x0 x1⟩],kds:=kds72c73 }
theorem con72c73:Contract Try.prog 72 S72c73:=contract_of Try.func72 hb72c73 (bl_ (by kernel_rfl)) (fun ⟨x0,⟨x1,_⟩,_⟩ h _ K q=>at72c73 x0 x1 h K q)
end
noncomputable section
def ext82:Ext:=[]
theorem ext82Ok:ExtOk Try.prog ext82:=trivial
noncomputable def b82:Code:=bodyOf Try.f82
theorem hb82:Try.f82.body=some b82:=by kernel_rfl
def sig82:List AT:=[AT.v (.sl .str),AT.v (.str)]
def tys82:List Ty:=[.int .i64]
def kds82:List RK:=[]
def oks82:List AT:=owns sig82
def E82_2 (v8:Int) (x0:List ByteArray) (x1:ByteArray):Env:=[(0,.a (.sl .str x0)),(1,.a (.val (.string x1))),(7,.a (.val (.int .i64 (x0.length:Int)))),(8,.a (.val (.int .i64 v8)))]
def L82_2 (v8:Int) (x0:List ByteArray) (x1:ByteArray):Heap:=[]
mutual
def R82:Nat→List ByteArray→ByteArray→List Dyn→Prop
 | 0,_,_,_=>False
 | n+1,x0,x1,ds=>(R82_2 n (0) (x0) (x1) ds)
def R82_2:Nat→Int→List ByteArray→ByteArray→List Dyn→Prop
 | 0,_,_,_,_=>False
 | n+1,v8,x0,x1,ds=>(if (decide (v8<(x0.length:Int)))=true then ((0≤v8)∧(v8<(x0.length:Int))∧(if (ByteArray.toList x1==ByteArray.toList (List.getD x0 (Int.toNat v8) ByteArray.empty))=true then (ds=[Dyn.mk (.int .i64) v8]) else ((InR .i64 (v8+1))∧(R82_2 n (v8+1) (x0) (x1) ds)))) else (ds=[Dyn.mk (.int .i64) (-1)]))
end
theorem snd82:∀ n,(∀ (x0:List ByteArray) (x1:ByteArray) ds,R82 n x0 x1 ds→∀ K q,AtV Try.prog 82 (PostR kds82 oks82 ds [] [] q K) 19 K q [] [.code b82] (entE 0 0 sig82 (x0,x1,())) (entL sig82 (x0,x1,())))∧(∀ (v8:Int) (x0:List ByteArray) (x1:ByteArray) ds,R82_2 n v8 x0 x1 ds→∀ K q,AtV Try.prog 82 (PostR kds82 oks82 ds [] [] q K) 19 K q [] (cutAt b82 2) (E82_2 v8 x0 x1) (L82_2 v8 x0 x1)):=by
 intro n
 induction n with
 | zero=>exact ⟨fun _ _ _ h=>by simp only [R82] at h,fun _ _ _ _ h=>by simp only [R82_2] at h⟩
 | succ n ih =>
 obtain ⟨ih,ih2⟩:=ih
 refine ⟨?_,?_⟩
 ·intro x0 x1 ds h K q
  rw [R82] at h
  exact AtV.go tabOk ext82Ok mixed false [] [] [0,1,7,8] [] [] trivial (ih2 _ _ _ _ h K q) (by kernel_rfl)
 ·intro v8 x0 x1 ds h K q
  rw [R82_2] at h
  by_cases b0:(decide (v8<(x0.length:Int)))=true
  ·rw [if_pos b0] at h
   obtain ⟨s0,s1,h⟩:=h
   by_cases b1:(ByteArray.toList x1==ByteArray.toList (List.getD x0 (Int.toNat v8) ByteArray.empty))=true
   ·rw [if_pos b1] at h
    subst h
    exact AtV.ret Try.func82 tabOk ext82Ok mixed false [] tys82 [true,true] (a1 b0 (a1 s0 (a1 s1 (a1 b1 trivial)))) (by kernel_rfl)
   ·rw [if_neg b1] at h
    replace b1:=bf_ b1
    obtain ⟨s2,h⟩:=h
    exact AtV.go tabOk ext82Ok mixed false [] [] [0,1,7,8] [] [true,false] (a1 b0 (a1 s0 (a1 s1 (a1 b1 (a1 s2 trivial))))) (ih2 _ _ _ _ h K q) (by kernel_rfl)
  ·rw [if_neg b0] at h
   replace b0:=bf_ b0
   subst h
   exact AtV.ret Try.func82 tabOk ext82Ok mixed false [] tys82 [false] (a1 b0 trivial) (by kernel_rfl)
def is82 (x1:ByteArray) (y:ByteArray):Bool:=ByteArray.toList x1==ByteArray.toList y
def g82_0 (x0:List ByteArray) (x1:ByteArray):Int:=idx (x0.findIdx? (is82 x1))
def P82 (x0:List ByteArray) (x1:ByteArray):Prop:=True
theorem top82 (x0:List ByteArray) (x1:ByteArray) (hm:x0.length≤maxLen):R82 (x0.length+1+1) x0 x1 [⟨.int .i64,g82_0 x0 x1⟩]:=by
 rw [R82]
 have key:=loop_find x0 ByteArray.empty (is82 x1) [(⟨.int .i64, -1⟩:Dyn)] (fun k=>[⟨.int .i64,k⟩]) (fun n i ds=>R82_2 n i x0 x1 ds) (fun n => ?_) (fun n i hi hok ds hr => ?_) (fun n i hi hok => ?_)
 ·unfold g82_0
  cases h:x0.findIdx? (is82 x1) <;> rw [h] at key <;> exact key
 ·rw [R82_2,if_neg (by simp)]
 ·rw [R82_2,if_pos (by simp;omega)]
  simp only [Int.toNat_natCast]
  refine ⟨by omega,by omega,?_⟩
  unfold is82 at hok
  rw [if_neg (by rw [hok];simp)]
  exact ⟨inR_up hm hi,hr⟩
 ·rw [R82_2,if_pos (by simp;omega)]
  simp only [Int.toNat_natCast]
  refine ⟨by omega,by omega,?_⟩
  unfold is82 at hok
  rw [if_pos hok] <;> trivial
theorem any82 (x0:List ByteArray) (x1:ByteArray):decide (g82_0 x0 x1≥0)=x0.any (is82 x1):=by
 have:=findIdx_any (is82 x1) x0
 unfold g82_0
 cases h:x0.any (is82 x1) with
 | true=>rw [h] at this;simpa using this
 | false=>rw [h] at this;simpa using this
def S82:Am.Spec:={ sig:=sig82,pre:=fun ⟨x0,x1,_⟩=>P82 x0 x1,res:=fun ⟨x0,x1,_⟩=>[⟨.int .i64,g82_0 x0 x1⟩] }
theorem con82:Contract Try.prog 82 S82:=contract_of Try.func82 hb82 (bl_ (by kernel_rfl)) (fun ⟨x0,x1,_⟩ h hwf K q =>
 (snd82 _).1 x0 x1 _ (top82 x0 x1 hwf.1.1) K q)
end
noncomputable section
def ext67:Ext:=[(82,S82)]
theorem ext67Ok:ExtOk Try.prog ext67:=⟨⟨ca82,con82⟩,trivial⟩
noncomputable def b67:Code:=bodyOf Try.f67
theorem hb67:Try.f67.body=some b67:=by kernel_rfl
def sig67:List AT:=[AT.v (.sl .str),AT.v (.str)]
def tys67:List Ty:=[.bool]
def kds67:List RK:=[]
def oks67:List AT:=owns sig67
def P67 (x0:List ByteArray) (x1:ByteArray):Prop:=True
def g67_0 (x0:List ByteArray) (x1:ByteArray):Bool:=decide (g82_0 x0 x1≥0)
theorem at67 (x0:List ByteArray) (x1:ByteArray) (h:P67 x0 x1) (K:Ctx) (q:Nat→Value):AtV Try.prog 67 (PostR kds67 oks67 [⟨.bool,g67_0 x0 x1⟩] [] [] q K) 9 K q [] [.code b67] (entE 0 0 sig67 (x0,x1,())) (entL sig67 (x0,x1,())):=by
 unfold P67 at h
 unfold g67_0
 exact AtV.ret Try.func67 tabOk ext67Ok mixed false [] tys67 [] (a1 trivial trivial) (by kernel_rfl)
def S67:Am.Spec:={ sig:=sig67,pre:=fun ⟨x0,x1,_⟩=>P67 x0 x1,res:=fun ⟨x0,x1,_⟩=>[⟨.bool,g67_0 x0 x1⟩],kds:=kds67 }
theorem con67:Contract Try.prog 67 S67:=contract_of Try.func67 hb67 (bl_ (by kernel_rfl)) (fun ⟨x0,x1,_⟩ h _ K q=>at67 x0 x1 h K q)
end
end Go.Proofs.Ythmimdpgkcadnaa
set_option linter.unusedVariables false
set_option maxRecDepth 100000
namespace Go.Proofs
open Go.Shelf
def Try.lays190_ren:Go.Shelf.Ren:=⟨fun | 190=>62 | 125=>80 | 258=>79 | 128=>96 | 129=>97 | 302=>87 | 303=>88 | 304=>89 | 305=>90 | 306=>91 | 307=>92 | 308=>93 | 309=>94 | 310=>95 | 333=>98 | 329=>99 | 330=>100 | 334=>101 | 335=>102 | 336=>69 | 344=>103 | n=>n,fun | 31=>38 | 9=>9 | 3=>3 | 46=>78 | 0=>0 | 51=>117 | 53=>70 | 4=>4 | 183=>110 | 182=>109 | 131=>53 | 5=>5 | 218=>119 | 222=>123 | 228=>125 | 229=>126 | n=>n,fun | n=>n⟩
theorem Try.lays190:Go.Proofs.Lays.n190 Try.prog Try.lays190_ren:={
 mixed:=by kernel_rfl
 f125:=Try.func80.trans (congrArg some (by kernel_rfl))
 f128:=Try.func96.trans (congrArg some (by kernel_rfl))
 f129:=Try.func97.trans (congrArg some (by kernel_rfl))
 f190:=Try.func62.trans (congrArg some (by kernel_rfl))
 f258:=Try.func79.trans (congrArg some (by kernel_rfl))
 f302:=Try.func87.trans (congrArg some (by kernel_rfl))
 f303:=Try.func88.trans (congrArg some (by kernel_rfl))
 f304:=Try.func89.trans (congrArg some (by kernel_rfl))
 f305:=Try.func90.trans (congrArg some (by kernel_rfl))
 f306:=Try.func91.trans (congrArg some (by kernel_rfl))
 f307:=Try.func92.trans (congrArg some (by kernel_rfl))
 f308:=Try.func93.trans (congrArg some (by kernel_rfl))
 f309:=Try.func94.trans (congrArg some (by kernel_rfl))
 f310:=Try.func95.trans (congrArg some (by kernel_rfl))
 f329:=Try.func99.trans (congrArg some (by kernel_rfl))
 f330:=Try.func100.trans (congrArg some (by kernel_rfl))
 f333:=Try.func98.trans (congrArg some (by kernel_rfl))
 f334:=Try.func101.trans (congrArg some (by kernel_rfl))
 f335:=Try.func102.trans (congrArg some (by kernel_rfl))
 f336:=Try.func69.trans (congrArg some (by kernel_rfl))
 f344:=Try.func103.trans (congrArg some (by kernel_rfl))
 t0:=Try.underlying0
 a0:=Try.isAgg0
 z0:=Try.sizeOf0
 v0:=Try.zeroValue0
 t3:=Try.underlying3
 a3:=Try.isAgg3
 z3:=Try.sizeOf3
 v3:=Try.zeroValue3
 t4:=Try.underlying4
 a4:=Try.isAgg4
 z4:=Try.sizeOf4
 v4:=Try.zeroValue4
 t5:=Try.underlying5
 a5:=Try.isAgg5
 z5:=Try.sizeOf5
 v5:=Try.zeroValue5
 t9:=Try.underlying9
 a9:=Try.isAgg9
 z9:=Try.sizeOf9
 v9:=Try.zeroValue9
 t31:=Try.underlying38
 a31:=Try.isAgg38
 z31:=Try.sizeOf38
 v31:=Try.zeroValue38
 t46:=Try.underlying78
 a46:=Try.isAgg78
 z46:=Try.sizeOf78
 v46:=Try.zeroValue78
 t51:=Try.underlying117
 a51:=Try.isAgg117
 z51:=Try.sizeOf117
 v51:=Try.zeroValue117
 t53:=Try.underlying70
 a53:=Try.isAgg70
 z53:=Try.sizeOf70
 v53:=Try.zeroValue70
 t131:=Try.underlying53
 a131:=Try.isAgg53
 z131:=Try.sizeOf53
 v131:=Try.zeroValue53
 t182:=Try.underlying109
 a182:=Try.isAgg109
 z182:=Try.sizeOf109
 v182:=Try.zeroValue109
 t183:=Try.underlying110
 a183:=Try.isAgg110
 z183:=Try.sizeOf110
 v183:=Try.zeroValue110
 t218:=Try.underlying119
 a218:=Try.isAgg119
 z218:=Try.sizeOf119
 v218:=Try.zeroValue119
 t222:=Try.underlying123
 a222:=Try.isAgg123
 z222:=Try.sizeOf123
 v222:=Try.zeroValue123
 t228:=Try.underlying125
 a228:=Try.isAgg125
 z228:=Try.sizeOf125
 v228:=Try.zeroValue125
 t229:=Try.underlying126
 a229:=Try.isAgg126
 z229:=Try.sizeOf126
 v229:=Try.zeroValue126 }
open Go.Sort Go.RowKit in theorem Try.slices_Sort_string (blk off cap : Nat) (ss : List (List UInt8)) (w : World) (hH : Holds encStr w blk off ss.toArray) (hblk : blk < w.heap.size) (hsz : ss.length < 4611686018427387904) :
    Calls Try.prog 62 #[.slice (some ⟨blk, off, none⟩) ss.length cap] w fun e w' =>
      e = .returned (.tuple #[]) ∧ ∃ n os, w' = grow (putRow encStr (Sort.ahead w n) blk off (ss.mergeSort fun x y => decide (x ≤ y)).toArray) os := Any.slices_Sort_string Try.lays190 blk off cap ss w hH hblk hsz
open Go.RowKit Go.Sort in theorem Try.slices_Sort_string_none (p : Option Addr) (cap : Nat) (w : World) :
    Calls Try.prog 62 #[.slice p 0 cap] w fun e w' => e = .returned (.tuple #[]) ∧ w' = w := Any.slices_Sort_string_none Try.lays190 p cap w
end Go.Proofs
set_option linter.unusedVariables false
set_option linter.unusedSimpArgs false
set_option maxRecDepth 100000
namespace Go.Proofs.Ythmimdpgkcadnaa
open Go Go.Am Go.Proofs
def sig62:List AT:=[AT.own Ty.str]
def u62_0 (x0:List ByteArray):List ByteArray:=sortB x0
def P62 (x0:List ByteArray):Prop:=x0.length≤1048576
def S62:Am.Spec:={ sig:=sig62,pre:=fun ⟨x0,_⟩=>P62 x0,upd:=fun ⟨x0,_⟩=>[some ⟨Ty.str,u62_0 x0⟩],res:=fun _=>[] }
theorem u62_perm (x0:List ByteArray):(u62_0 x0).Perm x0:=sortB_perm x0
theorem u62_bls (x0:List ByteArray):bls (u62_0 x0)=(bls x0).mergeSort fun x y=>decide (x≤y):=by
 unfold u62_0 sortB bls sbl
 rw [List.map_map]
 conv=>rhs;rw [← List.map_id (List.mergeSort _ _)]
 rfl
theorem con62:Contract Try.prog 62 S62:=by
 refine Contract0.up rfl rfl ?_
 rintro w ⟨x0,u⟩ vs bss hgo hp ⟨v,s,b,bs,rfl,rfl,ho,rfl,rfl⟩ hn
 have hp:x0.length≤1048576:=hp
 simp only [List.flatten_cons,List.flatten_nil,List.append_nil] at hn ⊢
 obtain ⟨hs,hcase⟩:=strs_own ho
 have hlen:(u62_0 x0).length=x0.length:=(u62_perm x0).length_eq
 have hs':∀ y∈u62_0 x0,y.size≤maxLen:=fun y hy=>hs y ((u62_perm x0).mem_iff.1 hy)
 have hm:x0.length≤maxLen:=by unfold maxLen;omega
 rcases hcase with ⟨ad,rfl,rfl,rfl⟩ | ⟨b',off,cap,cur,ty,fz,rfl,h2,h3,h4,h5,h6,rfl,h8⟩
 ·refine (Try.slices_Sort_string_none ad 0 w).mono ?_
  rintro e w' ⟨rfl,rfl⟩
  refine ⟨[],[[]],[],rfl,Kept.refl _ _,⟨rfl,rfl⟩,⟨_,_,_,_,rfl,rfl,?_,rfl,rfl⟩,by simp,by simp⟩
  exact ⟨_,rfl,by simp [u62_0,sortB,bls,sbl],.inl ⟨_,rfl,by simp [u62_0,sortB,bls,sbl],rfl⟩⟩
 ·have hb:b'<w.heap.size:=by
   rcases Nat.lt_or_ge b' w.heap.size with h | h
   ·exact h
   ·rw [Array.getElem?_eq_none h] at h5;cases h5
  have hbl:(bls x0).length=x0.length:=by simp [bls]
  have:=Try.slices_Sort_string b' off cap (bls x0) w (strs_holds h5 h6 h8) hb (by rw [hbl];omega)
  rw [hbl] at this
  refine this.mono ?_
  rintro e w' ⟨rfl,n,os,hw⟩
  rw [← u62_bls] at hw
  obtain ⟨g1,g2⟩:=strs_turned hlen hm hs' h2 h3 h4 h5 h6 hw
  refine ⟨[],[[b']],[],rfl,g2,⟨rfl,rfl⟩,⟨_,_,_,_,rfl,rfl,g1,rfl,rfl⟩,by simp,fun b hb hg => ?_⟩
  simp at hb
  exact hg.2 (by simp [hb])
noncomputable section
def ext64:Ext:=[(50,S50),(67,S67),(62,S62)]
theorem ext64Ok:ExtOk Try.prog ext64:=⟨⟨ca50,con50⟩,⟨ca67,con67⟩,⟨ca62,con62⟩,trivial⟩
noncomputable def b64:Code:=bodyOf Try.f64
theorem hb64:Try.f64.body=some b64:=by kernel_rfl
def sig64:List AT:=[AT.v (.sl YA3),AT.v (.str)]
def tys64:List Ty:=[.sl .str]
def kds64:List RK:=[]
def oks64:List AT:=owns sig64
def E64_4 (v7:Int) (h0:List ByteArray) (h1:List ByteArray) (x0:List (ByteArray×List ByteArray×Unit)):Env:=[(0,.a (.sl YA3 x0)),(5,.a (.osl 0 Option.none)),(6,.a (.osl 1 Option.none)),(7,.a (.val (.int .i64 v7)))]
def L64_4 (v7:Int) (h0:List ByteArray) (h1:List ByteArray) (x0:List (ByteArray×List ByteArray×Unit)):Heap:=[Option.some (Arr.mk .str h0 false Option.none Option.none),Option.some (Arr.mk .str h1 false Option.none Option.none)]
def E64_7 (v29:Int) (h0:List ByteArray) (h1:List ByteArray) (x0:List (ByteArray×List ByteArray×Unit)) (v7:Int) (h1a:List ByteArray):Env:=[(0,.a (.sl YA3 x0)),(5,.a (.osl 0 Option.none)),(6,.a (.osl 1 Option.none)),(7,.a (.val (.int .i64 v7))),(27,.a (.sl .str (List.getD x0 (Int.toNat (g50_0 x0 (List.getD h1a (Int.toNat v7) ByteArray.empty))) (ByteArray.empty,[],())).2.1)),(28,.a (.val (.int .i64 (↑(List.length (List.getD x0 (Int.toNat (g50_0 x0 (List.getD h1a (Int.toNat v7) ByteArray.empty))) (ByteArray.empty,[],())).2.1):Int)))),(29,.a (.val (.int .i64 v29)))]
def L64_7 (v29:Int) (h0:List ByteArray) (h1:List ByteArray) (x0:List (ByteArray×List ByteArray×Unit)) (v7:Int) (h1a:List ByteArray):Heap:=[Option.some (Arr.mk .str h0 false Option.none Option.none),Option.some (Arr.mk .str h1 false Option.none Option.none)]
mutual
def R64:Nat→List (ByteArray×List ByteArray×Unit)→ByteArray→List Dyn→Prop
 | 0,_,_,_=>False
 | n+1,x0,x1,ds=>(R64_4 n (0) ([]) ([x1]) (x0) ds)
def R64_4:Nat→Int→List ByteArray→List ByteArray→List (ByteArray×List ByteArray×Unit)→List Dyn→Prop
 | 0,_,_,_,_,_=>False
 | n+1,v7,h0,h1,x0,ds=>(if (decide (v7<(h1.length:Int)))=true then ((0≤v7)∧(v7<(h1.length:Int))∧((0≤g50_0 x0 (List.getD h1 (Int.toNat v7) ByteArray.empty))∧(g50_0 x0 (List.getD h1 (Int.toNat v7) ByteArray.empty)<(x0.length:Int))∧(R64_7 n (0) (h0) (h1) (x0) (v7) (h1) ds))) else ((P62 h0)∧(List.length (u62_0 h0)=List.length h0)∧(ds=[Dyn.mk (.sl .str) (u62_0 h0)])))
def R64_7:Nat→Int→List ByteArray→List ByteArray→List (ByteArray×List ByteArray×Unit)→Int→List ByteArray→List Dyn→Prop
 | 0,_,_,_,_,_,_,_=>False
 | n+1,v29,h0,h1,x0,v7,h1a,ds=>(if (decide (v29<(↑(List.length (List.getD x0 (Int.toNat (g50_0 x0 (List.getD h1a (Int.toNat v7) ByteArray.empty))) (ByteArray.empty,[],())).2.1):Int)))=true then ((0≤v29)∧(v29<(↑(List.length (List.getD x0 (Int.toNat (g50_0 x0 (List.getD h1a (Int.toNat v7) ByteArray.empty))) (ByteArray.empty,[],())).2.1):Int))∧(if (!g67_0 h0 (List.getD (List.getD x0 (Int.toNat (g50_0 x0 (List.getD h1a (Int.toNat v7) ByteArray.empty))) (ByteArray.empty,[],())).2.1 (Int.toNat v29) ByteArray.empty))=true then (((List.length h0+1)*16≤140737488355328)∧(((List.length h1+1)*16≤140737488355328)∧((InR .i64 (v29+1))∧(R64_7 n (v29+1) (h0++[List.getD (List.getD x0 (Int.toNat (g50_0 x0 (List.getD h1a (Int.toNat v7) ByteArray.empty))) (ByteArray.empty,[],())).2.1 (Int.toNat v29) ByteArray.empty]) (h1++[List.getD (List.getD x0 (Int.toNat (g50_0 x0 (List.getD h1a (Int.toNat v7) ByteArray.empty))) (ByteArray.empty,[],())).2.1 (Int.toNat v29) ByteArray.empty]) (x0) (v7) (h1a) ds)))) else ((InR .i64 (v29+1))∧(R64_7 n (v29+1) (h0) (h1) (x0) (v7) (h1a) ds)))) else ((InR .i64 (v7+1))∧(R64_4 n (v7+1) (h0) (h1) (x0) ds)))
end
theorem snd64:∀ n,(∀ (x0:List (ByteArray×List ByteArray×Unit)) (x1:ByteArray) ds,R64 n x0 x1 ds→∀ K q,AtV Try.prog 64 (PostR kds64 oks64 ds [] [] q K) 49 K q [] [.code b64] (entE 0 0 sig64 (x0,x1,())) (entL sig64 (x0,x1,())))∧(∀ (v7:Int) (h0:List ByteArray) (h1:List ByteArray) (x0:List (ByteArray×List ByteArray×Unit)) ds,R64_4 n v7 h0 h1 x0 ds→∀ K q,AtV Try.prog 64 (PostR kds64 oks64 ds [] [] q K) 49 K q [] (cutAt b64 4) (E64_4 v7 h0 h1 x0) (L64_4 v7 h0 h1 x0))∧(∀ (v29:Int) (h0:List ByteArray) (h1:List ByteArray) (x0:List (ByteArray×List ByteArray×Unit)) (v7:Int) (h1a:List ByteArray) ds,R64_7 n v29 h0 h1 x0 v7 h1a ds→∀ K q,AtV Try.prog 64 (PostR kds64 oks64 ds [] [] q K) 49 K q [] (cutAt b64 7) (E64_7 v29 h0 h1 x0 v7 h1a) (L64_7 v29 h0 h1 x0 v7 h1a)):=by
 intro n
 induction n with
 | zero=>exact ⟨fun _ _ _ h=>by simp only [R64] at h,fun _ _ _ _ _ h=>by simp only [R64_4] at h,fun _ _ _ _ _ _ _ h=>by simp only [R64_7] at h⟩
 | succ n ih =>
 obtain ⟨ih,ih4,ih7⟩:=ih
 refine ⟨?_,?_,?_⟩
 ·intro x0 x1 ds h K q
  rw [R64] at h
  exact AtV.go tabOk ext64Ok mixed false [] [(5,.str)] [0,5,6,7] [1,0] [] trivial (ih4 _ _ _ _ _ h K q) (by kernel_rfl)
 ·intro v7 h0 h1 x0 ds h K q
  rw [R64_4] at h
  by_cases b0:(decide (v7<(h1.length:Int)))=true
  ·rw [if_pos b0] at h
   obtain ⟨s0,s1,h⟩:=h
   obtain ⟨s2,s3,h⟩:=h
   exact AtV.go tabOk ext64Ok mixed false [] [] [0,5,6,7,27,28,29] [0,1] [true] (a1 b0 (a1 s0 (a1 s1 (a1 trivial (a1 s2 (a1 s3 trivial)))))) (ih7 _ _ _ _ _ _ _ h K q) (by kernel_rfl)
  ·rw [if_neg b0] at h
   replace b0:=bf_ b0
   obtain ⟨s0,s1,h⟩:=h
   subst h
   exact AtV.ret Try.func64 tabOk ext64Ok mixed false [] tys64 [false] (a1 b0 (a1 s0 (a1 s1 trivial))) (by kernel_rfl)
 ·intro v29 h0 h1 x0 v7 h1a ds h K q
  rw [R64_7] at h
  by_cases b0:(decide (v29<(↑(List.length (List.getD x0 (Int.toNat (g50_0 x0 (List.getD h1a (Int.toNat v7) ByteArray.empty))) (ByteArray.empty,[],())).2.1):Int)))=true
  ·rw [if_pos b0] at h
   obtain ⟨s0,s1,h⟩:=h
   by_cases b1:(!g67_0 h0 (List.getD (List.getD x0 (Int.toNat (g50_0 x0 (List.getD h1a (Int.toNat v7) ByteArray.empty))) (ByteArray.empty,[],())).2.1 (Int.toNat v29) ByteArray.empty))=true
   ·rw [if_pos b1] at h
    obtain ⟨s2,h⟩:=h
    obtain ⟨s3,h⟩:=h
    obtain ⟨s4,h⟩:=h
    exact AtV.go tabOk ext64Ok mixed false [] [] [0,5,6,7,27,28,29] [0,1] [true,true] (a1 b0 (a1 s0 (a1 s1 (a1 trivial (a1 b1 (a1 s2 (a1 s3 (a1 s4 trivial)))))))) (ih7 _ _ _ _ _ _ _ h K q) (by kernel_rfl)
   ·rw [if_neg b1] at h
    replace b1:=bf_ b1
    obtain ⟨s2,h⟩:=h
    exact AtV.go tabOk ext64Ok mixed false [] [] [0,5,6,7,27,28,29] [0,1] [true,false] (a1 b0 (a1 s0 (a1 s1 (a1 trivial (a1 b1 (a1 s2 trivial)))))) (ih7 _ _ _ _ _ _ _ h K q) (by kernel_rfl)
  ·rw [if_neg b0] at h
   replace b0:=bf_ b0
   obtain ⟨s0,h⟩:=h
   exact AtV.go tabOk ext64Ok mixed false [] [(5,.str)] [0,5,6,7] [0,1] [false] (a1 b0 (a1 s0 trivial)) (ih4 _ _ _ _ _ h K q) (by kernel_rfl)
abbrev RL64:=ByteArray×List ByteArray×Unit
abbrev und64 (x0:List RL64) (a:ByteArray):List ByteArray:=(x0.getD (g50_0 x0 a).toNat (ByteArray.empty,[],())).2.1
def add64 (all:List ByteArray) (n:ByteArray):List ByteArray:=if (!g67_0 all n)=true then all++[n] else all
def vis64 (x0:List RL64) (all:List ByteArray) (a:ByteArray):List ByteArray:=(und64 x0 a).foldl add64 all
def bfs64 (x0:List RL64) (x1:ByteArray):Nat→Nat→List ByteArray→List ByteArray
 | 0,_,all=>all
 | f+1,k,all=>if k<all.length+1 then bfs64 x0 x1 f (k+1) (vis64 x0 all ((x1 :: all).getD k ByteArray.empty)) else all
def g64_0 (x0:List RL64) (x1:ByteArray):List ByteArray:=sortB (bfs64 x0 x1 (x0.length+2) 0 [])
def In64 (x0:List RL64) (n:ByteArray):Prop:=0≤g50_0 x0 n∧g50_0 x0 n<(x0.length:Int)
def P64 (x0:List RL64) (x1:ByteArray):Prop:=x0.length≤1000∧(∀ r∈x0,∀ n∈r.2.1,In64 x0 n)∧In64 x0 x1
theorem has64 (l:List ByteArray) (n:ByteArray):g67_0 l n=true↔n∈l:=by
 show decide (g82_0 l n≥0)=true↔n∈l
 rw [any82,List.any_eq_true]
 unfold is82
 constructor
 ·rintro ⟨y,hy,h⟩
  rw [(bytes_eq _ _).1 h]
  exact hy
 ·exact fun h=>⟨n,h,(bytes_eq _ _).2 rfl⟩
theorem nodup_le64:∀ (l m:List ByteArray),l.Nodup→(∀ x∈l,x∈m)→l.length≤m.length
 | [],_,_,_=>Nat.zero_le _
 | a :: l,m,hn,hs=>by
  obtain ⟨h1,h2⟩:=List.nodup_cons.1 hn
  obtain ⟨s,t,rfl⟩:=List.append_of_mem (hs a (List.mem_cons_self ..))
  have:=nodup_le64 l (s++t) h2 fun x hx=>by
   have h:=hs x (List.mem_cons_of_mem _ hx)
   simp only [List.mem_append,List.mem_cons] at h ⊢
   rcases h with h | h | h
   ·exact .inl h
   ·exact absurd (h ▸ hx) h1
   ·exact .inr h
  simp only [List.length_append,List.length_cons] at this ⊢
  omega
def Ok64 (x0:List RL64) (all:List ByteArray):Prop:=all.Nodup∧∀ n∈all,In64 x0 n
theorem role64 {x0:List RL64} {n:ByteArray} (h:In64 x0 n):n∈x0.map fun r=>r.1:=by
 have h0:=h.1
 have hl:=h.2
 unfold In64 at h
 have e:g50_0 x0 n=idx (x0.findIdx? fun r=>g75_0 r n):=rfl
 rw [e] at h0
 cases hf:x0.findIdx? fun r=>g75_0 r n with
 | none=>rw [hf] at h0;exact absurd h0 (by decide)
 | some k =>
  obtain ⟨hk,hr,_⟩:=List.findIdx?_eq_some_iff_getElem.1 hf
  have hr:(ByteArray.toList x0[k].1==ByteArray.toList n)=true:=hr
  rw [List.mem_map]
  exact ⟨x0[k],List.getElem_mem hk,(bytes_eq _ _).1 hr⟩
theorem Ok64.le {x0:List RL64} {all:List ByteArray} (h:Ok64 x0 all):all.length≤x0.length:=by
 have:=nodup_le64 all (x0.map fun r=>r.1) h.1 fun n hn=>role64 (h.2 n hn)
 rwa [List.length_map] at this
theorem Ok64.add {x0:List RL64} {all:List ByteArray} (h:Ok64 x0 all) {n:ByteArray} (hn:In64 x0 n):Ok64 x0 (add64 all n):=by
 unfold add64
 by_cases c:g67_0 all n=true
 ·rw [if_neg (by rw [c];decide)]
  exact h
 ·rw [if_pos (by rw [bf_ c];rfl)]
  have c:n ∉ all:=fun hh=>c ((has64 all n).2 hh)
  refine ⟨?_,fun x hx => ?_⟩
  ·rw [List.nodup_append]
   exact ⟨h.1,by simp,fun a ha b hb=>by simp at hb;subst hb;exact fun e=>c (e ▸ ha)⟩
  ·rcases List.mem_append.1 hx with hx | hx
   ·exact h.2 x hx
   ·rw [List.mem_singleton.1 hx];exact hn
theorem unds64 {x0:List RL64} (hp:∀ r∈x0,∀ n∈r.2.1,In64 x0 n) {a:ByteArray} (ha:In64 x0 a):∀ n∈und64 x0 a,In64 x0 n:=by
 exact hp _ (mem_getD x0 _ _ (by have:=ha.1;have:=ha.2;omega))
theorem Ok64.fold {x0:List RL64}:∀ (l:List ByteArray) {all:List ByteArray},Ok64 x0 all→(∀ n∈l,In64 x0 n)→Ok64 x0 (l.foldl add64 all)
 | [],_,h,_=>h
 | a :: l,all,h,hl=>Ok64.fold l (h.add (hl a (List.mem_cons_self ..))) fun n hn=>hl n (List.mem_cons_of_mem _ hn)
theorem inner64 (x0:List RL64) (x1:ByteArray) (ds:List Dyn) (hx:x0.length≤1000) (v7:Int) (h1a:List ByteArray) (hu:∀ n∈(x0.getD (g50_0 x0 (h1a.getD v7.toNat ByteArray.empty)).toNat (ByteArray.empty,[],())).2.1,In64 x0 n) (hul:(x0.getD (g50_0 x0 (h1a.getD v7.toNat ByteArray.empty)).toNat (ByteArray.empty,[],())).2.1.length≤maxLen) (i7:InR .i64 (v7+1)) (m:Nat) :
  ∀ (k j:Nat) (h0:List ByteArray),j+k=(x0.getD (g50_0 x0 (h1a.getD v7.toNat ByteArray.empty)).toNat (ByteArray.empty,[],())).2.1.length→Ok64 x0 h0→R64_4 m (v7+1) (((x0.getD (g50_0 x0 (h1a.getD v7.toNat ByteArray.empty)).toNat (ByteArray.empty,[],())).2.1.drop j).foldl add64 h0) (x1 :: (((x0.getD (g50_0 x0 (h1a.getD v7.toNat ByteArray.empty)).toNat (ByteArray.empty,[],())).2.1.drop j).foldl add64 h0)) x0 ds→R64_7 (m+k+1) (j:Int) h0 (x1 :: h0) x0 v7 h1a ds:=by
 intro k
 induction k with
 | zero =>
  intro j h0 hj ho hr
  rw [List.drop_eq_nil_of_le (by omega)] at hr
  show R64_7 (m+0+1) _ _ _ _ _ _ _
  rw [R64_7,if_neg (show ¬ decide ((j:Int)<((x0.getD (g50_0 x0 (h1a.getD v7.toNat ByteArray.empty)).toNat (ByteArray.empty,[],())).2.1.length:Int))=true by simp only [decide_eq_true_eq];omega)]
  exact ⟨i7,hr⟩
 | succ k ih =>
  intro j h0 hj ho hr
  have hlt:j<(x0.getD (g50_0 x0 (h1a.getD v7.toNat ByteArray.empty)).toNat (ByteArray.empty,[],())).2.1.length:=by omega
  have hn:=hu _ (mem_getD _ j ByteArray.empty hlt)
  rw [drop_get _ j ByteArray.empty hlt,List.foldl_cons] at hr
  have ih:=ih (j+1) _ (by omega) (ho.add hn) hr
  have hle:=ho.le
  have e3:(j:Int)+1=((j+1:Nat):Int):=by omega
  show R64_7 (m+k+1+1) _ _ _ _ _ _ _
  rw [R64_7,if_pos (show decide ((j:Int)<((x0.getD (g50_0 x0 (h1a.getD v7.toNat ByteArray.empty)).toNat (ByteArray.empty,[],())).2.1.length:Int))=true by simp only [decide_eq_true_eq];omega)]
  simp only [Int.toNat_natCast]
  refine ⟨by omega,show (j:Int)<((x0.getD (g50_0 x0 (h1a.getD v7.toNat ByteArray.empty)).toNat (ByteArray.empty,[],())).2.1.length:Int) by omega,?_⟩
  unfold add64 at ih
  by_cases c:(!g67_0 h0 ((x0.getD (g50_0 x0 (h1a.getD v7.toNat ByteArray.empty)).toNat (ByteArray.empty,[],())).2.1.getD j ByteArray.empty))=true
  ·rw [if_pos c] at ih
   refine (if_pos c).mpr ?_
   exact ⟨by omega,by simp only [List.length_cons];omega,by rw [e3];exact inR_up (by omega) hlt,by rw [e3];exact ih⟩
  ·rw [if_neg c] at ih
   refine (if_neg c).mpr ?_
   exact ⟨by rw [e3];exact inR_up (by omega) hlt,by rw [e3];exact ih⟩
theorem grow64:∀ (l all:List ByteArray),all.length≤(l.foldl add64 all).length
 | [],_=>Nat.le_refl _
 | a :: l,all=>by
  have h:all.length≤(add64 all a).length:=by
   unfold add64
   split
   ·simp
   ·exact Nat.le_refl _
  exact Nat.le_trans h (grow64 l _)
theorem outer64 (x0:List RL64) (x1:ByteArray) (h:P64 x0 x1) (hw:∀ r∈x0,r.2.1.length≤maxLen):∀ (f k:Nat) (all:List ByteArray),k≤all.length+1→Ok64 x0 all→x0.length+2≤f+k→∃ m,R64_4 m (k:Int) all (x1 :: all) x0 [⟨.sl .str,sortB (bfs64 x0 x1 f k all)⟩]:=by
 obtain ⟨h1,h2,h3⟩:=h
 intro f
 induction f with
 | zero =>
  intro k all hk ho hf
  have:=ho.le
  omega
 | succ f ih =>
  intro k all hk ho hf
  have hle:=ho.le
  by_cases c:k<all.length+1
  ·have hin:In64 x0 ((x1 :: all).getD k ByteArray.empty):=by
    rcases List.mem_cons.1 (mem_getD (x1 :: all) k ByteArray.empty (by rw [List.length_cons];omega)) with e | e
    ·rw [e];exact h3
    ·exact ho.2 _ e
   have hu:=unds64 h2 hin
   have hr:=mem_getD x0 (g50_0 x0 ((x1 :: all).getD k ByteArray.empty)).toNat (ByteArray.empty,[],()) (by have:=hin.1;have:=hin.2;omega)
   have ho2:Ok64 x0 (vis64 x0 all ((x1 :: all).getD k ByteArray.empty)):=Ok64.fold _ ho hu
   obtain ⟨m,hm⟩:=ih (k+1) (vis64 x0 all ((x1 :: all).getD k ByteArray.empty)) (by have:=grow64 (und64 x0 ((x1 :: all).getD k ByteArray.empty)) all;have e:vis64 x0 all ((x1 :: all).getD k ByteArray.empty)=(und64 x0 ((x1 :: all).getD k ByteArray.empty)).foldl add64 all:=rfl;rw [e];omega) ho2 (by omega)
   have e3:((k+1:Nat):Int)=(k:Int)+1:=by omega
   rw [e3] at hm
   have hi:=inner64 x0 x1 _ h1 (k:Int) (x1 :: all) (by simp only [Int.toNat_natCast];exact hu) (by simp only [Int.toNat_natCast];exact hw _ hr) (by rw [i64_iff];omega) m _ 0 all (by rw [Nat.zero_add]) ho (by simp only [Int.toNat_natCast,List.drop_zero];exact hm)
   exact ⟨_+1,by
    rw [R64_4,if_pos (by simp only [decide_eq_true_eq,List.length_cons];omega)]
    simp only [Int.toNat_natCast]
    unfold bfs64
    rw [if_pos c]
    exact ⟨by omega,by simp only [List.length_cons];omega,hin.1,hin.2,hi⟩⟩
  ·refine ⟨1,?_⟩
   rw [R64_4,if_neg (by simp only [decide_eq_true_eq,List.length_cons];omega)]
   unfold bfs64
   rw [if_neg c]
   exact ⟨by show _≤1048576;omega,(sortB_perm all).length_eq,rfl⟩
theorem top64 (x0:List RL64) (x1:ByteArray) (h:P64 x0 x1) (hw:∀ r∈x0,r.2.1.length≤maxLen):∃ n,R64 n x0 x1 [⟨.sl .str,g64_0 x0 x1⟩]:=by
 obtain ⟨m,hm⟩:=outer64 x0 x1 h hw (x0.length+2) 0 [] (by simp) ⟨List.nodup_nil,fun n hn=>by cases hn⟩ (by omega)
 exact ⟨m+1,by rw [R64];exact hm⟩
def S64:Am.Spec:={ sig:=sig64,pre:=fun ⟨x0,x1,_⟩=>P64 x0 x1,res:=fun ⟨x0,x1,_⟩=>[⟨.sl .str,g64_0 x0 x1⟩] }
theorem con64:Contract Try.prog 64 S64:=contract_of Try.func64 hb64 (bl_ (by kernel_rfl)) (fun ⟨x0,x1,_⟩ h hwf K q =>
 let ⟨_,hn⟩:=top64 x0 x1 h (fun r hr=>(hwf.1.2 r hr).2.1.1)
 (snd64 _).1 x0 x1 _ hn K q)
end
noncomputable section
def ext74:Ext:=[(64,S64),(67,S67)]
theorem ext74Ok:ExtOk Try.prog ext74:=⟨⟨ca64,con64⟩,⟨ca67,con67⟩,trivial⟩
noncomputable def b74:Code:=bodyOf Try.f74
theorem hb74:Try.f74.body=some b74:=by kernel_rfl
def sig74:List AT:=[AT.v (.str),AT.p (.sl (.cons .str (.cons (.sl .str) .unit)))]
def tys74:List Ty:=[.bool]
def kds74:List RK:=[]
def oks74:List AT:=owns sig74
def P74 (x0:ByteArray) (x1:List (ByteArray×List ByteArray×Unit)):Prop:=((P64 x1 x0)∧True)
def g74_0 (x0:ByteArray) (x1:List (ByteArray×List ByteArray×Unit)):Bool:=g67_0 (g64_0 x1 x0) x0
theorem at74 (x0:ByteArray) (x1:List (ByteArray×List ByteArray×Unit)) (h:P74 x0 x1) (K:Ctx) (q:Nat→Value):AtV Try.prog 74 (PostR kds74 oks74 [⟨.bool,g74_0 x0 x1⟩] [] [] q K) 9 K q [] [.code b74] (entE 0 0 sig74 (x0,x1,())) (entL sig74 (x0,x1,())):=by
 unfold P74 at h
 unfold g74_0
 obtain ⟨s0,h⟩:=h
 exact AtV.ret Try.func74 tabOk ext74Ok mixed false [] tys74 [] (a1 s0 (a1 trivial trivial)) (by kernel_rfl)
def S74:Am.Spec:={ sig:=sig74,pre:=fun ⟨x0,x1,_⟩=>P74 x0 x1,res:=fun ⟨x0,x1,_⟩=>[⟨.bool,g74_0 x0 x1⟩],kds:=kds74 }
theorem con74:Contract Try.prog 74 S74:=contract_of Try.func74 hb74 (bl_ (by kernel_rfl)) (fun ⟨x0,x1,_⟩ h _ K q=>at74 x0 x1 h K q)
end
noncomputable section
def ext83c74:Ext:=[(74,S74)]
theorem ext83c74Ok:ExtOk Try.prog ext83c74:=⟨⟨ca74,con74⟩,trivial⟩
noncomputable def b83c74:Code:=bodyOf Try.f83
theorem hb83c74:Try.f83.body=some b83c74:=by kernel_rfl
def sig83c74:List AT:=[AT.v (.sl .str),AT.fn 74 [(true,(.sl (.cons .str (.cons (.sl .str) .unit))))]]
def tys83c74:List Ty:=[.int .i64]
def kds83c74:List RK:=[]
def oks83c74:List AT:=owns sig83c74
def E83c74_2 (v8:Int) (x0:List ByteArray) (x1:List (ByteArray×List ByteArray×Unit)):Env:=[(0,.a (.sl .str x0)),(1,PV.fn 74 [Atom.ptr (.sl YA3) x1]),(7,.a (.val (.int .i64 (x0.length:Int)))),(8,.a (.val (.int .i64 v8)))]
def L83c74_2 (v8:Int) (x0:List ByteArray) (x1:List (ByteArray×List ByteArray×Unit)):Heap:=[]
mutual
def R83c74:Nat→List ByteArray→List (ByteArray×List ByteArray×Unit)→List Dyn→Prop
 | 0,_,_,_=>False
 | n+1,x0,x1,ds=>(R83c74_2 n (0) (x0) (x1) ds)
def R83c74_2:Nat→Int→List ByteArray→List (ByteArray×List ByteArray×Unit)→List Dyn→Prop
 | 0,_,_,_,_=>False
 | n+1,v8,x0,x1,ds=>(if (decide (v8<(x0.length:Int)))=true then ((0≤v8)∧(v8<(x0.length:Int))∧((P74 (List.getD x0 (Int.toNat v8) ByteArray.empty) x1)∧(if (g74_0 (List.getD x0 (Int.toNat v8) ByteArray.empty) x1)=true then (ds=[Dyn.mk (.int .i64) v8]) else ((InR .i64 (v8+1))∧(R83c74_2 n (v8+1) (x0) (x1) ds))))) else (ds=[Dyn.mk (.int .i64) (-1)]))
end
theorem snd83c74:∀ n,(∀ (x0:List ByteArray) (x1:List (ByteArray×List ByteArray×Unit)) ds,R83c74 n x0 x1 ds→∀ K q,AtV Try.prog 83 (PostR kds83c74 oks83c74 ds [] [] q K) 19 K q [] [.code b83c74] (entE 0 0 sig83c74 (x0,(x1,()),())) (entL sig83c74 (x0,(x1,()),())))∧(∀ (v8:Int) (x0:List ByteArray) (x1:List (ByteArray×List ByteArray×Unit)) ds,R83c74_2 n v8 x0 x1 ds→∀ K q,AtV Try.prog 83 (PostR kds83c74 oks83c74 ds [] [] q K) 19 K q [] (cutAt b83c74 2) (E83c74_2 v8 x0 x1) (L83c74_2 v8 x0 x1)):=by
 intro n
 induction n with
 | zero=>exact ⟨fun _ _ _ h=>by simp only [R83c74] at h,fun _ _ _ _ h=>by simp only [R83c74_2] at h⟩
 | succ n ih =>
 obtain ⟨ih,ih2⟩:=ih
 refine ⟨?_,?_⟩
 ·intro x0 x1 ds h K q
  rw [R83c74] at h
  exact AtV.go tabOk ext83c74Ok mixed false [] [] [0,1,7,8] [] [] trivial (ih2 _ _ _ _ h K q) (by kernel_rfl)
 ·intro v8 x0 x1 ds h K q
  rw [R83c74_2] at h
  by_cases b0:(decide (v8<(x0.length:Int)))=true
  ·rw [if_pos b0] at h
   obtain ⟨s0,s1,h⟩:=h
   obtain ⟨s2,h⟩:=h
   by_cases b1:(g74_0 (List.getD x0 (Int.toNat v8) ByteArray.empty) x1)=true
   ·rw [if_pos b1] at h
    subst h
    exact AtV.ret Try.func83 tabOk ext83c74Ok mixed false [] tys83c74 [true,true] (a1 b0 (a1 s0 (a1 s1 (a1 s2 (a1 b1 trivial))))) (by kernel_rfl)
   ·rw [if_neg b1] at h
    replace b1:=bf_ b1
    obtain ⟨s3,h⟩:=h
    exact AtV.go tabOk ext83c74Ok mixed false [] [] [0,1,7,8] [] [true,false] (a1 b0 (a1 s0 (a1 s1 (a1 s2 (a1 b1 (a1 s3 trivial)))))) (ih2 _ _ _ _ h K q) (by kernel_rfl)
  ·rw [if_neg b0] at h
   replace b0:=bf_ b0
   subst h
   exact AtV.ret Try.func83 tabOk ext83c74Ok mixed false [] tys83c74 [false] (a1 b0 trivial) (by kernel_rfl)
def g83c74_0 (x0:List (ByteArray)) (y0:List (ByteArray×List (ByteArray)×Unit)):Int:=idx (x0.findIdx? (fun x=>g74_0 x y0))
def P83c74 (x0:List (ByteArray)) (y0:List (ByteArray×List (ByteArray)×Unit)):Prop:=∀ x∈x0,P74 x y0
theorem top83c74 (x0:List (ByteArray)) (y0:List (ByteArray×List (ByteArray)×Unit)) (hm:x0.length≤maxLen) (hp:P83c74 x0 y0):R83c74 (x0.length+1+1) x0 y0 [⟨.int .i64,g83c74_0 x0 y0⟩]:=by
 rw [R83c74]
 have key:=loop_find x0 ByteArray.empty (fun x=>g74_0 x y0) [(⟨.int .i64, -1⟩:Dyn)] (fun k=>[⟨.int .i64,k⟩]) (fun n i ds=>R83c74_2 n i x0 y0 ds) (fun n => ?_) (fun n i hi hok ds hr => ?_) (fun n i hi hok => ?_)
 ·unfold g83c74_0
  cases h:x0.findIdx? (fun x=>g74_0 x y0) <;> rw [h] at key <;> exact key
 ·rw [R83c74_2,if_neg (by simp)]
 ·rw [R83c74_2,if_pos (by simp;omega)]
  simp only [Int.toNat_natCast]
  refine ⟨by omega,by omega,hp _ (mem_getD _ i _ hi),?_⟩
  rw [if_neg (by rw [hok];simp)]
  exact ⟨inR_up hm hi,hr⟩
 ·rw [R83c74_2,if_pos (by simp;omega)]
  simp only [Int.toNat_natCast]
  refine ⟨by omega,by omega,hp _ (mem_getD _ i _ hi),?_⟩
  rw [if_pos hok] <;> trivial
def S83c74:Am.Spec:={ sig:=sig83c74,pre:=fun ⟨x0,⟨y0,_⟩,_⟩=>P83c74 x0 y0,res:=fun ⟨x0,⟨y0,_⟩,_⟩=>[⟨.int .i64,g83c74_0 x0 y0⟩] }
theorem con83c74:Contract Try.prog 83 S83c74:=contract_of Try.func83 hb83c74 (bl_ (by kernel_rfl)) (fun ⟨x0,⟨y0,_⟩,_⟩ h hwf K q =>
 (snd83c74 _).1 x0 y0 _ (top83c74 x0 y0 hwf.1.1 h) K q)
theorem any83c74 (x0:List (ByteArray)) (y0:List (ByteArray×List (ByteArray)×Unit)):decide (g83c74_0 x0 y0≥0)=x0.any (fun x=>g74_0 x y0):=by
 have:=findIdx_any (fun x=>g74_0 x y0) x0
 unfold g83c74_0
 cases h:x0.any (fun x=>g74_0 x y0) with
 | true=>rw [h] at this;simpa using this
 | false=>rw [h] at this;simpa using this
end
noncomputable section
def ext72c74:Ext:=[(83,S83c74),(74,S74)]
theorem ext72c74Ok:ExtOk Try.prog ext72c74:=⟨⟨ca83,con83c74⟩,⟨ca74,con74⟩,trivial⟩
noncomputable def b72c74:Code:=bodyOf Try.f72
theorem hb72c74:Try.f72.body=some b72c74:=by kernel_rfl
def sig72c74:List AT:=[AT.v (.sl .str),AT.fn 74 [(true,(.sl (.cons .str (.cons (.sl .str) .unit))))]]
def tys72c74:List Ty:=[.bool]
def kds72c74:List RK:=[]
def oks72c74:List AT:=owns sig72c74
def P72c74 (x0:List ByteArray) (x1:List (ByteArray×List ByteArray×Unit)):Prop:=((P83c74 x0 x1)∧True)
def g72c74_0 (x0:List ByteArray) (x1:List (ByteArray×List ByteArray×Unit)):Bool:=decide (g83c74_0 x0 x1≥0)
theorem at72c74 (x0:List ByteArray) (x1:List (ByteArray×List ByteArray×Unit)) (h:P72c74 x0 x1) (K:Ctx) (q:Nat→Value):AtV Try.prog 72 (PostR kds72c74 oks72c74 [⟨.bool,g72c74_0 x0 x1⟩] [] [] q K) 9 K q [] [.code b72c74] (entE 0 0 sig72c74 (x0,(x1,()),())) (entL sig72c74 (x0,(x1,()),())):=by
 unfold P72c74 at h
 unfold g72c74_0
 obtain ⟨s0,h⟩:=h
 exact AtV.ret Try.func72 tabOk ext72c74Ok mixed false [] tys72c74 [] (a1 s0 trivial) (by kernel_rfl)
def S72c74:Am.Spec:={ sig:=sig72c74,pre:=fun ⟨x0,⟨x1,_⟩,_⟩=>P72c74 x0 x1,res:=fun ⟨x0,⟨x1,_⟩,_⟩=>[⟨.bool,g72c74_0 x0 x1⟩],kds:=kds72c74 }
theorem con72c74:Contract Try.prog 72 S72c74:=contract_of Try.func72 hb72c74 (bl_ (by kernel_rfl)) (fun ⟨x0,⟨x1,_⟩,_⟩ h _ K q=>at72c74 x0 x1 h K q)
end
noncomputable section
def ext49:Ext:=[(71,S71),(72,S72c73),(72,S72c74)]
theorem ext49Ok:ExtOk Try.prog ext49:=⟨⟨ca71,con71⟩,⟨ca72,con72c73⟩,⟨ca72,con72c74⟩,trivial⟩
noncomputable def b49:Code:=bodyOf Try.f49
theorem hb49:Try.f49.body=some b49:=by kernel_rfl
def sig49:List AT:=[AT.v (.sl YA3)]
def tys49:List Ty:=[.bool]
def kds49:List RK:=[]
def oks49:List AT:=owns sig49
def E49_3 (v10:Int) (h1:List ByteArray) (x0:List (ByteArray×List ByteArray×Unit)):Env:=[(1,.a (.optr 0 0 [])),(3,.a (.osl 1 Option.none)),(8,.a (.sl YA3 x0)),(9,.a (.val (.int .i64 (x0.length:Int)))),(10,.a (.val (.int .i64 v10)))]
def L49_3 (v10:Int) (h1:List ByteArray) (x0:List (ByteArray×List ByteArray×Unit)):Heap:=[Option.some (Arr.mk (.sl YA3) [x0] true Option.none (Option.some false)),Option.some (Arr.mk .str h1 false Option.none Option.none)]
def E49_10 (v30:Int) (x0:List (ByteArray×List ByteArray×Unit)) (h1:List ByteArray):Env:=[(1,.a (.optr 0 0 [])),(3,.a (.osl 1 Option.none)),(28,.a (.sl YA3 x0)),(29,.a (.val (.int .i64 (x0.length:Int)))),(30,.a (.val (.int .i64 v30)))]
def L49_10 (v30:Int) (x0:List (ByteArray×List ByteArray×Unit)) (h1:List ByteArray):Heap:=[Option.some (Arr.mk (.sl YA3) [x0] true Option.none (Option.some false)),Option.some (Arr.mk .str h1 false Option.none Option.none)]
mutual
def R49:Nat→List (ByteArray×List ByteArray×Unit)→List Dyn→Prop
 | 0,_,_=>False
 | n+1,x0,ds=>(R49_3 n (0) ([]) (x0) ds)
def R49_3:Nat→Int→List ByteArray→List (ByteArray×List ByteArray×Unit)→List Dyn→Prop
 | 0,_,_,_,_=>False
 | n+1,v10,h1,x0,ds=>(if (decide (v10<(x0.length:Int)))=true then ((0≤v10)∧(v10<(x0.length:Int))∧(((List.length h1+1)*16≤140737488355328)∧((InR .i64 (v10+1))∧(R49_3 n (v10+1) (h1++[(List.getD x0 (Int.toNat v10) (ByteArray.empty,[],())).1]) (x0) ds)))) else (if (decide ((x0.length:Int)>12))=true then (ds=[Dyn.mk .bool false]) else (if (!g71_0 h1)=true then (ds=[Dyn.mk .bool false]) else (R49_10 n (0) (x0) (h1) ds))))
def R49_10:Nat→Int→List (ByteArray×List ByteArray×Unit)→List ByteArray→List Dyn→Prop
 | 0,_,_,_,_=>False
 | n+1,v30,x0,h1,ds=>(if (decide (v30<(x0.length:Int)))=true then ((0≤v30)∧(v30<(x0.length:Int))∧(if (!g71_0 (List.getD x0 (Int.toNat v30) (ByteArray.empty,[],())).2.1)=true then (ds=[Dyn.mk .bool false]) else (if (g72c73_0 (List.getD x0 (Int.toNat v30) (ByteArray.empty,[],())).2.1 x0)=true then (ds=[Dyn.mk .bool false]) else ((InR .i64 (v30+1))∧(R49_10 n (v30+1) (x0) (h1) ds))))) else ((P72c74 h1 x0)∧(ds=[Dyn.mk .bool !g72c74_0 h1 x0])))
end
theorem snd49:∀ n,(∀ (x0:List (ByteArray×List ByteArray×Unit)) ds,R49 n x0 ds→∀ K q,AtV Try.prog 49 (PostR kds49 oks49 ds [] [] q K) 49 K q [] [.code b49] (entE 0 0 sig49 (x0,())) (entL sig49 (x0,())))∧(∀ (v10:Int) (h1:List ByteArray) (x0:List (ByteArray×List ByteArray×Unit)) ds,R49_3 n v10 h1 x0 ds→∀ K q,AtV Try.prog 49 (PostR kds49 oks49 ds [] [] q K) 49 K q [] (cutAt b49 3) (E49_3 v10 h1 x0) (L49_3 v10 h1 x0))∧(∀ (v30:Int) (x0:List (ByteArray×List ByteArray×Unit)) (h1:List ByteArray) ds,R49_10 n v30 x0 h1 ds→∀ K q,AtV Try.prog 49 (PostR kds49 oks49 ds [] [] q K) 49 K q [] (cutAt b49 10) (E49_10 v30 x0 h1) (L49_10 v30 x0 h1)):=by
 intro n
 induction n with
 | zero=>exact ⟨fun _ _ h=>by simp only [R49] at h,fun _ _ _ _ h=>by simp only [R49_3] at h,fun _ _ _ _ h=>by simp only [R49_10] at h⟩
 | succ n ih =>
 obtain ⟨ih,ih3,ih10⟩:=ih
 refine ⟨?_,?_,?_⟩
 ·intro x0 ds h K q
  rw [R49] at h
  exact AtV.go tabOk ext49Ok mixed false [] [(3,.str)] [1,3,8,9,10] [0,1] [] trivial (ih3 _ _ _ _ h K q) (by kernel_rfl)
 ·intro v10 h1 x0 ds h K q
  rw [R49_3] at h
  by_cases b0:(decide (v10<(x0.length:Int)))=true
  ·rw [if_pos b0] at h
   obtain ⟨s0,s1,h⟩:=h
   obtain ⟨s2,h⟩:=h
   obtain ⟨s3,h⟩:=h
   exact AtV.go tabOk ext49Ok mixed false [] [(3,.str)] [1,3,8,9,10] [0,1] [true] (a1 b0 (a1 s0 (a1 s1 (a1 s2 (a1 s3 trivial))))) (ih3 _ _ _ _ h K q) (by kernel_rfl)
  ·rw [if_neg b0] at h
   replace b0:=bf_ b0
   by_cases b1:(decide ((x0.length:Int)>12))=true
   ·rw [if_pos b1] at h
    subst h
    exact AtV.ret Try.func49 tabOk ext49Ok mixed false [] tys49 [false,true,true] (a1 b0 (a1 b1 (a1 (rfl:true=true) trivial))) (by kernel_rfl)
   ·rw [if_neg b1] at h
    replace b1:=bf_ b1
    by_cases b2:(!g71_0 h1)=true
    ·rw [if_pos b2] at h
     subst h
     exact AtV.ret Try.func49 tabOk ext49Ok mixed false [] tys49 [false,false,true] (a1 b0 (a1 b1 (a1 trivial (a1 b2 trivial)))) (by kernel_rfl)
    ·rw [if_neg b2] at h
     replace b2:=bf_ b2
     exact AtV.go tabOk ext49Ok mixed false [] [] [1,3,28,29,30] [0,1] [false,false,false] (a1 b0 (a1 b1 (a1 trivial (a1 b2 trivial)))) (ih10 _ _ _ _ h K q) (by kernel_rfl)
 ·intro v30 x0 h1 ds h K q
  rw [R49_10] at h
  by_cases b0:(decide (v30<(x0.length:Int)))=true
  ·rw [if_pos b0] at h
   obtain ⟨s0,s1,h⟩:=h
   by_cases b1:(!g71_0 (List.getD x0 (Int.toNat v30) (ByteArray.empty,[],())).2.1)=true
   ·rw [if_pos b1] at h
    subst h
    exact AtV.ret Try.func49 tabOk ext49Ok mixed false [] tys49 [true,true,true] (a1 b0 (a1 s0 (a1 s1 (a1 trivial (a1 b1 (a1 (rfl:true=true) trivial)))))) (by kernel_rfl)
   ·rw [if_neg b1] at h
    replace b1:=bf_ b1
    by_cases b2:(g72c73_0 (List.getD x0 (Int.toNat v30) (ByteArray.empty,[],())).2.1 x0)=true
    ·rw [if_pos b2] at h
     subst h
     exact AtV.ret Try.func49 tabOk ext49Ok mixed false [] tys49 [true,false,true] (a1 b0 (a1 s0 (a1 s1 (a1 trivial (a1 b1 (a1 trivial (a1 b2 trivial))))))) (by kernel_rfl)
    ·rw [if_neg b2] at h
     replace b2:=bf_ b2
     obtain ⟨s2,h⟩:=h
     exact AtV.go tabOk ext49Ok mixed false [] [] [1,3,28,29,30] [0,1] [true,false,false] (a1 b0 (a1 s0 (a1 s1 (a1 trivial (a1 b1 (a1 trivial (a1 b2 (a1 s2 trivial)))))))) (ih10 _ _ _ _ h K q) (by kernel_rfl)
  ·rw [if_neg b0] at h
   replace b0:=bf_ b0
   obtain ⟨s0,h⟩:=h
   subst h
   exact AtV.ret Try.func49 tabOk ext49Ok mixed false [] tys49 [false] (a1 b0 (a1 s0 trivial)) (by kernel_rfl)
abbrev RL49:=ByteArray×List ByteArray×Unit
def nm49 (x0:List RL49):List ByteArray:=x0.map fun r=>r.1
def ok49 (x0:List RL49) (r:RL49):Bool:=g71_0 r.2.1 && !g72c73_0 r.2.1 x0
def g49_0 (x0:List RL49):Bool:=if decide (x0.length≤12)=true then (if g71_0 (nm49 x0)=true then (if x0.all (ok49 x0)=true then !g72c74_0 (nm49 x0) x0 else false) else false) else false
def P49 (x0:List RL49):Prop:=x0.length≤1048576
theorem idx_lt49 {x0:List RL49} {n:ByteArray}:g50_0 x0 n<(x0.length:Int)∨x0.length=0:=by
 have e:g50_0 x0 n=idx (x0.findIdx? fun r=>g75_0 r n):=rfl
 rw [e]
 cases hf:x0.findIdx? fun r=>g75_0 r n with
 | none =>
  rcases Nat.eq_zero_or_pos x0.length with h | h
  ·exact .inr h
  ·exact .inl (by show (-1:Int)<_;omega)
 | some k =>
  obtain ⟨hk,_⟩:=List.findIdx?_eq_some_iff_getElem.1 hf
  exact .inl (by show (k:Int)<_;omega)
theorem in49 {x0:List RL49} {n:ByteArray} (h:0≤g50_0 x0 n) (h0:0<x0.length):In64 x0 n:=⟨h,idx_lt49.resolve_right (by omega)⟩
theorem self49 {x0:List RL49} {r:RL49} (hr:r∈x0):In64 x0 r.1:=by
 refine in49 ?_ (List.length_pos_of_mem hr)
 have e:g50_0 x0 r.1=idx (x0.findIdx? fun q=>g75_0 q r.1):=rfl
 rw [e]
 have:=(findIdx_any (fun q=>g75_0 q r.1) x0).2 (List.any_eq_true.2 ⟨r,hr,(bytes_eq _ _).2 rfl⟩)
 exact this
theorem closed49 {x0:List RL49} (h:x0.all (ok49 x0)=true):∀ r∈x0,∀ n∈r.2.1,In64 x0 n:=fun r hr n hn=>by
 have h1:=List.all_eq_true.1 h r hr
 unfold ok49 at h1
 rw [Bool.and_eq_true] at h1
 have h2:g72c73_0 r.2.1 x0=false:=by simpa using h1.2
 unfold g72c73_0 at h2
 rw [any83c73] at h2
 refine in49 ?_ (List.length_pos_of_mem hr)
 rcases Int.lt_or_le (g50_0 x0 n) 0 with hlt | hle
 ·exact absurd (List.any_eq_true.2 ⟨n,hn,decide_eq_true hlt⟩) (by rw [h2];decide)
 ·exact hle
theorem pre49 {x0:List RL49} (hl:x0.length≤12) (h:x0.all (ok49 x0)=true) {r:RL49} (hr:r∈x0):P64 x0 r.1:=⟨by omega,closed49 h,self49 hr⟩
theorem second49 (x0:List RL49) (hl:x0.length≤12):∀ (k i:Nat),i+k=x0.length→(∀ j,j<i→∀ r,x0[j]? = some r→ok49 x0 r=true)→R49_10 (k+1) (i:Int) x0 (nm49 x0) [⟨.bool,if (x0.drop i).all (ok49 x0)=true then !g72c74_0 (nm49 x0) x0 else false⟩]:=by
 intro k
 induction k with
 | zero =>
  intro i hi hb
  have ha:x0.all (ok49 x0)=true:=List.all_eq_true.2 fun r hr=>by
   obtain ⟨j,hj⟩:=List.mem_iff_getElem?.1 hr
   exact hb j (by have:=(List.getElem?_eq_some_iff.1 hj).1;omega) r hj
  rw [R49_10,if_neg (by simp only [decide_eq_true_eq];omega),List.drop_eq_nil_of_le (by omega)]
  refine ⟨⟨fun n hn => ?_,trivial⟩,rfl⟩
  obtain ⟨r,hr,rfl⟩:=List.mem_map.1 hn
  exact ⟨pre49 hl ha hr,trivial⟩
 | succ k ih =>
  intro i hi hb
  have hlt:i<x0.length:=by omega
  have e3:(i:Int)+1=((i+1:Nat):Int):=by omega
  rw [drop_get x0 i (ByteArray.empty,[],()) hlt,List.all_cons]
  obtain ⟨D,hD⟩:∃ D,(if (ok49 x0 (x0.getD i (ByteArray.empty,[],()))&&(x0.drop (i+1)).all (ok49 x0))=true then !g72c74_0 (nm49 x0) x0 else false)=D:=⟨_,rfl⟩
  rw [hD,R49_10,if_pos (by simp only [decide_eq_true_eq];omega)]
  simp only [Int.toNat_natCast]
  refine ⟨by omega,by omega,?_⟩
  by_cases h1:g71_0 (x0.getD i (ByteArray.empty,[],())).2.1=true
  ·refine (if_neg (by rw [h1];decide)).mpr ?_
   by_cases h2:g72c73_0 (x0.getD i (ByteArray.empty,[],())).2.1 x0=true
   ·have e:ok49 x0 (x0.getD i (ByteArray.empty,[],()))=false:=by unfold ok49;rw [h1,h2];rfl
    rw [e,Bool.false_and,if_neg (by decide)] at hD
    exact (if_pos h2).mpr (by rw [← hD])
   ·have e:ok49 x0 (x0.getD i (ByteArray.empty,[],()))=true:=by unfold ok49;rw [h1,bf_ h2];rfl
    rw [e,Bool.true_and] at hD
    refine (if_neg h2).mpr ?_
    rw [e3, ← hD]
    refine ⟨by rw [i64_iff];omega,ih (i+1) (by omega) (fun j hj r hr => ?_)⟩
    rcases Nat.lt_or_ge j i with h | h
    ·exact hb j h r hr
    ·have:j=i:=by omega
     subst this
     rw [List.getElem?_eq_getElem hlt] at hr
     cases hr
     rw [getD_lt x0 j _ hlt] at e
     exact e
  ·have e:ok49 x0 (x0.getD i (ByteArray.empty,[],()))=false:=by unfold ok49;rw [bf_ h1];rfl
   rw [e,Bool.false_and,if_neg (by decide)] at hD
   exact (if_pos (by rw [bf_ h1];rfl)).mpr (by rw [← hD])
theorem first49 (x0:List RL49) (hx:x0.length≤1048576):∀ (k i:Nat),i+k=x0.length→∃ n,R49_3 n (i:Int) ((nm49 x0).take i) x0 [⟨.bool,g49_0 x0⟩]:=by
 intro k
 induction k with
 | zero =>
  intro i hi
  have hm:(nm49 x0).take i=nm49 x0:=List.take_of_length_le (by unfold nm49;rw [List.length_map];omega)
  rw [hm]
  unfold g49_0
  by_cases c:x0.length≤12
  ·rw [if_pos (decide_eq_true c)]
   cases h1:g71_0 (nm49 x0) with
   | false =>
    refine ⟨1,?_⟩
    rw [R49_3,if_neg (by simp only [decide_eq_true_eq];omega),if_neg (by simp only [decide_eq_true_eq];omega),h1,if_pos (by decide),if_neg (by decide)]
   | true =>
    have:=second49 x0 c x0.length 0 (by omega) (fun j hj=>absurd hj (by omega))
    rw [List.drop_zero] at this
    refine ⟨x0.length+1+1,?_⟩
    rw [R49_3,if_neg (by simp only [decide_eq_true_eq];omega),if_neg (by simp only [decide_eq_true_eq];omega),h1,if_neg (by decide),if_pos rfl]
    exact this
  ·rw [if_neg (by simpa using c)]
   refine ⟨1,?_⟩
   rw [R49_3,if_neg (by simp only [decide_eq_true_eq];omega),if_pos (by simp only [decide_eq_true_eq];omega)]
 | succ k ih =>
  intro i hi
  have hlt:i<x0.length:=by omega
  have e3:(i:Int)+1=((i+1:Nat):Int):=by omega
  obtain ⟨n,hn⟩:=ih (i+1) (by omega)
  have ht:(nm49 x0).take (i+1)=(nm49 x0).take i++[(x0.getD i (ByteArray.empty,[],())).1]:=by
   unfold nm49
   rw [List.take_add_one,List.getElem?_map,List.getElem?_eq_getElem hlt,getD_lt x0 i _ hlt]
   rfl
  rw [ht] at hn
  refine ⟨n+1,?_⟩
  rw [R49_3,if_pos (by simp only [decide_eq_true_eq];omega)]
  simp only [Int.toNat_natCast]
  rw [e3]
  exact ⟨by omega,by omega,by rw [List.length_take];omega,by rw [i64_iff];omega,hn⟩
theorem top49 (x0:List RL49) (hx:x0.length≤1048576):∃ n,R49 n x0 [⟨.bool,g49_0 x0⟩]:=by
 obtain ⟨n,hn⟩:=first49 x0 hx x0.length 0 (by omega)
 exact ⟨n+1,by rw [R49];exact hn⟩
def S49:Am.Spec:={ sig:=sig49,pre:=fun ⟨x0,_⟩=>P49 x0,res:=fun ⟨x0,_⟩=>[⟨.bool,g49_0 x0⟩] }
theorem con49:Contract Try.prog 49 S49:=contract_of Try.func49 hb49 (bl_ (by kernel_rfl)) (fun ⟨x0,_⟩ h hwf K q =>
 let ⟨_,hn⟩:=top49 x0 h
 (snd49 _).1 x0 _ hn K q)
end
noncomputable section
def ext76:Ext:=[]
theorem ext76Ok:ExtOk Try.prog ext76:=trivial
noncomputable def b76:Code:=bodyOf Try.f76
theorem hb76:Try.f76.body=some b76:=by kernel_rfl
def sig76:List AT:=[AT.v (.int .i64),AT.v (.int .i64),AT.v (.int .i64)]
def tys76:List Ty:=[.bool]
def kds76:List RK:=[]
def oks76:List AT:=owns sig76
def P76 (x0:Int) (x1:Int) (x2:Int):Prop:=True
def g76_0 (x0:Int) (x1:Int) (x2:Int):Bool:=(if (decide (x0≥x1))=true then decide (x0≤x2) else false)
theorem at76 (x0:Int) (x1:Int) (x2:Int) (h:P76 x0 x1 x2) (K:Ctx) (q:Nat→Value):AtV Try.prog 76 (PostR kds76 oks76 [⟨.bool,g76_0 x0 x1 x2⟩] [] [] q K) 15 K q [] [.code b76] (entE 0 0 sig76 (x0,x1,x2,())) (entL sig76 (x0,x1,x2,())):=by
 unfold P76 at h
 unfold g76_0
 by_cases b0:(decide (x0≥x1))=true
 ·try simp only [if_pos b0] at h ⊢
  exact AtV.ret Try.func76 tabOk ext76Ok mixed false [] tys76 [true] (a1 b0 trivial) (by kernel_rfl)
 ·try simp only [if_neg b0] at h ⊢
  replace b0:=bf_ b0
  exact AtV.ret Try.func76 tabOk ext76Ok mixed false [] tys76 [false] (a1 b0 trivial) (by kernel_rfl)
def S76:Am.Spec:={ sig:=sig76,pre:=fun ⟨x0,x1,x2,_⟩=>P76 x0 x1 x2,res:=fun ⟨x0,x1,x2,_⟩=>[⟨.bool,g76_0 x0 x1 x2⟩],kds:=kds76 }
theorem con76:Contract Try.prog 76 S76:=contract_of Try.func76 hb76 (bl_ (by kernel_rfl)) (fun ⟨x0,x1,x2,_⟩ h _ K q=>at76 x0 x1 x2 h K q)
end
noncomputable section
def ext52:Ext:=[(76,S76)]
theorem ext52Ok:ExtOk Try.prog ext52:=⟨⟨ca76,con76⟩,trivial⟩
noncomputable def b52:Code:=bodyOf Try.f52
theorem hb52:Try.f52.body=some b52:=by kernel_rfl
def sig52:List AT:=[AT.v (.int .i64)]
def tys52:List Ty:=[.bool]
def kds52:List RK:=[]
def oks52:List AT:=owns sig52
def P52 (x0:Int):Prop:=True
def g52_0 (x0:Int):Bool:=g76_0 x0 1 3
theorem at52 (x0:Int) (h:P52 x0) (K:Ctx) (q:Nat→Value):AtV Try.prog 52 (PostR kds52 oks52 [⟨.bool,g52_0 x0⟩] [] [] q K) 5 K q [] [.code b52] (entE 0 0 sig52 (x0,())) (entL sig52 (x0,())):=by
 unfold P52 at h
 unfold g52_0
 exact AtV.ret Try.func52 tabOk ext52Ok mixed false [] tys52 [] (a1 trivial trivial) (by kernel_rfl)
def S52:Am.Spec:={ sig:=sig52,pre:=fun ⟨x0,_⟩=>P52 x0,res:=fun ⟨x0,_⟩=>[⟨.bool,g52_0 x0⟩],kds:=kds52 }
theorem con52:Contract Try.prog 52 S52:=contract_of Try.func52 hb52 (bl_ (by kernel_rfl)) (fun ⟨x0,_⟩ h _ K q=>at52 x0 h K q)
end
noncomputable section
def ext23:Ext:=[(50,S50),(51,S51),(52,S52)]
theorem ext23Ok:ExtOk Try.prog ext23:=⟨⟨ca50,con50⟩,⟨ca51,con51⟩,⟨ca52,con52⟩,trivial⟩
noncomputable def b23:Code:=bodyOf Try.f23
theorem hb23:Try.f23.body=some b23:=by kernel_rfl
def sig23:List AT:=[AT.v (.sl YA3),AT.v YA1]
def tys23:List Ty:=[.bool]
def kds23:List RK:=[]
def oks23:List AT:=owns sig23
def P23 (x0:List (ByteArray×List ByteArray×Unit)) (x1:ByteArray×ByteArray×Int×Unit):Prop:=True
def g23_0 (x0:List (ByteArray×List ByteArray×Unit)) (x1:ByteArray×ByteArray×Int×Unit):Bool:=(if (decide (g50_0 x0 x1.1≥0))=true then (if (g51_0 x1.2.1)=true then g52_0 x1.2.2.1 else false) else false)
theorem at23 (x0:List (ByteArray×List ByteArray×Unit)) (x1:ByteArray×ByteArray×Int×Unit) (h:P23 x0 x1) (K:Ctx) (q:Nat→Value):AtV Try.prog 23 (PostR kds23 oks23 [⟨.bool,g23_0 x0 x1⟩] [] [] q K) 20 K q [] [.code b23] (entE 0 0 sig23 (x0,x1,())) (entL sig23 (x0,x1,())):=by
 unfold P23 at h
 unfold g23_0
 by_cases b0:(decide (g50_0 x0 x1.1≥0))=true
 ·try simp only [if_pos b0] at h ⊢
  by_cases b1:(g51_0 x1.2.1)=true
  ·try simp only [if_pos b1] at h ⊢
   exact AtV.ret Try.func23 tabOk ext23Ok mixed false [] tys23 [true,true] (a1 trivial (a1 b0 (a1 trivial (a1 b1 (a1 trivial trivial))))) (by kernel_rfl)
  ·try simp only [if_neg b1] at h ⊢
   replace b1:=bf_ b1
   exact AtV.ret Try.func23 tabOk ext23Ok mixed false [] tys23 [true,false] (a1 trivial (a1 b0 (a1 trivial (a1 b1 trivial)))) (by kernel_rfl)
 ·try simp only [if_neg b0] at h ⊢
  replace b0:=bf_ b0
  exact AtV.ret Try.func23 tabOk ext23Ok mixed false [] tys23 [false,false] (a1 trivial (a1 b0 (a1 (rfl:false=false) trivial))) (by kernel_rfl)
def S23:Am.Spec:={ sig:=sig23,pre:=fun ⟨x0,x1,_⟩=>P23 x0 x1,res:=fun ⟨x0,x1,_⟩=>[⟨.bool,g23_0 x0 x1⟩],kds:=kds23 }
theorem con23:Contract Try.prog 23 S23:=contract_of Try.func23 hb23 (bl_ (by kernel_rfl)) (fun ⟨x0,x1,_⟩ h _ K q=>at23 x0 x1 h K q)
end
noncomputable section
def ext69:Ext:=[]
theorem ext69Ok:ExtOk Try.prog ext69:=trivial
noncomputable def b69:Code:=bodyOf Try.f69
theorem hb69:Try.f69.body=some b69:=by kernel_rfl
def sig69:List AT:=[AT.v (.str)]
def tys69:List Ty:=[.bool]
def kds69:List RK:=[]
def oks69:List AT:=owns sig69
def P69 (x0:ByteArray):Prop:=True
def g69_0 (x0:ByteArray):Bool := !ByteArray.toList x0==ByteArray.toList x0
theorem at69 (x0:ByteArray) (h:P69 x0) (K:Ctx) (q:Nat→Value):AtV Try.prog 69 (PostR kds69 oks69 [⟨.bool,g69_0 x0⟩] [] [] q K) 6 K q [] [.code b69] (entE 0 0 sig69 (x0,())) (entL sig69 (x0,())):=by
 unfold P69 at h
 unfold g69_0
 exact AtV.ret Try.func69 tabOk ext69Ok mixed false [] tys69 [] trivial (by kernel_rfl)
def S69:Am.Spec:={ sig:=sig69,pre:=fun ⟨x0,_⟩=>P69 x0,res:=fun ⟨x0,_⟩=>[⟨.bool,g69_0 x0⟩],kds:=kds69 }
theorem con69:Contract Try.prog 69 S69:=contract_of Try.func69 hb69 (bl_ (by kernel_rfl)) (fun ⟨x0,_⟩ h _ K q=>at69 x0 h K q)
end
noncomputable section
def ext47:Ext:=[(69,S69)]
theorem ext47Ok:ExtOk Try.prog ext47:=⟨⟨ca69,con69⟩,trivial⟩
noncomputable def b47:Code:=bodyOf Try.f47
theorem hb47:Try.f47.body=some b47:=by kernel_rfl
def sig47:List AT:=[AT.v (.str),AT.v (.str)]
def tys47:List Ty:=[.int .i64]
def kds47:List RK:=[]
def oks47:List AT:=owns sig47
def P47 (x0:ByteArray) (x1:ByteArray):Prop:=True
def g47_0 (x0:ByteArray) (x1:ByteArray):Int:=(if (g69_0 x0)=true then (if (g69_0 x1)=true then 0 else -1) else (if (g69_0 x1)=true then 1 else (if (Op.bytesLess (ByteArray.toList x0) (ByteArray.toList x1))=true then -1 else (if (!(Op.bytesLess (ByteArray.toList x0) (ByteArray.toList x1)||ByteArray.toList x0==ByteArray.toList x1))=true then 1 else 0))))
theorem at47 (x0:ByteArray) (x1:ByteArray) (h:P47 x0 x1) (K:Ctx) (q:Nat→Value):AtV Try.prog 47 (PostR kds47 oks47 [⟨.int .i64,g47_0 x0 x1⟩] [] [] q K) 20 K q [] [.code b47] (entE 0 0 sig47 (x0,x1,())) (entL sig47 (x0,x1,())):=by
 unfold P47 at h
 unfold g47_0
 by_cases b0:(g69_0 x0)=true
 ·try simp only [if_pos b0] at h ⊢
  by_cases b1:(g69_0 x1)=true
  ·try simp only [if_pos b1] at h ⊢
   exact AtV.ret Try.func47 tabOk ext47Ok mixed false [] tys47 [true,true] (a1 trivial (a1 trivial (a1 b0 (a1 b1 trivial)))) (by kernel_rfl)
  ·try simp only [if_neg b1] at h ⊢
   replace b1:=bf_ b1
   exact AtV.ret Try.func47 tabOk ext47Ok mixed false [] tys47 [true,false] (a1 trivial (a1 trivial (a1 b0 (a1 b1 trivial)))) (by kernel_rfl)
 ·try simp only [if_neg b0] at h ⊢
  replace b0:=bf_ b0
  by_cases b1:(g69_0 x1)=true
  ·try simp only [if_pos b1] at h ⊢
   exact AtV.ret Try.func47 tabOk ext47Ok mixed false [] tys47 [false,true] (a1 trivial (a1 trivial (a1 b0 (a1 b1 trivial)))) (by kernel_rfl)
  ·try simp only [if_neg b1] at h ⊢
   replace b1:=bf_ b1
   by_cases b2:(Op.bytesLess (ByteArray.toList x0) (ByteArray.toList x1))=true
   ·try simp only [if_pos b2] at h ⊢
    exact AtV.ret Try.func47 tabOk ext47Ok mixed false [] tys47 [false,false,true] (a1 trivial (a1 trivial (a1 b0 (a1 b1 (a1 b2 trivial))))) (by kernel_rfl)
   ·try simp only [if_neg b2] at h ⊢
    replace b2:=bf_ b2
    by_cases b3:(!(Op.bytesLess (ByteArray.toList x0) (ByteArray.toList x1)||ByteArray.toList x0==ByteArray.toList x1))=true
    ·try simp only [if_pos b3] at h ⊢
     exact AtV.ret Try.func47 tabOk ext47Ok mixed false [] tys47 [false,false,false,true] (a1 trivial (a1 trivial (a1 b0 (a1 b1 (a1 b2 (a1 b3 trivial)))))) (by kernel_rfl)
    ·try simp only [if_neg b3] at h ⊢
     replace b3:=bf_ b3
     exact AtV.ret Try.func47 tabOk ext47Ok mixed false [] tys47 [false,false,false,false] (a1 trivial (a1 trivial (a1 b0 (a1 b1 (a1 b2 (a1 b3 trivial)))))) (by kernel_rfl)
def S47:Am.Spec:={ sig:=sig47,pre:=fun ⟨x0,x1,_⟩=>P47 x0 x1,res:=fun ⟨x0,x1,_⟩=>[⟨.int .i64,g47_0 x0 x1⟩],kds:=kds47 }
theorem con47:Contract Try.prog 47 S47:=contract_of Try.func47 hb47 (bl_ (by kernel_rfl)) (fun ⟨x0,x1,_⟩ h _ K q=>at47 x0 x1 h K q)
end
noncomputable section
def ext70:Ext:=[]
theorem ext70Ok:ExtOk Try.prog ext70:=trivial
noncomputable def b70:Code:=bodyOf Try.f70
theorem hb70:Try.f70.body=some b70:=by kernel_rfl
def sig70:List AT:=[AT.v (.int .i64)]
def tys70:List Ty:=[.bool]
def kds70:List RK:=[]
def oks70:List AT:=owns sig70
def P70 (x0:Int):Prop:=True
def g70_0 (x0:Int):Bool:=x0 != x0
theorem at70 (x0:Int) (h:P70 x0) (K:Ctx) (q:Nat→Value):AtV Try.prog 70 (PostR kds70 oks70 [⟨.bool,g70_0 x0⟩] [] [] q K) 6 K q [] [.code b70] (entE 0 0 sig70 (x0,())) (entL sig70 (x0,())):=by
 unfold P70 at h
 unfold g70_0
 exact AtV.ret Try.func70 tabOk ext70Ok mixed false [] tys70 [] trivial (by kernel_rfl)
def S70:Am.Spec:={ sig:=sig70,pre:=fun ⟨x0,_⟩=>P70 x0,res:=fun ⟨x0,_⟩=>[⟨.bool,g70_0 x0⟩],kds:=kds70 }
theorem con70:Contract Try.prog 70 S70:=contract_of Try.func70 hb70 (bl_ (by kernel_rfl)) (fun ⟨x0,_⟩ h _ K q=>at70 x0 h K q)
end
noncomputable section
def ext48:Ext:=[(70,S70)]
theorem ext48Ok:ExtOk Try.prog ext48:=⟨⟨ca70,con70⟩,trivial⟩
noncomputable def b48:Code:=bodyOf Try.f48
theorem hb48:Try.f48.body=some b48:=by kernel_rfl
def sig48:List AT:=[AT.v (.int .i64),AT.v (.int .i64)]
def tys48:List Ty:=[.int .i64]
def kds48:List RK:=[]
def oks48:List AT:=owns sig48
def P48 (x0:Int) (x1:Int):Prop:=True
def g48_0 (x0:Int) (x1:Int):Int:=(if (g70_0 x0)=true then (if (g70_0 x1)=true then 0 else -1) else (if (g70_0 x1)=true then 1 else (if (decide (x0<x1))=true then -1 else (if (decide (x0>x1))=true then 1 else 0))))
theorem at48 (x0:Int) (x1:Int) (h:P48 x0 x1) (K:Ctx) (q:Nat→Value):AtV Try.prog 48 (PostR kds48 oks48 [⟨.int .i64,g48_0 x0 x1⟩] [] [] q K) 20 K q [] [.code b48] (entE 0 0 sig48 (x0,x1,())) (entL sig48 (x0,x1,())):=by
 unfold P48 at h
 unfold g48_0
 by_cases b0:(g70_0 x0)=true
 ·try simp only [if_pos b0] at h ⊢
  by_cases b1:(g70_0 x1)=true
  ·try simp only [if_pos b1] at h ⊢
   exact AtV.ret Try.func48 tabOk ext48Ok mixed false [] tys48 [true,true] (a1 trivial (a1 trivial (a1 b0 (a1 b1 trivial)))) (by kernel_rfl)
  ·try simp only [if_neg b1] at h ⊢
   replace b1:=bf_ b1
   exact AtV.ret Try.func48 tabOk ext48Ok mixed false [] tys48 [true,false] (a1 trivial (a1 trivial (a1 b0 (a1 b1 trivial)))) (by kernel_rfl)
 ·try simp only [if_neg b0] at h ⊢
  replace b0:=bf_ b0
  by_cases b1:(g70_0 x1)=true
  ·try simp only [if_pos b1] at h ⊢
   exact AtV.ret Try.func48 tabOk ext48Ok mixed false [] tys48 [false,true] (a1 trivial (a1 trivial (a1 b0 (a1 b1 trivial)))) (by kernel_rfl)
  ·try simp only [if_neg b1] at h ⊢
   replace b1:=bf_ b1
   by_cases b2:(decide (x0<x1))=true
   ·try simp only [if_pos b2] at h ⊢
    exact AtV.ret Try.func48 tabOk ext48Ok mixed false [] tys48 [false,false,true] (a1 trivial (a1 trivial (a1 b0 (a1 b1 (a1 b2 trivial))))) (by kernel_rfl)
   ·try simp only [if_neg b2] at h ⊢
    replace b2:=bf_ b2
    by_cases b3:(decide (x0>x1))=true
    ·try simp only [if_pos b3] at h ⊢
     exact AtV.ret Try.func48 tabOk ext48Ok mixed false [] tys48 [false,false,false,true] (a1 trivial (a1 trivial (a1 b0 (a1 b1 (a1 b2 (a1 b3 trivial)))))) (by kernel_rfl)
    ·try simp only [if_neg b3] at h ⊢
     replace b3:=bf_ b3
     exact AtV.ret Try.func48 tabOk ext48Ok mixed false [] tys48 [false,false,false,false] (a1 trivial (a1 trivial (a1 b0 (a1 b1 (a1 b2 (a1 b3 trivial)))))) (by kernel_rfl)
def S48:Am.Spec:={ sig:=sig48,pre:=fun ⟨x0,x1,_⟩=>P48 x0 x1,res:=fun ⟨x0,x1,_⟩=>[⟨.int .i64,g48_0 x0 x1⟩],kds:=kds48 }
theorem con48:Contract Try.prog 48 S48:=contract_of Try.func48 hb48 (bl_ (by kernel_rfl)) (fun ⟨x0,x1,_⟩ h _ K q=>at48 x0 x1 h K q)
end
noncomputable section
def ext46:Ext:=[]
theorem ext46Ok:ExtOk Try.prog ext46:=trivial
noncomputable def b46:Code:=bodyOf Try.f46
theorem hb46:Try.f46.body=some b46:=by kernel_rfl
def sig46:List AT:=[AT.v (.sl (.int .i64))]
def tys46:List Ty:=[.int .i64]
def kds46:List RK:=[]
def oks46:List AT:=owns sig46
def E46_3 (v8:Int) (x0:List Int):Env:=[(3,.a (.val (.int .i64 0))),(6,.a (.sl (.int .i64) x0)),(7,.a (.val (.int .i64 (x0.length:Int)))),(8,.a (.val (.int .i64 v8)))]
def L46_3 (v8:Int) (x0:List Int):Heap:=[]
mutual
def R46:Nat→List Int→List Dyn→Prop
 | 0,_,_=>False
 | n+1,x0,ds=>(R46_3 n (0) (x0) ds)
def R46_3:Nat→Int→List Int→List Dyn→Prop
 | 0,_,_,_=>False
 | n+1,v8,x0,ds=>(if (decide (v8<(x0.length:Int)))=true then ((0≤v8)∧(v8<(x0.length:Int))∧(if (List.getD x0 (Int.toNat v8) 0 != 0)=true then (ds=[Dyn.mk (.int .i64) (List.getD x0 (Int.toNat v8) 0)]) else ((InR .i64 (v8+1))∧(R46_3 n (v8+1) (x0) ds)))) else (ds=[Dyn.mk (.int .i64) 0]))
end
theorem snd46:∀ n,(∀ (x0:List Int) ds,R46 n x0 ds→∀ K q,AtV Try.prog 46 (PostR kds46 oks46 ds [] [] q K) 18 K q [] [.code b46] (entE 0 0 sig46 (x0,())) (entL sig46 (x0,())))∧(∀ (v8:Int) (x0:List Int) ds,R46_3 n v8 x0 ds→∀ K q,AtV Try.prog 46 (PostR kds46 oks46 ds [] [] q K) 18 K q [] (cutAt b46 3) (E46_3 v8 x0) (L46_3 v8 x0)):=by
 intro n
 induction n with
 | zero=>exact ⟨fun _ _ h=>by simp only [R46] at h,fun _ _ _ h=>by simp only [R46_3] at h⟩
 | succ n ih =>
 obtain ⟨ih,ih3⟩:=ih
 refine ⟨?_,?_⟩
 ·intro x0 ds h K q
  rw [R46] at h
  exact AtV.go tabOk ext46Ok mixed false [] [] [3,6,7,8] [] [] trivial (ih3 _ _ _ h K q) (by kernel_rfl)
 ·intro v8 x0 ds h K q
  rw [R46_3] at h
  by_cases b0:(decide (v8<(x0.length:Int)))=true
  ·rw [if_pos b0] at h
   obtain ⟨s0,s1,h⟩:=h
   by_cases b1:(List.getD x0 (Int.toNat v8) 0 != 0)=true
   ·rw [if_pos b1] at h
    subst h
    exact AtV.ret Try.func46 tabOk ext46Ok mixed false [] tys46 [true,true] (a1 b0 (a1 s0 (a1 s1 (a1 b1 trivial)))) (by kernel_rfl)
   ·rw [if_neg b1] at h
    replace b1:=bf_ b1
    obtain ⟨s2,h⟩:=h
    exact AtV.go tabOk ext46Ok mixed false [] [] [3,6,7,8] [] [true,false] (a1 b0 (a1 s0 (a1 s1 (a1 b1 (a1 s2 trivial))))) (ih3 _ _ _ h K q) (by kernel_rfl)
  ·rw [if_neg b0] at h
   replace b0:=bf_ b0
   subst h
   exact AtV.ret Try.func46 tabOk ext46Ok mixed false [] tys46 [false] (a1 b0 trivial) (by kernel_rfl)
def g46_0:List Int→Int
 | []=>0
 | x :: r=>if x != 0 then x else g46_0 r
def P46 (x0:List Int):Prop:=True
theorem goL46:∀ (xs:List Int),goL (fun (_:Unit) (x:Int)=>if (x != 0)=true then Except.error [(⟨.int .i64,x⟩:Dyn)] else .ok ()) (fun _=>[⟨.int .i64,(0:Int)⟩]) () xs=[⟨.int .i64,g46_0 xs⟩]
 | []=>rfl
 | x :: r=>by
  simp only [goL,g46_0]
  cases h:x != 0 with
  | true=>simp
  | false=>simpa using goL46 r
theorem top46 (x0:List Int) (hm:x0.length≤maxLen):R46 (x0.length+1+1) x0 [⟨.int .i64,g46_0 x0⟩]:=by
 rw [R46, ← goL46]
 refine loop_all x0 0 _ _ (fun _ _=>True) (fun n i _ ds=>R46_3 n i x0 ds) trivial ?_ ?_
 ·intro n b _
  show R46_3 (n+1) x0.length x0 _
  rw [R46_3,if_neg (by simp)]
 ·intro n i b hi _
  cases h:(x0.getD i 0 != 0) with
  | true =>
   show R46_3 (n+1) (i:Int) x0 _
   rw [R46_3,if_pos (by simp;omega)]
   refine ⟨by omega,by omega,?_⟩
   simp only [Int.toNat_natCast]
   rw [if_pos h] <;> trivial
  | false =>
   refine ⟨trivial,fun ds hr => ?_⟩
   rw [R46_3,if_pos (by simp;omega)]
   refine ⟨by omega,by omega,?_⟩
   simp only [Int.toNat_natCast]
   rw [if_neg (by rw [h];simp)]
   exact ⟨inR_up hm hi,hr⟩
def S46:Am.Spec:={ sig:=sig46,pre:=fun ⟨x0,_⟩=>P46 x0,res:=fun ⟨x0,_⟩=>[⟨.int .i64,g46_0 x0⟩] }
theorem con46:Contract Try.prog 46 S46:=contract_of Try.func46 hb46 (bl_ (by kernel_rfl)) (fun ⟨x0,_⟩ h hwf K q =>
 (snd46 _).1 x0 _ (top46 x0 hwf.1.1) K q)
end
noncomputable section
def ext21:Ext:=[(47,S47),(48,S48),(46,S46)]
theorem ext21Ok:ExtOk Try.prog ext21:=⟨⟨ca47,con47⟩,⟨ca48,con48⟩,⟨ca46,con46⟩,trivial⟩
noncomputable def b21:Code:=bodyOf Try.f21
theorem hb21:Try.f21.body=some b21:=by kernel_rfl
def sig21:List AT:=[AT.v YA1,AT.v YA1]
def tys21:List Ty:=[.int .i64]
def kds21:List RK:=[]
def oks21:List AT:=owns sig21
def P21 (x0:ByteArray×ByteArray×Int×Unit) (x1:ByteArray×ByteArray×Int×Unit):Prop:=True
def g21_0 (x0:ByteArray×ByteArray×Int×Unit) (x1:ByteArray×ByteArray×Int×Unit):Int:=g46_0 [g47_0 x0.1 x1.1,g47_0 x0.2.1 x1.2.1,g48_0 x0.2.2.1 x1.2.2.1]
theorem at21 (x0:ByteArray×ByteArray×Int×Unit) (x1:ByteArray×ByteArray×Int×Unit) (h:P21 x0 x1) (K:Ctx) (q:Nat→Value):AtV Try.prog 21 (PostR kds21 oks21 [⟨.int .i64,g21_0 x0 x1⟩] [] [] q K) 22 K q [] [.code b21] (entE 0 0 sig21 (x0,x1,())) (entL sig21 (x0,x1,())):=by
 unfold P21 at h
 unfold g21_0
 exact AtV.ret Try.func21 tabOk ext21Ok mixed false [] tys21 [] (a1 trivial (a1 trivial (a1 trivial (a1 trivial trivial)))) (by kernel_rfl)
def S21:Am.Spec:={ sig:=sig21,pre:=fun ⟨x0,x1,_⟩=>P21 x0 x1,res:=fun ⟨x0,x1,_⟩=>[⟨.int .i64,g21_0 x0 x1⟩],kds:=kds21 }
theorem con21:Contract Try.prog 21 S21:=contract_of Try.func21 hb21 (bl_ (by kernel_rfl)) (fun ⟨x0,x1,_⟩ h _ K q=>at21 x0 x1 h K q)
end
noncomputable section
def ext22:Ext:=[(49,S49),(23,S23),(21,S21)]
theorem ext22Ok:ExtOk Try.prog ext22:=⟨⟨ca49,con49⟩,⟨ca23,con23⟩,⟨ca21,con21⟩,trivial⟩
noncomputable def b22:Code:=bodyOf Try.f22
theorem hb22:Try.f22.body=some b22:=by kernel_rfl
def sig22:List AT:=[AT.v (.sl YA3),AT.v (.sl YA1)]
def tys22:List Ty:=[.bool]
def kds22:List RK:=[]
def oks22:List AT:=owns sig22
def E22_4 (v12:Int) (x0:List (ByteArray×List ByteArray×Unit)) (x1:List TyB0):Env:=[(0,.a (.sl YA3 x0)),(1,.a (.sl YA1 x1)),(10,.a (.sl YA1 x1)),(11,.a (.val (.int .i64 (x1.length:Int)))),(12,.a (.val (.int .i64 v12)))]
def L22_4 (v12:Int) (x0:List (ByteArray×List ByteArray×Unit)) (x1:List TyB0):Heap:=[]
mutual
def R22:Nat→List (ByteArray×List ByteArray×Unit)→List TyB0→List Dyn→Prop
 | 0,_,_,_=>False
 | n+1,x0,x1,ds=>((P49 x0)∧(if (!g49_0 x0)=true then (ds=[Dyn.mk .bool false]) else (R22_4 n (0) (x0) (x1) ds)))
def R22_4:Nat→Int→List (ByteArray×List ByteArray×Unit)→List TyB0→List Dyn→Prop
 | 0,_,_,_,_=>False
 | n+1,v12,x0,x1,ds=>(if (decide (v12<(x1.length:Int)))=true then ((0≤v12)∧(v12<(x1.length:Int))∧(if (!g23_0 x0 (List.getD x1 (Int.toNat v12) (ByteArray.empty,ByteArray.empty,0,())))=true then (ds=[Dyn.mk .bool false]) else (if (decide (v12>0))=true then ((InR .i64 (v12 - 1))∧((0≤v12 - 1)∧(v12 - 1<(x1.length:Int))∧(if (decide (g21_0 (List.getD x1 (Int.toNat (v12 - 1)) (ByteArray.empty,ByteArray.empty,0,())) (List.getD x1 (Int.toNat v12) (ByteArray.empty,ByteArray.empty,0,()))≥0))=true then (ds=[Dyn.mk .bool false]) else ((InR .i64 (v12+1))∧(R22_4 n (v12+1) (x0) (x1) ds))))) else ((InR .i64 (v12+1))∧(R22_4 n (v12+1) (x0) (x1) ds))))) else (ds=[Dyn.mk .bool (decide ((x1.length:Int)≤48))]))
end
theorem snd22:∀ n,(∀ (x0:List (ByteArray×List ByteArray×Unit)) (x1:List TyB0) ds,R22 n x0 x1 ds→∀ K q,AtV Try.prog 22 (PostR kds22 oks22 ds [] [] q K) 39 K q [] [.code b22] (entE 0 0 sig22 (x0,x1,())) (entL sig22 (x0,x1,())))∧(∀ (v12:Int) (x0:List (ByteArray×List ByteArray×Unit)) (x1:List TyB0) ds,R22_4 n v12 x0 x1 ds→∀ K q,AtV Try.prog 22 (PostR kds22 oks22 ds [] [] q K) 39 K q [] (cutAt b22 4) (E22_4 v12 x0 x1) (L22_4 v12 x0 x1)):=by
 intro n
 induction n with
 | zero=>exact ⟨fun _ _ _ h=>by simp only [R22] at h,fun _ _ _ _ h=>by simp only [R22_4] at h⟩
 | succ n ih =>
 obtain ⟨ih,ih4⟩:=ih
 refine ⟨?_,?_⟩
 ·intro x0 x1 ds h K q
  rw [R22] at h
  obtain ⟨s0,h⟩:=h
  by_cases b0:(!g49_0 x0)=true
  ·rw [if_pos b0] at h
   subst h
   exact AtV.ret Try.func22 tabOk ext22Ok mixed false [] tys22 [true] (a1 s0 (a1 b0 trivial)) (by kernel_rfl)
  ·rw [if_neg b0] at h
   replace b0:=bf_ b0
   exact AtV.go tabOk ext22Ok mixed false [] [] [0,1,10,11,12] [] [false] (a1 s0 (a1 b0 trivial)) (ih4 _ _ _ _ h K q) (by kernel_rfl)
 ·intro v12 x0 x1 ds h K q
  rw [R22_4] at h
  by_cases b0:(decide (v12<(x1.length:Int)))=true
  ·rw [if_pos b0] at h
   obtain ⟨s0,s1,h⟩:=h
   by_cases b1:(!g23_0 x0 (List.getD x1 (Int.toNat v12) (ByteArray.empty,ByteArray.empty,0,())))=true
   ·rw [if_pos b1] at h
    subst h
    exact AtV.ret Try.func22 tabOk ext22Ok mixed false [] tys22 [true,true,true] (a1 b0 (a1 s0 (a1 s1 (a1 trivial (a1 b1 (a1 (rfl:true=true) trivial)))))) (by kernel_rfl)
   ·rw [if_neg b1] at h
    replace b1:=bf_ b1
    by_cases b2:(decide (v12>0))=true
    ·rw [if_pos b2] at h
     obtain ⟨s2,h⟩:=h
     obtain ⟨s3,s4,h⟩:=h
     by_cases b3:(decide (g21_0 (List.getD x1 (Int.toNat (v12 - 1)) (ByteArray.empty,ByteArray.empty,0,())) (List.getD x1 (Int.toNat v12) (ByteArray.empty,ByteArray.empty,0,()))≥0))=true
     ·rw [if_pos b3] at h
      subst h
      exact AtV.ret Try.func22 tabOk ext22Ok mixed false [] tys22 [true,false,true,true] (a1 b0 (a1 s0 (a1 s1 (a1 trivial (a1 b1 (a1 b2 (a1 s2 (a1 s3 (a1 s4 (a1 trivial (a1 b3 trivial))))))))))) (by kernel_rfl)
     ·rw [if_neg b3] at h
      replace b3:=bf_ b3
      obtain ⟨s5,h⟩:=h
      exact AtV.go tabOk ext22Ok mixed false [] [] [0,1,10,11,12] [] [true,false,true,false] (a1 b0 (a1 s0 (a1 s1 (a1 trivial (a1 b1 (a1 b2 (a1 s2 (a1 s3 (a1 s4 (a1 trivial (a1 b3 (a1 s5 trivial)))))))))))) (ih4 _ _ _ _ h K q) (by kernel_rfl)
    ·rw [if_neg b2] at h
     replace b2:=bf_ b2
     obtain ⟨s2,h⟩:=h
     exact AtV.go tabOk ext22Ok mixed false [] [] [0,1,10,11,12] [] [true,false,false,false] (a1 b0 (a1 s0 (a1 s1 (a1 trivial (a1 b1 (a1 b2 (a1 (rfl:false=false) (a1 s2 trivial)))))))) (ih4 _ _ _ _ h K q) (by kernel_rfl)
  ·rw [if_neg b0] at h
   replace b0:=bf_ b0
   subst h
   exact AtV.ret Try.func22 tabOk ext22Ok mixed false [] tys22 [false] (a1 b0 trivial) (by kernel_rfl)
abbrev RL22:=ByteArray×List ByteArray×Unit
abbrev GR22:=ByteArray×ByteArray×Int×Unit
def ok22 (x0:List RL22) (x1:List GR22) (i:Nat) (x:GR22):Bool:=g23_0 x0 x&&(i==0 || !decide (g21_0 (x1.getD (i - 1) (ByteArray.empty,ByteArray.empty,0,())) x≥0))
def g22_0 (x0:List RL22) (x1:List GR22):Bool:=if g49_0 x0=true then (allI (ok22 x0 x1) 0 x1&&decide ((x1.length:Int)≤48)) else false
def P22 (x0:List RL22) (x1:List GR22):Prop:=P49 x0
theorem step22 (n i:Nat) (x0:List RL22) (x1:List GR22) (hm:x1.length≤maxLen) (hi:i<x1.length) (ds:List Dyn)
  (h:if ok22 x0 x1 i (x1.getD i (ByteArray.empty,ByteArray.empty,0,()))=true then R22_4 n ((i:Int)+1) x0 x1 ds else ds=[⟨.bool,false⟩]):R22_4 (n+1) (i:Int) x0 x1 ds:=by
 have hu:=inR_up hm hi
 have hmx:maxLen≤9223372036854775807:=by decide
 rw [R22_4,if_pos (by simp only [decide_eq_true_eq];omega)]
 simp only [Int.toNat_natCast]
 refine ⟨by omega,by omega,?_⟩
 unfold ok22 at h
 by_cases h1:g23_0 x0 (x1.getD i (ByteArray.empty,ByteArray.empty,0,()))=true
 case neg =>
  have h1:=bf_ h1
  refine (if_pos (by rw [h1];rfl)).mpr ?_
  rw [h1] at h
  simpa using h
 refine (if_neg (by rw [h1];decide)).mpr ?_
 rw [h1] at h
 by_cases h0:(i:Int)>0
 case neg =>
  refine (if_neg (by simpa using h0)).mpr ?_
  have hi0:(i==0)=true:=by simp;omega
  rw [hi0] at h
  exact ⟨hu,by simpa using h⟩
 refine (if_pos (by simpa using h0)).mpr ?_
 have hi0:(i==0)=false:=by simp;omega
 have e:((i:Int) - 1).toNat=i - 1:=by omega
 have hd:InR .i64 ((i:Int) - 1):=by rw [i64_iff];omega
 rw [hi0] at h
 simp only [e]
 refine ⟨hd,by omega,by omega,?_⟩
 by_cases h3:g21_0 (x1.getD (i - 1) (ByteArray.empty,ByteArray.empty,0,())) (x1.getD i (ByteArray.empty,ByteArray.empty,0,()))≥0
 ·refine (if_pos (decide_eq_true h3)).mpr ?_
  rw [decide_eq_true h3] at h
  simpa using h
 ·refine (if_neg (by simpa using h3)).mpr ?_
  rw [decide_eq_false h3] at h
  exact ⟨hu,by simpa using h⟩
theorem top22 (x0:List RL22) (x1:List GR22) (hp:P22 x0 x1) (hw:x1.length≤maxLen):∃ n,R22 n x0 x1 [⟨.bool,g22_0 x0 x1⟩]:=by
 unfold g22_0
 by_cases c:g49_0 x0=true
 ·rw [if_pos c]
  have key:=loop_testI x1 (ByteArray.empty,ByteArray.empty,0,()) (ok22 x0 x1) [(⟨.bool,false⟩:Dyn)] [⟨.bool,decide ((x1.length:Int)≤48)⟩] (fun n i ds=>R22_4 n i x0 x1 ds) (fun n => ?_) (fun n i hi hok ds hr => ?_) (fun n i hi hok => ?_)
  ·refine ⟨x1.length+1+1,?_⟩
   rw [R22]
   refine ⟨hp,(if_neg (by rw [c];decide)).mpr ?_⟩
   cases h:allI (ok22 x0 x1) 0 x1 with
   | true=>rw [if_pos h] at key;simpa using key
   | false=>rw [if_neg (by rw [h];simp)] at key;simpa using key
  ·rw [R22_4,if_neg (by simp)]
  ·exact step22 n i x0 x1 hw hi ds (by rw [if_pos hok];exact hr)
  ·exact step22 n i x0 x1 hw hi _ (by rw [if_neg (by rw [hok];simp)])
 ·rw [if_neg c]
  exact ⟨1,by rw [R22];exact ⟨hp,(if_pos (by rw [bf_ c];rfl)).mpr rfl⟩⟩
def S22:Am.Spec:={ sig:=sig22,pre:=fun ⟨x0,x1,_⟩=>P22 x0 x1,res:=fun ⟨x0,x1,_⟩=>[⟨.bool,g22_0 x0 x1⟩] }
theorem con22:Contract Try.prog 22 S22:=contract_of Try.func22 hb22 (bl_ (by kernel_rfl)) (fun ⟨x0,x1,_⟩ h hwf K q =>
 let ⟨_,hn⟩:=top22 x0 x1 h hwf.2.1.1
 (snd22 _).1 x0 x1 _ hn K q)
end
set_option maxHeartbeats 2000000 in
theorem nil25 (w:World):Calls Try.prog 25 #[.slice none 0 0] w fun e w'=>e = .returned (.slice none 0 0)∧w'=w:=by
 have mixed:=mixed
 have q22:∀ (w:World) (a:Option Addr) (n c n' c':Nat),(binOp .eql 25 (.slice a n c) (.slice none n' c')).run Try.prog w = .ok (.bool a.isNone) w:=fun w a n c n' c'=>Lib.run_eql_slice_nil w _ _ a n c n' c' Try.underlying25
 go_enter Try.func25,Try.ntmps25
 go_wp2
 go_ret
 exact ⟨rfl,rfl⟩
set_option maxHeartbeats 4000000 in
theorem some25 (w:World) (a:Addr) (n c:Nat) (news:List Value) (hl:news.length=n*(Ty.size YA1)) (hn:n≤1048576) (hc:∀ (j:Nat) (u:Value),news[j]? = some u→w.cell? (a.add j)=some u) (h1:∀ u∈news,u.oneCell'=true) :
  Calls Try.prog 25 #[.slice (some a) n c] w fun r w'=>∃ v',r = .returned v'∧w'.ownsRow w.heap.size 27 (Ty.size YA1) v' n news∧Go.RowKit.Below w.heap.size w w':=by
 have mixed:=mixed
 have q22:∀ (w:World) (a:Option Addr) (n c n' c':Nat),(binOp .eql 25 (.slice a n c) (.slice none n' c')).run Try.prog w = .ok (.bool a.isNone) w:=fun w a n c n' c'=>Lib.run_eql_slice_nil w _ _ a n c n' c' Try.underlying25
 have hinfo:TIOk Try.prog 25 (tabGet tab 25):=tabOk 25
 obtain ⟨_,_,⟨_,⟨i0,hi0,hz1,z,hz0,hzs,_⟩⟩,hby⟩:=hinfo
 rw [hi0] at hby
 simp only [Option.map_some,Option.some.injEq] at hby
 have hzs':z.cells.size=Ty.size YA1:=by rw [← Array.length_toList,hzs];rfl
 have A:Aside (∀ (j:Nat) (u:Value),news[j]? = some u→w.cell? (a.add j)=some u):=hc
 clear hc
 go_enter Try.func25,Try.ntmps25
 go_wp2_with (at_builtin;refine wpList_append_own _ rfl _ _ 25 rfl w.heap.size 27 i0 z (Ty.size YA1) i0.bytes Try.underlying25 hi0 hz0 hz1 rfl hzs' (by decide) _ _ _ rfl (World.ownsRow_made w #[] 0 (Nat.le_refl _) (Nat.zero_le _) (by simp)) a n c news rfl ?qc1 ?qc2 ?qc3 ?qc4 ?qc5 ?qc6 ?_)
 case qc1=>exact hl
 case qc2=>intro j u hj;exact Lib.cell?_alloc_some _ (A.out j u hj)
 case qc3=>exact h1
 case qc4=>unfold maxLen;omega
 case qc5=>rw [hby];omega
 case qc6=>simp
 intro v' w1 hown hgrow hnil
 go_wp2
 go_ret
 exact ⟨v',rfl,by simpa using hown,((Go.RowKit.Below.refl _ w).alloc (Nat.le_refl _) _).grown hgrow (by simp) (by intro k hk;simp [Value.ownBlock] at hk;omega)⟩
def sig25:List AT:=[AT.v (Ty.sl YA1)]
def g25_0 (x0:List TyB0):List TyB0:=x0
def P25 (x0:List TyB0):Prop:=x0.length≤1048576
def S25:Am.Spec:={ sig:=sig25,pre:=fun ⟨x0,_⟩=>P25 x0,res:=fun ⟨x0,_⟩=>[⟨Ty.sl YA1,g25_0 x0⟩] }
theorem con25:Contract Try.prog 25 S25:=clone_contract (t:=YA1) (e:=27) rfl nil25 some25
open Go.RowKit in
theorem wpcp24 {P:Program} (w:World) {o:Oper} {a:Act} {K:Act→World→Prop} {Q:Exit→Act→World→Prop} (d s:Operand) (t t':TypeId)
  (ho:o.op = .call { callee := .builtin .copy,args := #[d,s],argTypes := #[t,t'] }) (v u:Value) (hd:a.eval d=v) (hs:a.eval s=u) {v':Value} {w':World}
  (hr:(Builtin.copy_ #[t,t'] o.type #[v,u]).run P w = .ok v' w') (h:K (a.put o.dst v') w'):o.wp P a w K Q:=by
 unfold Oper.wp execOp
 simp only [ho,resolve,invoke,builtin,Sem.run_bind,Sem.run_pure,Result.andThen_ok,List.map_toArray,List.map_cons,List.map_nil,hd,hs,hr]
 exact h
theorem lcp24 {P:Program} (w:World) {ops:Array Oper} {rest:List Oper} {o:Oper} {a:Act} {Q:Exit→Act→World→Prop} (hgd:o.guard=none) (d s:Operand) (t t':TypeId)
  (ho:o.op = .call { callee := .builtin .copy,args := #[d,s],argTypes := #[t,t'] }) (v u:Value) (hd:a.eval d=v) (hs:a.eval s=u) {v':Value} {w':World}
  (hr:(Builtin.copy_ #[t,t'] o.type #[v,u]).run P w = .ok v' w') (h:wpList P ops Q rest (a.put o.dst v') w'):wpList P ops Q (o :: rest) a w :=
 wpList_plain hgd fun _ hK=>wpcp24 w d s t t' ho v u hd hs hr (hK _ _ h)
theorem scp24 {P:Program} {ops:Array Oper} {o:Oper} {a:Act} {w:World} {K:Act→World→Prop} {Q:Exit→Act→World→Prop} {E:Prop}
  (hg:o.guard=none) (d x:Operand) (dT sT:TypeId) (hop:o.op=Op.call { callee:=Callee.builtin Builtin.copy,args := #[d,x],argTypes := #[dT,sT] })
  (v u:Value) (hd:a.eval d=v) (hx:a.eval x=u) {v':Value} {w':World} (hr:(Builtin.copy_ #[dT,sT] o.type #[v,u]).run P w = .ok v' w') (hK:K (a.put o.dst v') w') :
  if Region.wanted o (yielded ops a.tmps)=true then Oper.wp P o a w K Q else E:=by
 have hw:Region.wanted o (yielded ops a.tmps)=true:=by simp [Region.wanted,hg]
 rw [if_pos hw]
 unfold Oper.wp
 simp [execOp,hop,resolve,invoke,builtin,hd,hx,hr,Result.andThen]
 exact hK
theorem frozen_end24 {w:World} {ys:List TyB0} {b off cap:Nat} {cur:Array Value} {ty:TypeId} {fz:Nat×Nat} (h:OwnAt w YA1 ys b off cap cur ty fz):w.frozen? ⟨b,cur.size,none⟩=false:=by
 have h2:=(h.free.2.resolve_left (by decide)) cur.size (by omega)
 simp only [World.frozen?, h.blk]
 rw [Bool.eq_false_iff]
 intro hh
 simp only [Bool.and_eq_true,decide_eq_true_eq] at hh
 exact h2 hh
theorem info24:∃ (i0:TypeInfo) (z:Value),Try.prog.info? 27=some i0∧i0.size=3∧i0.zero=some z∧z.cells=(dcells YA1).toArray∧(Try.prog.info? 27).map (·.size)=some 3∧∃ by',i0.bytes=by'∧by'≤256∧i0.bytes*1048577≤140737488355328:=by
 have hinfo:TIOk Try.prog 25 (tabGet tab 25):=tabOk 25
 obtain ⟨_,_,⟨_,⟨i0,hi0,hz1,z,hz0,hzs,hzv⟩⟩,hby⟩:=hinfo
 rw [hi0] at hby
 simp only [Option.map_some,Option.some.injEq] at hby
 refine ⟨i0,z,hi0,hz1,hz0,Array.toList_inj.1 (by rw [hzs]),by rw [hi0];exact congrArg some hz1,_,rfl,?_,?_⟩
 ·rw [hby];decide
 ·rw [hby];decide
open Go.RowKit in
set_option maxHeartbeats 8000000 in
theorem end24 (w:World) (xs ys:List TyB0) (b off cap:Nat) (cur:Array Value) (ty:TypeId) (fz:Nat×Nat) (vb voff vcap:Nat) (vcur:Array Value) (vty:TypeId) (vfz:Nat×Nat) (hA:OwnAt w YA1 xs b off cap cur ty fz) (hB:OwnAt w YA1 ys vb voff vcap vcur vty vfz) (h1:ys.length=1) (hvb:vb≠b) (hroom:xs.length+1≤cap) :
   Calls Try.prog 24 #[.slice (some ⟨b,off,none⟩) xs.length cap,.int .i64 xs.length,.slice (some ⟨vb,voff,none⟩) 1 vcap] w fun r w'=>r = .returned (.slice (some ⟨b,off,none⟩) (xs.length+1) cap) ∧
    ∃ q,w'=(w.drewN q).setCells b (off+xs.length*Ty.size YA1) (fcs YA1 ys):=by
 have mixed:=mixed
 obtain ⟨i0,z,hi0,hz1,hz0,hzc,hzm,_⟩:=info24
 have hlen:=hA.len
 have hcapm:=hA.capm
 have hvl:(fcs YA1 ys).length=1*3:=by
  have:=fcs_length (t:=YA1) rfl (xs:=ys) hB.wf
  rw [this,h1];rfl
 obtain ⟨vs,hvs⟩:∃ vs,vs=fcs YA1 ys:=⟨_,rfl⟩
 have hvc:∀ (j:Nat) (u:Value),vs[j]? = some u→w.cell? ⟨vb,voff+j,none⟩=some u:=fun j u hj=>hB.cell j u (by rw [← hvs];exact hj)
 rw [← hvs] at hvl ⊢
 have hle:(xs.length+1)*3≤cap*3:=Nat.mul_le_mul_right _ hroom
 have s2:∀ u∈vs,u.oneCell'=true:=by rw [hvs];exact fcells_ones rfl _
 have hsrc:Src Try.prog i0.size 25 (.slice (some ⟨vb,voff,none⟩) 1 vcap) 1 vs w:=by
  rw [hz1]
  exact Src.ofSlice w Try.underlying25 ⟨vb,voff,none⟩ 1 vcap vs hvl (fun j u hj=>by rw [Addr.add_lit];exact hvc j u hj) s2
 have A0:∀ k,k<cap*3→(w.cell? ⟨b,off+k,none⟩).isSome=true∧w.frozen? ⟨b,off+k,none⟩=false:=fun k hk=>⟨hA.some' k hk,hA.unfrozen k hk⟩
 have r1:∀ j,j<vs.length→(w.cell? ⟨b,off+xs.length*i0.size+j,none⟩).isSome=true:=fun j hj=>by rw [hz1,Nat.add_assoc];exact (A0 _ (by omega)).1
 have r2:∀ j,j<vs.length→w.frozen? ⟨b,off+xs.length*i0.size+j,none⟩=false:=fun j hj=>by rw [hz1,Nat.add_assoc];exact (A0 _ (by omega)).2
 have R1:Aside (∀ j,j<vs.length→(w.cell? ⟨b,off+xs.length*i0.size+j,none⟩).isSome=true):=r1
 have R2:Aside (∀ j,j<vs.length→w.frozen? ⟨b,off+xs.length*i0.size+j,none⟩=false):=r2
 have N:Aside (i0.size=3):=hz1
 clear r1 r2 A0 s2 hvc hvs hzc hz0 hzm hA hB
 go_enter Try.func24,Try.ntmps24
 go_wp2_with (at_builtin;refine wpList_append_room_src _ rfl _ _ 25 25 rfl 27 i0 Try.underlying25 hi0 b off xs.length cap rfl _ rfl 1 vs hsrc hroom R1.out R2.out ?_)
 go_ret
 exact ⟨rfl,0,rfl⟩
open Go.RowKit in
set_option maxHeartbeats 8000000 in
theorem last24 (w:World) (xs ys:List TyB0) (ad:Option Addr) (cap:Nat) (vb voff vcap:Nat) (vcur:Array Value) (vty:TypeId) (vfz:Nat×Nat) (hw:∀ x∈xs,Wf YA1 x) (hlen:xs.length≤cap) (hnil:ad=none→xs=[]) (hcs:∀ a,ad=some a→∀ (j:Nat) (u:Value),(fcs YA1 xs)[j]? = some u→w.cell? (a.add j)=some u) (hB:OwnAt w YA1 ys vb voff vcap vcur vty vfz) (h1:ys.length=1) (hroom:cap<xs.length+1) (hmax:xs.length≤1048576) :
   Calls Try.prog 24 #[.slice ad xs.length cap,.int .i64 xs.length,.slice (some ⟨vb,voff,none⟩) 1 vcap] w fun r w'=>∃ v',r = .returned v'∧w'.ownsRow w.heap.size 27 (Ty.size YA1) v' (xs.length+1) (fcs YA1 (xs++ys))∧Below w.heap.size w w':=by
 have mixed:=mixed
 obtain ⟨i0,z,hi0,hz1,hz0,hzc,hzm,by',hb1,hb2,hb3⟩:=info24
 have hvl:(fcs YA1 ys).length=1*3:=by
  have:=fcs_length (t:=YA1) rfl (xs:=ys) hB.wf
  rw [this,h1];rfl
 have hcl:(fcs YA1 xs).length=xs.length*3:=fcs_length (t:=YA1) rfl hw
 obtain ⟨vs,hvs⟩:∃ vs,vs=fcs YA1 ys:=⟨_,rfl⟩
 obtain ⟨cs,hcss⟩:∃ cs,cs=fcs YA1 xs:=⟨_,rfl⟩
 have hvc:∀ (j:Nat) (u:Value),vs[j]? = some u→w.cell? ⟨vb,voff+j,none⟩=some u:=fun j u hj=>hB.cell j u (by rw [← hvs];exact hj)
 rw [fcs_append, ← hvs, ← hcss]
 rw [← hvs] at hvl
 rw [← hcss] at hcl hcs
 have s2:∀ u∈vs,u.oneCell'=true:=by rw [hvs];exact fcells_ones rfl _
 have hsrc:Src Try.prog i0.size 25 (.slice (some ⟨vb,voff,none⟩) 1 vcap) 1 vs w:=by
  rw [hz1]
  exact Src.ofSlice w Try.underlying25 ⟨vb,voff,none⟩ 1 vcap vs hvl (fun j u hj=>by rw [Addr.add_lit];exact hvc j u hj) s2
 have hold:(Builtin.firstCells i0.size xs.length (.slice ad xs.length cap)).run Try.prog w.drew = .ok cs.toArray w.drew:=by
  rw [hz1]
  cases ad with
  | none =>
   have h0:=hnil rfl
   subst h0
   rw [List.length_eq_zero_iff.1 (show cs.length=0 by rw [hcl];simp)]
   exact run_firstCells_none w.drew 3 0 0 cap
  | some a=>exact run_firstCells_some w.drew 3 xs.length a xs.length cap cs hcl (fun j v hj=>hcs a rfl j v hj)
 have hbig:(xs.length+1)*i0.bytes≤140737488355328:=by
  have:(xs.length+1)*i0.bytes≤1048577*i0.bytes:=Nat.mul_le_mul_right _ (by omega)
  rw [Nat.mul_comm 1048577] at this
  omega
 have hrun:∀ ty,(Builtin.append_ #[25,25] ty #[.slice ad xs.length cap,.slice (some ⟨vb,voff,none⟩) 1 vcap]).run Try.prog w=_:=fun ty =>
  run_append_grow_src w 25 25 ty 27 i0 z Try.underlying25 hi0 hz0 ad xs.length cap cs hold _ 1 vs hsrc hroom (by omega) (growslice_fits hroom hbig)
 have hge:=grownCap_ge w (xs.length+1) cap 27
 have hgm:=grownCap_le_maxLen w (xs.length+1) cap 27 (by unfold maxLen;omega)
 have fin:∀ G,xs.length+1≤G→G≤maxLen→(w.drew.alloc (.cells ((cs++vs).toArray++Builtin.zeroCells z.cells (G - (xs.length+1))) 27)).ownsRow w.heap.size 27 (Ty.size YA1) (.slice (some ⟨w.heap.size,0,none⟩) (xs.length+1) G) (xs.length+1) (cs++vs)∧Below w.heap.size w (w.drew.alloc (.cells ((cs++vs).toArray++Builtin.zeroCells z.cells (G - (xs.length+1))) 27)):=fun G g1 g2=>by
  have el:(cs++vs).length=(xs.length+1)*3:=by rw [List.length_append,hcl,hvl,Nat.add_mul]
  refine ⟨⟨el,.inr ⟨w.heap.size,G,_,rfl,Nat.le_refl _,heap_alloc_new w.drew _,g1,g2,?_,?_⟩⟩,((Below.refl w.heap.size w).drew).alloc (Nat.le_refl _) _⟩
  ·have hz:(Builtin.zeroCells z.cells (G - (xs.length+1))).size=(G - (xs.length+1))*3:=by
    rw [← Array.length_toList,hzc,zeroCells_k];simp [dcells]
   rw [Array.size_append,List.size_toArray,el,hz]
   show _=G*3
   rw [← Nat.add_mul];congr 1;omega
  ·rw [Array.toList_append]
   have:((cs++vs).toArray.toList++(Builtin.zeroCells z.cells (G - (xs.length+1))).toList).take ((cs++vs).length)=cs++vs:=List.take_left
   rw [el] at this
   exact this
 obtain ⟨G,hG⟩:∃ G,G=grownCap w (xs.length+1) cap 27:=⟨_,rfl⟩
 rw [← hG] at hrun hge hgm
 have fin:=fin G hge hgm
 have F:Aside (_∧_):=fin
 obtain ⟨ROW,hROW⟩:∃ ROW,ROW=(cs++vs).toArray++Builtin.zeroCells z.cells (G - (xs.length+1)):=⟨_,rfl⟩
 rw [← hROW] at hrun F
 clear fin hold hROW hG hcs hsrc hvc hvs hcss s2 hz0 hzc hzm hB
 go_enter Try.func24,Try.ntmps24
 cases ad with
 | none =>
  have h0:=hnil rfl
  subst h0
  go_wp2_with (at_builtin;refine Lib.wpList_append_run _ rfl _ _ _ _ rfl _ _ rfl rfl _ _ (hrun _) ?_)
  go_ret
  exact ⟨_,rfl,F.out.1,F.out.2⟩
 | some a =>
  obtain ⟨ab,ao,asp⟩:=a
  go_wp2_with (at_builtin;refine Lib.wpList_append_run _ rfl _ _ _ _ rfl _ _ rfl rfl _ _ (hrun _) ?_)
  all_goals (go_ret;exact ⟨_,rfl,F.out.1,F.out.2⟩)
open Go.RowKit in
set_option maxHeartbeats 8000000 in
theorem shift24 (w:World) (xs ys:List TyB0) (b off cap:Nat) (cur:Array Value) (ty:TypeId) (fz:Nat×Nat) (vb voff vcap:Nat) (vcur:Array Value) (vty:TypeId) (vfz:Nat×Nat) (i:Nat) (hA:OwnAt w YA1 xs b off cap cur ty fz) (hB:OwnAt w YA1 ys vb voff vcap vcur vty vfz) (h1:ys.length=1) (hvb:vb≠b) (hi:i<xs.length) (hroom:xs.length+1≤cap) :
   Calls Try.prog 24 #[.slice (some ⟨b,off,none⟩) xs.length cap,.int .i64 i,.slice (some ⟨vb,voff,none⟩) 1 vcap] w fun r w'=>r = .returned (.slice (some ⟨b,off,none⟩) (xs.length+1) cap) ∧
    ∃ q,w'=((w.drewN q).setCells b (off+(i+1)*Ty.size YA1) (fcs YA1 (xs.drop i))).setCells b (off+i*Ty.size YA1) (fcs YA1 ys):=by
 have mixed:=mixed
 obtain ⟨i0,z,hi0,hz1,hz0,hzc,hzm,_⟩:=info24
 have hlen:=hA.len
 have hcapm:=hA.capm
 have hvl:(fcs YA1 ys).length=1*3:=by
  have:=fcs_length (t:=YA1) rfl (xs:=ys) hB.wf
  rw [this,h1];rfl
 have hdl:(fcs YA1 (xs.drop i)).length=(xs.length - i)*3:=by
  have:=fcs_length (t:=YA1) rfl (xs:=xs.drop i) (fun x hx=>hA.wf x (List.mem_of_mem_drop hx))
  rw [this,List.length_drop];rfl
 have hdc:∀ (k:Nat) (u:Value),(fcs YA1 (xs.drop i))[k]? = some u→w.cell? ⟨b,off+i*3+k,none⟩=some u:=fun k u hk=>by
  have:=hA.cell _ _ (fcs_drop rfl hA.wf i (by omega) k u hk)
  rwa [Nat.add_assoc]
 obtain ⟨vs,hvs⟩:∃ vs,vs=fcs YA1 ys:=⟨_,rfl⟩
 obtain ⟨ds,hds⟩:∃ ds,ds=fcs YA1 (xs.drop i):=⟨_,rfl⟩
 have hvc:∀ (j:Nat) (u:Value),vs[j]? = some u→w.cell? ⟨vb,voff+j,none⟩=some u:=fun j u hj=>hB.cell j u (by rw [← hvs];exact hj)
 have s1:∀ u∈ds,u.oneCell'=true:=by rw [hds];exact fcells_ones rfl _
 have s2:∀ u∈vs,u.oneCell'=true:=by rw [hvs];exact fcells_ones rfl _
 rw [← hvs] at hvl ⊢
 rw [← hds] at hdl hdc ⊢
 have hle:(xs.length+1)*3≤cap*3:=Nat.mul_le_mul_right _ hroom
 have A0:∀ k,k<cap*3→(w.cell? ⟨b,off+k,none⟩).isSome=true∧w.frozen? ⟨b,off+k,none⟩=false:=fun k hk=>⟨hA.some' k hk,hA.unfrozen k hk⟩
 have hsb:w.shape? b=some (ty,cur.size):=by simp only [World.shape?, hA.blk]
 have hsa:w.shape? vb=some (vty,vcur.size):=by simp only [World.shape?, hB.blk]
 have hkB:cur.size≠0:=by have:=hA.fit;simp only [show Ty.size YA1=3 from rfl] at this;omega
 have hfa:w.frozen? ⟨vb,voff,none⟩=false:=by have:=hB.unfrozen 0 (by have:=hB.len;simp only [show Ty.size YA1=3 from rfl];omega);exact this
 have hfe:w.frozen? ⟨vb,vcur.size,none⟩=false:=frozen_end24 hB
 have hov:∀ lb cb,(callFunc 53 #[.slice (some ⟨vb,voff,none⟩) 1 vcap,.slice (some ⟨b,off+(i+1)*3,none⟩) lb cb]).run Try.prog w = .ok (.value (.bool false)) w:=fun lb cb=>by
  rw [run_callFunc_extern Try.func53 (by kernel_rfl) (by kernel_rfl) (by kernel_rfl) (e:=Extern.SlicesOverlaps.overlaps #[25,25] #[4]) (by kernel_rfl),
   Lib.run_overlaps_apart w 25 4 27 Try.underlying25 3 (fun w=>by simp [Go.sizeOf,typeInfo,hi0,hz1]) ⟨vb,voff,none⟩ ⟨b,off+(i+1)*3,none⟩ 1 vcap lb cb hvb vty ty vcur.size cur.size hsa hsb hkB hfa hfe]
  rfl
 have e1:(i+1)*3+(xs.length - i)*3=xs.length*3+3:=by rw [← Nat.add_mul, ← Nat.succ_mul];congr 1;omega
 have e2:(i+1)*3=i*3+3:=Nat.succ_mul _ _
 have hcp1:∀ ty dc sc,(Builtin.copy_ #[25,25] ty #[.slice (some ⟨b,off+(i+1)*3,none⟩) (xs.length - i) dc,.slice (some ⟨b,off+i*3,none⟩) (xs.length+1 - i) sc]).run Try.prog w.drew = .ok (goInt (Nat.min (xs.length+1 - i) (xs.length - i))) (w.drew.setCells b (off+(i+1)*3) ds):=fun ty dc sc =>
  run_copy_k w.drew _ _ ty 27 3 b (off+(i+1)*3) (xs.length - i) dc ⟨b,off+i*3,none⟩ (xs.length+1 - i) sc ds Try.underlying25 hzm (by rw [hdl];congr 1;simp only [Nat.min_def];split <;> omega)
   (fun j v hj=>by rw [Addr.add_lit];exact hdc j v hj)
   (fun j hj=>by rw [Nat.add_assoc];exact (A0 _ (by omega)).1) (fun j hj=>by rw [Nat.add_assoc];exact (A0 _ (by omega)).2) s1
 obtain ⟨W1,hW1⟩:∃ W1,W1=w.drew.setCells b (off+(i+1)*3) ds:=⟨_,rfl⟩
 have hcp2:∀ (W:World),(∀ x,W.cell? x=W1.cell? x)→(∀ x,W.frozen? x=W1.frozen? x)→∀ ty dc,(Builtin.copy_ #[25,25] ty #[.slice (some ⟨b,off+i*3,none⟩) (xs.length+1 - i) dc,.slice (some ⟨vb,voff,none⟩) 1 vcap]).run Try.prog W = .ok (goInt (Nat.min 1 (xs.length+1 - i))) (W.setCells b (off+i*3) vs):=fun W hWc hWf ty dc =>
  run_copy_k W _ _ ty 27 3 b (off+i*3) (xs.length+1 - i) dc ⟨vb,voff,none⟩ 1 vcap vs Try.underlying25 hzm (by rw [hvl];congr 1;simp only [Nat.min_def];split <;> omega)
   (fun j v hj=>by
    rw [Addr.add_lit,hWc,hW1,World.cell?_setCells_out b _ _ _ _ (fun h _=>absurd h hvb)]
    exact hvc j v hj)
   (fun j hj=>by rw [hWc,hW1];exact isSome_put _ _ _ _ _ (by rw [Nat.add_assoc];exact (A0 _ (by omega)).1)) (fun j hj=>by rw [hWf,hW1,World.frozen?_setCells,Nat.add_assoc];exact (A0 _ (by omega)).2) s2
 have N:Aside (W1=w.drew.setCells b (off+(i+1)*3) ds):=hW1
 rw [← hW1] at hcp1
 have hz2:¬ ((i:Int)=(xs.length:Int)):=by omega
 have hw1:IntKind.i64.wrap ((i:Int)+1)=(i:Int)+1:=by unfold maxLen at hcapm;rw [IntKind.wrap_i64];omega
 have hw2:IntKind.i64.wrap ((xs.length:Int)+1)=(xs.length:Int)+1:=by unfold maxLen at hcapm;rw [IntKind.wrap_i64];omega
 have hb1:(0:Int)≤(i:Int)+1:=by omega
 have hin:i≤xs.length:=by omega
 have htn:((i:Int)+1).toNat=i+1:=by omega
 have htn2:((xs.length:Int)+1).toNat=xs.length+1:=by omega
 have hb2:¬ (cap=i+1):=by omega
 have hb3:(i:Int)≤(xs.length:Int)+1:=by omega
 have hb4:¬ (cap=i):=by omega
 have hb5:¬ ((cap:Int)<(xs.length:Int)+1):=by omega
 clear hW1 s1 s2 hvc hvs hds hdc hdl hvl A0 hsb hsa hkB hfa hfe hzc hz0 hA hB e1 e2
 go_enter Try.func24,Try.ntmps24
 go_wp2_with (simp only [hov])
 go_region_law_o (refine scp24 rfl _ _ 25 25 rfl _ _ (by simp [Act.eval,Act.put]) (by simp [Act.eval,Act.put]) (hcp1 _ _ _) ?_)
 go_wp2_with (at_builtin;refine lcp24 _ rfl _ _ 25 25 rfl _ _ rfl rfl (hcp2 _ (fun _=>rfl) (fun _=>rfl) _ _) ?_)
 go_ret
 exact ⟨rfl,1,by rw [N.out];rfl⟩
open Go.RowKit in
set_option maxHeartbeats 8000000 in
theorem grow24 (w:World) (xs ys:List TyB0) (b off cap:Nat) (cur:Array Value) (ty:TypeId) (fz:Nat×Nat) (vb voff vcap:Nat) (vcur:Array Value) (vty:TypeId) (vfz:Nat×Nat) (i:Nat) (hA:OwnAt w YA1 xs b off cap cur ty fz) (hB:OwnAt w YA1 ys vb voff vcap vcur vty vfz) (h1:ys.length=1) (hvb:vb≠b) (hi:i<xs.length) (hroom:cap<xs.length+1) (hmax:xs.length≤1048576) :
   Calls Try.prog 24 #[.slice (some ⟨b,off,none⟩) xs.length cap,.int .i64 i,.slice (some ⟨vb,voff,none⟩) 1 vcap] w fun r w'=>∃ v',r = .returned v'∧w'.ownsRow w.heap.size 27 (Ty.size YA1) v' (xs.length+1) (fcs YA1 (xs.take i++(ys++xs.drop i)))∧Below w.heap.size w w':=by
 have mixed:=mixed
 obtain ⟨i0,z,hi0,hz1,hz0,hzc,hzm,by',hb1,hb2,hb3⟩:=info24
 have hlen:=hA.len
 have hcapm:=hA.capm
 have hvl:(fcs YA1 ys).length=1*3:=by
  have:=fcs_length (t:=YA1) rfl (xs:=ys) hB.wf
  rw [this,h1];rfl
 have hdl:(fcs YA1 (xs.drop i)).length=(xs.length - i)*3:=by
  have:=fcs_length (t:=YA1) rfl (xs:=xs.drop i) (fun x hx=>hA.wf x (List.mem_of_mem_drop hx))
  rw [this,List.length_drop];rfl
 have htl:(fcs YA1 (xs.take i)).length=i*3:=by
  have:=fcs_length (t:=YA1) rfl (xs:=xs.take i) (fun x hx=>hA.wf x (List.mem_of_mem_take hx))
  rw [this,List.length_take,Nat.min_eq_left (by omega)];rfl
 have hdc:∀ (k:Nat) (u:Value),(fcs YA1 (xs.drop i))[k]? = some u→w.cell? ⟨b,off+i*3+k,none⟩=some u:=fun k u hk=>by
  have:=hA.cell _ _ (fcs_drop rfl hA.wf i (by omega) k u hk)
  rwa [Nat.add_assoc]
 have htc:∀ (k:Nat) (u:Value),(fcs YA1 (xs.take i))[k]? = some u→w.cell? ⟨b,off+k,none⟩=some u:=fun k u hk=>hA.cell _ _ (fcs_take rfl hA.wf i k u hk)
 have hbw:=hA.lt
 have hvw:=hB.lt
 obtain ⟨vs,hvs⟩:∃ vs,vs=fcs YA1 ys:=⟨_,rfl⟩
 obtain ⟨ds,hds⟩:∃ ds,ds=fcs YA1 (xs.drop i):=⟨_,rfl⟩
 obtain ⟨ts,hts⟩:∃ ts,ts=fcs YA1 (xs.take i):=⟨_,rfl⟩
 have hvc:∀ (j:Nat) (u:Value),vs[j]? = some u→w.cell? ⟨vb,voff+j,none⟩=some u:=fun j u hj=>hB.cell j u (by rw [← hvs];exact hj)
 have s1:∀ u∈ds,u.oneCell'=true:=by rw [hds];exact fcells_ones rfl _
 have s2:∀ u∈vs,u.oneCell'=true:=by rw [hvs];exact fcells_ones rfl _
 rw [fcs_append,fcs_append, ← hvs, ← hds, ← hts]
 rw [← hvs] at hvl
 rw [← hds] at hdl hdc
 rw [← hts] at htl htc
 have hbig:(xs.length+1)*i0.bytes≤140737488355328:=by
  have:(xs.length+1)*i0.bytes≤1048577*i0.bytes:=Nat.mul_le_mul_right _ (by omega)
  rw [Nat.mul_comm 1048577] at this
  omega
 have hkk:(xs.length:Int)+1 - (i:Int)=((xs.length+1 - i:Nat):Int):=by omega
 have hik:i+(xs.length+1 - i)=xs.length+1:=by omega
 have hold:(Builtin.firstCells i0.size i (.slice (some ⟨b,off,none⟩) i cap)).run Try.prog w.drew = .ok ts.toArray w.drew:=by
  rw [hz1]
  exact run_firstCells_some w.drew 3 i ⟨b,off,none⟩ i cap ts htl (fun j v hj=>by rw [Addr.add_lit];exact htc j v hj)
 have h48:(xs.length+1 - i)*i0.bytes≤281474976710656:=by
  have:(xs.length+1 - i)*i0.bytes≤(xs.length+1)*i0.bytes:=Nat.mul_le_mul_right _ (by omega)
  omega
 have hrz:∀ ty,(Builtin.append_ #[25,3] ty #[.slice (some ⟨b,off,none⟩) i cap,.int .i64 ((xs.length:Int)+1 - (i:Int))]).run Try.prog w =
   .ok (.slice (some ⟨w.heap.size,0,none⟩) (xs.length+1) (grownCap w (xs.length+1) cap 27)) (w.drew.alloc (.cells (ts.toArray++Builtin.zeroCells z.cells (xs.length+1 - i)++Builtin.zeroCells z.cells (grownCap w (xs.length+1) cap 27 - (xs.length+1))) 27)):=fun ty=>by
  have h:=Lib.run_append_grow_zeros w 25 3 ty 27 i0 z .i64 .i64 Try.underlying25 Try.underlying3 hi0 hz0 (some ⟨b,off,none⟩) i cap ts hold (xs.length+1 - i) (by omega) (by omega) (by omega) (by omega) h48 (by rw [hik];exact growslice_fits hroom hbig)
  rw [hik] at h
  rw [hkk]
  exact h
 have hge:=grownCap_ge w (xs.length+1) cap 27
 have hgm:=grownCap_le_maxLen w (xs.length+1) cap 27 (by unfold maxLen;omega)
 obtain ⟨G,hG⟩:∃ G,G=grownCap w (xs.length+1) cap 27:=⟨_,rfl⟩
 rw [← hG] at hrz hge hgm
 obtain ⟨ROW,hROW⟩:∃ ROW:Array Value,ROW=ts.toArray++Builtin.zeroCells z.cells (xs.length+1 - i)++Builtin.zeroCells z.cells (G - (xs.length+1)):=⟨_,rfl⟩
 rw [← hROW] at hrz
 have hzs:∀ k,(Builtin.zeroCells z.cells k).size=k*3:=fun k=>by
  rw [← Array.length_toList,hzc,zeroCells_k];simp [dcells]
 have hRs:ROW.size=G*3:=by
  rw [hROW,Array.size_append,Array.size_append,List.size_toArray,htl,hzs,hzs, ← Nat.add_mul,hik, ← Nat.add_mul]
  congr 1;omega
 have hRt:∀ (k:Nat) (u:Value),ts[k]? = some u→ROW[k]? = some u:=fun k u hk=>by
  have hlt:=(List.getElem?_eq_some_iff.1 hk).1
  rw [hROW,Array.append_assoc,Array.getElem?_append_left (by simpa using hlt)]
  simpa using hk
 have hmul:(xs.length+1)*3≤G*3:=Nat.mul_le_mul_right _ hge
 obtain ⟨W1,hW1⟩:∃ W1,W1=w.drew.alloc (.cells ROW 27):=⟨_,rfl⟩
 rw [← hW1] at hrz
 have hblk:W1.heap[w.heap.size]? = some (.cells ROW 27 (0,0)):=by rw [hW1];exact heap_alloc_new w.drew _
 have hN:∀ j,j<G*3→(W1.cell? ⟨w.heap.size,j,none⟩).isSome=true:=fun j hj=>by
  simp only [World.cell?, hblk];rw [Array.getElem?_eq_getElem (by omega)];rfl
 have hNf:∀ j,W1.frozen? ⟨w.heap.size,j,none⟩=false:=fun j=>by
  simp only [World.frozen?, hblk];simp
 have hOld:∀ k,k<w.heap.size→W1.heap[k]? = w.heap[k]? := fun k hk=>by rw [hW1];exact heap_alloc_old w.drew _ hk
 have hOb:∀ j v,w.cell? ⟨b,j,none⟩=some v→W1.cell? ⟨b,j,none⟩=some v:=fun j v h=>by simp only [World.cell?] at h ⊢;rw [hOld b hbw];exact h
 have hOv:∀ j v,w.cell? ⟨vb,j,none⟩=some v→W1.cell? ⟨vb,j,none⟩=some v:=fun j v h=>by simp only [World.cell?] at h ⊢;rw [hOld vb hvw];exact h
 have hbN:b≠w.heap.size:=by omega
 have e2:(i+1)*3=i*3+3:=Nat.succ_mul _ _
 have e1:(i+1)*3+(xs.length - i)*3=(xs.length+1)*3:=by rw [← Nat.add_mul];congr 1;omega
 have hcpA:∀ (W:World),(∀ x,W.cell? x=W1.cell? x)→(∀ x,W.frozen? x=W1.frozen? x)→∀ ty dc,(Builtin.copy_ #[25,25] ty #[.slice (some ⟨w.heap.size,i*3,none⟩) (xs.length+1 - i) dc,.slice (some ⟨vb,voff,none⟩) 1 vcap]).run Try.prog W = .ok (goInt (Nat.min 1 (xs.length+1 - i))) (W.setCells w.heap.size (i*3) vs):=fun W hWc hWf ty dc =>
  run_copy_k W _ _ ty 27 3 w.heap.size (i*3) (xs.length+1 - i) dc ⟨vb,voff,none⟩ 1 vcap vs Try.underlying25 hzm (by rw [hvl];congr 1;simp only [Nat.min_def];split <;> omega)
   (fun j v hj=>by rw [Addr.add_lit,hWc];exact hOv _ v (hvc j v hj))
   (fun j hj=>by rw [hWc];exact hN _ (by omega)) (fun j hj=>by rw [hWf];exact hNf _) s2
 have hcpB:∀ (W:World),(∀ x,W.cell? x=(W1.setCells w.heap.size (i*3) vs).cell? x)→(∀ x,W.frozen? x=(W1.setCells w.heap.size (i*3) vs).frozen? x)→∀ ty dc sc,(Builtin.copy_ #[25,25] ty #[.slice (some ⟨w.heap.size,(i+1)*3,none⟩) (xs.length - i) dc,.slice (some ⟨b,off+i*3,none⟩) (xs.length - i) sc]).run Try.prog W = .ok (goInt (Nat.min (xs.length - i) (xs.length - i))) (W.setCells w.heap.size ((i+1)*3) ds):=fun W hWc hWf ty dc sc =>
  run_copy_k W _ _ ty 27 3 w.heap.size ((i+1)*3) (xs.length - i) dc ⟨b,off+i*3,none⟩ (xs.length - i) sc ds Try.underlying25 hzm (by rw [hdl];congr 1;simp only [Nat.min_def];split <;> omega)
   (fun j v hj=>by
    rw [Addr.add_lit,hWc,World.cell?_setCells_out _ _ _ _ _ (fun h _=>absurd h hbN)]
    exact hOb _ v (hdc j v hj))
   (fun j hj=>by rw [hWc];exact isSome_put _ _ _ _ _ (hN _ (by omega)))
   (fun j hj=>by rw [hWf,World.frozen?_setCells];exact hNf _) s1
 -- what the new row holds at the end
 have fin:∀ q1 q2:Nat,(((W1.drewN q1).setCells w.heap.size (i*3) vs).drewN q2 |>.setCells w.heap.size ((i+1)*3) ds).ownsRow w.heap.size 27 (Ty.size YA1) (.slice (some ⟨w.heap.size,0,none⟩) (xs.length+1) G) (xs.length+1) (ts++(vs++ds)) ∧
   Below w.heap.size w (((W1.drewN q1).setCells w.heap.size (i*3) vs).drewN q2 |>.setCells w.heap.size ((i+1)*3) ds):=fun q1 q2=>by
  have el:(ts++(vs++ds)).length=(xs.length+1)*3:=by
   rw [List.length_append,List.length_append,htl,hvl,hdl, ← Nat.add_mul, ← Nat.add_mul];congr 1;omega
  have l1:i*3+vs.length≤ROW.size:=by rw [hvl,hRs];omega
  obtain ⟨c1,g1,g2,g3,g4,g5,g6⟩:=setCells_block vs (show (W1.drewN q1).heap[w.heap.size]? = some (.cells ROW 27 (0,0)) from hblk) l1
  have l2:(i+1)*3+ds.length≤c1.size:=by rw [hdl,g2,hRs];omega
  obtain ⟨c2,k1,k2,k3,k4,k5,k6⟩:=setCells_block ds (show (((W1.drewN q1).setCells w.heap.size (i*3) vs).drewN q2).heap[w.heap.size]? = some (.cells c1 27 (0,0)) from g1) l2
  have kA:=setCells_kept vs (show (W1.drewN q1).heap[w.heap.size]? = some (.cells ROW 27 (0,0)) from hblk) l1
  have kB:=setCells_kept ds (show (((W1.drewN q1).setCells w.heap.size (i*3) vs).drewN q2).heap[w.heap.size]? = some (.cells c1 27 (0,0)) from g1) l2
  have kAll:Kept [w.heap.size] w (((W1.drewN q1).setCells w.heap.size (i*3) vs).drewN q2 |>.setCells w.heap.size ((i+1)*3) ds):=by
   have k0:Kept [w.heap.size] w W1:=by rw [hW1];exact ((Kept.refl _ w).drew).alloc _
   have k1:Kept [w.heap.size] W1 (W1.drewN q1):=⟨rfl,rfl,rfl,Nat.le_refl _,fun _ _ _=>rfl⟩
   have k2:Kept [w.heap.size] ((W1.drewN q1).setCells w.heap.size (i*3) vs) (((W1.drewN q1).setCells w.heap.size (i*3) vs).drewN q2):=⟨rfl,rfl,rfl,Nat.le_refl _,fun _ _ _=>rfl⟩
   exact ((k0.trans k1).trans (kA.trans k2)).trans kB
  refine ⟨⟨el,.inr ⟨w.heap.size,G,c2,rfl,Nat.le_refl _,k1,hge,hgm,by rw [k2,g2,hRs];rfl,?_⟩⟩,⟨kAll.os,kAll.tape,kAll.output,kAll.size,fun k hk=>kAll.block k hk (by simp;omega)⟩⟩
  apply List.ext_getElem?
  intro k
  rw [List.getElem?_take]
  by_cases hk:k<(xs.length+1)*3
  ·rw [if_pos (show k<(xs.length+1)*Ty.size YA1 from hk),Array.getElem?_toList]
   have hk':k<(ts++(vs++ds)).length:=by rw [el];exact hk
   obtain ⟨u,hu⟩:∃ u,(ts++(vs++ds))[k]? = some u:=⟨_,List.getElem?_eq_getElem hk'⟩
   rw [hu]
   by_cases h1:k<i*3
   ·rw [List.getElem?_append_left (by omega)] at hu
    rw [k4 _ (.inl (by omega)),g4 _ (.inl (by omega))]
    exact hRt k u hu
   ·rw [List.getElem?_append_right (by omega),htl] at hu
    by_cases h2:k<i*3+3
    ·rw [List.getElem?_append_left (by omega)] at hu
     have:=g3 _ u hu
     rw [k4 _ (.inl (by omega))]
     rwa [show i*3+(k - i*3)=k by omega] at this
    ·rw [List.getElem?_append_right (by omega),hvl] at hu
     have:=k3 _ u hu
     rwa [show (i+1)*3+(k - i*3 - 1*3)=k by omega] at this
  ·rw [if_neg (show ¬ k<(xs.length+1)*Ty.size YA1 from hk),List.getElem?_eq_none (by rw [el];omega)]
 have F:Aside (∀ q1 q2:Nat,(((W1.drewN q1).setCells w.heap.size (i*3) vs).drewN q2 |>.setCells w.heap.size ((i+1)*3) ds).ownsRow w.heap.size 27 (Ty.size YA1) (.slice (some ⟨w.heap.size,0,none⟩) (xs.length+1) G) (xs.length+1) (ts++(vs++ds)) ∧
   Below w.heap.size w (((W1.drewN q1).setCells w.heap.size (i*3) vs).drewN q2 |>.setCells w.heap.size ((i+1)*3) ds)):=fin
 subst hW1
 have hE1:∀ x,((w.alloc (.cells ROW 27)).drew).cell? x=(w.drew.alloc (.cells ROW 27)).cell? x:=fun x=>rfl
 have hE2:∀ x,((w.alloc (.cells ROW 27)).drew).frozen? x=(w.drew.alloc (.cells ROW 27)).frozen? x:=fun x=>rfl
 have hF1:∀ x,(((w.alloc (.cells ROW 27)).drew.setCells w.heap.size (i*3) vs).drew).cell? x=((w.drew.alloc (.cells ROW 27)).setCells w.heap.size (i*3) vs).cell? x:=fun x=>rfl
 have hF2:∀ x,(((w.alloc (.cells ROW 27)).drew.setCells w.heap.size (i*3) vs).drew).frozen? x=((w.drew.alloc (.cells ROW 27)).setCells w.heap.size (i*3) vs).frozen? x:=fun x=>rfl
 have hz2:¬ ((i:Int)=(xs.length:Int)):=by omega
 have hw1:IntKind.i64.wrap ((i:Int)+1)=(i:Int)+1:=by rw [IntKind.wrap_i64];omega
 have hw2:IntKind.i64.wrap ((xs.length:Int)+1)=(xs.length:Int)+1:=by rw [IntKind.wrap_i64];omega
 have hw3:IntKind.i64.wrap ((xs.length:Int)+1 - (i:Int))=(xs.length:Int)+1 - (i:Int):=by rw [IntKind.wrap_i64];omega
 have hb1:(0:Int)≤(i:Int)+1:=by omega
 have hin:i≤xs.length:=by omega
 have htn:((i:Int)+1).toNat=i+1:=by omega
 have hGi:¬ (G=i):=by omega
 have hGim:¬ (G=i+1):=by omega
 have hci:¬ (cap=i):=by omega
 have hb3:(i:Int)≤(xs.length:Int):=by omega
 have hb5:(cap:Int)<(xs.length:Int)+1:=by omega
 have hG63:G≤9223372036854775807:=by unfold maxLen at hgm;exact hgm
 clear hkk hik hold hROW hG hRs hRt hzs hN hNf hOld hOb hOv fin s1 s2 hvc hvs hds hts hdc htc hdl htl hvl hzc hz0 hA hB e1 e2 hmul hblk
 go_enter Try.func24,Try.ntmps24
 go_wp2_with (first
  | (at_builtin;refine Lib.wpList_append_run _ rfl _ _ _ _ rfl _ _ rfl rfl _ _ (hrz _) ?_)
  | (at_builtin;refine lcp24 _ rfl _ _ 25 25 rfl _ _ rfl rfl (hcpA _ hE1 hE2 _ _) ?_)
  | (at_builtin;refine lcp24 _ rfl _ _ 25 25 rfl _ _ rfl rfl (hcpB _ (fun _=>rfl) (fun _=>rfl) _ _ _) ?_))
 go_region_law_o (refine scp24 rfl _ _ 25 25 rfl (.slice (some ⟨w.heap.size,(i+1)*3,none⟩) (xs.length - i) (G - (i+1))) (.slice (some ⟨b,off+i*3,none⟩) (xs.length - i) (cap - i)) (by simp [Act.eval,Act.put]) (by simp [Act.eval,Act.put]) (hcpB _ hF1 hF2 3 (G - (i+1)) (cap - i)) ?_)
 go_wp2
 go_ret
 exact ⟨_,rfl,(F.out 0 1).1,(F.out 0 1).2⟩
def sig24:List AT:=[AT.own YA1,AT.v (Ty.int .i64),AT.own YA1]
def g24_0 (x0:List TyB0) (x1:Int) (x2:List TyB0):List TyB0:=x0.take x1.toNat++(x2++x0.drop x1.toNat)
def P24 (x0:List TyB0) (x1:Int) (x2:List TyB0):Prop:=0≤x1∧x1≤x0.length∧x2.length=1∧x0.length≤1048576
def S24:Am.Spec:={ sig:=sig24,pre:=fun ⟨x0,x1,x2,_⟩=>P24 x0 x1 x2,upd:=fun _=>[none,none],res:=fun ⟨x0,x1,x2,_⟩=>[⟨Ty.sl YA1,g24_0 x0 x1 x2⟩] }
theorem con24:Contract Try.prog 24 S24:=insert_contract (t:=YA1) (e:=27) rfl shift24 grow24 end24 last24
noncomputable section
def ext20c21:Ext:=[(21,S21)]
theorem ext20c21Ok:ExtOk Try.prog ext20c21:=⟨⟨ca21,con21⟩,trivial⟩
noncomputable def b20c21:Code:=bodyOf Try.f20
theorem hb20c21:Try.f20.body=some b20c21:=by kernel_rfl
def sig20c21:List AT:=[AT.v (.sl YA1),AT.v YA1,AT.fn 21 []]
def tys20c21:List Ty:=[.int .i64,.bool]
def kds20c21:List RK:=[]
def oks20c21:List AT:=owns sig20c21
def E20c21_3 (v9:Int) (v10:Int) (x0:List TyB0) (x1:ByteArray×ByteArray×Int×Unit):Env:=[(0,.a (.sl YA1 x0)),(2,PV.fn 21 []),(4,.a (.optr 0 0 [])),(8,.a (.val (.int .i64 (x0.length:Int)))),(9,.a (.val (.int .i64 v9))),(10,.a (.val (.int .i64 v10)))]
def L20c21_3 (v9:Int) (v10:Int) (x0:List TyB0) (x1:ByteArray×ByteArray×Int×Unit):Heap:=[Option.some (Arr.mk YA1 [x1] true Option.none (Option.some false))]
mutual
def R20c21:Nat→List TyB0→ByteArray×ByteArray×Int×Unit→List Dyn→Prop
 | 0,_,_,_=>False
 | n+1,x0,x1,ds=>(R20c21_3 n (0) ((x0.length:Int)) (x0) (x1) ds)
def R20c21_3:Nat→Int→Int→List TyB0→ByteArray×ByteArray×Int×Unit→List Dyn→Prop
 | 0,_,_,_,_,_=>False
 | n+1,v9,v10,x0,x1,ds=>(if (decide (v9<v10))=true then ((InR .i64 (v9+v10))∧((InR .u64 (v9+v10))∧((InR .u64 (Int.fdiv (v9+v10) 2))∧((InR .i64 (Int.fdiv (v9+v10) 2))∧((0≤Int.fdiv (v9+v10) 2)∧(Int.fdiv (v9+v10) 2<(x0.length:Int))∧(if (decide (g21_0 (List.getD x0 (Int.toNat (Int.fdiv (v9+v10) 2)) (ByteArray.empty,ByteArray.empty,0,())) x1<0))=true then ((InR .i64 (Int.fdiv (v9+v10) 2+1))∧(R20c21_3 n (Int.fdiv (v9+v10) 2+1) (v10) (x0) (x1) ds)) else (R20c21_3 n (v9) (Int.fdiv (v9+v10) 2) (x0) (x1) ds))))))) else (if (decide (v9<(x0.length:Int)))=true then ((0≤v9)∧(v9<(x0.length:Int))∧(ds=[Dyn.mk (.int .i64) v9,Dyn.mk .bool (g21_0 (List.getD x0 (Int.toNat v9) (ByteArray.empty,ByteArray.empty,0,())) x1==0)])) else (ds=[Dyn.mk (.int .i64) v9,Dyn.mk .bool false])))
end
theorem snd20c21:∀ n,(∀ (x0:List TyB0) (x1:ByteArray×ByteArray×Int×Unit) ds,R20c21 n x0 x1 ds→∀ K q,AtV Try.prog 20 (PostR kds20c21 oks20c21 ds [] [] q K) 49 K q [] [.code b20c21] (entE 0 0 sig20c21 (x0,x1,(),())) (entL sig20c21 (x0,x1,(),())))∧(∀ (v9:Int) (v10:Int) (x0:List TyB0) (x1:ByteArray×ByteArray×Int×Unit) ds,R20c21_3 n v9 v10 x0 x1 ds→∀ K q,AtV Try.prog 20 (PostR kds20c21 oks20c21 ds [] [] q K) 49 K q [] (cutAt b20c21 3) (E20c21_3 v9 v10 x0 x1) (L20c21_3 v9 v10 x0 x1)):=by
 intro n
 induction n with
 | zero=>exact ⟨fun _ _ _ h=>by simp only [R20c21] at h,fun _ _ _ _ _ h=>by simp only [R20c21_3] at h⟩
 | succ n ih =>
 obtain ⟨ih,ih3⟩:=ih
 refine ⟨?_,?_⟩
 ·intro x0 x1 ds h K q
  rw [R20c21] at h
  exact AtV.go tabOk ext20c21Ok mixed false [] [] [0,2,4,8,9,10] [0] [] trivial (ih3 _ _ _ _ _ h K q) (by kernel_rfl)
 ·intro v9 v10 x0 x1 ds h K q
  rw [R20c21_3] at h
  by_cases b0:(decide (v9<v10))=true
  ·rw [if_pos b0] at h
   obtain ⟨s0,h⟩:=h
   obtain ⟨s1,h⟩:=h
   obtain ⟨s2,h⟩:=h
   obtain ⟨s3,h⟩:=h
   obtain ⟨s4,s5,h⟩:=h
   by_cases b1:(decide (g21_0 (List.getD x0 (Int.toNat (Int.fdiv (v9+v10) 2)) (ByteArray.empty,ByteArray.empty,0,())) x1<0))=true
   ·rw [if_pos b1] at h
    obtain ⟨s6,h⟩:=h
    exact AtV.go tabOk ext20c21Ok mixed false [] [] [0,2,4,8,9,10] [0] [true,true] (a1 b0 (a1 s0 (a1 s1 (a1 ((by decide):(0:Int)≤(1:Int)) (a1 s2 (a1 s3 (a1 s4 (a1 s5 (a1 trivial (a1 b1 (a1 s6 trivial))))))))))) (ih3 _ _ _ _ _ h K q) (by kernel_rfl)
   ·rw [if_neg b1] at h
    replace b1:=bf_ b1
    exact AtV.go tabOk ext20c21Ok mixed false [] [] [0,2,4,8,9,10] [0] [true,false] (a1 b0 (a1 s0 (a1 s1 (a1 ((by decide):(0:Int)≤(1:Int)) (a1 s2 (a1 s3 (a1 s4 (a1 s5 (a1 trivial (a1 b1 trivial)))))))))) (ih3 _ _ _ _ _ h K q) (by kernel_rfl)
  ·rw [if_neg b0] at h
   replace b0:=bf_ b0
   by_cases b1:(decide (v9<(x0.length:Int)))=true
   ·rw [if_pos b1] at h
    obtain ⟨s0,s1,h⟩:=h
    subst h
    exact AtV.ret Try.func20 tabOk ext20c21Ok mixed false [] tys20c21 [false,true] (a1 b0 (a1 b1 (a1 s0 (a1 s1 (a1 trivial trivial))))) (by kernel_rfl)
   ·rw [if_neg b1] at h
    replace b1:=bf_ b1
    subst h
    exact AtV.ret Try.func20 tabOk ext20c21Ok mixed false [] tys20c21 [false,false] (a1 b0 (a1 b1 trivial)) (by kernel_rfl)
def p20c21 (x0:List TyB0) (x1:ByteArray×ByteArray×Int×Unit) (h:Nat):Bool:=decide (g21_0 (x0.getD h (ByteArray.empty,ByteArray.empty,(0:Int),())) x1<0)
def k20c21 (x0:List TyB0) (x1:ByteArray×ByteArray×Int×Unit):Nat:=bsearch (p20c21 x0 x1) (x0.length+1) 0 x0.length
def f20c21 (x0:List TyB0) (x1:ByteArray×ByteArray×Int×Unit) (k:Nat):Bool:=if k<x0.length then g21_0 (x0.getD k (ByteArray.empty,ByteArray.empty,(0:Int),())) x1==0 else false
def g20c21_0 (x0:List TyB0) (x1:ByteArray×ByteArray×Int×Unit):Int:=(k20c21 x0 x1:Nat)
def g20c21_1 (x0:List TyB0) (x1:ByteArray×ByteArray×Int×Unit):Bool:=f20c21 x0 x1 (k20c21 x0 x1)
def P20c21 (x0:List TyB0) (x1:ByteArray×ByteArray×Int×Unit):Prop:=x0.length≤4611686018427387903
theorem u64_iff (n:Int):InR .u64 n↔0≤n∧n≤18446744073709551615:=by
 have e1:(IntKind.u64).min=0:=by decide
 have e2:(IntKind.u64).max=18446744073709551615:=by decide
 simp only [InR,e1,e2]
theorem run20c21 (x0:List TyB0) (x1:ByteArray×ByteArray×Int×Unit) (hm:x0.length≤4611686018427387903):∀ (k i j:Nat),j - i<k→i≤j→j≤x0.length →
  R20c21_3 k (i:Int) (j:Int) x0 x1 [⟨.int .i64,((bsearch (p20c21 x0 x1) k i j:Nat):Int)⟩,⟨.bool,f20c21 x0 x1 (bsearch (p20c21 x0 x1) k i j)⟩]:=by
 intro k
 induction k with
 | zero=>intro i j h;omega
 | succ k ih =>
  intro i j h hij hj
  rw [R20c21_3]
  by_cases hlt:i<j
  ·rw [if_pos (by simpa using hlt)]
   have e:Int.fdiv ((i:Int)+(j:Int)) 2=(((i+j) / 2:Nat):Int):=by
    rw [Int.fdiv_eq_ediv_of_nonneg _ (by omega)]
    omega
   rw [e]
   simp only [Int.toNat_natCast,i64_iff,u64_iff]
   refine ⟨by omega,by omega,by omega,by omega,by omega,by omega,?_⟩
   simp only [bsearch,if_pos hlt]
   by_cases hp:p20c21 x0 x1 ((i+j) / 2)=true
   ·rw [if_pos hp,if_pos (by exact hp)]
    refine ⟨by omega,?_⟩
    exact ih ((i+j) / 2+1) j (by omega) (by omega) hj
   ·rw [if_neg hp,if_neg (by exact hp)]
    exact ih i ((i+j) / 2) (by omega) (by omega) (by omega)
  ·rw [if_neg (by simpa using hlt)]
   simp only [bsearch,if_neg hlt,f20c21]
   by_cases hl:i<x0.length
   ·rw [if_pos (by simpa using hl)]
    refine ⟨by omega,by omega,?_⟩
    simp [hl]
   ·rw [if_neg (by simpa using hl)]
    simp [hl]
def S20c21:Am.Spec:={ sig:=sig20c21,pre:=fun ⟨x0,x1,_⟩=>P20c21 x0 x1,res:=fun ⟨x0,x1,_⟩=>[⟨.int .i64,g20c21_0 x0 x1⟩,⟨.bool,g20c21_1 x0 x1⟩] }
theorem con20c21:Contract Try.prog 20 S20c21:=contract_of Try.func20 hb20c21 (bl_ (by kernel_rfl)) (fun ⟨x0,x1,_⟩ h hwf K q =>
 (snd20c21 (x0.length+1+1)).1 x0 x1 _ (by rw [R20c21];exact run20c21 x0 x1 h (x0.length+1) 0 x0.length (by omega) (by omega) (Nat.le_refl _)) K q)
end
noncomputable section
def ext6:Ext:=[(22,S22),(23,S23),(25,S25),(24,S24),(20,S20c21)]
theorem ext6Ok:ExtOk Try.prog ext6:=⟨⟨ca22,con22⟩,⟨ca23,con23⟩,⟨ca25,con25⟩,⟨ca24,con24⟩,⟨ca20,con20c21⟩,trivial⟩
noncomputable def b6:Code:=bodyOf Try.f6
theorem hb6:Try.f6.body=some b6:=by kernel_rfl
def sig6:List AT:=[AT.v (.sl YA3),AT.v (.sl YA1),AT.v YA1]
def tys6:List Ty:=[.sl YA1,.int .i64]
def kds6:List RK:=[]
def oks6:List AT:=owns sig6
def P6 (x0:List (ByteArray×List ByteArray×Unit)) (x1:List TyB0) (x2:ByteArray×ByteArray×Int×Unit):Prop:=((P20c21 x1 x2)∧((P22 x0 x1)∧(if (!g22_0 x0 x1)=true then True else (if (!g23_0 x0 x2)=true then True else (if (g20c21_1 x1 x2)=true then True else (if (decide ((x1.length:Int)≥48))=true then True else ((P25 x1)∧(P24 (g25_0 x1) (g20c21_0 x1 x2) [x2])∧True)))))))
def g6_0 (x0:List (ByteArray×List ByteArray×Unit)) (x1:List TyB0) (x2:ByteArray×ByteArray×Int×Unit):List TyB0:=(if (!g22_0 x0 x1)=true then [] else (if (!g23_0 x0 x2)=true then [] else (if (g20c21_1 x1 x2)=true then [] else (if (decide ((x1.length:Int)≥48))=true then [] else g24_0 (g25_0 x1) (g20c21_0 x1 x2) [x2]))))
def g6_1 (x0:List (ByteArray×List ByteArray×Unit)) (x1:List TyB0) (x2:ByteArray×ByteArray×Int×Unit):Int:=(if (!g22_0 x0 x1)=true then 1 else (if (!g23_0 x0 x2)=true then 2 else (if (g20c21_1 x1 x2)=true then 4 else (if (decide ((x1.length:Int)≥48))=true then 5 else 0))))
theorem at6 (x0:List (ByteArray×List ByteArray×Unit)) (x1:List TyB0) (x2:ByteArray×ByteArray×Int×Unit) (h:P6 x0 x1 x2) (K:Ctx) (q:Nat→Value):AtV Try.prog 6 (PostR kds6 oks6 [⟨.sl YA1,g6_0 x0 x1 x2⟩,⟨.int .i64,g6_1 x0 x1 x2⟩] [] [] q K) 38 K q [] [.code b6] (entE 0 0 sig6 (x0,x1,x2,())) (entL sig6 (x0,x1,x2,())):=by
 unfold P6 at h
 unfold g6_0 g6_1
 obtain ⟨s0,h⟩:=h
 obtain ⟨s1,h⟩:=h
 by_cases b0:(!g22_0 x0 x1)=true
 ·try simp only [if_pos b0] at h ⊢
  exact AtV.ret Try.func6 tabOk ext6Ok mixed false [] tys6 [true] (a1 s0 (a1 s1 (a1 b0 trivial))) (by kernel_rfl)
 ·try simp only [if_neg b0] at h ⊢
  replace b0:=bf_ b0
  by_cases b1:(!g23_0 x0 x2)=true
  ·try simp only [if_pos b1] at h ⊢
   exact AtV.ret Try.func6 tabOk ext6Ok mixed false [] tys6 [false,true] (a1 s0 (a1 s1 (a1 b0 (a1 trivial (a1 b1 trivial))))) (by kernel_rfl)
  ·try simp only [if_neg b1] at h ⊢
   replace b1:=bf_ b1
   by_cases b2:(g20c21_1 x1 x2)=true
   ·try simp only [if_pos b2] at h ⊢
    exact AtV.ret Try.func6 tabOk ext6Ok mixed false [] tys6 [false,false,true] (a1 s0 (a1 s1 (a1 b0 (a1 trivial (a1 b1 (a1 b2 trivial)))))) (by kernel_rfl)
   ·try simp only [if_neg b2] at h ⊢
    replace b2:=bf_ b2
    by_cases b3:(decide ((x1.length:Int)≥48))=true
    ·try simp only [if_pos b3] at h ⊢
     exact AtV.ret Try.func6 tabOk ext6Ok mixed false [] tys6 [false,false,false,true] (a1 s0 (a1 s1 (a1 b0 (a1 trivial (a1 b1 (a1 b2 (a1 b3 trivial))))))) (by kernel_rfl)
    ·try simp only [if_neg b3] at h ⊢
     replace b3:=bf_ b3
     obtain ⟨s2,s3,h⟩:=h
     exact AtV.ret Try.func6 tabOk ext6Ok mixed false [] tys6 [false,false,false,false] (a1 s0 (a1 s1 (a1 b0 (a1 trivial (a1 b1 (a1 b2 (a1 b3 (a1 s2 (a1 s3 (a1 s2 (a1 s3 (a1 (rfl:SameS [(0,.a (.sl YA3 x0)),(1,.a (.sl YA1 x1)),(2,.a (.st YA1 x2)),(5,.a (.optr 0 0 [])),(6,.a (.osl 3 Option.none)),(7,.a (.val (.int .i64 0))),(8,.a (.val (.int .i64 (g20c21_0 x1 x2)))),(9,.a (.val (.bool (g20c21_1 x1 x2)))),(10,PV.tup [Atom.val (Value.int .i64 (g20c21_0 x1 x2)),Atom.val (Value.bool (g20c21_1 x1 x2))]),(11,.a (.sl YA1 x1)),(12,.a (.st YA1 x2)),(13,PV.tup [Atom.val (Value.int .i64 (g20c21_0 x1 x2)),Atom.val (Value.bool (g20c21_1 x1 x2))]),(14,.a (.val (.int .i64 (g20c21_0 x1 x2)))),(15,.a (.val (.bool (g20c21_1 x1 x2)))),(16,.a (.val (.bool !g22_0 x0 x1))),(17,.a (.sl YA3 x0)),(18,.a (.sl YA1 x1)),(19,.a (.val (.bool (g22_0 x0 x1)))),(20,.a (.val (.bool !g22_0 x0 x1))),(21,.a (.val (.bool !g23_0 x0 x2))),(22,.a (.sl YA3 x0)),(23,.a (.st YA1 x2)),(24,.a (.val (.bool (g23_0 x0 x2)))),(25,.a (.val (.bool !g23_0 x0 x2))),(26,.a (.val (.bool (g20c21_1 x1 x2)))),(27,.a (.val (.bool (g20c21_1 x1 x2)))),(28,.a (.val (.bool (decide ((x1.length:Int)≥48))))),(29,.a (.sl YA1 x1)),(30,.a (.val (.int .i64 (x1.length:Int)))),(31,.a (.val (.bool (decide ((x1.length:Int)≥48))))),(32,.a (.sl YA1 x1)),(34,.a (.val (.int .i64 (g20c21_0 x1 x2)))),(35,.a (.st YA1 x2)),(37,.a (.osl 3 Option.none))] [Option.some (Arr.mk YA1 [x2] true Option.none (Option.some false)),Option.none,Option.none,Option.some (Arr.mk YA1 (g24_0 (g25_0 x1) (g20c21_0 x1 x2) [x2]) false Option.none Option.none)] [(0,.a (.sl YA3 x0)),(1,.a (.sl YA1 x1)),(2,.a (.st YA1 x2)),(5,.a (.optr 0 0 [])),(6,.a (.osl 3 Option.none)),(7,.a (.val (.int .i64 0))),(8,.a (.val (.int .i64 (g20c21_0 x1 x2)))),(9,.a (.val (.bool (g20c21_1 x1 x2)))),(10,PV.tup [Atom.val (Value.int .i64 (g20c21_0 x1 x2)),Atom.val (Value.bool (g20c21_1 x1 x2))]),(11,.a (.sl YA1 x1)),(12,.a (.st YA1 x2)),(13,PV.tup [Atom.val (Value.int .i64 (g20c21_0 x1 x2)),Atom.val (Value.bool (g20c21_1 x1 x2))]),(14,.a (.val (.int .i64 (g20c21_0 x1 x2)))),(15,.a (.val (.bool (g20c21_1 x1 x2)))),(16,.a (.val (.bool !g22_0 x0 x1))),(17,.a (.sl YA3 x0)),(18,.a (.sl YA1 x1)),(19,.a (.val (.bool (g22_0 x0 x1)))),(20,.a (.val (.bool !g22_0 x0 x1))),(21,.a (.val (.bool !g23_0 x0 x2))),(22,.a (.sl YA3 x0)),(23,.a (.st YA1 x2)),(24,.a (.val (.bool (g23_0 x0 x2)))),(25,.a (.val (.bool !g23_0 x0 x2))),(26,.a (.val (.bool (g20c21_1 x1 x2)))),(27,.a (.val (.bool (g20c21_1 x1 x2)))),(28,.a (.val (.bool (decide ((x1.length:Int)≥48))))),(29,.a (.sl YA1 x1)),(30,.a (.val (.int .i64 (x1.length:Int)))),(31,.a (.val (.bool (decide ((x1.length:Int)≥48))))),(32,.a (.sl YA1 x1)),(34,.a (.val (.int .i64 (g20c21_0 x1 x2)))),(35,.a (.st YA1 x2)),(37,.a (.osl 3 Option.none))] [Option.some (Arr.mk YA1 [x2] true Option.none (Option.some false)),Option.none,Option.none,Option.some (Arr.mk YA1 (g24_0 (g25_0 x1) (g20c21_0 x1 x2) [x2]) false Option.none Option.none)]) trivial)))))))))))) (by kernel_rfl)
def S6:Am.Spec:={ sig:=sig6,pre:=fun ⟨x0,x1,x2,_⟩=>P6 x0 x1 x2,res:=fun ⟨x0,x1,x2,_⟩=>[⟨.sl YA1,g6_0 x0 x1 x2⟩,⟨.int .i64,g6_1 x0 x1 x2⟩],kds:=kds6 }
theorem con6:Contract Try.prog 6 S6:=contract_of Try.func6 hb6 (bl_ (by kernel_rfl)) (fun ⟨x0,x1,x2,_⟩ h _ K q=>at6 x0 x1 x2 h K q)
end
open Go.RowKit in
set_option maxHeartbeats 8000000 in
theorem run26 (w : World) (xs : List TyB0) (b off cap : Nat) (cur : Array Value) (ty : TypeId) (fz : Nat × Nat) (i j : Nat) (hA : OwnAt w YA1 xs b off cap cur ty fz) (hij : i < j) (hj : j ≤ xs.length) :
      Calls Try.prog 26 #[.slice (some ⟨b, off, none⟩) xs.length cap, .int .i64 i, .int .i64 j] w fun r w' => r = .returned (.slice (some ⟨b, off, none⟩) (xs.length - (j - i)) cap) ∧
        ∃ q zs, zs.length = (j - i) * Ty.size YA1 ∧ w' = ((w.drewN q).setCells b (off + i * Ty.size YA1) (fcs YA1 (xs.drop j))).setCells b (off + (xs.length - (j - i)) * Ty.size YA1) zs := by
  have mixed := mixed
  have hsz : Ty.size YA1 = 3 := rfl
  have hinfo : TIOk Try.prog 25 (tabGet tab 25) := tabOk 25
  obtain ⟨_, _, ⟨_, ⟨i0, hi0, hz1, z, hz0, hzs, hzv⟩⟩, hby⟩ := hinfo
  have hz1 : i0.size = 3 := hz1
  have hlen := hA.len
  have hcapm := hA.capm
  have hd : (fcs YA1 (xs.drop j)).length = (xs.length - j) * 3 := by
    have := fcs_length (t := YA1) rfl (xs := xs.drop j) (fun x hx => hA.wf x (List.mem_of_mem_drop hx))
    rw [this, List.length_drop]; rfl
  obtain ⟨news, hnews⟩ : ∃ news, news = fcs YA1 (xs.drop j) := ⟨_, rfl⟩
  have hle : xs.length * 3 ≤ cap * 3 := Nat.mul_le_mul_right _ (by omega)
  have s1 : Hid (news.length = (xs.length - j) * 3) := by rw [hnews]; exact hd
  have s2 : Hid (∀ u ∈ news, u.oneCell' = true) := by rw [hnews]; exact fcells_ones rfl _
  have A0 : Hid (∀ k, k < cap * 3 → (w.cell? ⟨b, off + k, none⟩).isSome = true ∧ w.frozen? ⟨b, off + k, none⟩ = false) := fun k hk => ⟨hA.some' k hk, hA.unfrozen k hk⟩
  have hsrc0 : ∀ (k : Nat) (u : Value), news[k]? = some u → w.cell? ⟨b, off + j * 3 + k, none⟩ = some u := fun k u hk => by
    rw [hnews] at hk
    have := hA.cell _ _ (fcs_drop rfl hA.wf j hj k u hk)
    rwa [Nat.add_assoc]
  obtain ⟨A, hAd, hsrc⟩ : ∃ A : Addr, (if cap = j then some (⟨b, off, none⟩ : Addr) else some ⟨b, off + j * 3, none⟩) = some A ∧ Hid (∀ (t : Nat) (u : Value), news[t]? = some u → w.drew.cell? (A.add t) = some u) := by
    by_cases h : cap = j
    · refine ⟨⟨b, off, none⟩, by simp [h], fun t u hu => ?_⟩
      have h0 : news.length = 0 := by have hnj : xs.length - j = 0 := by omega
                                      rw [s1.out, hnj, Nat.zero_mul]
      rw [List.length_eq_zero_iff.1 h0] at hu
      simp at hu
    · exact ⟨⟨b, off + j * 3, none⟩, by simp [h], fun t u hu => by rw [Addr.add_lit]; exact hsrc0 t u hu⟩
  have s3 : Hid (∀ t, t < news.length → (w.drew.cell? ⟨b, off + i * 3 + t, none⟩).isSome = true ∧ w.drew.frozen? ⟨b, off + i * 3 + t, none⟩ = false) := fun t ht => by
    rw [s1.out] at ht
    rw [Nat.add_assoc]
    exact A0.out _ (by omega)
  obtain ⟨W1, hW1⟩ : ∃ W1, W1 = w.drew.setCells b (off + i * 3) news := ⟨_, rfl⟩
  obtain ⟨zs, hzz⟩ : ∃ zs, zs = (Builtin.zeroCells z.cells (xs.length - (i + (xs.length - j)))).toList := ⟨_, rfl⟩
  have hzl : zs.length = (xs.length - (i + (xs.length - j))) * 3 := by
    have e : z.cells = (dcells YA1).toArray := Array.toList_inj.1 (by rw [hzs])
    rw [hzz, e, zeroCells_k]
    simp [dcells]
  have hz1c : ∀ v ∈ zs, v.oneCell' = true := by
    have e : z.cells = (dcells YA1).toArray := Array.toList_inj.1 (by rw [hzs])
    rw [hzz, e, zeroCells_k]
    intro v hv
    obtain ⟨l, hl, hv⟩ := List.mem_flatten.1 hv
    rw [List.eq_of_mem_replicate hl] at hv
    exact dcells_one _ v hv
  have v23 : ∀ w, (zeroValue 27).run Try.prog w = .ok z w := fun w => by simp [zeroValue, typeInfo, hi0, hz0]
  have hcl : ∀ ty, (Builtin.clear_ #[25] ty #[.slice (some ⟨b, off + (i + (xs.length - j)) * 3, none⟩) (xs.length - (i + (xs.length - j))) (cap - (i + (xs.length - j)))]).run Try.prog W1 = .ok (.tuple #[]) (W1.setCells b (off + (i + (xs.length - j)) * 3) zs) := fun ty =>
    run_clear_k W1 25 27 ty z Try.underlying25 v23 b (off + (i + (xs.length - j)) * 3) _ _ (by omega) zs hzz.symm hz1c
      (fun t ht => by rw [hW1]; exact isSome_put b news _ _ _ (by rw [Nat.add_assoc]; exact (A0.out _ (by rw [hzl] at ht; omega)).1))
      (fun t ht => by rw [hW1, World.frozen?_setCells, Nat.add_assoc]; exact (A0.out _ (by rw [hzl] at ht; omega)).2)
  have X : Aside (W1 = w.drew.setCells b (off + i * 3) news) := hW1
  have hW : Hid (W1 = w.drew.setCells b (off + i * 3) news) := hW1
  have hic : i ≤ cap := by omega
  have hjc : j ≤ cap := by omega
  have hne : ¬ ((i : Int) = (j : Int)) := by omega
  have N : Aside (news = fcs YA1 (xs.drop j)) := hnews
  clear hW1 hsrc0 hd hzv hzs hz0 hby hA v23 hzz hnews hsz
  go_enter Try.func26, Try.ntmps26
  go_wp2_with fail
  go_region_law_o (refine step_append_room rfl (.tmp 22) (.tmp 25) 25 rfl 27 i0 3 Try.underlying25 hi0 hz1 b off i cap (by simp [Act.eval, Act.put]) A (xs.length - j) (cap - j) news (by simp [Act.eval, Act.put]) s1.out hsrc.out s2.out (by omega) s3.out ?_; rw [← hW.out])
  go_wp2
  go_ret
  have e1 : xs.length - (i + (xs.length - j)) = j - i := by omega
  have e2 : i + (xs.length - j) = xs.length - (j - i) := by omega
  refine ⟨by first | (rw [e2]; done) | (rw [e2]; rfl), 1, zs, by rw [hzl, e1]; rfl, ?_⟩
  rw [← N.out, e2, X.out]
  rfl
def sig26:List AT:=[AT.own YA1,AT.v (Ty.int .i64),AT.v (Ty.int .i64)]
def g26_0 (x0:List TyB0) (x1 x2:Int):List TyB0:=x0.take x1.toNat++x0.drop x2.toNat
def P26 (x0:List TyB0) (x1 x2:Int):Prop:=0≤x1∧x1<x2∧x2≤x0.length
def S26:Am.Spec:={ sig:=sig26,pre:=fun ⟨x0,x1,x2,_⟩=>P26 x0 x1 x2,upd:=fun _=>[none],res:=fun ⟨x0,x1,x2,_⟩=>[⟨Ty.sl YA1,g26_0 x0 x1 x2⟩] }
theorem con26:Contract Try.prog 26 S26:=delete_contract (t:=YA1) rfl run26
noncomputable section
def ext7:Ext:=[(22,S22),(25,S25),(26,S26),(20,S20c21)]
theorem ext7Ok:ExtOk Try.prog ext7:=⟨⟨ca22,con22⟩,⟨ca25,con25⟩,⟨ca26,con26⟩,⟨ca20,con20c21⟩,trivial⟩
noncomputable def b7:Code:=bodyOf Try.f7
theorem hb7:Try.f7.body=some b7:=by kernel_rfl
def sig7:List AT:=[AT.v (.sl YA3),AT.v (.sl YA1),AT.v YA1]
def tys7:List Ty:=[.sl YA1,.int .i64]
def kds7:List RK:=[]
def oks7:List AT:=owns sig7
def P7 (x0:List (ByteArray×List ByteArray×Unit)) (x1:List TyB0) (x2:ByteArray×ByteArray×Int×Unit):Prop:=((P22 x0 x1)∧(if (!g22_0 x0 x1)=true then True else ((P20c21 x1 x2)∧(if (!g20c21_1 x1 x2)=true then True else ((P25 x1)∧((InR .i64 (g20c21_0 x1 x2+1))∧((P26 (g25_0 x1) (g20c21_0 x1 x2) (g20c21_0 x1 x2+1))∧True)))))))
def g7_0 (x0:List (ByteArray×List ByteArray×Unit)) (x1:List TyB0) (x2:ByteArray×ByteArray×Int×Unit):List TyB0:=(if (!g22_0 x0 x1)=true then [] else (if (!g20c21_1 x1 x2)=true then [] else g26_0 (g25_0 x1) (g20c21_0 x1 x2) (g20c21_0 x1 x2+1)))
def g7_1 (x0:List (ByteArray×List ByteArray×Unit)) (x1:List TyB0) (x2:ByteArray×ByteArray×Int×Unit):Int:=(if (!g22_0 x0 x1)=true then 1 else (if (!g20c21_1 x1 x2)=true then 3 else 0))
theorem at7 (x0:List (ByteArray×List ByteArray×Unit)) (x1:List TyB0) (x2:ByteArray×ByteArray×Int×Unit) (h:P7 x0 x1 x2) (K:Ctx) (q:Nat→Value):AtV Try.prog 7 (PostR kds7 oks7 [⟨.sl YA1,g7_0 x0 x1 x2⟩,⟨.int .i64,g7_1 x0 x1 x2⟩] [] [] q K) 28 K q [] [.code b7] (entE 0 0 sig7 (x0,x1,x2,())) (entL sig7 (x0,x1,x2,())):=by
 unfold P7 at h
 unfold g7_0 g7_1
 obtain ⟨s0,h⟩:=h
 by_cases b0:(!g22_0 x0 x1)=true
 ·try simp only [if_pos b0] at h ⊢
  exact AtV.ret Try.func7 tabOk ext7Ok mixed false [] tys7 [true] (a1 s0 (a1 b0 trivial)) (by kernel_rfl)
 ·try simp only [if_neg b0] at h ⊢
  replace b0:=bf_ b0
  obtain ⟨s1,h⟩:=h
  by_cases b1:(!g20c21_1 x1 x2)=true
  ·try simp only [if_pos b1] at h ⊢
   exact AtV.ret Try.func7 tabOk ext7Ok mixed false [] tys7 [false,true] (a1 s0 (a1 b0 (a1 s1 (a1 b1 trivial)))) (by kernel_rfl)
  ·try simp only [if_neg b1] at h ⊢
   replace b1:=bf_ b1
   obtain ⟨s2,h⟩:=h
   obtain ⟨s3,h⟩:=h
   obtain ⟨s4,h⟩:=h
   exact AtV.ret Try.func7 tabOk ext7Ok mixed false [] tys7 [false,false] (a1 s0 (a1 b0 (a1 s1 (a1 b1 (a1 s2 (a1 s3 (a1 s4 trivial))))))) (by kernel_rfl)
def S7:Am.Spec:={ sig:=sig7,pre:=fun ⟨x0,x1,x2,_⟩=>P7 x0 x1 x2,res:=fun ⟨x0,x1,x2,_⟩=>[⟨.sl YA1,g7_0 x0 x1 x2⟩,⟨.int .i64,g7_1 x0 x1 x2⟩],kds:=kds7 }
theorem con7:Contract Try.prog 7 S7:=contract_of Try.func7 hb7 (bl_ (by kernel_rfl)) (fun ⟨x0,x1,x2,_⟩ h _ K q=>at7 x0 x1 x2 h K q)
end
noncomputable section
def ext8:Ext:=[(27,S27)]
theorem ext8Ok:ExtOk Try.prog ext8:=⟨⟨ca27,con27⟩,trivial⟩
noncomputable def b8:Code:=bodyOf Try.f8
theorem hb8:Try.f8.body=some b8:=by kernel_rfl
def sig8:List AT:=[AT.v (.sl YA3),AT.v (.sl YA1)]
def tys8:List Ty:=[.bool]
def kds8:List RK:=[]
def oks8:List AT:=owns sig8
def P8 (x0:List (ByteArray×List ByteArray×Unit)) (x1:List TyB0):Prop:=True
def g8_0 (x0:List (ByteArray×List ByteArray×Unit)) (x1:List TyB0):Bool:=g27_0 x0 x1
theorem at8 (x0:List (ByteArray×List ByteArray×Unit)) (x1:List TyB0) (h:P8 x0 x1) (K:Ctx) (q:Nat→Value):AtV Try.prog 8 (PostR kds8 oks8 [⟨.bool,g8_0 x0 x1⟩] [] [] q K) 8 K q [] [.code b8] (entE 0 0 sig8 (x0,x1,())) (entL sig8 (x0,x1,())):=by
 unfold P8 at h
 unfold g8_0
 exact AtV.ret Try.func8 tabOk ext8Ok mixed false [] tys8 [] (a1 trivial trivial) (by kernel_rfl)
def S8:Am.Spec:={ sig:=sig8,pre:=fun ⟨x0,x1,_⟩=>P8 x0 x1,res:=fun ⟨x0,x1,_⟩=>[⟨.bool,g8_0 x0 x1⟩],kds:=kds8 }
theorem con8:Contract Try.prog 8 S8:=contract_of Try.func8 hb8 (bl_ (by kernel_rfl)) (fun ⟨x0,x1,_⟩ h _ K q=>at8 x0 x1 h K q)
end
end Go.Proofs.Ythmimdpgkcadnaa
