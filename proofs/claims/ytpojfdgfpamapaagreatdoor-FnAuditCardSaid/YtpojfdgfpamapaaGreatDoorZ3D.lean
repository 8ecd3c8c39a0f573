/- Several texts in one: the functions that this law reaches, and their laws. -/
import Derived.Test.YtpojfdgfpamapaaGreatDoorZ3A
import Derived.Test.YtpojfdgfpamapaaGreatDoorZ3B
import Derived.Test.YtpojfdgfpamapaaGreatDoorZ3C
import Derived.Lib.TrimByte
import Derived.Shelf.Utf8.RuneCount
import Derived.Shelf.Strconv.Itoa0
import Derived.Shelf.Strconv.Itoa1
import Derived.Shelf.LaysM
import Derived.Shelf.Strconv.Itoa2
import Derived.Shelf.Strconv.Itoa3
import Derived.Shelf.Strconv.Itoa4
import Derived.Shelf.Strings.Search1
import Derived.Shelf.Strings.Search2
import Derived.Shelf.Strings.Search3
import Derived.Shelf.Strings.Count
import Derived.Shelf.Strings.Shaped
import Derived.Shelf.Strings.Split
import Derived.Shelf.Strings.SplitShaped
import Derived.Shelf.Unicode.Decode
import Derived.Shelf.Strings.RuneCount
import Derived.Shelf.Strings.Explode
import Derived.Shelf.Unicode.DecodeSlow
import Derived.Shelf.Unicode.DecodeAny
import Derived.Ground.SlgfProg
import Derived.Shelf.SlicesE.IndexFunc
set_option linter.unusedVariables false
set_option linter.unusedSimpArgs false
set_option maxRecDepth 100000
namespace Go.Proofs.YtpojfdgfpamapaaGreatDoor
open Go Go.Am Go.Proofs
noncomputable section
def ext15:Ext:=[(26,S26),(27,S27),(28,S28),(29,S29),(30,S30),(31,S31)]
theorem ext15Ok:ExtOk Tryz.prog ext15:=⟨⟨ca26,con26⟩,⟨ca27,con27⟩,⟨ca28,con28⟩,⟨ca29,con29⟩,⟨ca30,con30⟩,⟨ca31,con31⟩,trivial⟩
noncomputable def b15:Code:=bodyOf Tryz.f15
theorem hb15:Tryz.f15.body=some b15:=by kernel_rfl
def sig15:List AT:=[AT.pb YA7]
def tys15:List Ty:=[.cons YA2 YA1]
def kds15:List RK:=[.frz]
def oks15:List AT:=owns sig15
def E15_13 (v5:Int) (h0:List Int×Int×Int×Unit) (h5:List TyB0) (x0:List Int×Int×Int×Unit):Env:=[(0,.a (.optr 0 0 [])),(2,.a (.bptr 1 0 YA0)),(3,.a (.bptr 2 0 YA0)),(4,.a (.osl 3 Option.none)),(5,.a (.val (.int .i64 v5)))]
def L15_13 (v5:Int) (h0:List Int×Int×Int×Unit) (h5:List TyB0) (x0:List Int×Int×Int×Unit):Heap:=[Option.some (Arr.mk YA7 [h0] true Option.none (Option.some true)),Option.some (Arr.mk YA0 [] false (Option.some [Leaf.val (Value.slice Option.none 0 0),Leaf.val (Value.int .i64 0),Leaf.val (Value.int .i64 0),Leaf.val (Value.int .i64 0),Leaf.val (Value.int .i64 0),Leaf.val (Value.int .i64 0),Leaf.val (Value.int .i64 0),Leaf.val (Value.int .i64 0),Leaf.val (Value.int .i64 0),Leaf.val (Value.int .i64 0),Leaf.val (Value.slice Option.none 0 0),Leaf.val (Value.int .i64 0),Leaf.val (Value.int .i64 0),Leaf.val (Value.int .i64 0),Leaf.val (Value.slice Option.none 0 0),Leaf.val (Value.int .i64 0),Leaf.val (Value.int .i64 0),Leaf.val (Value.slice Option.none 0 0),Leaf.val (Value.int .i64 0),Leaf.val (Value.slice Option.none 0 0)]) Option.none),Option.some (Arr.mk YA0 [] false (Option.some [Leaf.sl YA11 (g26_0 x0).1,Leaf.val (Value.int .i64 (g26_0 x0).2.1),Leaf.val (Value.int .i64 (g26_0 x0).2.2.1),Leaf.val (Value.int .i64 8000),Leaf.val (Value.int .i64 (g27_0 (u26_0 x0) 2)),Leaf.val (Value.int .i64 (7000+100*g27_0 (u27_0 (u26_0 x0) 2) 20)),Leaf.val (Value.int .i64 200),Leaf.val (Value.int .i64 (2000+100*g27_0 (u28_0 (u27_0 (u27_0 (u26_0 x0) 2) 20)) 30)),Leaf.val (Value.int .i64 100),Leaf.val (Value.int .i64 2000),Leaf.osl 4 Option.none,Leaf.val (Value.int .i64 40),Leaf.val (Value.int .i64 10),Leaf.val (Value.int .i64 5000),Leaf.osl 5 Option.none,Leaf.val (Value.int .i64 70),Leaf.val (Value.int .i64 3200),Leaf.val (Value.slice Option.none 0 0),Leaf.val (Value.int .i64 0),Leaf.val (Value.slice Option.none 0 0)]) Option.none),Option.some (Arr.mk .str [ByteArray.mk #[98,114,97,107,101],ByteArray.mk #[100,111,111,114],ByteArray.mk #[114,111,112,101]] false Option.none Option.none),Option.some (Arr.mk YA5 (g29_0 (u27_0 (u28_0 (u27_0 (u27_0 (u26_0 x0) 2) 20)) 30)) false Option.none Option.none),Option.some (Arr.mk YA3 h5 false Option.none Option.none)]
def E15_19 (v6:Int) (v7:Int) (h2l18:Int) (h5:List TyB4) (h0:List Int×Int×Int×Unit) (x0:List Int×Int×Int×Unit) (h5a:List TyB0):Env:=[(0,.a (.optr 0 0 [])),(2,.a (.bptr 1 0 YA0)),(3,.a (.bptr 2 0 YA0)),(6,.a (.val (.int .i64 v6))),(7,.a (.val (.int .i64 v7)))]
def L15_19 (v6:Int) (v7:Int) (h2l18:Int) (h5:List TyB4) (h0:List Int×Int×Int×Unit) (x0:List Int×Int×Int×Unit) (h5a:List TyB0):Heap:=[Option.some (Arr.mk YA7 [u27_0 (u27_0 (u27_0 h0 100) 3) 6] true Option.none (Option.some true)),Option.some (Arr.mk YA0 [] false (Option.some [Leaf.val (Value.slice Option.none 0 0),Leaf.val (Value.int .i64 0),Leaf.val (Value.int .i64 0),Leaf.val (Value.int .i64 0),Leaf.val (Value.int .i64 0),Leaf.val (Value.int .i64 0),Leaf.val (Value.int .i64 0),Leaf.val (Value.int .i64 0),Leaf.val (Value.int .i64 0),Leaf.val (Value.int .i64 0),Leaf.val (Value.slice Option.none 0 0),Leaf.val (Value.int .i64 0),Leaf.val (Value.int .i64 0),Leaf.val (Value.int .i64 0),Leaf.val (Value.slice Option.none 0 0),Leaf.val (Value.int .i64 0),Leaf.val (Value.int .i64 0),Leaf.val (Value.slice Option.none 0 0),Leaf.val (Value.int .i64 0),Leaf.val (Value.slice Option.none 0 0)]) Option.none),Option.some (Arr.mk YA0 [] false (Option.some [Leaf.sl YA11 (g26_0 x0).1,Leaf.val (Value.int .i64 (g26_0 x0).2.1),Leaf.val (Value.int .i64 (g26_0 x0).2.2.1),Leaf.val (Value.int .i64 8000),Leaf.val (Value.int .i64 (g27_0 (u26_0 x0) 2)),Leaf.val (Value.int .i64 (7000+100*g27_0 (u27_0 (u26_0 x0) 2) 20)),Leaf.val (Value.int .i64 200),Leaf.val (Value.int .i64 (2000+100*g27_0 (u28_0 (u27_0 (u27_0 (u26_0 x0) 2) 20)) 30)),Leaf.val (Value.int .i64 100),Leaf.val (Value.int .i64 2000),Leaf.osl 3 Option.none,Leaf.val (Value.int .i64 40),Leaf.val (Value.int .i64 10),Leaf.val (Value.int .i64 5000),Leaf.osl 4 Option.none,Leaf.val (Value.int .i64 70),Leaf.val (Value.int .i64 3200),Leaf.osl 5 Option.none,Leaf.val (Value.int .i64 h2l18),Leaf.val (Value.slice Option.none 0 0)]) Option.none),Option.some (Arr.mk YA5 (g29_0 (u27_0 (u28_0 (u27_0 (u27_0 (u26_0 x0) 2) 20)) 30)) false Option.none Option.none),Option.some (Arr.mk YA3 h5a false Option.none Option.none),Option.some (Arr.mk YA11 h5 false Option.none Option.none)]
mutual
def R15:Nat→List Int×Int×Int×Unit→List Dyn→List (Option Lst)→Prop
 | 0,_,_,_=>False
 | n+1,x0,ds,us=>((P26 x0)∧((P27 (u26_0 x0) 2)∧((P27 (u27_0 (u26_0 x0) 2) 20)∧((InR .i64 (100*g27_0 (u27_0 (u26_0 x0) 2) 20))∧((InR .i64 (7000+100*g27_0 (u27_0 (u26_0 x0) 2) 20))∧((P28 (u27_0 (u27_0 (u26_0 x0) 2) 20))∧((P27 (u28_0 (u27_0 (u27_0 (u26_0 x0) 2) 20)) 30)∧((InR .i64 (100*g27_0 (u28_0 (u27_0 (u27_0 (u26_0 x0) 2) 20)) 30))∧((InR .i64 (2000+100*g27_0 (u28_0 (u27_0 (u27_0 (u26_0 x0) 2) 20)) 30))∧((P29 (u27_0 (u28_0 (u27_0 (u27_0 (u26_0 x0) 2) 20)) 30))∧(R15_13 n (0) (u29_0 (u27_0 (u28_0 (u27_0 (u27_0 (u26_0 x0) 2) 20)) 30)) ([]) (x0) ds us)))))))))))
def R15_13:Nat→Int→List Int×Int×Int×Unit→List TyB0→List Int×Int×Int×Unit→List Dyn→List (Option Lst)→Prop
 | 0,_,_,_,_,_,_=>False
 | n+1,v5,h0,h5,x0,ds,us=>(if (decide (v5<3))=true then ((0≤v5)∧(v5<3)∧((P27 h0 20)∧((InR .i64 (50+g27_0 h0 20))∧(((List.length h5+1)*48≤140737488355328)∧((InR .i64 (v5+1))∧(R15_13 n (v5+1) (u27_0 h0 20) (h5++[(List.getD [ByteArray.mk #[98,114,97,107,101],ByteArray.mk #[100,111,111,114],ByteArray.mk #[114,111,112,101]] (Int.toNat v5) ByteArray.empty,30,2000,50+g27_0 h0 20,2000,())]) (x0) ds us)))))) else ((P27 h0 100)∧((InR .i64 (300+g27_0 h0 100))∧((P27 (u27_0 h0 100) 3)∧((P27 (u27_0 (u27_0 h0 100) 3) 6)∧(R15_19 n (300+g27_0 h0 100) (g27_0 (u27_0 (u27_0 h0 100) 3) 6) (g27_0 (u27_0 h0 100) 3) ([]) (h0) (x0) (h5) ds us))))))
def R15_19:Nat→Int→Int→Int→List TyB4→List Int×Int×Int×Unit→List Int×Int×Int×Unit→List TyB0→List Dyn→List (Option Lst)→Prop
 | 0,_,_,_,_,_,_,_,_,_=>False
 | n+1,v6,v7,h2l18,h5,h0,x0,h5a,ds,us=>(if (decide (v7>0))=true then ((P27 (u27_0 (u27_0 (u27_0 h0 100) 3) 6) 6)∧((InR .i64 (4+g27_0 (u27_0 (u27_0 (u27_0 h0 100) 3) 6) 6))∧(((List.length h5+1)*16≤140737488355328)∧((InR .i64 (4+g27_0 (u27_0 (u27_0 (u27_0 h0 100) 3) 6) 6+3))∧((InR .i64 (v6+(4+g27_0 (u27_0 (u27_0 (u27_0 h0 100) 3) 6) 6+3)))∧((InR .i64 (v7 - 1))∧(R15_19 n (v6+(4+g27_0 (u27_0 (u27_0 (u27_0 h0 100) 3) 6) 6+3)) (v7 - 1) (h2l18) (h5++[(v6,4+g27_0 (u27_0 (u27_0 (u27_0 h0 100) 3) 6) 6,())]) (u27_0 h0 100) (x0) (h5a) ds us))))))) else ((P30 (u27_0 (u27_0 (u27_0 h0 100) 3) 6))∧((P27 (u30_0 (u27_0 (u27_0 (u27_0 h0 100) 3) 6)) 14)∧(if (g27_0 (u30_0 (u27_0 (u27_0 (u27_0 h0 100) 3) 6)) 14==0)=true then ((InR .i64 ((g26_0 x0).2.2.1 - 1000))∧((InR .i64 ((g26_0 x0).2.1+4000))∧(ds=[Dyn.mk YA0 (((g26_0 x0).1,(g26_0 x0).2.1+4000,(g26_0 x0).2.2.1 - 1000,()),8000,(g27_0 (u26_0 x0) 2,7000+100*g27_0 (u27_0 (u26_0 x0) 2) 20,()),(200,2000+100*g27_0 (u28_0 (u27_0 (u27_0 (u26_0 x0) 2) 20)) 30,100,2000,()),g29_0 (u27_0 (u28_0 (u27_0 (u27_0 (u26_0 x0) 2) 20)) 30),(40,10,5000,()),h5a,70,3200,h5,h2l18,g30_0 (u27_0 (u27_0 (u27_0 h0 100) 3) 6),())]∧us=[Option.some (Lst.mk YA7 [u27_0 (u30_0 (u27_0 (u27_0 (u27_0 h0 100) 3) 6)) 14])]))) else (if (g27_0 (u30_0 (u27_0 (u27_0 (u27_0 h0 100) 3) 6)) 14==1)=true then ((P27 (u27_0 (u30_0 (u27_0 (u27_0 (u27_0 h0 100) 3) 6)) 14) 60)∧((InR .i64 (100*g27_0 (u27_0 (u30_0 (u27_0 (u27_0 (u27_0 h0 100) 3) 6)) 14) 60))∧((InR .i64 (500+100*g27_0 (u27_0 (u30_0 (u27_0 (u27_0 (u27_0 h0 100) 3) 6)) 14) 60))∧(ds=[Dyn.mk YA0 (((g26_0 x0).1,(g26_0 x0).2.1,(g26_0 x0).2.2.1,()),8000,(g27_0 (u26_0 x0) 2,500+100*g27_0 (u27_0 (u30_0 (u27_0 (u27_0 (u27_0 h0 100) 3) 6)) 14) 60,()),(200,2000+100*g27_0 (u28_0 (u27_0 (u27_0 (u26_0 x0) 2) 20)) 30,100,2000,()),g29_0 (u27_0 (u28_0 (u27_0 (u27_0 (u26_0 x0) 2) 20)) 30),(40,10,5000,()),h5a,70,3200,h5,h2l18,g30_0 (u27_0 (u27_0 (u27_0 h0 100) 3) 6),())]∧us=[Option.some (Lst.mk YA7 [u27_0 (u27_0 (u30_0 (u27_0 (u27_0 (u27_0 h0 100) 3) 6)) 14) 60])])))) else (if (g27_0 (u30_0 (u27_0 (u27_0 (u27_0 h0 100) 3) 6)) 14==2)=true then (ds=[Dyn.mk YA0 (((g26_0 x0).1,(g26_0 x0).2.1,(g26_0 x0).2.2.1,()),8000,(g27_0 (u26_0 x0) 2,7000+100*g27_0 (u27_0 (u26_0 x0) 2) 20,()),(200,2000+100*g27_0 (u28_0 (u27_0 (u27_0 (u26_0 x0) 2) 20)) 30,100,2000,()),g29_0 (u27_0 (u28_0 (u27_0 (u27_0 (u26_0 x0) 2) 20)) 30),(12,3,1200,()),h5a,70,3200,h5,h2l18,g30_0 (u27_0 (u27_0 (u27_0 h0 100) 3) 6),())]∧us=[Option.some (Lst.mk YA7 [u27_0 (u30_0 (u27_0 (u27_0 (u27_0 h0 100) 3) 6)) 14])]) else (if (g27_0 (u30_0 (u27_0 (u27_0 (u27_0 h0 100) 3) 6)) 14==3)=true then ((P31 (u27_0 (u30_0 (u27_0 (u27_0 (u27_0 h0 100) 3) 6)) 14))∧(ds=[Dyn.mk YA0 (((g26_0 x0).1,(g26_0 x0).2.1,(g26_0 x0).2.2.1,()),8000,(g27_0 (u26_0 x0) 2,7000+100*g27_0 (u27_0 (u26_0 x0) 2) 20,()),(200,2000+100*g27_0 (u28_0 (u27_0 (u27_0 (u26_0 x0) 2) 20)) 30,100,2000,()),g29_0 (u27_0 (u28_0 (u27_0 (u27_0 (u26_0 x0) 2) 20)) 30),(40,10,5000,()),g31_0 (u27_0 (u30_0 (u27_0 (u27_0 (u27_0 h0 100) 3) 6)) 14),70,3200,h5,h2l18,g30_0 (u27_0 (u27_0 (u27_0 h0 100) 3) 6),())]∧us=[Option.some (Lst.mk YA7 [u31_0 (u27_0 (u30_0 (u27_0 (u27_0 (u27_0 h0 100) 3) 6)) 14)])])) else (if (g27_0 (u30_0 (u27_0 (u27_0 (u27_0 h0 100) 3) 6)) 14==4)=true then (ds=[Dyn.mk YA0 (((g26_0 x0).1,(g26_0 x0).2.1,(g26_0 x0).2.2.1,()),8000,(g27_0 (u26_0 x0) 2,7000+100*g27_0 (u27_0 (u26_0 x0) 2) 20,()),(200,2000+100*g27_0 (u28_0 (u27_0 (u27_0 (u26_0 x0) 2) 20)) 30,100,2000,()),g29_0 (u27_0 (u28_0 (u27_0 (u27_0 (u26_0 x0) 2) 20)) 30),(40,10,5000,()),h5a,70,3200,h5,4,g30_0 (u27_0 (u27_0 (u27_0 h0 100) 3) 6),())]∧us=[Option.some (Lst.mk YA7 [u27_0 (u30_0 (u27_0 (u27_0 (u27_0 h0 100) 3) 6)) 14])]) else (if (g27_0 (u30_0 (u27_0 (u27_0 (u27_0 h0 100) 3) 6)) 14==5)=true then (if (decide ((↑(List.length (g30_0 (u27_0 (u27_0 (u27_0 h0 100) 3) 6))):Int)>0))=true then ((P27 (u27_0 (u30_0 (u27_0 (u27_0 (u27_0 h0 100) 3) 6)) 14) (↑(List.length (g30_0 (u27_0 (u27_0 (u27_0 h0 100) 3) 6))):Int))∧((P27 (u27_0 (u27_0 (u30_0 (u27_0 (u27_0 (u27_0 h0 100) 3) 6)) 14) (↑(List.length (g30_0 (u27_0 (u27_0 (u27_0 h0 100) 3) 6))):Int)) 60000)∧((0≤g27_0 (u27_0 (u30_0 (u27_0 (u27_0 (u27_0 h0 100) 3) 6)) 14) (↑(List.length (g30_0 (u27_0 (u27_0 (u27_0 h0 100) 3) 6))):Int))∧(g27_0 (u27_0 (u30_0 (u27_0 (u27_0 (u27_0 h0 100) 3) 6)) 14) (↑(List.length (g30_0 (u27_0 (u27_0 (u27_0 h0 100) 3) 6))):Int)<(↑(List.length (g30_0 (u27_0 (u27_0 (u27_0 h0 100) 3) 6))):Int))∧(ds=[Dyn.mk YA0 (((g26_0 x0).1,(g26_0 x0).2.1,(g26_0 x0).2.2.1,()),8000,(g27_0 (u26_0 x0) 2,7000+100*g27_0 (u27_0 (u26_0 x0) 2) 20,()),(200,2000+100*g27_0 (u28_0 (u27_0 (u27_0 (u26_0 x0) 2) 20)) 30,100,2000,()),g29_0 (u27_0 (u28_0 (u27_0 (u27_0 (u26_0 x0) 2) 20)) 30),(40,10,5000,()),h5a,70,3200,h5,h2l18,List.set (g30_0 (u27_0 (u27_0 (u27_0 h0 100) 3) 6)) (Int.toNat (g27_0 (u27_0 (u30_0 (u27_0 (u27_0 (u27_0 h0 100) 3) 6)) 14) (↑(List.length (g30_0 (u27_0 (u27_0 (u27_0 h0 100) 3) 6))):Int))) ((List.getD (g30_0 (u27_0 (u27_0 (u27_0 h0 100) 3) 6)) (Int.toNat (g27_0 (u27_0 (u30_0 (u27_0 (u27_0 (u27_0 h0 100) 3) 6)) 14) (↑(List.length (g30_0 (u27_0 (u27_0 (u27_0 h0 100) 3) 6))):Int))) (0,0,ByteArray.empty,0,())).1,(List.getD (g30_0 (u27_0 (u27_0 (u27_0 h0 100) 3) 6)) (Int.toNat (g27_0 (u27_0 (u30_0 (u27_0 (u27_0 (u27_0 h0 100) 3) 6)) 14) (↑(List.length (g30_0 (u27_0 (u27_0 (u27_0 h0 100) 3) 6))):Int))) (0,0,ByteArray.empty,0,())).2.1,(List.getD (g30_0 (u27_0 (u27_0 (u27_0 h0 100) 3) 6)) (Int.toNat (g27_0 (u27_0 (u30_0 (u27_0 (u27_0 (u27_0 h0 100) 3) 6)) 14) (↑(List.length (g30_0 (u27_0 (u27_0 (u27_0 h0 100) 3) 6))):Int))) (0,0,ByteArray.empty,0,())).2.2.1,g27_0 (u27_0 (u27_0 (u30_0 (u27_0 (u27_0 (u27_0 h0 100) 3) 6)) 14) (↑(List.length (g30_0 (u27_0 (u27_0 (u27_0 h0 100) 3) 6))):Int)) 60000,(List.getD (g30_0 (u27_0 (u27_0 (u27_0 h0 100) 3) 6)) (Int.toNat (g27_0 (u27_0 (u30_0 (u27_0 (u27_0 (u27_0 h0 100) 3) 6)) 14) (↑(List.length (g30_0 (u27_0 (u27_0 (u27_0 h0 100) 3) 6))):Int))) (0,0,ByteArray.empty,0,())).2.2.2.2),())]∧us=[Option.some (Lst.mk YA7 [u27_0 (u27_0 (u27_0 (u30_0 (u27_0 (u27_0 (u27_0 h0 100) 3) 6)) 14) (↑(List.length (g30_0 (u27_0 (u27_0 (u27_0 h0 100) 3) 6))):Int)) 60000])])))) else (ds=[Dyn.mk YA0 (((g26_0 x0).1,(g26_0 x0).2.1,(g26_0 x0).2.2.1,()),8000,(g27_0 (u26_0 x0) 2,7000+100*g27_0 (u27_0 (u26_0 x0) 2) 20,()),(200,2000+100*g27_0 (u28_0 (u27_0 (u27_0 (u26_0 x0) 2) 20)) 30,100,2000,()),g29_0 (u27_0 (u28_0 (u27_0 (u27_0 (u26_0 x0) 2) 20)) 30),(40,10,5000,()),h5a,70,3200,h5,h2l18,g30_0 (u27_0 (u27_0 (u27_0 h0 100) 3) 6),())]∧us=[Option.some (Lst.mk YA7 [u27_0 (u30_0 (u27_0 (u27_0 (u27_0 h0 100) 3) 6)) 14])])) else (if (g27_0 (u30_0 (u27_0 (u27_0 (u27_0 h0 100) 3) 6)) 14==6)=true then (ds=[Dyn.mk YA0 (((g26_0 x0).1,(g26_0 x0).2.1,(g26_0 x0).2.1,()),8000,(g27_0 (u26_0 x0) 2,7000+100*g27_0 (u27_0 (u26_0 x0) 2) 20,()),(200,2000+100*g27_0 (u28_0 (u27_0 (u27_0 (u26_0 x0) 2) 20)) 30,100,2000,()),g29_0 (u27_0 (u28_0 (u27_0 (u27_0 (u26_0 x0) 2) 20)) 30),(40,10,5000,()),h5a,70,3200,h5,h2l18,g30_0 (u27_0 (u27_0 (u27_0 h0 100) 3) 6),())]∧us=[Option.some (Lst.mk YA7 [u27_0 (u30_0 (u27_0 (u27_0 (u27_0 h0 100) 3) 6)) 14])]) else (ds=[Dyn.mk YA0 (((g26_0 x0).1,(g26_0 x0).2.1,(g26_0 x0).2.2.1,()),8000,(g27_0 (u26_0 x0) 2,7000+100*g27_0 (u27_0 (u26_0 x0) 2) 20,()),(200,2000+100*g27_0 (u28_0 (u27_0 (u27_0 (u26_0 x0) 2) 20)) 30,100,2000,()),g29_0 (u27_0 (u28_0 (u27_0 (u27_0 (u26_0 x0) 2) 20)) 30),(40,10,5000,()),h5a,70,3200,h5,h2l18,g30_0 (u27_0 (u27_0 (u27_0 h0 100) 3) 6),())]∧us=[Option.some (Lst.mk YA7 [u27_0 (u30_0 (u27_0 (u27_0 (u27_0 h0 100) 3) 6)) 14])])))))))))))
end
theorem snd15:∀ n,(∀ (x0:List Int×Int×Int×Unit) ds us,R15 n x0 ds us→∀ K q,AtV Tryz.prog 15 (PostR kds15 oks15 ds us [0] q K) 155 K q [0] [.code b15] (entE 0 0 sig15 (x0,())) (entL sig15 (x0,())))∧(∀ (v5:Int) (h0:List Int×Int×Int×Unit) (h5:List TyB0) (x0:List Int×Int×Int×Unit) ds us,R15_13 n v5 h0 h5 x0 ds us→∀ K q,AtV Tryz.prog 15 (PostR kds15 oks15 ds us [0] q K) 155 K q [0] (cutAt b15 13) (E15_13 v5 h0 h5 x0) (L15_13 v5 h0 h5 x0))∧(∀ (v6:Int) (v7:Int) (h2l18:Int) (h5:List TyB4) (h0:List Int×Int×Int×Unit) (x0:List Int×Int×Int×Unit) (h5a:List TyB0) ds us,R15_19 n v6 v7 h2l18 h5 h0 x0 h5a ds us→∀ K q,AtV Tryz.prog 15 (PostR kds15 oks15 ds us [0] q K) 155 K q [0] (cutAt b15 19) (E15_19 v6 v7 h2l18 h5 h0 x0 h5a) (L15_19 v6 v7 h2l18 h5 h0 x0 h5a)):=by
 intro n
 induction n with
 | zero=>exact ⟨fun _ _ _ h=>by simp only [R15] at h,fun _ _ _ _ _ _ h=>by simp only [R15_13] at h,fun _ _ _ _ _ _ _ _ _ h=>by simp only [R15_19] at h⟩
 | succ n ih =>
 obtain ⟨ih,ih13,ih19⟩:=ih
 refine ⟨?_,?_,?_⟩
 ·intro x0 ds us h K q
  rw [R15] at h
  obtain ⟨s0,h⟩:=h
  obtain ⟨s1,h⟩:=h
  obtain ⟨s2,h⟩:=h
  obtain ⟨s3,h⟩:=h
  obtain ⟨s4,h⟩:=h
  obtain ⟨s5,h⟩:=h
  obtain ⟨s6,h⟩:=h
  obtain ⟨s7,h⟩:=h
  obtain ⟨s8,h⟩:=h
  obtain ⟨s9,h⟩:=h
  exact AtV.go tabOk ext15Ok mixed false [] [(15000003,.cons .str YA4)] [0,2,3,4,5] [0,1,2,4,3,5] [] (a1 s0 (a1 s1 (a1 s2 (a1 s3 (a1 s4 (a1 s5 (a1 s6 (a1 s7 (a1 s8 (a1 s9 trivial)))))))))) (ih13 _ _ _ _ _ _ h K q) (by kernel_rfl)
 ·intro v5 h0 h5 x0 ds us h K q
  rw [R15_13] at h
  by_cases b0:(decide (v5<3))=true
  ·rw [if_pos b0] at h
   obtain ⟨s0,s1,h⟩:=h
   obtain ⟨s2,h⟩:=h
   obtain ⟨s3,h⟩:=h
   obtain ⟨s4,h⟩:=h
   obtain ⟨s5,h⟩:=h
   exact AtV.go tabOk ext15Ok mixed false [] [(15000003,.cons .str YA4)] [0,2,3,4,5] [0,1,2,3,4,5] [true] (a1 b0 (a1 s0 (a1 s1 (a1 s2 (a1 s3 (a1 s4 (a1 s5 trivial))))))) (ih13 _ _ _ _ _ _ h K q) (by kernel_rfl)
  ·rw [if_neg b0] at h
   replace b0:=bf_ b0
   obtain ⟨s0,h⟩:=h
   obtain ⟨s1,h⟩:=h
   obtain ⟨s2,h⟩:=h
   obtain ⟨s3,h⟩:=h
   exact AtV.go tabOk ext15Ok mixed false [] [(18000003,.cons (.int .i64) (.cons (.int .i64) .unit))] [0,2,3,6,7] [0,1,2,4,5,6] [false] (a1 b0 (a1 s0 (a1 s1 (a1 s2 (a1 s3 trivial))))) (ih19 _ _ _ _ _ _ _ _ _ h K q) (by kernel_rfl)
 ·intro v6 v7 h2l18 h5 h0 x0 h5a ds us h K q
  rw [R15_19] at h
  by_cases b0:(decide (v7>0))=true
  ·rw [if_pos b0] at h
   obtain ⟨s0,h⟩:=h
   obtain ⟨s1,h⟩:=h
   obtain ⟨s2,h⟩:=h
   obtain ⟨s3,h⟩:=h
   obtain ⟨s4,h⟩:=h
   obtain ⟨s5,h⟩:=h
   exact AtV.go tabOk ext15Ok mixed false [] [(18000003,.cons (.int .i64) (.cons (.int .i64) .unit))] [0,2,3,6,7] [0,1,2,3,4,5] [true] (a1 b0 (a1 s0 (a1 s1 (a1 s2 (a1 s3 (a1 s4 (a1 s5 trivial))))))) (ih19 _ _ _ _ _ _ _ _ _ h K q) (by kernel_rfl)
  ·rw [if_neg b0] at h
   replace b0:=bf_ b0
   obtain ⟨s0,h⟩:=h
   obtain ⟨s1,h⟩:=h
   by_cases b1:(g27_0 (u30_0 (u27_0 (u27_0 (u27_0 h0 100) 3) 6)) 14==0)=true
   ·rw [if_pos b1] at h
    obtain ⟨s2,h⟩:=h
    obtain ⟨s3,h⟩:=h
    obtain ⟨h,h'⟩:=h;subst h;subst h'
    exact AtV.ret Tryz.func15 tabOk ext15Ok mixed false [] tys15 [false,true] (a1 b0 (a1 s0 (a1 s1 (a1 b1 (a1 s2 (a1 s3 trivial)))))) (by kernel_rfl)
   ·rw [if_neg b1] at h
    replace b1:=bf_ b1
    by_cases b2:(g27_0 (u30_0 (u27_0 (u27_0 (u27_0 h0 100) 3) 6)) 14==1)=true
    ·rw [if_pos b2] at h
     obtain ⟨s2,h⟩:=h
     obtain ⟨s3,h⟩:=h
     obtain ⟨s4,h⟩:=h
     obtain ⟨h,h'⟩:=h;subst h;subst h'
     exact AtV.ret Tryz.func15 tabOk ext15Ok mixed false [] tys15 [false,false,true] (a1 b0 (a1 s0 (a1 s1 (a1 b1 (a1 b2 (a1 s2 (a1 s3 (a1 s4 trivial)))))))) (by kernel_rfl)
    ·rw [if_neg b2] at h
     replace b2:=bf_ b2
     by_cases b3:(g27_0 (u30_0 (u27_0 (u27_0 (u27_0 h0 100) 3) 6)) 14==2)=true
     ·rw [if_pos b3] at h
      obtain ⟨h,h'⟩:=h;subst h;subst h'
      exact AtV.ret Tryz.func15 tabOk ext15Ok mixed false [] tys15 [false,false,false,true] (a1 b0 (a1 s0 (a1 s1 (a1 b1 (a1 b2 (a1 b3 trivial)))))) (by kernel_rfl)
     ·rw [if_neg b3] at h
      replace b3:=bf_ b3
      by_cases b4:(g27_0 (u30_0 (u27_0 (u27_0 (u27_0 h0 100) 3) 6)) 14==3)=true
      ·rw [if_pos b4] at h
       obtain ⟨s2,h⟩:=h
       obtain ⟨h,h'⟩:=h;subst h;subst h'
       exact AtV.ret Tryz.func15 tabOk ext15Ok mixed false [] tys15 [false,false,false,false,true] (a1 b0 (a1 s0 (a1 s1 (a1 b1 (a1 b2 (a1 b3 (a1 b4 (a1 s2 trivial)))))))) (by kernel_rfl)
      ·rw [if_neg b4] at h
       replace b4:=bf_ b4
       by_cases b5:(g27_0 (u30_0 (u27_0 (u27_0 (u27_0 h0 100) 3) 6)) 14==4)=true
       ·rw [if_pos b5] at h
        obtain ⟨h,h'⟩:=h;subst h;subst h'
        exact AtV.ret Tryz.func15 tabOk ext15Ok mixed false [] tys15 [false,false,false,false,false,true] (a1 b0 (a1 s0 (a1 s1 (a1 b1 (a1 b2 (a1 b3 (a1 b4 (a1 b5 trivial)))))))) (by kernel_rfl)
       ·rw [if_neg b5] at h
        replace b5:=bf_ b5
        by_cases b6:(g27_0 (u30_0 (u27_0 (u27_0 (u27_0 h0 100) 3) 6)) 14==5)=true
        ·rw [if_pos b6] at h
         by_cases b7:(decide ((↑(List.length (g30_0 (u27_0 (u27_0 (u27_0 h0 100) 3) 6))):Int)>0))=true
         ·rw [if_pos b7] at h
          obtain ⟨s2,h⟩:=h
          obtain ⟨s3,h⟩:=h
          obtain ⟨s4,s5,h⟩:=h
          obtain ⟨h,h'⟩:=h;subst h;subst h'
          exact AtV.ret Tryz.func15 tabOk ext15Ok mixed false [] tys15 [false,false,false,false,false,false,true,true] (a1 b0 (a1 s0 (a1 s1 (a1 b1 (a1 b2 (a1 b3 (a1 b4 (a1 b5 (a1 b6 (a1 b7 (a1 s2 (a1 s3 (a1 s4 (a1 s5 trivial)))))))))))))) (by kernel_rfl)
         ·rw [if_neg b7] at h
          replace b7:=bf_ b7
          obtain ⟨h,h'⟩:=h;subst h;subst h'
          exact AtV.ret Tryz.func15 tabOk ext15Ok mixed false [] tys15 [false,false,false,false,false,false,true,false] (a1 b0 (a1 s0 (a1 s1 (a1 b1 (a1 b2 (a1 b3 (a1 b4 (a1 b5 (a1 b6 (a1 b7 trivial)))))))))) (by kernel_rfl)
        ·rw [if_neg b6] at h
         replace b6:=bf_ b6
         by_cases b7:(g27_0 (u30_0 (u27_0 (u27_0 (u27_0 h0 100) 3) 6)) 14==6)=true
         ·rw [if_pos b7] at h
          obtain ⟨h,h'⟩:=h;subst h;subst h'
          exact AtV.ret Tryz.func15 tabOk ext15Ok mixed false [] tys15 [false,false,false,false,false,false,false,true] (a1 b0 (a1 s0 (a1 s1 (a1 b1 (a1 b2 (a1 b3 (a1 b4 (a1 b5 (a1 b6 (a1 b7 trivial)))))))))) (by kernel_rfl)
         ·rw [if_neg b7] at h
          replace b7:=bf_ b7
          obtain ⟨h,h'⟩:=h;subst h;subst h'
          exact AtV.ret Tryz.func15 tabOk ext15Ok mixed false [] tys15 [false,false,false,false,false,false,false,false] (a1 b0 (a1 s0 (a1 s1 (a1 b1 (a1 b2 (a1 b3 (a1 b4 (a1 b5 (a1 b6 (a1 b7 trivial)))))))))) (by kernel_rfl)
def P15 (x0:(List Int×Int×Int×Unit)):Prop:=SrcOk 100000000 x0
def Q15 (x0:(List Int×Int×Int×Unit)) (y:(TyA0)) (s:(List Int×Int×Int×Unit)):Prop:=SrcOk (x0.2.1+9000) s∧∃ n,R15 n x0 [⟨(.cons (.cons (.sl (.cons (.int .i64) (.cons (.int .i64) .unit))) (.cons (.int .i64) (.cons (.int .i64) .unit))) (.cons (.int .i64) (.cons (.cons (.int .i64) (.cons (.int .i64) .unit)) (.cons (.cons (.int .i64) (.cons (.int .i64) (.cons (.int .i64) (.cons (.int .i64) .unit)))) (.cons (.sl (.cons .str (.cons (.int .i64) (.cons (.int .i64) (.cons (.int .i64) .unit))))) (.cons (.cons (.int .i64) (.cons (.int .i64) (.cons (.int .i64) .unit))) (.cons (.sl (.cons .str (.cons (.int .i64) (.cons (.int .i64) (.cons (.int .i64) (.cons (.int .i64) .unit)))))) (.cons (.int .i64) (.cons (.int .i64) (.cons (.sl (.cons (.int .i64) (.cons (.int .i64) .unit))) (.cons (.int .i64) (.cons (.sl (.cons (.int .i64) (.cons (.int .i64) (.cons .str (.cons (.int .i64) .unit))))) .unit)))))))))))),y⟩] [some ⟨(.cons (.sl (.int .u8)) (.cons (.int .i64) (.cons (.int .u64) .unit))),[s]⟩]
theorem end15 (x0:(List Int×Int×Int×Unit)) (hb:bnd26 (g26_0 x0)) (h5a:List TyB0) (v6 v7 tn:Int) (h5:List TyB4) (h0:(List Int×Int×Int×Unit)) (m:Int) (hv:¬ v7>0) (hs:SrcOk m h0) (hm:m≤300000000) :
  ∃ (y:(TyA0)) (z:(List Int×Int×Int×Unit)),SrcOk (m+3000) z∧R15_19 1 v6 v7 tn h5 h0 x0 h5a [⟨(.cons (.cons (.sl (.cons (.int .i64) (.cons (.int .i64) .unit))) (.cons (.int .i64) (.cons (.int .i64) .unit))) (.cons (.int .i64) (.cons (.cons (.int .i64) (.cons (.int .i64) .unit)) (.cons (.cons (.int .i64) (.cons (.int .i64) (.cons (.int .i64) (.cons (.int .i64) .unit)))) (.cons (.sl (.cons .str (.cons (.int .i64) (.cons (.int .i64) (.cons (.int .i64) .unit))))) (.cons (.cons (.int .i64) (.cons (.int .i64) (.cons (.int .i64) .unit))) (.cons (.sl (.cons .str (.cons (.int .i64) (.cons (.int .i64) (.cons (.int .i64) (.cons (.int .i64) .unit)))))) (.cons (.int .i64) (.cons (.int .i64) (.cons (.sl (.cons (.int .i64) (.cons (.int .i64) .unit))) (.cons (.int .i64) (.cons (.sl (.cons (.int .i64) (.cons (.int .i64) (.cons .str (.cons (.int .i64) .unit))))) .unit)))))))))))),y⟩] [some ⟨(.cons (.sl (.int .u8)) (.cons (.int .i64) (.cons (.int .u64) .unit))),[z]⟩]:=by
 obtain ⟨⟨hb1,hb2⟩,hb3,hb4⟩:=hb
 obtain ⟨_,t1,_⟩:=pick_ok hs 100 (by omega)
 obtain ⟨_,t2,_⟩:=pick_ok t1 3 (by omega)
 obtain ⟨_,t3,_⟩:=pick_ok t2 6 (by omega)
 have p47:P30 (u27_0 (u27_0 (u27_0 h0 100) 3) 6):=t3.up (by omega)
 obtain ⟨t4,hl,_⟩:=q30 _ p47
 have t4:=t4.up (show _≤m+1006 by have:=t3.at_le;omega)
 obtain ⟨p14,t5,_,_,_⟩:=pick_ok t4 14 (by omega)
 have nv:¬ decide (v7>0)=true:=by simpa using hv
 by_cases c0:(g27_0 (u30_0 (u27_0 (u27_0 (u27_0 h0 100) 3) 6)) 14==0)=true
 ·exact ⟨_,_,t5.up (by omega),by
   rw [R15_19,if_neg nv,if_pos c0]
   exact ⟨p47,p14,by rw [i64_iff];omega,by rw [i64_iff];omega,rfl,rfl⟩⟩
 by_cases c1:(g27_0 (u30_0 (u27_0 (u27_0 (u27_0 h0 100) 3) 6)) 14==1)=true
 ·obtain ⟨p60,t6,a6,b6,_⟩:=pick_ok t5 60 (by omega)
  have b6:=b6 (by decide)
  exact ⟨_,_,t6.up (by omega),by
   rw [R15_19,if_neg nv,if_neg c0,if_pos c1]
   exact ⟨p47,p14,p60,by rw [i64_iff];omega,by rw [i64_iff];omega,rfl,rfl⟩⟩
 by_cases c2:(g27_0 (u30_0 (u27_0 (u27_0 (u27_0 h0 100) 3) 6)) 14==2)=true
 ·exact ⟨_,_,t5.up (by omega),by
   rw [R15_19,if_neg nv,if_neg c0,if_neg c1,if_pos c2]
   exact ⟨p47,p14,rfl,rfl⟩⟩
 by_cases c3:(g27_0 (u30_0 (u27_0 (u27_0 (u27_0 h0 100) 3) 6)) 14==3)=true
 ·have p48:P31 (u27_0 (u30_0 (u27_0 (u27_0 (u27_0 h0 100) 3) 6)) 14):=t5.up (by omega)
  obtain ⟨t6,_⟩:=q31 _ p48
  exact ⟨_,_,t6.up (show _≤m+3000 by have:=t5.at_le;omega),by
   rw [R15_19,if_neg nv,if_neg c0,if_neg c1,if_neg c2,if_pos c3]
   exact ⟨p47,p14,p48,rfl,rfl⟩⟩
 by_cases c4:(g27_0 (u30_0 (u27_0 (u27_0 (u27_0 h0 100) 3) 6)) 14==4)=true
 ·exact ⟨_,_,t5.up (by omega),by
   rw [R15_19,if_neg nv,if_neg c0,if_neg c1,if_neg c2,if_neg c3,if_pos c4]
   exact ⟨p47,p14,rfl,rfl⟩⟩
 by_cases c5:(g27_0 (u30_0 (u27_0 (u27_0 (u27_0 h0 100) 3) 6)) 14==5)=true
 ·by_cases c:decide ((List.length (g30_0 (u27_0 (u27_0 (u27_0 h0 100) 3) 6)):Int)>0)=true
  ·have hc:=of_decide_eq_true c
   obtain ⟨p6,t6,a6,b6,_⟩:=pick_ok t5 (List.length (g30_0 (u27_0 (u27_0 (u27_0 h0 100) 3) 6)):Int) (by omega)
   have b6:=b6 (by omega)
   obtain ⟨p7,t7,_,_,_⟩:=pick_ok t6 60000 (by omega)
   exact ⟨_,_,t7.up (by omega),by
    rw [R15_19,if_neg nv,if_neg c0,if_neg c1,if_neg c2,if_neg c3,if_neg c4,if_pos c5,if_pos c]
    exact ⟨p47,p14,p6,p7,a6,b6,rfl,rfl⟩⟩
  ·exact ⟨_,_,t5.up (by omega),by
    rw [R15_19,if_neg nv,if_neg c0,if_neg c1,if_neg c2,if_neg c3,if_neg c4,if_pos c5,if_neg c]
    exact ⟨p47,p14,rfl,rfl⟩⟩
 by_cases c6:(g27_0 (u30_0 (u27_0 (u27_0 (u27_0 h0 100) 3) 6)) 14==6)=true
 ·exact ⟨_,_,t5.up (by omega),by
   rw [R15_19,if_neg nv,if_neg c0,if_neg c1,if_neg c2,if_neg c3,if_neg c4,if_neg c5,if_pos c6]
   exact ⟨p47,p14,rfl,rfl⟩⟩
 ·exact ⟨_,_,t5.up (by omega),by
   rw [R15_19,if_neg nv,if_neg c0,if_neg c1,if_neg c2,if_neg c3,if_neg c4,if_neg c5,if_neg c6]
   exact ⟨p47,p14,rfl,rfl⟩⟩
theorem rides15 (x0:(List Int×Int×Int×Unit)) (hb:bnd26 (g26_0 x0)) (h5a:List TyB0) (tn:Int):∀ (k:Nat) (v6 v7:Int) (h5:List TyB4) (h0:(List Int×Int×Int×Unit)) (m:Int),v7=(k:Int)→SrcOk m h0→m+20*(k:Int)≤300000000→(0≤v6∧v6+100*(k:Int)≤10000)→h5.length+k≤10 →
  ∃ (n:Nat) (y:(TyA0)) (z:(List Int×Int×Int×Unit)),SrcOk (m+20*(k:Int)+3000) z∧R15_19 n v6 v7 tn h5 h0 x0 h5a [⟨(.cons (.cons (.sl (.cons (.int .i64) (.cons (.int .i64) .unit))) (.cons (.int .i64) (.cons (.int .i64) .unit))) (.cons (.int .i64) (.cons (.cons (.int .i64) (.cons (.int .i64) .unit)) (.cons (.cons (.int .i64) (.cons (.int .i64) (.cons (.int .i64) (.cons (.int .i64) .unit)))) (.cons (.sl (.cons .str (.cons (.int .i64) (.cons (.int .i64) (.cons (.int .i64) .unit))))) (.cons (.cons (.int .i64) (.cons (.int .i64) (.cons (.int .i64) .unit))) (.cons (.sl (.cons .str (.cons (.int .i64) (.cons (.int .i64) (.cons (.int .i64) (.cons (.int .i64) .unit)))))) (.cons (.int .i64) (.cons (.int .i64) (.cons (.sl (.cons (.int .i64) (.cons (.int .i64) .unit))) (.cons (.int .i64) (.cons (.sl (.cons (.int .i64) (.cons (.int .i64) (.cons .str (.cons (.int .i64) .unit))))) .unit)))))))))))),y⟩] [some ⟨(.cons (.sl (.int .u8)) (.cons (.int .i64) (.cons (.int .u64) .unit))),[z]⟩]:=by
 intro k
 induction k with
 | zero =>
  intro v6 v7 h5 h0 m hv hs hm h6 hl
  obtain ⟨y,z,a,b⟩:=end15 x0 hb h5a v6 v7 tn h5 h0 m (by omega) hs (by omega)
  exact ⟨1,y,z,a.up (by omega),b⟩
 | succ k ih =>
  intro v6 v7 h5 h0 m hv hs hm h6 hl
  obtain ⟨_,t1,_⟩:=pick_ok hs 100 (by omega)
  obtain ⟨_,t2,_⟩:=pick_ok t1 3 (by omega)
  obtain ⟨_,t3,_⟩:=pick_ok t2 6 (by omega)
  obtain ⟨p6,_,a6,b6,_⟩:=pick_ok t3 6 (by omega)
  have b6:=b6 (by decide)
  obtain ⟨n,y,z,a,b⟩:=ih (v6+(4+g27_0 (u27_0 (u27_0 (u27_0 h0 100) 3) 6) 6+3)) (v7 - 1) (h5++[(v6,4+g27_0 (u27_0 (u27_0 (u27_0 h0 100) 3) 6) 6,())]) _ _ (by omega) t1 (by omega) (by omega) (by rw [List.length_append,List.length_singleton];omega)
  refine ⟨n+1,y,z,a.up (by omega),?_⟩
  rw [R15_19,if_pos (by simp only [decide_eq_true_eq];omega)]
  exact ⟨p6,by rw [i64_iff];omega,by omega,by rw [i64_iff];omega,by rw [i64_iff];omega,by rw [i64_iff];omega,b⟩
theorem checks15 (x0:(List Int×Int×Int×Unit)) (hb:bnd26 (g26_0 x0)):∀ (k:Nat) (v5:Int) (h0:(List Int×Int×Int×Unit)) (h5:List TyB0) (m:Int),v5+(k:Int)=3→0≤v5→SrcOk m h0→m+20*(k:Int)≤200000000→(h5.length:Int)≤v5 →
  ∃ (n:Nat) (y:(TyA0)) (z:(List Int×Int×Int×Unit)),SrcOk (m+20*(k:Int)+3200) z∧R15_13 n v5 h0 h5 x0 [⟨(.cons (.cons (.sl (.cons (.int .i64) (.cons (.int .i64) .unit))) (.cons (.int .i64) (.cons (.int .i64) .unit))) (.cons (.int .i64) (.cons (.cons (.int .i64) (.cons (.int .i64) .unit)) (.cons (.cons (.int .i64) (.cons (.int .i64) (.cons (.int .i64) (.cons (.int .i64) .unit)))) (.cons (.sl (.cons .str (.cons (.int .i64) (.cons (.int .i64) (.cons (.int .i64) .unit))))) (.cons (.cons (.int .i64) (.cons (.int .i64) (.cons (.int .i64) .unit))) (.cons (.sl (.cons .str (.cons (.int .i64) (.cons (.int .i64) (.cons (.int .i64) (.cons (.int .i64) .unit)))))) (.cons (.int .i64) (.cons (.int .i64) (.cons (.sl (.cons (.int .i64) (.cons (.int .i64) .unit))) (.cons (.int .i64) (.cons (.sl (.cons (.int .i64) (.cons (.int .i64) (.cons .str (.cons (.int .i64) .unit))))) .unit)))))))))))),y⟩] [some ⟨(.cons (.sl (.int .u8)) (.cons (.int .i64) (.cons (.int .u64) .unit))),[z]⟩]:=by
 intro k
 induction k with
 | zero =>
  intro v5 h0 h5 m hv h1 hs hm hl
  obtain ⟨p1,t1,a1,b1,_⟩:=pick_ok hs 100 (by omega)
  have b1:=b1 (by decide)
  obtain ⟨p2,t2,a2,b2,_⟩:=pick_ok t1 3 (by omega)
  obtain ⟨p3,t3,a3,b3,_⟩:=pick_ok t2 6 (by omega)
  have b3:=b3 (by decide)
  obtain ⟨n,y,z,a,b⟩:=rides15 x0 hb h5 (g27_0 (u27_0 h0 100) 3) (g27_0 (u27_0 (u27_0 h0 100) 3) 6).toNat (300+g27_0 h0 100) (g27_0 (u27_0 (u27_0 h0 100) 3) 6) [] h0 m (by omega) hs (by omega) (by omega) (by simp;omega)
  refine ⟨n+1,y,z,a.up (by omega),?_⟩
  rw [R15_13,if_neg (by simp only [decide_eq_true_eq];omega)]
  exact ⟨p1,by rw [i64_iff];omega,p2,p3,b⟩
 | succ k ih =>
  intro v5 h0 h5 m hv h1 hs hm hl
  obtain ⟨p1,t1,a1,b1,_⟩:=pick_ok hs 20 (by omega)
  have b1:=b1 (by decide)
  obtain ⟨n,y,z,a,b⟩:=ih (v5+1) _ (h5++[(List.getD [ByteArray.mk #[98,114,97,107,101],ByteArray.mk #[100,111,111,114],ByteArray.mk #[114,111,112,101]] (Int.toNat v5) ByteArray.empty,30,2000,50+g27_0 h0 20,2000,())]) _ (by omega) (by omega) t1 (by omega) (by rw [List.length_append,List.length_singleton];omega)
  refine ⟨n+1,y,z,a.up (by omega),?_⟩
  rw [R15_13,if_pos (by simp only [decide_eq_true_eq];omega)]
  exact ⟨h1,by omega,p1,by rw [i64_iff];omega,by omega,by rw [i64_iff];omega,b⟩
theorem prof15 {n:Int} {s:(List Int×Int×Int×Unit)} (h:SrcOk n s) (hn:n≤1000000000):P28 s∧SrcOk (n+8) (u28_0 s):=by
 obtain ⟨p1,s1,a1,b1,_⟩:=pick_ok h 40 (by omega)
 obtain ⟨p2,s2,a2,b2,_⟩:=pick_ok s1 6 (by omega)
 obtain ⟨p3,s3,a3,b3,_⟩:=pick_ok s2 80 (by omega)
 obtain ⟨p4,s4,a4,b4,_⟩:=pick_ok s3 8 (by omega)
 have b1:=b1 (by decide)
 have b2:=b2 (by decide)
 have b3:=b3 (by decide)
 have b4:=b4 (by decide)
 refine ⟨?_,s4.up (by omega)⟩
 unfold P28
 refine ⟨p1,?_⟩
 repeat' first | exact trivial | assumption | (rw [i64_iff];omega) | apply And.intro
theorem ex15 (x0:(List Int×Int×Int×Unit)) (h:P15 x0):∃ y s,Q15 x0 y s:=by
 have h0:x0.2.1≤100000000:=h.2.2
 have p43:P26 x0:=h.up (by decide)
 obtain ⟨t1,hb,_⟩:=q26 x0 p43
 obtain ⟨p2,t2,a2,b2,_⟩:=pick_ok t1 2 (by omega)
 obtain ⟨p3,t3,a3,b3,_⟩:=pick_ok t2 20 (by omega)
 have b3:=b3 (by decide)
 obtain ⟨p4,t4⟩:=prof15 t3 (by omega)
 obtain ⟨p5,t5,a5,b5,_⟩:=pick_ok t4 30 (by omega)
 have b5:=b5 (by decide)
 have p46:P29 _:=t5.up (show _≤(800000000:Int) by omega)
 obtain ⟨t6,_⟩:=q29 _ p46
 have t6:=t6.up (show _≤x0.2.1+2014 by have:=t5.at_le;omega)
 obtain ⟨n,y,z,a,b⟩:=checks15 x0 hb 3 0 _ [] _ (by omega) (by omega) t6 (by omega) (by simp)
 refine ⟨y,z,a.up (by omega),n+1,?_⟩
 rw [R15]
 exact ⟨p43,p2,p3,by rw [i64_iff];omega,by rw [i64_iff];omega,p4,p5,by rw [i64_iff];omega,by rw [i64_iff];omega,p46,b⟩
def g15_0 (x0:(List Int×Int×Int×Unit)):(TyA0):=(sel2 ((([],0,0,()),0,(0,0,()),(0,0,0,0,()),[],(0,0,0,()),[],0,0,[],0,[],()):(TyA0)) x0 (Q15 x0)).1
def u15_0 (x0:(List Int×Int×Int×Unit)):(List Int×Int×Int×Unit):=(sel2 ((([],0,0,()),0,(0,0,()),(0,0,0,0,()),[],(0,0,0,()),[],0,0,[],0,[],()):(TyA0)) x0 (Q15 x0)).2
theorem q15 (x0:(List Int×Int×Int×Unit)) (h:P15 x0):Q15 x0 (g15_0 x0) (u15_0 x0):=by
 obtain ⟨y,s,hq⟩:=ex15 x0 h
 exact sel2_spec hq
def S15:Am.Spec:={ sig:=sig15,pre:=fun ⟨x0,_⟩=>P15 x0,upd:=fun ⟨x0,_⟩=>[some ⟨(.cons (.sl (.int .u8)) (.cons (.int .i64) (.cons (.int .u64) .unit))),[u15_0 x0]⟩],res:=fun ⟨x0,_⟩=>[⟨(.cons (.cons (.sl (.cons (.int .i64) (.cons (.int .i64) .unit))) (.cons (.int .i64) (.cons (.int .i64) .unit))) (.cons (.int .i64) (.cons (.cons (.int .i64) (.cons (.int .i64) .unit)) (.cons (.cons (.int .i64) (.cons (.int .i64) (.cons (.int .i64) (.cons (.int .i64) .unit)))) (.cons (.sl (.cons .str (.cons (.int .i64) (.cons (.int .i64) (.cons (.int .i64) .unit))))) (.cons (.cons (.int .i64) (.cons (.int .i64) (.cons (.int .i64) .unit))) (.cons (.sl (.cons .str (.cons (.int .i64) (.cons (.int .i64) (.cons (.int .i64) (.cons (.int .i64) .unit)))))) (.cons (.int .i64) (.cons (.int .i64) (.cons (.sl (.cons (.int .i64) (.cons (.int .i64) .unit))) (.cons (.int .i64) (.cons (.sl (.cons (.int .i64) (.cons (.int .i64) (.cons .str (.cons (.int .i64) .unit))))) .unit)))))))))))),g15_0 x0⟩],kds:=kds15 }
theorem con15:Contract Tryz.prog 15 S15:=contract_of Tryz.func15 hb15 (bl_ (by kernel_rfl)) (fun ⟨x0,_⟩ h hwf K q =>
 let ⟨n,hn⟩:=(q15 x0 h).2
 (snd15 n).1 x0 _ _ hn K q)
end
noncomputable section
def ext4:Ext:=[(14,S14),(15,S15)]
theorem ext4Ok:ExtOk Tryz.prog ext4:=⟨⟨ca14,con14⟩,⟨ca15,con15⟩,trivial⟩
noncomputable def b4:Code:=bodyOf Tryz.f4
theorem hb4:Tryz.f4.body=some b4:=by kernel_rfl
def sig4:List AT:=[AT.v (.sl (.int .u8))]
def tys4:List Ty:=[.cons YA2 YA1]
def kds4:List RK:=[.frz]
def oks4:List AT:=owns sig4
def P4 (x0:List Int):Prop:=((P15 (g14_0 x0))∧True)
def g4_0 (x0:List Int):TyA0:=(((g15_0 (g14_0 x0)).1.1,(g15_0 (g14_0 x0)).1.2.1,(g15_0 (g14_0 x0)).1.2.2.1,()),(g15_0 (g14_0 x0)).2.1,((g15_0 (g14_0 x0)).2.2.1.1,(g15_0 (g14_0 x0)).2.2.1.2.1,()),((g15_0 (g14_0 x0)).2.2.2.1.1,(g15_0 (g14_0 x0)).2.2.2.1.2.1,(g15_0 (g14_0 x0)).2.2.2.1.2.2.1,(g15_0 (g14_0 x0)).2.2.2.1.2.2.2.1,()),(g15_0 (g14_0 x0)).2.2.2.2.1,((g15_0 (g14_0 x0)).2.2.2.2.2.1.1,(g15_0 (g14_0 x0)).2.2.2.2.2.1.2.1,(g15_0 (g14_0 x0)).2.2.2.2.2.1.2.2.1,()),(g15_0 (g14_0 x0)).2.2.2.2.2.2.1,(g15_0 (g14_0 x0)).2.2.2.2.2.2.2.1,(g15_0 (g14_0 x0)).2.2.2.2.2.2.2.2.1,(g15_0 (g14_0 x0)).2.2.2.2.2.2.2.2.2.1,(g15_0 (g14_0 x0)).2.2.2.2.2.2.2.2.2.2.1,(g15_0 (g14_0 x0)).2.2.2.2.2.2.2.2.2.2.2.1,())
theorem at4 (x0:List Int) (h:P4 x0) (K:Ctx) (q:Nat→Value):AtV Tryz.prog 4 (PostR kds4 oks4 [⟨.cons YA2 YA1,g4_0 x0⟩] [] [] q K) 8 K q [] [.code b4] (entE 0 0 sig4 (x0,())) (entL sig4 (x0,())):=by
 unfold P4 at h
 unfold g4_0
 obtain ⟨s0,h⟩:=h
 exact AtV.ret Tryz.func4 tabOk ext4Ok mixed false [] tys4 [] (a1 trivial (a1 s0 trivial)) (by kernel_rfl)
def S4:Am.Spec:={ sig:=sig4,pre:=fun ⟨x0,_⟩=>P4 x0,res:=fun ⟨x0,_⟩=>[⟨.cons YA2 YA1,g4_0 x0⟩],kds:=kds4 }
theorem con4:Contract Tryz.prog 4 S4:=contract_of Tryz.func4 hb4 (bl_ (by kernel_rfl)) (fun ⟨x0,_⟩ h _ K q=>at4 x0 h K q)
end
noncomputable section
def ext60:Ext:=[]
theorem ext60Ok:ExtOk Tryz.prog ext60:=trivial
noncomputable def b60:Code:=bodyOf Tryz.f60
theorem hb60:Tryz.f60.body=some b60:=by kernel_rfl
def sig60:List AT:=[AT.v (.int .i64),AT.v (.int .i64),AT.v (.int .i64)]
def tys60:List Ty:=[.bool]
def kds60:List RK:=[]
def oks60:List AT:=owns sig60
def P60 (x0:Int) (x1:Int) (x2:Int):Prop:=True
def g60_0 (x0:Int) (x1:Int) (x2:Int):Bool:=(if (decide (x0≥x1))=true then decide (x0≤x2) else false)
theorem at60 (x0:Int) (x1:Int) (x2:Int) (h:P60 x0 x1 x2) (K:Ctx) (q:Nat→Value):AtV Tryz.prog 60 (PostR kds60 oks60 [⟨.bool,g60_0 x0 x1 x2⟩] [] [] q K) 15 K q [] [.code b60] (entE 0 0 sig60 (x0,x1,x2,())) (entL sig60 (x0,x1,x2,())):=by
 unfold P60 at h
 unfold g60_0
 by_cases b0:(decide (x0≥x1))=true
 ·try simp only [if_pos b0] at h ⊢
  exact AtV.ret Tryz.func60 tabOk ext60Ok mixed false [] tys60 [true] (a1 b0 trivial) (by kernel_rfl)
 ·try simp only [if_neg b0] at h ⊢
  replace b0:=bf_ b0
  exact AtV.ret Tryz.func60 tabOk ext60Ok mixed false [] tys60 [false] (a1 b0 trivial) (by kernel_rfl)
def S60:Am.Spec:={ sig:=sig60,pre:=fun ⟨x0,x1,x2,_⟩=>P60 x0 x1 x2,res:=fun ⟨x0,x1,x2,_⟩=>[⟨.bool,g60_0 x0 x1 x2⟩],kds:=kds60 }
theorem con60:Contract Tryz.prog 60 S60:=contract_of Tryz.func60 hb60 (bl_ (by kernel_rfl)) (fun ⟨x0,x1,x2,_⟩ h _ K q=>at60 x0 x1 x2 h K q)
end
noncomputable section
def ext32:Ext:=[(60,S60),(53,S53)]
theorem ext32Ok:ExtOk Tryz.prog ext32:=⟨⟨ca60,con60⟩,⟨ca53,con53⟩,trivial⟩
noncomputable def b32:Code:=bodyOf Tryz.f32
theorem hb32:Tryz.f32.body=some b32:=by kernel_rfl
def sig32:List AT:=[AT.p YA2]
def tys32:List Ty:=[.bool]
def kds32:List RK:=[]
def oks32:List AT:=owns sig32
def E32_2 (v3:Int) (x0:List TyB4×Int×Int×Unit):Env:=[(0,.a (.ptr YA2 x0)),(3,.a (.val (.int .i64 v3)))]
def L32_2 (v3:Int) (x0:List TyB4×Int×Int×Unit):Heap:=[]
mutual
def R32:Nat→List TyB4×Int×Int×Unit→List Dyn→Prop
 | 0,_,_=>False
 | n+1,x0,ds=>(R32_2 n (0) (x0) ds)
def R32_2:Nat→Int→List TyB4×Int×Int×Unit→List Dyn→Prop
 | 0,_,_,_=>False
 | n+1,v3,x0,ds=>(if (decide (v3<(x0.1.length:Int)))=true then ((0≤v3)∧(v3<(x0.1.length:Int))∧(if (!g60_0 (List.getD x0.1 (Int.toNat v3) (0,0,())).1 1 3000000)=true then (ds=[Dyn.mk .bool false]) else ((0≤v3)∧(v3<(x0.1.length:Int))∧(if (!g60_0 (List.getD x0.1 (Int.toNat v3) (0,0,())).2.1 0 900)=true then (ds=[Dyn.mk .bool false]) else ((InR .i64 (v3+1))∧(R32_2 n (v3+1) (x0) ds)))))) else (if ((x0.1.length:Int)==0)=true then (ds=[Dyn.mk .bool false]) else (if (decide ((x0.1.length:Int)>12))=true then (ds=[Dyn.mk .bool false]) else ((P53 x0)∧(if (decide (g53_0 x0≤3000000))=true then (if (g60_0 x0.2.1 0 (g53_0 x0))=true then (ds=[Dyn.mk .bool (g60_0 x0.2.2.1 x0.2.1 (g53_0 x0))]) else (ds=[Dyn.mk .bool false])) else (ds=[Dyn.mk .bool false]))))))
end
theorem snd32:∀ n,(∀ (x0:List TyB4×Int×Int×Unit) ds,R32 n x0 ds→∀ K q,AtV Tryz.prog 32 (PostR kds32 oks32 ds [] [] q K) 74 K q [] [.code b32] (entE 0 0 sig32 (x0,())) (entL sig32 (x0,())))∧(∀ (v3:Int) (x0:List TyB4×Int×Int×Unit) ds,R32_2 n v3 x0 ds→∀ K q,AtV Tryz.prog 32 (PostR kds32 oks32 ds [] [] q K) 74 K q [] (cutAt b32 2) (E32_2 v3 x0) (L32_2 v3 x0)):=by
 intro n
 induction n with
 | zero=>exact ⟨fun _ _ h=>by simp only [R32] at h,fun _ _ _ h=>by simp only [R32_2] at h⟩
 | succ n ih =>
 obtain ⟨ih,ih2⟩:=ih
 refine ⟨?_,?_⟩
 ·intro x0 ds h K q
  rw [R32] at h
  exact AtV.go tabOk ext32Ok mixed false [] [] [0,3] [] [] trivial (ih2 _ _ _ h K q) (by kernel_rfl)
 ·intro v3 x0 ds h K q
  rw [R32_2] at h
  by_cases b0:(decide (v3<(x0.1.length:Int)))=true
  ·rw [if_pos b0] at h
   obtain ⟨s0,s1,h⟩:=h
   by_cases b1:(!g60_0 (List.getD x0.1 (Int.toNat v3) (0,0,())).1 1 3000000)=true
   ·rw [if_pos b1] at h
    subst h
    exact AtV.ret Tryz.func32 tabOk ext32Ok mixed false [] tys32 [true,true,true] (a1 b0 (a1 s0 (a1 s1 (a1 trivial (a1 b1 (a1 (rfl:true=true) trivial)))))) (by kernel_rfl)
   ·rw [if_neg b1] at h
    replace b1:=bf_ b1
    obtain ⟨s2,s3,h⟩:=h
    by_cases b2:(!g60_0 (List.getD x0.1 (Int.toNat v3) (0,0,())).2.1 0 900)=true
    ·rw [if_pos b2] at h
     subst h
     exact AtV.ret Tryz.func32 tabOk ext32Ok mixed false [] tys32 [true,false,true] (a1 b0 (a1 s0 (a1 s1 (a1 trivial (a1 b1 (a1 s2 (a1 s3 (a1 trivial (a1 b2 trivial))))))))) (by kernel_rfl)
    ·rw [if_neg b2] at h
     replace b2:=bf_ b2
     obtain ⟨s4,h⟩:=h
     exact AtV.go tabOk ext32Ok mixed false [] [] [0,3] [] [true,false,false] (a1 b0 (a1 s0 (a1 s1 (a1 trivial (a1 b1 (a1 s2 (a1 s3 (a1 trivial (a1 b2 (a1 s4 trivial)))))))))) (ih2 _ _ _ h K q) (by kernel_rfl)
  ·rw [if_neg b0] at h
   replace b0:=bf_ b0
   by_cases b1:((x0.1.length:Int)==0)=true
   ·rw [if_pos b1] at h
    subst h
    exact AtV.ret Tryz.func32 tabOk ext32Ok mixed false [] tys32 [false,true,true] (a1 b0 (a1 b1 (a1 (rfl:true=true) trivial))) (by kernel_rfl)
   ·rw [if_neg b1] at h
    replace b1:=bf_ b1
    by_cases b2:(decide ((x0.1.length:Int)>12))=true
    ·rw [if_pos b2] at h
     subst h
     exact AtV.ret Tryz.func32 tabOk ext32Ok mixed false [] tys32 [false,false,true] (a1 b0 (a1 b1 (a1 b2 trivial))) (by kernel_rfl)
    ·rw [if_neg b2] at h
     replace b2:=bf_ b2
     obtain ⟨s0,h⟩:=h
     by_cases b3:(decide (g53_0 x0≤3000000))=true
     ·rw [if_pos b3] at h
      by_cases b4:(g60_0 x0.2.1 0 (g53_0 x0))=true
      ·rw [if_pos b4] at h
       subst h
       exact AtV.ret Tryz.func32 tabOk ext32Ok mixed false [] tys32 [false,false,false,true,true] (a1 b0 (a1 b1 (a1 b2 (a1 s0 (a1 b3 (a1 trivial (a1 b4 (a1 trivial trivial)))))))) (by kernel_rfl)
      ·rw [if_neg b4] at h
       replace b4:=bf_ b4
       subst h
       exact AtV.ret Tryz.func32 tabOk ext32Ok mixed false [] tys32 [false,false,false,true,false] (a1 b0 (a1 b1 (a1 b2 (a1 s0 (a1 b3 (a1 trivial (a1 b4 trivial))))))) (by kernel_rfl)
     ·rw [if_neg b3] at h
      replace b3:=bf_ b3
      subst h
      exact AtV.ret Tryz.func32 tabOk ext32Ok mixed false [] tys32 [false,false,false,false,false] (a1 b0 (a1 b1 (a1 b2 (a1 s0 (a1 b3 (a1 (rfl:false=false) trivial)))))) (by kernel_rfl)
def ok32 (x:TyB4):Bool:=g60_0 x.1 1 3000000&&g60_0 x.2.1 0 900
def fine32 (x0:(List TyB4×Int×Int×Unit)):Bool:=if decide (g53_0 x0≤3000000)=true then (if g60_0 x0.2.1 0 (g53_0 x0)=true then g60_0 x0.2.2.1 x0.2.1 (g53_0 x0) else false) else false
def g32_0 (x0:(List TyB4×Int×Int×Unit)):Bool:=x0.1.all ok32&&(decide (1≤x0.1.length)&&decide (x0.1.length≤12))&&fine32 x0
def P32 (x0:(List TyB4×Int×Int×Unit)):Prop:=True
theorem in32 {x a b:Int}:g60_0 x a b=true↔a≤x∧x≤b:=by
 unfold g60_0
 by_cases c1:x≥a
 ·by_cases c2:x≤b
  ·simp [c1,c2]
  ·simp [c1,c2]
 ·have:¬ a≤x:=c1
  simp [c1,this]
theorem lenp32 {x0:(List TyB4×Int×Int×Unit)} (h:x0.1.all ok32=true) (hl:x0.1.length≤12):P53 x0∧0≤g53_0 x0∧g53_0 x0≤36000000:=by
 have hx:∀ x∈x0.1,0≤x.1∧x.1≤3000000:=fun x hx=>by
  have:=List.all_eq_true.1 h x hx
  unfold ok32 at this
  rw [Bool.and_eq_true] at this
  have:=in32.1 this.1
  omega
 obtain ⟨s1,s2⟩:=sum53_le x0.1 hx
 refine ⟨⟨by omega,fun x h=>by have:=hx x h;omega⟩,s1,?_⟩
 show sum53 x0.1≤_
 omega
theorem run32 (x0:(List TyB4×Int×Int×Unit)) (hm:x0.1.length≤maxLen) (yes:List Dyn) (hend:∀ n,x0.1.all ok32=true→R32_2 (n+1) (x0.1.length:Int) x0 yes):∀ (k i:Nat) (B:Bool),i+k=x0.1.length→(x0.1.drop i).all ok32=B→(∀ j,j<i→ok32 (x0.1.getD j ((0:Int),(0:Int),()))=true) →
  R32_2 (k+1) (i:Int) x0 (if B=true then yes else [⟨.bool,false⟩]):=by
 intro k
 induction k with
 | zero =>
  intro i B hi hB hp
  have:i=x0.1.length:=by omega
  subst this
  rw [drop_end _ _ (by omega)] at hB
  subst hB
  refine hend 0 (List.all_eq_true.2 fun x hx => ?_)
  obtain ⟨j,hj,rfl⟩:=List.getElem_of_mem hx
  have:=hp j (by omega)
  rwa [getD_lt _ _ _ hj] at this
 | succ k ih =>
  intro i B hi hB hp
  have hlt:i<x0.1.length:=by omega
  have hu:=inR_up hm hlt
  rw [R32_2,if_pos (by simp only [decide_eq_true_eq];omega)]
  rw [drop_get x0.1 i ((0:Int),(0:Int),()) hlt,List.all_cons] at hB
  simp only [Int.toNat_natCast]
  refine ⟨by omega,by omega,?_⟩
  by_cases h1:ok32 (x0.1.getD i ((0:Int),(0:Int),()))=true
  case neg =>
   have h1:=bf_ h1
   rw [h1,Bool.false_and] at hB
   subst hB
   by_cases c1:g60_0 (x0.1.getD i ((0:Int),(0:Int),())).1 1 3000000=true
   ·rw [if_neg (by rw [c1];simp)]
    have c2:g60_0 (x0.1.getD i ((0:Int),(0:Int),())).2.1 0 900=false:=by
     unfold ok32 at h1;rw [c1] at h1;simpa using h1
    exact ⟨by omega,by omega,by rw [if_pos (by rw [c2];rfl)] <;> rfl⟩
   ·rw [if_pos (by rw [bf_ c1];rfl)] <;> rfl
  case pos =>
   have hb:=h1
   rw [h1,Bool.true_and] at hB
   unfold ok32 at hb
   rw [Bool.and_eq_true] at hb
   rw [if_neg (by rw [hb.1];simp)]
   have e1:(((i+1:Nat)):Int)=(i:Int)+1:=by omega
   have hnext:=ih (i+1) B (by omega) hB (fun j hj=>by
    rcases Nat.lt_or_ge j i with h | h
    ·exact hp j h
    ·have:j=i:=by omega
     subst this;exact h1)
   rw [e1] at hnext
   exact ⟨by omega,by omega,by rw [if_neg (by rw [hb.2];simp)];exact ⟨hu,hnext⟩⟩
theorem end32 (x0:(List TyB4×Int×Int×Unit)) (n:Nat) (h:x0.1.all ok32=true):R32_2 (n+1) (x0.1.length:Int) x0 [⟨.bool,(decide (1≤x0.1.length)&&decide (x0.1.length≤12))&&fine32 x0⟩]:=by
 rw [R32_2,if_neg (by simp)]
 by_cases c1:((x0.1.length:Int)==0)=true
 ·rw [if_pos c1]
  have:¬ 1≤x0.1.length:=by simp only [beq_iff_eq] at c1;omega
  rw [decide_eq_false this];rfl
 ·rw [if_neg c1]
  have d1:1≤x0.1.length:=by simp only [beq_iff_eq] at c1;omega
  by_cases c2:(x0.1.length:Int)>12
  ·rw [if_pos (decide_eq_true c2)]
   have:¬ x0.1.length≤12:=by omega
   rw [decide_eq_false this,Bool.and_false];rfl
  ·rw [if_neg (by simpa using c2)]
   have d2:x0.1.length≤12:=by omega
   rw [decide_eq_true d1,decide_eq_true d2]
   refine ⟨(lenp32 h d2).1,?_⟩
   unfold fine32
   split
   ·split
    ·rfl
    ·rfl
   ·rfl
theorem top32 (x0:(List TyB4×Int×Int×Unit)) (hm:x0.1.length≤maxLen):∃ n,R32 n x0 [⟨.bool,g32_0 x0⟩]:=by
 refine ⟨x0.1.length+1+1,?_⟩
 rw [R32]
 have key:=run32 x0 hm _ (end32 x0) x0.1.length 0 _ (by omega) rfl (fun j hj=>by omega)
 rw [List.drop_zero] at key
 unfold g32_0
 cases h:x0.1.all ok32 with
 | true=>rw [if_pos h] at key;rw [Bool.true_and];exact key
 | false=>rw [if_neg (by rw [h];simp)] at key;exact key
def S32:Am.Spec:={ sig:=sig32,pre:=fun ⟨x0,_⟩=>P32 x0,res:=fun ⟨x0,_⟩=>[⟨.bool,g32_0 x0⟩] }
theorem con32:Contract Tryz.prog 32 S32:=contract_of Tryz.func32 hb32 (bl_ (by kernel_rfl)) (fun ⟨x0,_⟩ h hwf K q =>
 let ⟨n,hn⟩:=top32 x0 hwf.1.1.1
 (snd32 n).1 x0 _ hn K q)
end
noncomputable section
def ext33:Ext:=[(60,S60)]
theorem ext33Ok:ExtOk Tryz.prog ext33:=⟨⟨ca60,con60⟩,trivial⟩
noncomputable def b33:Code:=bodyOf Tryz.f33
theorem hb33:Tryz.f33.body=some b33:=by kernel_rfl
def sig33:List AT:=[AT.v (.int .i64)]
def tys33:List Ty:=[.bool]
def kds33:List RK:=[]
def oks33:List AT:=owns sig33
def P33 (x0:Int):Prop:=True
def g33_0 (x0:Int):Bool:=g60_0 x0 0 3000000
theorem at33 (x0:Int) (h:P33 x0) (K:Ctx) (q:Nat→Value):AtV Tryz.prog 33 (PostR kds33 oks33 [⟨.bool,g33_0 x0⟩] [] [] q K) 5 K q [] [.code b33] (entE 0 0 sig33 (x0,())) (entL sig33 (x0,())):=by
 unfold P33 at h
 unfold g33_0
 exact AtV.ret Tryz.func33 tabOk ext33Ok mixed false [] tys33 [] (a1 trivial trivial) (by kernel_rfl)
def S33:Am.Spec:={ sig:=sig33,pre:=fun ⟨x0,_⟩=>P33 x0,res:=fun ⟨x0,_⟩=>[⟨.bool,g33_0 x0⟩],kds:=kds33 }
theorem con33:Contract Tryz.prog 33 S33:=contract_of Tryz.func33 hb33 (bl_ (by kernel_rfl)) (fun ⟨x0,_⟩ h _ K q=>at33 x0 h K q)
end
noncomputable section
def ext34:Ext:=[(60,S60)]
theorem ext34Ok:ExtOk Tryz.prog ext34:=⟨⟨ca60,con60⟩,trivial⟩
noncomputable def b34:Code:=bodyOf Tryz.f34
theorem hb34:Tryz.f34.body=some b34:=by kernel_rfl
def sig34:List AT:=[AT.p YA11]
def tys34:List Ty:=[.bool]
def kds34:List RK:=[]
def oks34:List AT:=owns sig34
def P34 (x0:Int×Int×Unit):Prop:=True
def g34_0 (x0:Int×Int×Unit):Bool:=(if (g60_0 x0.1 0 100)=true then g60_0 x0.2.1 1 10000 else false)
theorem at34 (x0:Int×Int×Unit) (h:P34 x0) (K:Ctx) (q:Nat→Value):AtV Tryz.prog 34 (PostR kds34 oks34 [⟨.bool,g34_0 x0⟩] [] [] q K) 15 K q [] [.code b34] (entE 0 0 sig34 (x0,())) (entL sig34 (x0,())):=by
 unfold P34 at h
 unfold g34_0
 by_cases b0:(g60_0 x0.1 0 100)=true
 ·try simp only [if_pos b0] at h ⊢
  exact AtV.ret Tryz.func34 tabOk ext34Ok mixed false [] tys34 [true] (a1 trivial (a1 b0 (a1 trivial trivial))) (by kernel_rfl)
 ·try simp only [if_neg b0] at h ⊢
  replace b0:=bf_ b0
  exact AtV.ret Tryz.func34 tabOk ext34Ok mixed false [] tys34 [false] (a1 trivial (a1 b0 trivial)) (by kernel_rfl)
def S34:Am.Spec:={ sig:=sig34,pre:=fun ⟨x0,_⟩=>P34 x0,res:=fun ⟨x0,_⟩=>[⟨.bool,g34_0 x0⟩],kds:=kds34 }
theorem con34:Contract Tryz.prog 34 S34:=contract_of Tryz.func34 hb34 (bl_ (by kernel_rfl)) (fun ⟨x0,_⟩ h _ K q=>at34 x0 h K q)
end
noncomputable section
def ext35:Ext:=[(60,S60)]
theorem ext35Ok:ExtOk Tryz.prog ext35:=⟨⟨ca60,con60⟩,trivial⟩
noncomputable def b35:Code:=bodyOf Tryz.f35
theorem hb35:Tryz.f35.body=some b35:=by kernel_rfl
def sig35:List AT:=[AT.p YA4]
def tys35:List Ty:=[.bool]
def kds35:List RK:=[]
def oks35:List AT:=owns sig35
def P35 (x0:Int×Int×Int×Int×Unit):Prop:=True
def g35_0 (x0:Int×Int×Int×Int×Unit):Bool:=(if (g60_0 x0.1 1 2000)=true then (if (g60_0 x0.2.1 100 15000)=true then (if (g60_0 x0.2.2.1 100 x0.2.1)=true then g60_0 x0.2.2.2.1 0 3000000 else false) else false) else false)
theorem at35 (x0:Int×Int×Int×Int×Unit) (h:P35 x0) (K:Ctx) (q:Nat→Value):AtV Tryz.prog 35 (PostR kds35 oks35 [⟨.bool,g35_0 x0⟩] [] [] q K) 33 K q [] [.code b35] (entE 0 0 sig35 (x0,())) (entL sig35 (x0,())):=by
 unfold P35 at h
 unfold g35_0
 by_cases b0:(g60_0 x0.1 1 2000)=true
 ·try simp only [if_pos b0] at h ⊢
  by_cases b1:(g60_0 x0.2.1 100 15000)=true
  ·try simp only [if_pos b1] at h ⊢
   by_cases b2:(g60_0 x0.2.2.1 100 x0.2.1)=true
   ·try simp only [if_pos b2] at h ⊢
    exact AtV.ret Tryz.func35 tabOk ext35Ok mixed false [] tys35 [true,true,true] (a1 trivial (a1 b0 (a1 trivial (a1 b1 (a1 trivial (a1 b2 (a1 trivial trivial))))))) (by kernel_rfl)
   ·try simp only [if_neg b2] at h ⊢
    replace b2:=bf_ b2
    exact AtV.ret Tryz.func35 tabOk ext35Ok mixed false [] tys35 [true,true,false] (a1 trivial (a1 b0 (a1 trivial (a1 b1 (a1 trivial (a1 b2 trivial)))))) (by kernel_rfl)
  ·try simp only [if_neg b1] at h ⊢
   replace b1:=bf_ b1
   exact AtV.ret Tryz.func35 tabOk ext35Ok mixed false [] tys35 [true,false,false] (a1 trivial (a1 b0 (a1 trivial (a1 b1 (a1 (rfl:false=false) trivial))))) (by kernel_rfl)
 ·try simp only [if_neg b0] at h ⊢
  replace b0:=bf_ b0
  exact AtV.ret Tryz.func35 tabOk ext35Ok mixed false [] tys35 [false,false,false] (a1 trivial (a1 b0 (a1 (rfl:false=false) (a1 (rfl:false=false) trivial)))) (by kernel_rfl)
def S35:Am.Spec:={ sig:=sig35,pre:=fun ⟨x0,_⟩=>P35 x0,res:=fun ⟨x0,_⟩=>[⟨.bool,g35_0 x0⟩],kds:=kds35 }
theorem con35:Contract Tryz.prog 35 S35:=contract_of Tryz.func35 hb35 (bl_ (by kernel_rfl)) (fun ⟨x0,_⟩ h _ K q=>at35 x0 h K q)
end
noncomputable section
def ext116:Ext:=[]
theorem ext116Ok:ExtOk Tryz.prog ext116:=trivial
noncomputable def b116:Code:=bodyOf Tryz.f116
theorem hb116:Tryz.f116.body=some b116:=by kernel_rfl
def sig116:List AT:=[AT.v (.int .u8)]
def tys116:List Ty:=[.bool]
def kds116:List RK:=[]
def oks116:List AT:=owns sig116
def P116 (x0:Int):Prop:=True
def g116_0 (x0:Int):Bool:=(if (decide (x0≥97))=true then decide (x0≤122) else false)
theorem at116 (x0:Int) (h:P116 x0) (K:Ctx) (q:Nat→Value):AtV Tryz.prog 116 (PostR kds116 oks116 [⟨.bool,g116_0 x0⟩] [] [] q K) 9 K q [] [.code b116] (entE 0 0 sig116 (x0,())) (entL sig116 (x0,())):=by
 unfold P116 at h
 unfold g116_0
 by_cases b0:(decide (x0≥97))=true
 ·try simp only [if_pos b0] at h ⊢
  exact AtV.ret Tryz.func116 tabOk ext116Ok mixed false [] tys116 [true] (a1 b0 trivial) (by kernel_rfl)
 ·try simp only [if_neg b0] at h ⊢
  replace b0:=bf_ b0
  exact AtV.ret Tryz.func116 tabOk ext116Ok mixed false [] tys116 [false] (a1 b0 trivial) (by kernel_rfl)
def S116:Am.Spec:={ sig:=sig116,pre:=fun ⟨x0,_⟩=>P116 x0,res:=fun ⟨x0,_⟩=>[⟨.bool,g116_0 x0⟩],kds:=kds116 }
theorem con116:Contract Tryz.prog 116 S116:=contract_of Tryz.func116 hb116 (bl_ (by kernel_rfl)) (fun ⟨x0,_⟩ h _ K q=>at116 x0 h K q)
end
noncomputable section
def ext117:Ext:=[]
theorem ext117Ok:ExtOk Tryz.prog ext117:=trivial
noncomputable def b117:Code:=bodyOf Tryz.f117
theorem hb117:Tryz.f117.body=some b117:=by kernel_rfl
def sig117:List AT:=[AT.v (.int .u8)]
def tys117:List Ty:=[.bool]
def kds117:List RK:=[]
def oks117:List AT:=owns sig117
def P117 (x0:Int):Prop:=True
def g117_0 (x0:Int):Bool:=(if (decide (x0≥48))=true then decide (x0≤57) else false)
theorem at117 (x0:Int) (h:P117 x0) (K:Ctx) (q:Nat→Value):AtV Tryz.prog 117 (PostR kds117 oks117 [⟨.bool,g117_0 x0⟩] [] [] q K) 9 K q [] [.code b117] (entE 0 0 sig117 (x0,())) (entL sig117 (x0,())):=by
 unfold P117 at h
 unfold g117_0
 by_cases b0:(decide (x0≥48))=true
 ·try simp only [if_pos b0] at h ⊢
  exact AtV.ret Tryz.func117 tabOk ext117Ok mixed false [] tys117 [true] (a1 b0 trivial) (by kernel_rfl)
 ·try simp only [if_neg b0] at h ⊢
  replace b0:=bf_ b0
  exact AtV.ret Tryz.func117 tabOk ext117Ok mixed false [] tys117 [false] (a1 b0 trivial) (by kernel_rfl)
def S117:Am.Spec:={ sig:=sig117,pre:=fun ⟨x0,_⟩=>P117 x0,res:=fun ⟨x0,_⟩=>[⟨.bool,g117_0 x0⟩],kds:=kds117 }
theorem con117:Contract Tryz.prog 117 S117:=contract_of Tryz.func117 hb117 (bl_ (by kernel_rfl)) (fun ⟨x0,_⟩ h _ K q=>at117 x0 h K q)
end
noncomputable section
def ext93:Ext:=[(116,S116),(117,S117)]
theorem ext93Ok:ExtOk Tryz.prog ext93:=⟨⟨ca116,con116⟩,⟨ca117,con117⟩,trivial⟩
noncomputable def b93:Code:=bodyOf Tryz.f93
theorem hb93:Tryz.f93.body=some b93:=by kernel_rfl
def sig93:List AT:=[AT.v (.str)]
def tys93:List Ty:=[.bool]
def kds93:List RK:=[]
def oks93:List AT:=owns sig93
def E93_4 (v3:Int) (x0:ByteArray):Env:=[(0,.a (.val (.string x0))),(3,.a (.val (.int .i64 v3)))]
def L93_4 (v3:Int) (x0:ByteArray):Heap:=[]
mutual
def R93:Nat→ByteArray→List Dyn→Prop
 | 0,_,_=>False
 | n+1,x0,ds=>(if (ByteArray.toList x0==ByteArray.toList (ByteArray.mk #[]))=true then (ds=[Dyn.mk .bool false]) else (if (decide ((↑(ByteArray.size x0):Int)>10))=true then (ds=[Dyn.mk .bool false]) else ((0<(↑(ByteArray.size x0):Int))∧(if (!g116_0 (↑(UInt8.toNat (List.getD (Array.toList (ByteArray.data x0)) 0 0)):Int))=true then (ds=[Dyn.mk .bool false]) else (R93_4 n (0) (x0) ds)))))
def R93_4:Nat→Int→ByteArray→List Dyn→Prop
 | 0,_,_,_=>False
 | n+1,v3,x0,ds=>(if (decide (v3<(↑(ByteArray.size x0):Int)))=true then ((0≤v3)∧(v3<(↑(ByteArray.size x0):Int))∧(if (!g116_0 (↑(UInt8.toNat (List.getD (Array.toList (ByteArray.data x0)) (Int.toNat v3) 0)):Int))=true then ((0≤v3)∧(v3<(↑(ByteArray.size x0):Int))∧(if (!g117_0 (↑(UInt8.toNat (List.getD (Array.toList (ByteArray.data x0)) (Int.toNat v3) 0)):Int))=true then (ds=[Dyn.mk .bool false]) else ((InR .i64 (v3+1))∧(R93_4 n (v3+1) (x0) ds)))) else ((InR .i64 (v3+1))∧(R93_4 n (v3+1) (x0) ds)))) else (ds=[Dyn.mk .bool true]))
end
theorem snd93:∀ n,(∀ (x0:ByteArray) ds,R93 n x0 ds→∀ K q,AtV Tryz.prog 93 (PostR kds93 oks93 ds [] [] q K) 35 K q [] [.code b93] (entE 0 0 sig93 (x0,())) (entL sig93 (x0,())))∧(∀ (v3:Int) (x0:ByteArray) ds,R93_4 n v3 x0 ds→∀ K q,AtV Tryz.prog 93 (PostR kds93 oks93 ds [] [] q K) 35 K q [] (cutAt b93 4) (E93_4 v3 x0) (L93_4 v3 x0)):=by
 intro n
 induction n with
 | zero=>exact ⟨fun _ _ h=>by simp only [R93] at h,fun _ _ _ h=>by simp only [R93_4] at h⟩
 | succ n ih =>
 obtain ⟨ih,ih4⟩:=ih
 refine ⟨?_,?_⟩
 ·intro x0 ds h K q
  rw [R93] at h
  by_cases b0:(ByteArray.toList x0==ByteArray.toList (ByteArray.mk #[]))=true
  ·rw [if_pos b0] at h
   subst h
   exact AtV.ret Tryz.func93 tabOk ext93Ok mixed false [] tys93 [true,true,true] (a1 b0 (a1 (rfl:true=true) (a1 (rfl:true=true) trivial))) (by kernel_rfl)
  ·rw [if_neg b0] at h
   replace b0:=bf_ b0
   by_cases b1:(decide ((↑(ByteArray.size x0):Int)>10))=true
   ·rw [if_pos b1] at h
    subst h
    exact AtV.ret Tryz.func93 tabOk ext93Ok mixed false [] tys93 [false,true,true] (a1 b0 (a1 b1 (a1 (rfl:true=true) trivial))) (by kernel_rfl)
   ·rw [if_neg b1] at h
    replace b1:=bf_ b1
    obtain ⟨s0,h⟩:=h
    by_cases b2:(!g116_0 (↑(UInt8.toNat (List.getD (Array.toList (ByteArray.data x0)) 0 0)):Int))=true
    ·rw [if_pos b2] at h
     subst h
     exact AtV.ret Tryz.func93 tabOk ext93Ok mixed false [] tys93 [false,false,true] (a1 b0 (a1 b1 (a1 ((by decide):(0:Int)≤(0:Int)) (a1 s0 (a1 trivial (a1 b2 trivial)))))) (by kernel_rfl)
    ·rw [if_neg b2] at h
     replace b2:=bf_ b2
     exact AtV.go tabOk ext93Ok mixed false [] [] [0,3] [] [false,false,false] (a1 b0 (a1 b1 (a1 ((by decide):(0:Int)≤(0:Int)) (a1 s0 (a1 trivial (a1 b2 trivial)))))) (ih4 _ _ _ h K q) (by kernel_rfl)
 ·intro v3 x0 ds h K q
  rw [R93_4] at h
  by_cases b0:(decide (v3<(↑(ByteArray.size x0):Int)))=true
  ·rw [if_pos b0] at h
   obtain ⟨s0,s1,h⟩:=h
   by_cases b1:(!g116_0 (↑(UInt8.toNat (List.getD (Array.toList (ByteArray.data x0)) (Int.toNat v3) 0)):Int))=true
   ·rw [if_pos b1] at h
    obtain ⟨s2,s3,h⟩:=h
    by_cases b2:(!g117_0 (↑(UInt8.toNat (List.getD (Array.toList (ByteArray.data x0)) (Int.toNat v3) 0)):Int))=true
    ·rw [if_pos b2] at h
     subst h
     exact AtV.ret Tryz.func93 tabOk ext93Ok mixed false [] tys93 [true,true,true] (a1 b0 (a1 s0 (a1 s1 (a1 trivial (a1 b1 (a1 s2 (a1 s3 (a1 trivial (a1 b2 trivial))))))))) (by kernel_rfl)
    ·rw [if_neg b2] at h
     replace b2:=bf_ b2
     obtain ⟨s4,h⟩:=h
     exact AtV.go tabOk ext93Ok mixed false [] [] [0,3] [] [true,true,false] (a1 b0 (a1 s0 (a1 s1 (a1 trivial (a1 b1 (a1 s2 (a1 s3 (a1 trivial (a1 b2 (a1 s4 trivial)))))))))) (ih4 _ _ _ h K q) (by kernel_rfl)
   ·rw [if_neg b1] at h
    replace b1:=bf_ b1
    obtain ⟨s2,h⟩:=h
    exact AtV.go tabOk ext93Ok mixed false [] [] [0,3] [] [true,false,false] (a1 b0 (a1 s0 (a1 s1 (a1 trivial (a1 b1 (a1 (rfl:false=false) (a1 s2 trivial))))))) (ih4 _ _ _ h K q) (by kernel_rfl)
  ·rw [if_neg b0] at h
   replace b0:=bf_ b0
   subst h
   exact AtV.ret Tryz.func93 tabOk ext93Ok mixed false [] tys93 [false] (a1 b0 trivial) (by kernel_rfl)
def g93_0 (x0:ByteArray):Bool:=decide (1≤x0.size)&&decide (x0.size≤10)&&g116_0 ((bytesOf x0).getD 0 0)&&(bytesOf x0).all fun b=>g116_0 b||g117_0 b
def P93 (x0:ByteArray):Prop:=True
theorem top93 (x0:ByteArray) (hw:Wf .str x0):R93 (x0.size+1+1) x0 [⟨.bool,g93_0 x0⟩]:=by
 have hl:=bytesOf_length x0
 rw [R93]
 by_cases h0:x0=ByteArray.mk #[]
 ·rw [if_pos ((bytes_eq _ _).2 h0)]
  subst h0
  rfl
 ·rw [if_neg (fun h=>h0 ((bytes_eq _ _).1 h))]
  have hs:1≤x0.size:=by
   rcases Nat.lt_or_ge 0 x0.size with h | h
   ·exact h
   ·exact absurd (bytesOf_inj (s:=x0) (t:=ByteArray.mk #[]) (List.eq_nil_of_length_eq_zero (by rw [hl];omega))) h0
  by_cases h1:(x0.size:Int)>10
  ·rw [if_pos (by simpa using h1)]
   have:¬ x0.size≤10:=by omega
   simp [g93_0,this]
  ·rw [if_neg (by simpa using h1)]
   refine ⟨by omega,?_⟩
   rw [byte_get]
   cases h2:g116_0 ((bytesOf x0).getD 0 0) with
   | false =>
    rw [if_pos (by simp)]
    simp [g93_0,h2, -List.getD_eq_getElem?_getD]
   | true =>
    rw [if_neg (by simp)]
    have key:=loop_test (bytesOf x0) 0 (fun b=>g116_0 b||g117_0 b) [(⟨.bool,false⟩:Dyn)] [⟨.bool,true⟩] (fun n i ds=>R93_4 n i x0 ds) (fun n => ?_) (fun n i hi hok ds hr => ?_) (fun n i hi hok => ?_)
    ·rw [hl] at key
     have e:g93_0 x0=(bytesOf x0).all fun b=>g116_0 b||g117_0 b:=by
      have:x0.size≤10:=by omega
      unfold g93_0
      simp only [hs,this,decide_true,Bool.true_and,h2]
     rw [e]
     cases h:(bytesOf x0).all fun b=>g116_0 b||g117_0 b with
     | true=>rw [if_pos h] at key;exact key
     | false=>rw [if_neg (by rw [h];simp)] at key;exact key
    ·show R93_4 (n+1) ((bytesOf x0).length:Int) x0 _
     rw [R93_4,hl,if_neg (by simp)]
    ·rw [R93_4,if_pos (by simp;omega)]
     simp only [Int.toNat_natCast,byte_get]
     generalize (bytesOf x0).getD i 0=c at *
     refine ⟨by omega,by omega,?_⟩
     have hu:=inR_up (xs:=bytesOf x0) (by rw [hl];exact hw) hi
     cases h3:g116_0 c with
     | true=>rw [if_neg (by simp)];exact ⟨hu,hr⟩
     | false =>
      rw [if_pos (by simp)]
      rw [h3,Bool.false_or] at hok
      refine ⟨by omega,by omega,?_⟩
      rw [if_neg (by rw [hok];simp)]
      exact ⟨hu,hr⟩
    ·simp only [Bool.or_eq_false_iff] at hok
     rw [R93_4,if_pos (by simp;omega)]
     simp only [Int.toNat_natCast,byte_get]
     refine ⟨by omega,by omega,?_⟩
     rw [if_pos (by rw [hok.1];rfl)]
     refine ⟨by omega,by omega,?_⟩
     rw [if_pos (by rw [hok.2];rfl)] <;> trivial
def S93:Am.Spec:={ sig:=sig93,pre:=fun ⟨x0,_⟩=>P93 x0,res:=fun ⟨x0,_⟩=>[⟨.bool,g93_0 x0⟩] }
theorem con93:Contract Tryz.prog 93 S93:=contract_of Tryz.func93 hb93 (bl_ (by kernel_rfl)) (fun ⟨x0,_⟩ h hwf K q =>
 (snd93 _).1 x0 _ (top93 x0 hwf.1) K q)
end
noncomputable section
def ext61:Ext:=[(93,S93),(60,S60)]
theorem ext61Ok:ExtOk Tryz.prog ext61:=⟨⟨ca93,con93⟩,⟨ca60,con60⟩,trivial⟩
noncomputable def b61:Code:=bodyOf Tryz.f61
theorem hb61:Tryz.f61.body=some b61:=by kernel_rfl
def sig61:List AT:=[AT.p YA5]
def tys61:List Ty:=[.bool]
def kds61:List RK:=[]
def oks61:List AT:=owns sig61
def P61 (x0:ByteArray×Int×Int×Int×Unit):Prop:=True
def g61_0 (x0:ByteArray×Int×Int×Int×Unit):Bool:=(if (g93_0 x0.1)=true then (if (g60_0 x0.2.1 1 200)=true then (if (g60_0 x0.2.2.1 0 40)=true then g60_0 x0.2.2.2.1 0 100000 else false) else false) else false)
theorem at61 (x0:ByteArray×Int×Int×Int×Unit) (h:P61 x0) (K:Ctx) (q:Nat→Value):AtV Tryz.prog 61 (PostR kds61 oks61 [⟨.bool,g61_0 x0⟩] [] [] q K) 29 K q [] [.code b61] (entE 0 0 sig61 (x0,())) (entL sig61 (x0,())):=by
 unfold P61 at h
 unfold g61_0
 by_cases b0:(g93_0 x0.1)=true
 ·try simp only [if_pos b0] at h ⊢
  by_cases b1:(g60_0 x0.2.1 1 200)=true
  ·try simp only [if_pos b1] at h ⊢
   by_cases b2:(g60_0 x0.2.2.1 0 40)=true
   ·try simp only [if_pos b2] at h ⊢
    exact AtV.ret Tryz.func61 tabOk ext61Ok mixed false [] tys61 [true,true,true] (a1 trivial (a1 b0 (a1 trivial (a1 b1 (a1 trivial (a1 b2 (a1 trivial trivial))))))) (by kernel_rfl)
   ·try simp only [if_neg b2] at h ⊢
    replace b2:=bf_ b2
    exact AtV.ret Tryz.func61 tabOk ext61Ok mixed false [] tys61 [true,true,false] (a1 trivial (a1 b0 (a1 trivial (a1 b1 (a1 trivial (a1 b2 trivial)))))) (by kernel_rfl)
  ·try simp only [if_neg b1] at h ⊢
   replace b1:=bf_ b1
   exact AtV.ret Tryz.func61 tabOk ext61Ok mixed false [] tys61 [true,false,false] (a1 trivial (a1 b0 (a1 trivial (a1 b1 (a1 (rfl:false=false) trivial))))) (by kernel_rfl)
 ·try simp only [if_neg b0] at h ⊢
  replace b0:=bf_ b0
  exact AtV.ret Tryz.func61 tabOk ext61Ok mixed false [] tys61 [false,false,false] (a1 trivial (a1 b0 (a1 (rfl:false=false) (a1 (rfl:false=false) trivial)))) (by kernel_rfl)
def S61:Am.Spec:={ sig:=sig61,pre:=fun ⟨x0,_⟩=>P61 x0,res:=fun ⟨x0,_⟩=>[⟨.bool,g61_0 x0⟩],kds:=kds61 }
theorem con61:Contract Tryz.prog 61 S61:=contract_of Tryz.func61 hb61 (bl_ (by kernel_rfl)) (fun ⟨x0,_⟩ h _ K q=>at61 x0 h K q)
end
noncomputable section
def ext36:Ext:=[(61,S61)]
theorem ext36Ok:ExtOk Tryz.prog ext36:=⟨⟨ca61,con61⟩,trivial⟩
noncomputable def b36:Code:=bodyOf Tryz.f36
theorem hb36:Tryz.f36.body=some b36:=by kernel_rfl
def sig36:List AT:=[AT.v (.sl YA5)]
def tys36:List Ty:=[.bool]
def kds36:List RK:=[]
def oks36:List AT:=owns sig36
def E36_2 (v3:Int) (x0:List TyB1):Env:=[(0,.a (.sl YA5 x0)),(3,.a (.val (.int .i64 v3)))]
def L36_2 (v3:Int) (x0:List TyB1):Heap:=[]
mutual
def R36:Nat→List TyB1→List Dyn→Prop
 | 0,_,_=>False
 | n+1,x0,ds=>(R36_2 n (0) (x0) ds)
def R36_2:Nat→Int→List TyB1→List Dyn→Prop
 | 0,_,_,_=>False
 | n+1,v3,x0,ds=>(if (decide (v3<(x0.length:Int)))=true then ((0≤v3)∧(v3<(x0.length:Int))∧(if (!g61_0 (List.getD x0 (Int.toNat v3) (ByteArray.empty,0,0,0,())))=true then (ds=[Dyn.mk .bool false]) else (if (decide (v3>0))=true then ((InR .i64 (v3 - 1))∧((0≤v3 - 1)∧(v3 - 1<(x0.length:Int))∧((0≤v3)∧(v3<(x0.length:Int))∧(if (!Op.bytesLess (ByteArray.toList (List.getD x0 (Int.toNat (v3 - 1)) (ByteArray.empty,0,0,0,())).1) (ByteArray.toList (List.getD x0 (Int.toNat v3) (ByteArray.empty,0,0,0,())).1))=true then (ds=[Dyn.mk .bool false]) else ((InR .i64 (v3+1))∧(R36_2 n (v3+1) (x0) ds)))))) else ((InR .i64 (v3+1))∧(R36_2 n (v3+1) (x0) ds))))) else (ds=[Dyn.mk .bool (decide ((x0.length:Int)≤12))]))
end
theorem snd36:∀ n,(∀ (x0:List TyB1) ds,R36 n x0 ds→∀ K q,AtV Tryz.prog 36 (PostR kds36 oks36 ds [] [] q K) 36 K q [] [.code b36] (entE 0 0 sig36 (x0,())) (entL sig36 (x0,())))∧(∀ (v3:Int) (x0:List TyB1) ds,R36_2 n v3 x0 ds→∀ K q,AtV Tryz.prog 36 (PostR kds36 oks36 ds [] [] q K) 36 K q [] (cutAt b36 2) (E36_2 v3 x0) (L36_2 v3 x0)):=by
 intro n
 induction n with
 | zero=>exact ⟨fun _ _ h=>by simp only [R36] at h,fun _ _ _ h=>by simp only [R36_2] at h⟩
 | succ n ih =>
 obtain ⟨ih,ih2⟩:=ih
 refine ⟨?_,?_⟩
 ·intro x0 ds h K q
  rw [R36] at h
  exact AtV.go tabOk ext36Ok mixed false [] [] [0,3] [] [] trivial (ih2 _ _ _ h K q) (by kernel_rfl)
 ·intro v3 x0 ds h K q
  rw [R36_2] at h
  by_cases b0:(decide (v3<(x0.length:Int)))=true
  ·rw [if_pos b0] at h
   obtain ⟨s0,s1,h⟩:=h
   by_cases b1:(!g61_0 (List.getD x0 (Int.toNat v3) (ByteArray.empty,0,0,0,())))=true
   ·rw [if_pos b1] at h
    subst h
    exact AtV.ret Tryz.func36 tabOk ext36Ok mixed false [] tys36 [true,true,true] (a1 b0 (a1 s0 (a1 s1 (a1 trivial (a1 b1 (a1 (rfl:true=true) trivial)))))) (by kernel_rfl)
   ·rw [if_neg b1] at h
    replace b1:=bf_ b1
    by_cases b2:(decide (v3>0))=true
    ·rw [if_pos b2] at h
     obtain ⟨s2,h⟩:=h
     obtain ⟨s3,s4,h⟩:=h
     obtain ⟨s5,s6,h⟩:=h
     by_cases b3:(!Op.bytesLess (ByteArray.toList (List.getD x0 (Int.toNat (v3 - 1)) (ByteArray.empty,0,0,0,())).1) (ByteArray.toList (List.getD x0 (Int.toNat v3) (ByteArray.empty,0,0,0,())).1))=true
     ·rw [if_pos b3] at h
      subst h
      exact AtV.ret Tryz.func36 tabOk ext36Ok mixed false [] tys36 [true,false,true,true] (a1 b0 (a1 s0 (a1 s1 (a1 trivial (a1 b1 (a1 b2 (a1 s2 (a1 s3 (a1 s4 (a1 s5 (a1 s6 (a1 b3 trivial)))))))))))) (by kernel_rfl)
     ·rw [if_neg b3] at h
      replace b3:=bf_ b3
      obtain ⟨s7,h⟩:=h
      exact AtV.go tabOk ext36Ok mixed false [] [] [0,3] [] [true,false,true,false] (a1 b0 (a1 s0 (a1 s1 (a1 trivial (a1 b1 (a1 b2 (a1 s2 (a1 s3 (a1 s4 (a1 s5 (a1 s6 (a1 b3 (a1 s7 trivial))))))))))))) (ih2 _ _ _ h K q) (by kernel_rfl)
    ·rw [if_neg b2] at h
     replace b2:=bf_ b2
     obtain ⟨s2,h⟩:=h
     exact AtV.go tabOk ext36Ok mixed false [] [] [0,3] [] [true,false,false,false] (a1 b0 (a1 s0 (a1 s1 (a1 trivial (a1 b1 (a1 b2 (a1 (rfl:false=false) (a1 s2 trivial)))))))) (ih2 _ _ _ h K q) (by kernel_rfl)
  ·rw [if_neg b0] at h
   replace b0:=bf_ b0
   subst h
   exact AtV.ret Tryz.func36 tabOk ext36Ok mixed false [] tys36 [false] (a1 b0 trivial) (by kernel_rfl)
def ok36 (x0:List TyB1) (i:Nat) (x:TyB1):Bool :=
 g61_0 x&&(i==0||Op.bytesLess (ByteArray.toList (x0.getD (i - 1) (ByteArray.empty,(0:Int),(0:Int),(0:Int),())).1) (ByteArray.toList x.1))
def g36_0 (x0:List TyB1):Bool:=allI (ok36 x0) 0 x0&&decide (x0.length≤12)
def P36 (x0:List TyB1):Prop:=True
theorem step36 (n i : Nat) (x0 : List TyB1) (hm : x0.length ≤ maxLen) (hi : i < x0.length) (ds : List Dyn) :
    (if ok36 x0 i (x0.getD i (ByteArray.empty, (0 : Int), (0 : Int), (0 : Int), ())) = true then R36_2 n ((i : Int) + 1) x0 ds else ds = [⟨.bool, false⟩]) → R36_2 (n + 1) (i : Int) x0 ds := by
  intro h
  have hu := inR_up hm hi
  rw [R36_2, if_pos (by simp; omega)]
  refine ⟨by omega, by omega, ?_⟩
  simp only [Int.toNat_natCast]
  unfold ok36 at h
  cases h1 : g61_0 (x0.getD i (ByteArray.empty, (0 : Int), (0 : Int), (0 : Int), ())) with
  | false =>
    rw [h1] at h
    rw [if_pos (by rfl)]
    simpa using h
  | true =>
    rw [h1] at h
    rw [if_neg (by simp)]
    by_cases h0 : (i : Int) > 0
    · rw [if_pos (by simpa using h0)]
      have hi0 : (i == 0) = false := by simp; omega
      have e : ((i : Int) - 1).toNat = i - 1 := by omega
      refine ⟨by rw [i64_iff]; have : maxLen ≤ 9223372036854775807 := by decide
                 omega, by omega, by omega, by omega, by omega, ?_⟩
      rw [e]
      by_cases h2 : Op.bytesLess (ByteArray.toList (x0.getD (i - 1) (ByteArray.empty, (0 : Int), (0 : Int), (0 : Int), ())).1) (ByteArray.toList (x0.getD i (ByteArray.empty, (0 : Int), (0 : Int), (0 : Int), ())).1) = true
      · rw [h2, hi0] at h
        rw [if_neg (by rw [h2]; simp)]
        exact ⟨hu, by simpa using h⟩
      · have h2 := bf_ h2
        rw [h2, hi0] at h
        rw [if_pos (by rw [h2]; rfl)]
        simpa using h
    · rw [if_neg (by simpa using h0)]
      have hi0 : (i == 0) = true := by simp; omega
      rw [hi0] at h
      exact ⟨hu, by simpa using h⟩
theorem top36 (x0:List TyB1) (hw:x0.length≤maxLen):R36 (x0.length+1+1) x0 [⟨.bool,g36_0 x0⟩]:=by
 rw [R36]
 have key:=loop_testI x0 (ByteArray.empty,(0:Int),(0:Int),(0:Int),()) (ok36 x0) [(⟨.bool,false⟩:Dyn)] [⟨.bool,decide (x0.length≤12)⟩] (fun n i ds=>R36_2 n i x0 ds) (fun n => ?_) (fun n i hi hok ds hr => ?_) (fun n i hi hok => ?_)
 ·unfold g36_0
  cases h:allI (ok36 x0) 0 x0 with
  | true=>rw [if_pos h] at key;simpa using key
  | false=>rw [if_neg (by rw [h];simp)] at key;simpa using key
 ·rw [R36_2,if_neg (by simp)]
  have hc:decide ((x0.length:Int)≤12)=decide (x0.length≤12):=by
   congr 1;exact propext ⟨fun h=>by omega,fun h=>by omega⟩
  rw [hc]
 ·exact step36 n i x0 hw hi ds (by rw [if_pos hok];exact hr)
 ·exact step36 n i x0 hw hi _ (by rw [if_neg (by rw [hok];simp)])
def S36:Am.Spec:={ sig:=sig36,pre:=fun ⟨x0,_⟩=>P36 x0,res:=fun ⟨x0,_⟩=>[⟨.bool,g36_0 x0⟩] }
theorem con36:Contract Tryz.prog 36 S36:=contract_of Tryz.func36 hb36 (bl_ (by kernel_rfl)) (fun ⟨x0,_⟩ h hwf K q =>
 (snd36 _).1 x0 _ (top36 x0 hwf.1.1) K q)
end
noncomputable section
def ext37:Ext:=[(60,S60)]
theorem ext37Ok:ExtOk Tryz.prog ext37:=⟨⟨ca60,con60⟩,trivial⟩
noncomputable def b37:Code:=bodyOf Tryz.f37
theorem hb37:Tryz.f37.body=some b37:=by kernel_rfl
def sig37:List AT:=[AT.p YA8]
def tys37:List Ty:=[.bool]
def kds37:List RK:=[]
def oks37:List AT:=owns sig37
def P37 (x0:Int×Int×Int×Unit):Prop:=True
def g37_0 (x0:Int×Int×Int×Unit):Bool:=(if (g60_0 x0.1 0 200)=true then (if (g60_0 x0.2.1 0 40)=true then g60_0 x0.2.2.1 0 100000 else false) else false)
theorem at37 (x0:Int×Int×Int×Unit) (h:P37 x0) (K:Ctx) (q:Nat→Value):AtV Tryz.prog 37 (PostR kds37 oks37 [⟨.bool,g37_0 x0⟩] [] [] q K) 22 K q [] [.code b37] (entE 0 0 sig37 (x0,())) (entL sig37 (x0,())):=by
 unfold P37 at h
 unfold g37_0
 by_cases b0:(g60_0 x0.1 0 200)=true
 ·try simp only [if_pos b0] at h ⊢
  by_cases b1:(g60_0 x0.2.1 0 40)=true
  ·try simp only [if_pos b1] at h ⊢
   exact AtV.ret Tryz.func37 tabOk ext37Ok mixed false [] tys37 [true,true] (a1 trivial (a1 b0 (a1 trivial (a1 b1 (a1 trivial trivial))))) (by kernel_rfl)
  ·try simp only [if_neg b1] at h ⊢
   replace b1:=bf_ b1
   exact AtV.ret Tryz.func37 tabOk ext37Ok mixed false [] tys37 [true,false] (a1 trivial (a1 b0 (a1 trivial (a1 b1 trivial)))) (by kernel_rfl)
 ·try simp only [if_neg b0] at h ⊢
  replace b0:=bf_ b0
  exact AtV.ret Tryz.func37 tabOk ext37Ok mixed false [] tys37 [false,false] (a1 trivial (a1 b0 (a1 (rfl:false=false) trivial))) (by kernel_rfl)
def S37:Am.Spec:={ sig:=sig37,pre:=fun ⟨x0,_⟩=>P37 x0,res:=fun ⟨x0,_⟩=>[⟨.bool,g37_0 x0⟩],kds:=kds37 }
theorem con37:Contract Tryz.prog 37 S37:=contract_of Tryz.func37 hb37 (bl_ (by kernel_rfl)) (fun ⟨x0,_⟩ h _ K q=>at37 x0 h K q)
end
noncomputable section
def ext63:Ext:=[(60,S60)]
theorem ext63Ok:ExtOk Tryz.prog ext63:=⟨⟨ca60,con60⟩,trivial⟩
noncomputable def b63:Code:=bodyOf Tryz.f63
theorem hb63:Tryz.f63.body=some b63:=by kernel_rfl
def sig63:List AT:=[AT.v (.int .i64)]
def tys63:List Ty:=[.bool]
def kds63:List RK:=[]
def oks63:List AT:=owns sig63
def P63 (x0:Int):Prop:=True
def g63_0 (x0:Int):Bool:=g60_0 x0 0 100000
theorem at63 (x0:Int) (h:P63 x0) (K:Ctx) (q:Nat→Value):AtV Tryz.prog 63 (PostR kds63 oks63 [⟨.bool,g63_0 x0⟩] [] [] q K) 5 K q [] [.code b63] (entE 0 0 sig63 (x0,())) (entL sig63 (x0,())):=by
 unfold P63 at h
 unfold g63_0
 exact AtV.ret Tryz.func63 tabOk ext63Ok mixed false [] tys63 [] (a1 trivial trivial) (by kernel_rfl)
def S63:Am.Spec:={ sig:=sig63,pre:=fun ⟨x0,_⟩=>P63 x0,res:=fun ⟨x0,_⟩=>[⟨.bool,g63_0 x0⟩],kds:=kds63 }
theorem con63:Contract Tryz.prog 63 S63:=contract_of Tryz.func63 hb63 (bl_ (by kernel_rfl)) (fun ⟨x0,_⟩ h _ K q=>at63 x0 h K q)
end
noncomputable section
def ext64:Ext:=[(60,S60)]
theorem ext64Ok:ExtOk Tryz.prog ext64:=⟨⟨ca60,con60⟩,trivial⟩
noncomputable def b64:Code:=bodyOf Tryz.f64
theorem hb64:Tryz.f64.body=some b64:=by kernel_rfl
def sig64:List AT:=[AT.v (.int .i64)]
def tys64:List Ty:=[.bool]
def kds64:List RK:=[]
def oks64:List AT:=owns sig64
def P64 (x0:Int):Prop:=True
def g64_0 (x0:Int):Bool:=g60_0 x0 0 1000000
theorem at64 (x0:Int) (h:P64 x0) (K:Ctx) (q:Nat→Value):AtV Tryz.prog 64 (PostR kds64 oks64 [⟨.bool,g64_0 x0⟩] [] [] q K) 5 K q [] [.code b64] (entE 0 0 sig64 (x0,())) (entL sig64 (x0,())):=by
 unfold P64 at h
 unfold g64_0
 exact AtV.ret Tryz.func64 tabOk ext64Ok mixed false [] tys64 [] (a1 trivial trivial) (by kernel_rfl)
def S64:Am.Spec:={ sig:=sig64,pre:=fun ⟨x0,_⟩=>P64 x0,res:=fun ⟨x0,_⟩=>[⟨.bool,g64_0 x0⟩],kds:=kds64 }
theorem con64:Contract Tryz.prog 64 S64:=contract_of Tryz.func64 hb64 (bl_ (by kernel_rfl)) (fun ⟨x0,_⟩ h _ K q=>at64 x0 h K q)
end
noncomputable section
def ext94:Ext:=[(93,S93),(60,S60),(63,S63),(64,S64)]
theorem ext94Ok:ExtOk Tryz.prog ext94:=⟨⟨ca93,con93⟩,⟨ca60,con60⟩,⟨ca63,con63⟩,⟨ca64,con64⟩,trivial⟩
noncomputable def b94:Code:=bodyOf Tryz.f94
theorem hb94:Tryz.f94.body=some b94:=by kernel_rfl
def sig94:List AT:=[AT.p YA3]
def tys94:List Ty:=[.bool]
def kds94:List RK:=[]
def oks94:List AT:=owns sig94
def P94 (x0:ByteArray×Int×Int×Int×Int×Unit):Prop:=True
def g94_0 (x0:ByteArray×Int×Int×Int×Int×Unit):Bool:=(if (g93_0 x0.1)=true then (if (g60_0 x0.2.1 1 100000)=true then (if (g60_0 x0.2.2.1 1 1000000)=true then (if (g63_0 x0.2.2.2.1)=true then g64_0 x0.2.2.2.2.1 else false) else false) else false) else false)
theorem at94 (x0:ByteArray×Int×Int×Int×Int×Unit) (h:P94 x0) (K:Ctx) (q:Nat→Value):AtV Tryz.prog 94 (PostR kds94 oks94 [⟨.bool,g94_0 x0⟩] [] [] q K) 36 K q [] [.code b94] (entE 0 0 sig94 (x0,())) (entL sig94 (x0,())):=by
 unfold P94 at h
 unfold g94_0
 by_cases b0:(g93_0 x0.1)=true
 ·try simp only [if_pos b0] at h ⊢
  by_cases b1:(g60_0 x0.2.1 1 100000)=true
  ·try simp only [if_pos b1] at h ⊢
   by_cases b2:(g60_0 x0.2.2.1 1 1000000)=true
   ·try simp only [if_pos b2] at h ⊢
    by_cases b3:(g63_0 x0.2.2.2.1)=true
    ·try simp only [if_pos b3] at h ⊢
     exact AtV.ret Tryz.func94 tabOk ext94Ok mixed false [] tys94 [true,true,true,true] (a1 trivial (a1 b0 (a1 trivial (a1 b1 (a1 trivial (a1 b2 (a1 trivial (a1 b3 (a1 trivial trivial))))))))) (by kernel_rfl)
    ·try simp only [if_neg b3] at h ⊢
     replace b3:=bf_ b3
     exact AtV.ret Tryz.func94 tabOk ext94Ok mixed false [] tys94 [true,true,true,false] (a1 trivial (a1 b0 (a1 trivial (a1 b1 (a1 trivial (a1 b2 (a1 trivial (a1 b3 trivial)))))))) (by kernel_rfl)
   ·try simp only [if_neg b2] at h ⊢
    replace b2:=bf_ b2
    exact AtV.ret Tryz.func94 tabOk ext94Ok mixed false [] tys94 [true,true,false,false] (a1 trivial (a1 b0 (a1 trivial (a1 b1 (a1 trivial (a1 b2 (a1 (rfl:false=false) trivial))))))) (by kernel_rfl)
  ·try simp only [if_neg b1] at h ⊢
   replace b1:=bf_ b1
   exact AtV.ret Tryz.func94 tabOk ext94Ok mixed false [] tys94 [true,false,false,false] (a1 trivial (a1 b0 (a1 trivial (a1 b1 (a1 (rfl:false=false) (a1 (rfl:false=false) trivial)))))) (by kernel_rfl)
 ·try simp only [if_neg b0] at h ⊢
  replace b0:=bf_ b0
  exact AtV.ret Tryz.func94 tabOk ext94Ok mixed false [] tys94 [false,false,false,false] (a1 trivial (a1 b0 (a1 (rfl:false=false) (a1 (rfl:false=false) (a1 (rfl:false=false) trivial))))) (by kernel_rfl)
def S94:Am.Spec:={ sig:=sig94,pre:=fun ⟨x0,_⟩=>P94 x0,res:=fun ⟨x0,_⟩=>[⟨.bool,g94_0 x0⟩],kds:=kds94 }
theorem con94:Contract Tryz.prog 94 S94:=contract_of Tryz.func94 hb94 (bl_ (by kernel_rfl)) (fun ⟨x0,_⟩ h _ K q=>at94 x0 h K q)
end
noncomputable section
def ext62:Ext:=[(94,S94)]
theorem ext62Ok:ExtOk Tryz.prog ext62:=⟨⟨ca94,con94⟩,trivial⟩
noncomputable def b62:Code:=bodyOf Tryz.f62
theorem hb62:Tryz.f62.body=some b62:=by kernel_rfl
def sig62:List AT:=[AT.v (.sl YA3)]
def tys62:List Ty:=[.bool]
def kds62:List RK:=[]
def oks62:List AT:=owns sig62
def E62_2 (v3:Int) (x0:List TyB0):Env:=[(0,.a (.sl YA3 x0)),(3,.a (.val (.int .i64 v3)))]
def L62_2 (v3:Int) (x0:List TyB0):Heap:=[]
mutual
def R62:Nat→List TyB0→List Dyn→Prop
 | 0,_,_=>False
 | n+1,x0,ds=>(R62_2 n (0) (x0) ds)
def R62_2:Nat→Int→List TyB0→List Dyn→Prop
 | 0,_,_,_=>False
 | n+1,v3,x0,ds=>(if (decide (v3<(x0.length:Int)))=true then ((0≤v3)∧(v3<(x0.length:Int))∧(if (!g94_0 (List.getD x0 (Int.toNat v3) (ByteArray.empty,0,0,0,0,())))=true then (ds=[Dyn.mk .bool false]) else (if (decide (v3>0))=true then ((InR .i64 (v3 - 1))∧((0≤v3 - 1)∧(v3 - 1<(x0.length:Int))∧((0≤v3)∧(v3<(x0.length:Int))∧(if (!Op.bytesLess (ByteArray.toList (List.getD x0 (Int.toNat (v3 - 1)) (ByteArray.empty,0,0,0,0,())).1) (ByteArray.toList (List.getD x0 (Int.toNat v3) (ByteArray.empty,0,0,0,0,())).1))=true then (ds=[Dyn.mk .bool false]) else ((InR .i64 (v3+1))∧(R62_2 n (v3+1) (x0) ds)))))) else ((InR .i64 (v3+1))∧(R62_2 n (v3+1) (x0) ds))))) else (ds=[Dyn.mk .bool (decide ((x0.length:Int)≤16))]))
end
theorem snd62:∀ n,(∀ (x0:List TyB0) ds,R62 n x0 ds→∀ K q,AtV Tryz.prog 62 (PostR kds62 oks62 ds [] [] q K) 36 K q [] [.code b62] (entE 0 0 sig62 (x0,())) (entL sig62 (x0,())))∧(∀ (v3:Int) (x0:List TyB0) ds,R62_2 n v3 x0 ds→∀ K q,AtV Tryz.prog 62 (PostR kds62 oks62 ds [] [] q K) 36 K q [] (cutAt b62 2) (E62_2 v3 x0) (L62_2 v3 x0)):=by
 intro n
 induction n with
 | zero=>exact ⟨fun _ _ h=>by simp only [R62] at h,fun _ _ _ h=>by simp only [R62_2] at h⟩
 | succ n ih =>
 obtain ⟨ih,ih2⟩:=ih
 refine ⟨?_,?_⟩
 ·intro x0 ds h K q
  rw [R62] at h
  exact AtV.go tabOk ext62Ok mixed false [] [] [0,3] [] [] trivial (ih2 _ _ _ h K q) (by kernel_rfl)
 ·intro v3 x0 ds h K q
  rw [R62_2] at h
  by_cases b0:(decide (v3<(x0.length:Int)))=true
  ·rw [if_pos b0] at h
   obtain ⟨s0,s1,h⟩:=h
   by_cases b1:(!g94_0 (List.getD x0 (Int.toNat v3) (ByteArray.empty,0,0,0,0,())))=true
   ·rw [if_pos b1] at h
    subst h
    exact AtV.ret Tryz.func62 tabOk ext62Ok mixed false [] tys62 [true,true,true] (a1 b0 (a1 s0 (a1 s1 (a1 trivial (a1 b1 (a1 (rfl:true=true) trivial)))))) (by kernel_rfl)
   ·rw [if_neg b1] at h
    replace b1:=bf_ b1
    by_cases b2:(decide (v3>0))=true
    ·rw [if_pos b2] at h
     obtain ⟨s2,h⟩:=h
     obtain ⟨s3,s4,h⟩:=h
     obtain ⟨s5,s6,h⟩:=h
     by_cases b3:(!Op.bytesLess (ByteArray.toList (List.getD x0 (Int.toNat (v3 - 1)) (ByteArray.empty,0,0,0,0,())).1) (ByteArray.toList (List.getD x0 (Int.toNat v3) (ByteArray.empty,0,0,0,0,())).1))=true
     ·rw [if_pos b3] at h
      subst h
      exact AtV.ret Tryz.func62 tabOk ext62Ok mixed false [] tys62 [true,false,true,true] (a1 b0 (a1 s0 (a1 s1 (a1 trivial (a1 b1 (a1 b2 (a1 s2 (a1 s3 (a1 s4 (a1 s5 (a1 s6 (a1 b3 trivial)))))))))))) (by kernel_rfl)
     ·rw [if_neg b3] at h
      replace b3:=bf_ b3
      obtain ⟨s7,h⟩:=h
      exact AtV.go tabOk ext62Ok mixed false [] [] [0,3] [] [true,false,true,false] (a1 b0 (a1 s0 (a1 s1 (a1 trivial (a1 b1 (a1 b2 (a1 s2 (a1 s3 (a1 s4 (a1 s5 (a1 s6 (a1 b3 (a1 s7 trivial))))))))))))) (ih2 _ _ _ h K q) (by kernel_rfl)
    ·rw [if_neg b2] at h
     replace b2:=bf_ b2
     obtain ⟨s2,h⟩:=h
     exact AtV.go tabOk ext62Ok mixed false [] [] [0,3] [] [true,false,false,false] (a1 b0 (a1 s0 (a1 s1 (a1 trivial (a1 b1 (a1 b2 (a1 (rfl:false=false) (a1 s2 trivial)))))))) (ih2 _ _ _ h K q) (by kernel_rfl)
  ·rw [if_neg b0] at h
   replace b0:=bf_ b0
   subst h
   exact AtV.ret Tryz.func62 tabOk ext62Ok mixed false [] tys62 [false] (a1 b0 trivial) (by kernel_rfl)
def ok62 (x0:List TyB0) (i:Nat) (x:TyB0):Bool :=
 g94_0 x&&(i==0||Op.bytesLess (ByteArray.toList (x0.getD (i - 1) (ByteArray.empty,(0:Int),(0:Int),(0:Int),(0:Int),())).1) (ByteArray.toList x.1))
def g62_0 (x0:List TyB0):Bool:=allI (ok62 x0) 0 x0&&decide (x0.length≤16)
def P62 (x0:List TyB0):Prop:=True
theorem step62 (n i : Nat) (x0 : List TyB0) (hm : x0.length ≤ maxLen) (hi : i < x0.length) (ds : List Dyn) :
    (if ok62 x0 i (x0.getD i (ByteArray.empty, (0 : Int), (0 : Int), (0 : Int), (0 : Int), ())) = true then R62_2 n ((i : Int) + 1) x0 ds else ds = [⟨.bool, false⟩]) → R62_2 (n + 1) (i : Int) x0 ds := by
  intro h
  have hu := inR_up hm hi
  rw [R62_2, if_pos (by simp; omega)]
  refine ⟨by omega, by omega, ?_⟩
  simp only [Int.toNat_natCast]
  unfold ok62 at h
  cases h1 : g94_0 (x0.getD i (ByteArray.empty, (0 : Int), (0 : Int), (0 : Int), (0 : Int), ())) with
  | false =>
    rw [h1] at h
    rw [if_pos (by rfl)]
    simpa using h
  | true =>
    rw [h1] at h
    rw [if_neg (by simp)]
    by_cases h0 : (i : Int) > 0
    · rw [if_pos (by simpa using h0)]
      have hi0 : (i == 0) = false := by simp; omega
      have e : ((i : Int) - 1).toNat = i - 1 := by omega
      refine ⟨by rw [i64_iff]; have : maxLen ≤ 9223372036854775807 := by decide
                 omega, by omega, by omega, by omega, by omega, ?_⟩
      rw [e]
      by_cases h2 : Op.bytesLess (ByteArray.toList (x0.getD (i - 1) (ByteArray.empty, (0 : Int), (0 : Int), (0 : Int), (0 : Int), ())).1) (ByteArray.toList (x0.getD i (ByteArray.empty, (0 : Int), (0 : Int), (0 : Int), (0 : Int), ())).1) = true
      · rw [h2, hi0] at h
        rw [if_neg (by rw [h2]; simp)]
        exact ⟨hu, by simpa using h⟩
      · have h2 := bf_ h2
        rw [h2, hi0] at h
        rw [if_pos (by rw [h2]; rfl)]
        simpa using h
    · rw [if_neg (by simpa using h0)]
      have hi0 : (i == 0) = true := by simp; omega
      rw [hi0] at h
      exact ⟨hu, by simpa using h⟩
theorem top62 (x0:List TyB0) (hw:x0.length≤maxLen):R62 (x0.length+1+1) x0 [⟨.bool,g62_0 x0⟩]:=by
 rw [R62]
 have key:=loop_testI x0 (ByteArray.empty,(0:Int),(0:Int),(0:Int),(0:Int),()) (ok62 x0) [(⟨.bool,false⟩:Dyn)] [⟨.bool,decide (x0.length≤16)⟩] (fun n i ds=>R62_2 n i x0 ds) (fun n => ?_) (fun n i hi hok ds hr => ?_) (fun n i hi hok => ?_)
 ·unfold g62_0
  cases h:allI (ok62 x0) 0 x0 with
  | true=>rw [if_pos h] at key;simpa using key
  | false=>rw [if_neg (by rw [h];simp)] at key;simpa using key
 ·rw [R62_2,if_neg (by simp)]
  have hc:decide ((x0.length:Int)≤16)=decide (x0.length≤16):=by
   congr 1;exact propext ⟨fun h=>by omega,fun h=>by omega⟩
  rw [hc]
 ·exact step62 n i x0 hw hi ds (by rw [if_pos hok];exact hr)
 ·exact step62 n i x0 hw hi _ (by rw [if_neg (by rw [hok];simp)])
def S62:Am.Spec:={ sig:=sig62,pre:=fun ⟨x0,_⟩=>P62 x0,res:=fun ⟨x0,_⟩=>[⟨.bool,g62_0 x0⟩] }
theorem con62:Contract Tryz.prog 62 S62:=contract_of Tryz.func62 hb62 (bl_ (by kernel_rfl)) (fun ⟨x0,_⟩ h hwf K q =>
 (snd62 _).1 x0 _ (top62 x0 hwf.1.1) K q)
end
noncomputable section
def ext65:Ext:=[]
theorem ext65Ok:ExtOk Tryz.prog ext65:=trivial
noncomputable def b65:Code:=bodyOf Tryz.f65
theorem hb65:Tryz.f65.body=some b65:=by kernel_rfl
def sig65:List AT:=[AT.p YA3,AT.v (.int .i64),AT.v (.int .i64)]
def tys65:List Ty:=[.bool]
def kds65:List RK:=[]
def oks65:List AT:=owns sig65
def P65 (x0:ByteArray×Int×Int×Int×Int×Unit) (x1:Int) (x2:Int):Prop:=True
def g65_0 (x0:ByteArray×Int×Int×Int×Int×Unit) (x1:Int) (x2:Int):Bool:=(if (decide (x0.2.2.2.1≤x1))=true then decide (x0.2.2.2.2.1≤x2) else false)
theorem at65 (x0:ByteArray×Int×Int×Int×Int×Unit) (x1:Int) (x2:Int) (h:P65 x0 x1 x2) (K:Ctx) (q:Nat→Value):AtV Tryz.prog 65 (PostR kds65 oks65 [⟨.bool,g65_0 x0 x1 x2⟩] [] [] q K) 21 K q [] [.code b65] (entE 0 0 sig65 (x0,x1,x2,())) (entL sig65 (x0,x1,x2,())):=by
 unfold P65 at h
 unfold g65_0
 by_cases b0:(decide (x0.2.2.2.1≤x1))=true
 ·try simp only [if_pos b0] at h ⊢
  exact AtV.ret Tryz.func65 tabOk ext65Ok mixed false [] tys65 [true] (a1 b0 trivial) (by kernel_rfl)
 ·try simp only [if_neg b0] at h ⊢
  replace b0:=bf_ b0
  exact AtV.ret Tryz.func65 tabOk ext65Ok mixed false [] tys65 [false] (a1 b0 trivial) (by kernel_rfl)
def S65:Am.Spec:={ sig:=sig65,pre:=fun ⟨x0,x1,x2,_⟩=>P65 x0 x1 x2,res:=fun ⟨x0,x1,x2,_⟩=>[⟨.bool,g65_0 x0 x1 x2⟩],kds:=kds65 }
theorem con65:Contract Tryz.prog 65 S65:=contract_of Tryz.func65 hb65 (bl_ (by kernel_rfl)) (fun ⟨x0,x1,x2,_⟩ h _ K q=>at65 x0 x1 x2 h K q)
end
noncomputable section
def ext38:Ext:=[(62,S62),(63,S63),(64,S64),(65,S65)]
theorem ext38Ok:ExtOk Tryz.prog ext38:=⟨⟨ca62,con62⟩,⟨ca63,con63⟩,⟨ca64,con64⟩,⟨ca65,con65⟩,trivial⟩
noncomputable def b38:Code:=bodyOf Tryz.f38
theorem hb38:Tryz.f38.body=some b38:=by kernel_rfl
def sig38:List AT:=[AT.v (.sl YA3),AT.v (.int .i64),AT.v (.int .i64)]
def tys38:List Ty:=[.int .i64]
def kds38:List RK:=[]
def oks38:List AT:=owns sig38
def E38_6 (v7:Int) (x0:List TyB0) (x1:Int) (x2:Int):Env:=[(0,.a (.sl YA3 x0)),(1,.a (.val (.int .i64 x1))),(2,.a (.val (.int .i64 x2))),(7,.a (.val (.int .i64 v7)))]
def L38_6 (v7:Int) (x0:List TyB0) (x1:Int) (x2:Int):Heap:=[]
mutual
def R38:Nat→List TyB0→Int→Int→List Dyn→Prop
 | 0,_,_,_,_=>False
 | n+1,x0,x1,x2,ds=>(if (!g62_0 x0)=true then (ds=[Dyn.mk (.int .i64) 1]) else (if (!g63_0 x1)=true then (ds=[Dyn.mk (.int .i64) 2]) else (if (!g64_0 x2)=true then (ds=[Dyn.mk (.int .i64) 2]) else (R38_6 n (0) (x0) (x1) (x2) ds))))
def R38_6:Nat→Int→List TyB0→Int→Int→List Dyn→Prop
 | 0,_,_,_,_,_=>False
 | n+1,v7,x0,x1,x2,ds=>(if (decide (v7<(x0.length:Int)))=true then ((0≤v7)∧(v7<(x0.length:Int))∧(if (!g65_0 (List.getD x0 (Int.toNat v7) (ByteArray.empty,0,0,0,0,())) x1 x2)=true then (ds=[Dyn.mk (.int .i64) 6]) else ((InR .i64 (v7+1))∧(R38_6 n (v7+1) (x0) (x1) (x2) ds)))) else (ds=[Dyn.mk (.int .i64) 0]))
end
theorem snd38:∀ n,(∀ (x0:List TyB0) (x1:Int) (x2:Int) ds,R38 n x0 x1 x2 ds→∀ K q,AtV Tryz.prog 38 (PostR kds38 oks38 ds [] [] q K) 32 K q [] [.code b38] (entE 0 0 sig38 (x0,x1,x2,())) (entL sig38 (x0,x1,x2,())))∧(∀ (v7:Int) (x0:List TyB0) (x1:Int) (x2:Int) ds,R38_6 n v7 x0 x1 x2 ds→∀ K q,AtV Tryz.prog 38 (PostR kds38 oks38 ds [] [] q K) 32 K q [] (cutAt b38 6) (E38_6 v7 x0 x1 x2) (L38_6 v7 x0 x1 x2)):=by
 intro n
 induction n with
 | zero=>exact ⟨fun _ _ _ _ h=>by simp only [R38] at h,fun _ _ _ _ _ h=>by simp only [R38_6] at h⟩
 | succ n ih =>
 obtain ⟨ih,ih6⟩:=ih
 refine ⟨?_,?_⟩
 ·intro x0 x1 x2 ds h K q
  rw [R38] at h
  by_cases b0:(!g62_0 x0)=true
  ·rw [if_pos b0] at h
   subst h
   exact AtV.ret Tryz.func38 tabOk ext38Ok mixed false [] tys38 [true] (a1 trivial (a1 b0 trivial)) (by kernel_rfl)
  ·rw [if_neg b0] at h
   replace b0:=bf_ b0
   by_cases b1:(!g63_0 x1)=true
   ·rw [if_pos b1] at h
    subst h
    exact AtV.ret Tryz.func38 tabOk ext38Ok mixed false [] tys38 [false,true,true] (a1 trivial (a1 b0 (a1 trivial (a1 b1 (a1 (rfl:true=true) trivial))))) (by kernel_rfl)
   ·rw [if_neg b1] at h
    replace b1:=bf_ b1
    by_cases b2:(!g64_0 x2)=true
    ·rw [if_pos b2] at h
     subst h
     exact AtV.ret Tryz.func38 tabOk ext38Ok mixed false [] tys38 [false,false,true] (a1 trivial (a1 b0 (a1 trivial (a1 b1 (a1 trivial (a1 b2 trivial)))))) (by kernel_rfl)
    ·rw [if_neg b2] at h
     replace b2:=bf_ b2
     exact AtV.go tabOk ext38Ok mixed false [] [] [0,1,2,7] [] [false,false,false] (a1 trivial (a1 b0 (a1 trivial (a1 b1 (a1 trivial (a1 b2 trivial)))))) (ih6 _ _ _ _ _ h K q) (by kernel_rfl)
 ·intro v7 x0 x1 x2 ds h K q
  rw [R38_6] at h
  by_cases b0:(decide (v7<(x0.length:Int)))=true
  ·rw [if_pos b0] at h
   obtain ⟨s0,s1,h⟩:=h
   by_cases b1:(!g65_0 (List.getD x0 (Int.toNat v7) (ByteArray.empty,0,0,0,0,())) x1 x2)=true
   ·rw [if_pos b1] at h
    subst h
    exact AtV.ret Tryz.func38 tabOk ext38Ok mixed false [] tys38 [true,true] (a1 b0 (a1 s0 (a1 s1 (a1 trivial (a1 b1 trivial))))) (by kernel_rfl)
   ·rw [if_neg b1] at h
    replace b1:=bf_ b1
    obtain ⟨s2,h⟩:=h
    exact AtV.go tabOk ext38Ok mixed false [] [] [0,1,2,7] [] [true,false] (a1 b0 (a1 s0 (a1 s1 (a1 trivial (a1 b1 (a1 s2 trivial)))))) (ih6 _ _ _ _ _ h K q) (by kernel_rfl)
  ·rw [if_neg b0] at h
   replace b0:=bf_ b0
   subst h
   exact AtV.ret Tryz.func38 tabOk ext38Ok mixed false [] tys38 [false] (a1 b0 trivial) (by kernel_rfl)
def q38 (x1 x2:Int) (x:TyB0):Bool:=g65_0 x x1 x2
def g38_0 (x0:List TyB0) (x1 x2:Int):Int:=if g62_0 x0=true then (if g63_0 x1=true then (if g64_0 x2=true then (if x0.all (q38 x1 x2)=true then 0 else 6) else 2) else 2) else 1
def P38 (x0:List TyB0) (x1 x2:Int):Prop:=True
theorem top38 (x0:List TyB0) (x1 x2:Int) (hm:x0.length≤maxLen):R38 (x0.length+1+1) x0 x1 x2 [⟨.int .i64,g38_0 x0 x1 x2⟩]:=by
 rw [R38]
 unfold g38_0
 cases h0:g62_0 x0 with
 | false=>rw [if_pos (show (!false)=true from rfl),if_neg (by simp)]
 | true =>
 cases h1:g63_0 x1 with
 | false=>rw [if_neg (show ¬ (!true)=true by decide),if_pos (show (!false)=true from rfl),if_pos rfl,if_neg (by simp)]
 | true =>
 cases h2:g64_0 x2 with
 | false=>rw [if_neg (show ¬ (!true)=true by decide),if_neg (show ¬ (!true)=true by decide),if_pos (show (!false)=true from rfl),if_pos rfl,if_pos rfl,if_neg (by simp)]
 | true =>
 rw [if_neg (show ¬ (!true)=true by decide),if_neg (show ¬ (!true)=true by decide),if_neg (show ¬ (!true)=true by decide),if_pos rfl,if_pos rfl,if_pos rfl]
 have key:=loop_test x0 (ByteArray.empty,(0:Int),(0:Int),(0:Int),(0:Int),()) (q38 x1 x2) [(⟨.int .i64,6⟩:Dyn)] [⟨.int .i64,0⟩] (fun n i ds=>R38_6 n i x0 x1 x2 ds) (fun n => ?_) (fun n i hi hok ds hr => ?_) (fun n i hi hok => ?_)
 ·cases h:x0.all (q38 x1 x2) <;> rw [h] at key <;> simpa using key
 ·rw [R38_6,if_neg (by simp)]
 ·rw [R38_6,if_pos (by simp;omega)]
  simp only [Int.toNat_natCast]
  unfold q38 at hok
  refine ⟨by omega,by omega,?_⟩
  rw [if_neg (by rw [hok];simp)]
  exact ⟨inR_up hm hi,hr⟩
 ·rw [R38_6,if_pos (by simp;omega)]
  simp only [Int.toNat_natCast]
  unfold q38 at hok
  refine ⟨by omega,by omega,?_⟩
  rw [if_pos (by rw [hok];rfl)] <;> trivial
def S38:Am.Spec:={ sig:=sig38,pre:=fun ⟨x0,x1,x2,_⟩=>P38 x0 x1 x2,res:=fun ⟨x0,x1,x2,_⟩=>[⟨.int .i64,g38_0 x0 x1 x2⟩] }
theorem con38:Contract Tryz.prog 38 S38:=contract_of Tryz.func38 hb38 (bl_ (by kernel_rfl)) (fun ⟨x0,x1,x2,_⟩ h hwf K q =>
 (snd38 _).1 x0 x1 x2 _ (top38 x0 x1 x2 hwf.1.1) K q)
end
noncomputable section
def ext67:Ext:=[(60,S60)]
theorem ext67Ok:ExtOk Tryz.prog ext67:=⟨⟨ca60,con60⟩,trivial⟩
noncomputable def b67:Code:=bodyOf Tryz.f67
theorem hb67:Tryz.f67.body=some b67:=by kernel_rfl
def sig67:List AT:=[AT.v (.int .i64)]
def tys67:List Ty:=[.bool]
def kds67:List RK:=[]
def oks67:List AT:=owns sig67
def P67 (x0:Int):Prop:=True
def g67_0 (x0:Int):Bool:=g60_0 x0 0 1440
theorem at67 (x0:Int) (h:P67 x0) (K:Ctx) (q:Nat→Value):AtV Tryz.prog 67 (PostR kds67 oks67 [⟨.bool,g67_0 x0⟩] [] [] q K) 5 K q [] [.code b67] (entE 0 0 sig67 (x0,())) (entL sig67 (x0,())):=by
 unfold P67 at h
 unfold g67_0
 exact AtV.ret Tryz.func67 tabOk ext67Ok mixed false [] tys67 [] (a1 trivial trivial) (by kernel_rfl)
def S67:Am.Spec:={ sig:=sig67,pre:=fun ⟨x0,_⟩=>P67 x0,res:=fun ⟨x0,_⟩=>[⟨.bool,g67_0 x0⟩],kds:=kds67 }
theorem con67:Contract Tryz.prog 67 S67:=contract_of Tryz.func67 hb67 (bl_ (by kernel_rfl)) (fun ⟨x0,_⟩ h _ K q=>at67 x0 h K q)
end
noncomputable section
def ext95:Ext:=[(67,S67),(60,S60)]
theorem ext95Ok:ExtOk Tryz.prog ext95:=⟨⟨ca67,con67⟩,⟨ca60,con60⟩,trivial⟩
noncomputable def b95:Code:=bodyOf Tryz.f95
theorem hb95:Tryz.f95.body=some b95:=by kernel_rfl
def sig95:List AT:=[AT.p YA11]
def tys95:List Ty:=[.bool]
def kds95:List RK:=[]
def oks95:List AT:=owns sig95
def P95 (x0:Int×Int×Unit):Prop:=(if (g67_0 x0.1)=true then (if (g60_0 x0.2.1 1 1440)=true then ((InR .i64 (x0.1+x0.2.1))∧True) else True) else True)
def g95_0 (x0:Int×Int×Unit):Bool:=(if (g67_0 x0.1)=true then (if (g60_0 x0.2.1 1 1440)=true then decide (x0.1+x0.2.1≤1440) else false) else false)
theorem at95 (x0:Int×Int×Unit) (h:P95 x0) (K:Ctx) (q:Nat→Value):AtV Tryz.prog 95 (PostR kds95 oks95 [⟨.bool,g95_0 x0⟩] [] [] q K) 27 K q [] [.code b95] (entE 0 0 sig95 (x0,())) (entL sig95 (x0,())):=by
 unfold P95 at h
 unfold g95_0
 by_cases b0:(g67_0 x0.1)=true
 ·try simp only [if_pos b0] at h ⊢
  by_cases b1:(g60_0 x0.2.1 1 1440)=true
  ·try simp only [if_pos b1] at h ⊢
   obtain ⟨s0,h⟩:=h
   exact AtV.ret Tryz.func95 tabOk ext95Ok mixed false [] tys95 [true,true] (a1 trivial (a1 b0 (a1 trivial (a1 b1 (a1 s0 trivial))))) (by kernel_rfl)
  ·try simp only [if_neg b1] at h ⊢
   replace b1:=bf_ b1
   exact AtV.ret Tryz.func95 tabOk ext95Ok mixed false [] tys95 [true,false] (a1 trivial (a1 b0 (a1 trivial (a1 b1 trivial)))) (by kernel_rfl)
 ·try simp only [if_neg b0] at h ⊢
  replace b0:=bf_ b0
  exact AtV.ret Tryz.func95 tabOk ext95Ok mixed false [] tys95 [false,false] (a1 trivial (a1 b0 (a1 (rfl:false=false) trivial))) (by kernel_rfl)
def S95:Am.Spec:={ sig:=sig95,pre:=fun ⟨x0,_⟩=>P95 x0,res:=fun ⟨x0,_⟩=>[⟨.bool,g95_0 x0⟩],kds:=kds95 }
theorem con95:Contract Tryz.prog 95 S95:=contract_of Tryz.func95 hb95 (bl_ (by kernel_rfl)) (fun ⟨x0,_⟩ h _ K q=>at95 x0 h K q)
end
noncomputable section
def ext66:Ext:=[(95,S95)]
theorem ext66Ok:ExtOk Tryz.prog ext66:=⟨⟨ca95,con95⟩,trivial⟩
noncomputable def b66:Code:=bodyOf Tryz.f66
theorem hb66:Tryz.f66.body=some b66:=by kernel_rfl
def sig66:List AT:=[AT.v (.sl YA11)]
def tys66:List Ty:=[.bool]
def kds66:List RK:=[]
def oks66:List AT:=owns sig66
def E66_2 (v3:Int) (x0:List TyB4):Env:=[(0,.a (.sl YA11 x0)),(3,.a (.val (.int .i64 v3)))]
def L66_2 (v3:Int) (x0:List TyB4):Heap:=[]
mutual
def R66:Nat→List TyB4→List Dyn→Prop
 | 0,_,_=>False
 | n+1,x0,ds=>(R66_2 n (0) (x0) ds)
def R66_2:Nat→Int→List TyB4→List Dyn→Prop
 | 0,_,_,_=>False
 | n+1,v3,x0,ds=>(if (decide (v3<(x0.length:Int)))=true then ((0≤v3)∧(v3<(x0.length:Int))∧((P95 (List.getD x0 (Int.toNat v3) (0,0,())))∧(if (!g95_0 (List.getD x0 (Int.toNat v3) (0,0,())))=true then (ds=[Dyn.mk .bool false]) else (if (decide (v3>0))=true then ((InR .i64 (v3 - 1))∧((0≤v3 - 1)∧(v3 - 1<(x0.length:Int))∧((InR .i64 (v3 - 1))∧((0≤v3 - 1)∧(v3 - 1<(x0.length:Int))∧((InR .i64 ((List.getD x0 (Int.toNat (v3 - 1)) (0,0,())).1+(List.getD x0 (Int.toNat (v3 - 1)) (0,0,())).2.1))∧((0≤v3)∧(v3<(x0.length:Int))∧(if (decide ((List.getD x0 (Int.toNat (v3 - 1)) (0,0,())).1+(List.getD x0 (Int.toNat (v3 - 1)) (0,0,())).2.1>(List.getD x0 (Int.toNat v3) (0,0,())).1))=true then (ds=[Dyn.mk .bool false]) else ((InR .i64 (v3+1))∧(R66_2 n (v3+1) (x0) ds))))))))) else ((InR .i64 (v3+1))∧(R66_2 n (v3+1) (x0) ds)))))) else (ds=[Dyn.mk .bool (decide ((x0.length:Int)≤24))]))
end
theorem snd66:∀ n,(∀ (x0:List TyB4) ds,R66 n x0 ds→∀ K q,AtV Tryz.prog 66 (PostR kds66 oks66 ds [] [] q K) 43 K q [] [.code b66] (entE 0 0 sig66 (x0,())) (entL sig66 (x0,())))∧(∀ (v3:Int) (x0:List TyB4) ds,R66_2 n v3 x0 ds→∀ K q,AtV Tryz.prog 66 (PostR kds66 oks66 ds [] [] q K) 43 K q [] (cutAt b66 2) (E66_2 v3 x0) (L66_2 v3 x0)):=by
 intro n
 induction n with
 | zero=>exact ⟨fun _ _ h=>by simp only [R66] at h,fun _ _ _ h=>by simp only [R66_2] at h⟩
 | succ n ih =>
 obtain ⟨ih,ih2⟩:=ih
 refine ⟨?_,?_⟩
 ·intro x0 ds h K q
  rw [R66] at h
  exact AtV.go tabOk ext66Ok mixed false [] [] [0,3] [] [] trivial (ih2 _ _ _ h K q) (by kernel_rfl)
 ·intro v3 x0 ds h K q
  rw [R66_2] at h
  by_cases b0:(decide (v3<(x0.length:Int)))=true
  ·rw [if_pos b0] at h
   obtain ⟨s0,s1,h⟩:=h
   obtain ⟨s2,h⟩:=h
   by_cases b1:(!g95_0 (List.getD x0 (Int.toNat v3) (0,0,())))=true
   ·rw [if_pos b1] at h
    subst h
    exact AtV.ret Tryz.func66 tabOk ext66Ok mixed false [] tys66 [true,true,true] (a1 b0 (a1 s0 (a1 s1 (a1 s2 (a1 b1 (a1 (rfl:true=true) trivial)))))) (by kernel_rfl)
   ·rw [if_neg b1] at h
    replace b1:=bf_ b1
    by_cases b2:(decide (v3>0))=true
    ·rw [if_pos b2] at h
     obtain ⟨s3,h⟩:=h
     obtain ⟨s4,s5,h⟩:=h
     obtain ⟨s6,h⟩:=h
     obtain ⟨s7,s8,h⟩:=h
     obtain ⟨s9,h⟩:=h
     obtain ⟨s10,s11,h⟩:=h
     by_cases b3:(decide ((List.getD x0 (Int.toNat (v3 - 1)) (0,0,())).1+(List.getD x0 (Int.toNat (v3 - 1)) (0,0,())).2.1>(List.getD x0 (Int.toNat v3) (0,0,())).1))=true
     ·rw [if_pos b3] at h
      subst h
      exact AtV.ret Tryz.func66 tabOk ext66Ok mixed false [] tys66 [true,false,true,true] (a1 b0 (a1 s0 (a1 s1 (a1 s2 (a1 b1 (a1 b2 (a1 s3 (a1 s4 (a1 s5 (a1 s6 (a1 s7 (a1 s8 (a1 s9 (a1 s10 (a1 s11 (a1 b3 trivial)))))))))))))))) (by kernel_rfl)
     ·rw [if_neg b3] at h
      replace b3:=bf_ b3
      obtain ⟨s12,h⟩:=h
      exact AtV.go tabOk ext66Ok mixed false [] [] [0,3] [] [true,false,true,false] (a1 b0 (a1 s0 (a1 s1 (a1 s2 (a1 b1 (a1 b2 (a1 s3 (a1 s4 (a1 s5 (a1 s6 (a1 s7 (a1 s8 (a1 s9 (a1 s10 (a1 s11 (a1 b3 (a1 s12 trivial))))))))))))))))) (ih2 _ _ _ h K q) (by kernel_rfl)
    ·rw [if_neg b2] at h
     replace b2:=bf_ b2
     obtain ⟨s3,h⟩:=h
     exact AtV.go tabOk ext66Ok mixed false [] [] [0,3] [] [true,false,false,false] (a1 b0 (a1 s0 (a1 s1 (a1 s2 (a1 b1 (a1 b2 (a1 (rfl:false=false) (a1 s3 trivial)))))))) (ih2 _ _ _ h K q) (by kernel_rfl)
  ·rw [if_neg b0] at h
   replace b0:=bf_ b0
   subst h
   exact AtV.ret Tryz.func66 tabOk ext66Ok mixed false [] tys66 [false] (a1 b0 trivial) (by kernel_rfl)
def one66 (x:TyB4):Bool:=g95_0 x
def ok66 (x0:List TyB4) (i:Nat) (x:TyB4):Bool:=one66 x&&(i==0||decide ((x0.getD (i - 1) ((0:Int),(0:Int),())).1+(x0.getD (i - 1) ((0:Int),(0:Int),())).2.1≤x.1))
def g66_0 (x0:List TyB4):Bool:=allI (ok66 x0) 0 x0&&decide ((x0.length:Int)≤24)
def P66 (x0:List TyB4):Prop:=True
theorem in66 {x a b:Int}:g60_0 x a b=true↔a≤x∧x≤b:=by
 unfold g60_0
 by_cases c1:x≥a
 ·by_cases c2:x≤b
  ·simp [c1,c2]
  ·simp [c1,c2]
 ·have:¬ a≤x:=c1
  simp [c1,this]
theorem one66_pre (x:TyB4):P95 x:=by
 unfold P95
 split
 ·rename_i h1
  split
  ·rename_i h2
   have h1:=in66.1 (show g60_0 x.1 0 1440=true from h1)
   have h2:=in66.1 (show g60_0 x.2.1 1 1440=true from h2)
   exact ⟨by rw [i64_iff];omega,trivial⟩
  ·trivial
 ·trivial
theorem one66_b {x:TyB4} (h:one66 x=true):(0≤x.1∧x.1≤1440)∧(1≤x.2.1∧x.2.1≤1440):=by
 unfold one66 g95_0 at h
 split at h
 ·rename_i h0
  split at h
  ·rename_i h1
   exact ⟨in66.1 h0,in66.1 h1⟩
  ·cases h
 ·cases h
theorem run66 (x0:List TyB4) (hm:x0.length≤maxLen):∀ (k i:Nat),i+k=x0.length→(∀ j,j<i→one66 (x0.getD j ((0:Int),(0:Int),()))=true) →
  R66_2 (k+1) (i:Int) x0 [⟨.bool,allI (ok66 x0) i (x0.drop i)&&decide ((x0.length:Int)≤24)⟩]:=by
 intro k
 induction k with
 | zero =>
  intro i hi _
  rw [R66_2,if_neg (by simp only [decide_eq_true_eq];omega),drop_end _ _ (by omega)]
  rfl
 | succ k ih =>
  intro i hi hp
  have hlt:i<x0.length:=by omega
  have hu:=inR_up hm hlt
  have hmx:maxLen≤9223372036854775807:=by decide
  rw [R66_2,if_pos (by simp only [decide_eq_true_eq];omega),drop_get x0 i ((0:Int),(0:Int),()) hlt]
  simp only [Int.toNat_natCast,allI]
  refine ⟨by omega,by omega,one66_pre _,?_⟩
  cases h1:one66 (x0.getD i ((0:Int),(0:Int),())) with
  | false =>
   unfold one66 at h1
   rw [if_pos (by rw [h1];rfl)]
   have:ok66 x0 i (x0.getD i ((0:Int),(0:Int),()))=false:=by unfold ok66 one66;rw [h1];rfl
   rw [this];rfl
  | true =>
   have h1':=h1
   unfold one66 at h1
   rw [if_neg (by rw [h1];simp)]
   have hnext:=ih (i+1) (by omega) (fun j hj=>by
    rcases Nat.lt_or_ge j i with h | h
    ·exact hp j h
    ·have:j=i:=by omega
     subst this;exact h1')
   have e1:(((i+1:Nat)):Int)=(i:Int)+1:=by omega
   rw [e1] at hnext
   by_cases h0:(i:Int)>0
   ·rw [if_pos (by simpa using h0)]
    have hi0:(i==0)=false:=by simp;omega
    have e:((i:Int) - 1).toNat=i - 1:=by omega
    obtain ⟨b1,b2⟩:=one66_b (hp (i - 1) (by omega))
    have hd:InR .i64 ((i:Int) - 1):=by rw [i64_iff];omega
    simp only [e]
    refine ⟨hd,by omega,by omega,hd,by omega,by omega,by rw [i64_iff];omega,by omega,by omega,?_⟩
    by_cases hc:(x0.getD (i - 1) ((0:Int),(0:Int),())).1+(x0.getD (i - 1) ((0:Int),(0:Int),())).2.1≤(x0.getD i ((0:Int),(0:Int),())).1
    ·rw [if_neg (by show ¬ decide ((x0.getD (i - 1) ((0:Int),(0:Int),())).1+(x0.getD (i - 1) ((0:Int),(0:Int),())).2.1>(x0.getD i ((0:Int),(0:Int),())).1)=true;rw [decide_eq_true_eq];omega)]
     have:ok66 x0 i (x0.getD i ((0:Int),(0:Int),()))=true:=by unfold ok66;rw [h1',hi0,decide_eq_true hc];rfl
     rw [this,Bool.true_and]
     exact ⟨hu,hnext⟩
    ·rw [if_pos (by show decide ((x0.getD (i - 1) ((0:Int),(0:Int),())).1+(x0.getD (i - 1) ((0:Int),(0:Int),())).2.1>(x0.getD i ((0:Int),(0:Int),())).1)=true;rw [decide_eq_true_eq];omega)]
     have:ok66 x0 i (x0.getD i ((0:Int),(0:Int),()))=false:=by unfold ok66;rw [hi0,decide_eq_false hc,Bool.or_false,Bool.and_false]
     rw [this,Bool.false_and,Bool.false_and]
   ·rw [if_neg (by simpa using h0)]
    have hi0:(i==0)=true:=by simp;omega
    have:ok66 x0 i (x0.getD i ((0:Int),(0:Int),()))=true:=by unfold ok66;rw [h1',hi0];rfl
    rw [this,Bool.true_and]
    exact ⟨hu,hnext⟩
theorem top66 (x0:List TyB4) (hw:x0.length≤maxLen):R66 (x0.length+1+1) x0 [⟨.bool,g66_0 x0⟩]:=by
 rw [R66]
 exact run66 x0 hw x0.length 0 (by omega) (fun j hj=>by omega)
def S66:Am.Spec:={ sig:=sig66,pre:=fun ⟨x0,_⟩=>P66 x0,res:=fun ⟨x0,_⟩=>[⟨.bool,g66_0 x0⟩] }
theorem con66:Contract Tryz.prog 66 S66:=contract_of Tryz.func66 hb66 (bl_ (by kernel_rfl)) (fun ⟨x0,_⟩ h hwf K q =>
 (snd66 _).1 x0 _ (top66 x0 hwf.1.1) K q)
end
noncomputable section
def ext39:Ext:=[(66,S66),(67,S67)]
theorem ext39Ok:ExtOk Tryz.prog ext39:=⟨⟨ca66,con66⟩,⟨ca67,con67⟩,trivial⟩
noncomputable def b39:Code:=bodyOf Tryz.f39
theorem hb39:Tryz.f39.body=some b39:=by kernel_rfl
def sig39:List AT:=[AT.v (.sl YA11),AT.v (.int .i64)]
def tys39:List Ty:=[.int .i64]
def kds39:List RK:=[]
def oks39:List AT:=owns sig39
def P39 (x0:List TyB4) (x1:Int):Prop:=True
def g39_0 (x0:List TyB4) (x1:Int):Int:=(if (!g66_0 x0)=true then 1 else (if (!g67_0 x1)=true then 2 else 0))
theorem at39 (x0:List TyB4) (x1:Int) (h:P39 x0 x1) (K:Ctx) (q:Nat→Value):AtV Tryz.prog 39 (PostR kds39 oks39 [⟨.int .i64,g39_0 x0 x1⟩] [] [] q K) 11 K q [] [.code b39] (entE 0 0 sig39 (x0,x1,())) (entL sig39 (x0,x1,())):=by
 unfold P39 at h
 unfold g39_0
 by_cases b0:(!g66_0 x0)=true
 ·try simp only [if_pos b0] at h ⊢
  exact AtV.ret Tryz.func39 tabOk ext39Ok mixed false [] tys39 [true] (a1 trivial (a1 b0 trivial)) (by kernel_rfl)
 ·try simp only [if_neg b0] at h ⊢
  replace b0:=bf_ b0
  by_cases b1:(!g67_0 x1)=true
  ·try simp only [if_pos b1] at h ⊢
   exact AtV.ret Tryz.func39 tabOk ext39Ok mixed false [] tys39 [false,true] (a1 trivial (a1 b0 (a1 trivial (a1 b1 trivial)))) (by kernel_rfl)
  ·try simp only [if_neg b1] at h ⊢
   replace b1:=bf_ b1
   exact AtV.ret Tryz.func39 tabOk ext39Ok mixed false [] tys39 [false,false] (a1 trivial (a1 b0 (a1 trivial (a1 b1 trivial)))) (by kernel_rfl)
def S39:Am.Spec:={ sig:=sig39,pre:=fun ⟨x0,x1,_⟩=>P39 x0 x1,res:=fun ⟨x0,x1,_⟩=>[⟨.int .i64,g39_0 x0 x1⟩],kds:=kds39 }
theorem con39:Contract Tryz.prog 39 S39:=contract_of Tryz.func39 hb39 (bl_ (by kernel_rfl)) (fun ⟨x0,x1,_⟩ h _ K q=>at39 x0 x1 h K q)
end
noncomputable section
def ext118:Ext:=[]
theorem ext118Ok:ExtOk Tryz.prog ext118:=trivial
noncomputable def b118:Code:=bodyOf Tryz.f118
theorem hb118:Tryz.f118.body=some b118:=by kernel_rfl
def sig118:List AT:=[AT.v (.str),AT.v (.int .u8)]
def tys118:List Ty:=[.sl .str]
def kds118:List RK:=[]
def oks118:List AT:=owns sig118
def E118_4 (v6:Int) (v7:Int) (h0:List ByteArray) (x0:ByteArray) (x1:Int):Env:=[(0,.a (.val (.string x0))),(1,.a (.val (.int .u8 x1))),(5,.a (.osl 0 Option.none)),(6,.a (.val (.int .i64 v6))),(7,.a (.val (.int .i64 v7)))]
def L118_4 (v6:Int) (v7:Int) (h0:List ByteArray) (x0:ByteArray) (x1:Int):Heap:=[Option.some (Arr.mk .str h0 false Option.none Option.none)]
mutual
def R118:Nat→ByteArray→Int→List Dyn→Prop
 | 0,_,_,_=>False
 | n+1,x0,x1,ds=>(R118_4 n (0) (0) ([]) (x0) (x1) ds)
def R118_4:Nat→Int→Int→List ByteArray→ByteArray→Int→List Dyn→Prop
 | 0,_,_,_,_,_,_=>False
 | n+1,v6,v7,h0,x0,x1,ds=>(if (decide (v7<(↑(ByteArray.size x0):Int)))=true then ((0≤v7)∧(v7<(↑(ByteArray.size x0):Int))∧(if ((↑(UInt8.toNat (List.getD (Array.toList (ByteArray.data x0)) (Int.toNat v7) 0)):Int)==x1)=true then ((0≤v6)∧(v6≤v7)∧(v7≤(↑(ByteArray.size x0):Int))∧(((List.length h0+1)*16≤140737488355328)∧((InR .i64 (v7+1))∧((InR .i64 (v7+1))∧(R118_4 n (v7+1) (v7+1) (h0++[ByteArray.extract x0 (Int.toNat v6) (Int.toNat v7)]) (x0) (x1) ds))))) else ((InR .i64 (v7+1))∧(R118_4 n (v6) (v7+1) (h0) (x0) (x1) ds)))) else ((0≤v6)∧(v6≤(↑(ByteArray.size x0):Int))∧(((List.length h0+1)*16≤140737488355328)∧(ds=[Dyn.mk (.sl .str) (h0++[ByteArray.extract x0 (Int.toNat v6) (Int.toNat (↑(ByteArray.size x0):Int))])]))))
end
theorem snd118:∀ n,(∀ (x0:ByteArray) (x1:Int) ds,R118 n x0 x1 ds→∀ K q,AtV Tryz.prog 118 (PostR kds118 oks118 ds [] [] q K) 35 K q [] [.code b118] (entE 0 0 sig118 (x0,x1,())) (entL sig118 (x0,x1,())))∧(∀ (v6:Int) (v7:Int) (h0:List ByteArray) (x0:ByteArray) (x1:Int) ds,R118_4 n v6 v7 h0 x0 x1 ds→∀ K q,AtV Tryz.prog 118 (PostR kds118 oks118 ds [] [] q K) 35 K q [] (cutAt b118 4) (E118_4 v6 v7 h0 x0 x1) (L118_4 v6 v7 h0 x0 x1)):=by
 intro n
 induction n with
 | zero=>exact ⟨fun _ _ _ h=>by simp only [R118] at h,fun _ _ _ _ _ _ h=>by simp only [R118_4] at h⟩
 | succ n ih =>
 obtain ⟨ih,ih4⟩:=ih
 refine ⟨?_,?_⟩
 ·intro x0 x1 ds h K q
  rw [R118] at h
  exact AtV.go tabOk ext118Ok mixed false [] [] [0,1,5,6,7] [0] [] trivial (ih4 _ _ _ _ _ _ h K q) (by kernel_rfl)
 ·intro v6 v7 h0 x0 x1 ds h K q
  rw [R118_4] at h
  by_cases b0:(decide (v7<(↑(ByteArray.size x0):Int)))=true
  ·rw [if_pos b0] at h
   obtain ⟨s0,s1,h⟩:=h
   by_cases b1:((↑(UInt8.toNat (List.getD (Array.toList (ByteArray.data x0)) (Int.toNat v7) 0)):Int)==x1)=true
   ·rw [if_pos b1] at h
    obtain ⟨s2,s3,s4,h⟩:=h
    obtain ⟨s5,h⟩:=h
    obtain ⟨s6,h⟩:=h
    obtain ⟨s7,h⟩:=h
    exact AtV.go tabOk ext118Ok mixed false [] [] [0,1,5,6,7] [0] [true,true] (a1 b0 (a1 s0 (a1 s1 (a1 b1 (a1 s2 (a1 s3 (a1 s4 (a1 s5 (a1 s6 (a1 s7 trivial)))))))))) (ih4 _ _ _ _ _ _ h K q) (by kernel_rfl)
   ·rw [if_neg b1] at h
    replace b1:=bf_ b1
    obtain ⟨s2,h⟩:=h
    exact AtV.go tabOk ext118Ok mixed false [] [] [0,1,5,6,7] [0] [true,false] (a1 b0 (a1 s0 (a1 s1 (a1 b1 (a1 s2 trivial))))) (ih4 _ _ _ _ _ _ h K q) (by kernel_rfl)
  ·rw [if_neg b0] at h
   replace b0:=bf_ b0
   obtain ⟨s0,s1,h⟩:=h
   obtain ⟨s2,h⟩:=h
   subst h
   exact AtV.ret Tryz.func118 tabOk ext118Ok mixed false [] tys118 [false] (a1 b0 (a1 s0 (a1 s1 (a1 s2 trivial)))) (by kernel_rfl)
def c118 (x1:Int):UInt8:=UInt8.ofNat x1.toNat
def g118_0 (x0:ByteArray) (x1:Int):List ByteArray:=bss (splitC (c118 x1) x0.data.toList)
def P118 (x0:ByteArray) (x1:Int):Prop:=x0.size<4294967281∧0≤x1∧x1≤255
theorem run118 (x0:ByteArray) (x1:Int) (hs:x0.size<4294967281) (h0:0≤x1) (h1:x1≤255):∀ (k i frm:Nat) (h:List ByteArray),i+k=x0.size→frm≤i→c118 x1 ∉ (x0.data.toList.drop frm).take (i - frm)→h.length≤i →
  R118_4 (k+1) (frm:Int) (i:Int) h x0 x1 [⟨.sl .str,h++bss (splitC (c118 x1) (x0.data.toList.drop frm))⟩]:=by
 intro k
 have hll:x0.data.toList.length=x0.size:=rfl
 induction k with
 | zero =>
  intro i frm h hi hf hc hl
  rw [R118_4,if_neg (by simp;omega)]
  refine ⟨by omega,by omega,by omega,?_⟩
  have e:(x0.data.toList.drop frm).take (i - frm)=x0.data.toList.drop frm:=List.take_of_length_le (by rw [List.length_drop];omega)
  rw [e] at hc
  rw [splitC_free _ hc,Int.toNat_natCast,Int.toNat_natCast,Lib.extract_from]
  rfl
 | succ k ih =>
  intro i frm h hi hf hc hl
  have hup:InR .i64 ((i:Int)+1):=by rw [i64_iff];omega
  have hlt:i<x0.data.toList.length:=by rw [hll];omega
  have hcons:x0.data.toList.drop i=x0.data.toList.getD i 0 :: x0.data.toList.drop (i+1):=drop_get _ i 0 hlt
  have hsplit:x0.data.toList.drop frm=(x0.data.toList.drop frm).take (i - frm)++x0.data.toList.drop i:=by
   conv=>lhs;rw [← List.take_append_drop (i - frm) (x0.data.toList.drop frm)]
   rw [List.drop_drop,show frm+(i - frm)=i by omega]
  rw [R118_4,if_pos (by simp;omega)]
  simp only [Int.toNat_natCast]
  refine ⟨by omega,by omega,?_⟩
  have hb:(((x0.data.toList.getD i 0).toNat:Int)==x1)=true↔x0.data.toList.getD i 0=c118 x1:=by
   have hlt':=(x0.data.toList.getD i 0).toNat_lt
   rw [beq_iff_eq, ← UInt8.toNat_inj]
   unfold c118
   have:(UInt8.ofNat x1.toNat).toNat=x1.toNat:=by rw [UInt8.toNat_ofNat'];omega
   rw [this]
   omega
  by_cases he:x0.data.toList.getD i 0=c118 x1
  ·rw [if_pos (hb.2 he)]
   refine ⟨by omega,by omega,by omega,by omega,hup,hup,?_⟩
   have:=ih (i+1) (i+1) (h++[x0.extract frm i]) (by omega) (Nat.le_refl _) (by simp) (by simp;omega)
   have e2:x0.extract frm i=⟨((x0.data.toList.drop frm).take (i - frm)).toArray⟩:=Lib.extract_mk x0.data.toList frm i
   have e3:splitC (c118 x1) (x0.data.toList.drop frm)=(x0.data.toList.drop frm).take (i - frm) :: splitC (c118 x1) (x0.data.toList.drop (i+1)):=by
    conv=>lhs;rw [hsplit,hcons,he]
    exact splitC_hit _ _ hc
   rw [e3,e2]
   rw [List.append_assoc,e2] at this
   exact this
  ·rw [if_neg (fun hh=>he (hb.1 hh))]
   refine ⟨hup,?_⟩
   refine ih (i+1) frm h (by omega) (by omega) (fun hm => ?_) (by omega)
   have e4:(x0.data.toList.drop frm).take (i+1 - frm)=(x0.data.toList.drop frm).take (i - frm)++[x0.data.toList.getD i 0]:=by
    conv=>lhs;rw [hsplit,hcons]
    rw [List.take_append,List.take_of_length_le (by rw [List.length_take,List.length_drop];omega)]
    have:i+1 - frm - ((x0.data.toList.drop frm).take (i - frm)).length=1:=by rw [List.length_take,List.length_drop];omega
    rw [this]
    rfl
   rw [e4] at hm
   rcases List.mem_append.1 hm with hm | hm
   ·exact hc hm
   ·exact he (List.mem_singleton.1 hm).symm
theorem top118 (x0:ByteArray) (x1:Int) (h:P118 x0 x1):R118 (x0.size+1+1) x0 x1 [⟨.sl .str,g118_0 x0 x1⟩]:=by
 rw [R118]
 have:=run118 x0 x1 h.1 h.2.1 h.2.2 x0.size 0 0 [] (by omega) (Nat.le_refl _) (by simp) (by simp)
 simpa [g118_0] using this
def S118:Am.Spec:={ sig:=sig118,pre:=fun ⟨x0,x1,_⟩=>P118 x0 x1,res:=fun ⟨x0,x1,_⟩=>[⟨.sl .str,g118_0 x0 x1⟩] }
theorem con118:Contract Tryz.prog 118 S118:=contract_of Tryz.func118 hb118 (bl_ (by kernel_rfl)) (fun ⟨x0,x1,_⟩ h hwf K q =>
 (snd118 _).1 x0 x1 _ (top118 x0 x1 h) K q)
end
noncomputable section
def ext119:Ext:=[(117,S117)]
theorem ext119Ok:ExtOk Tryz.prog ext119:=⟨⟨ca117,con117⟩,trivial⟩
noncomputable def b119:Code:=bodyOf Tryz.f119
theorem hb119:Tryz.f119.body=some b119:=by kernel_rfl
def sig119:List AT:=[AT.v (.str)]
def tys119:List Ty:=[.bool]
def kds119:List RK:=[]
def oks119:List AT:=owns sig119
def E119_2 (v3:Int) (x0:ByteArray):Env:=[(0,.a (.val (.string x0))),(3,.a (.val (.int .i64 v3)))]
def L119_2 (v3:Int) (x0:ByteArray):Heap:=[]
mutual
def R119:Nat→ByteArray→List Dyn→Prop
 | 0,_,_=>False
 | n+1,x0,ds=>(R119_2 n (0) (x0) ds)
def R119_2:Nat→Int→ByteArray→List Dyn→Prop
 | 0,_,_,_=>False
 | n+1,v3,x0,ds=>(if (decide (v3<(↑(ByteArray.size x0):Int)))=true then ((0≤v3)∧(v3<(↑(ByteArray.size x0):Int))∧(if (!g117_0 (↑(UInt8.toNat (List.getD (Array.toList (ByteArray.data x0)) (Int.toNat v3) 0)):Int))=true then ((0≤v3)∧(v3<(↑(ByteArray.size x0):Int))∧(if (decide ((↑(UInt8.toNat (List.getD (Array.toList (ByteArray.data x0)) (Int.toNat v3) 0)):Int)<97))=true then (ds=[Dyn.mk .bool false]) else ((0≤v3)∧(v3<(↑(ByteArray.size x0):Int))∧(if (decide ((↑(UInt8.toNat (List.getD (Array.toList (ByteArray.data x0)) (Int.toNat v3) 0)):Int)>122))=true then (ds=[Dyn.mk .bool false]) else ((InR .i64 (v3+1))∧(R119_2 n (v3+1) (x0) ds)))))) else ((InR .i64 (v3+1))∧(R119_2 n (v3+1) (x0) ds)))) else (ds=[Dyn.mk .bool (decide ((↑(ByteArray.size x0):Int)>0))]))
end
theorem snd119:∀ n,(∀ (x0:ByteArray) ds,R119 n x0 ds→∀ K q,AtV Tryz.prog 119 (PostR kds119 oks119 ds [] [] q K) 30 K q [] [.code b119] (entE 0 0 sig119 (x0,())) (entL sig119 (x0,())))∧(∀ (v3:Int) (x0:ByteArray) ds,R119_2 n v3 x0 ds→∀ K q,AtV Tryz.prog 119 (PostR kds119 oks119 ds [] [] q K) 30 K q [] (cutAt b119 2) (E119_2 v3 x0) (L119_2 v3 x0)):=by
 intro n
 induction n with
 | zero=>exact ⟨fun _ _ h=>by simp only [R119] at h,fun _ _ _ h=>by simp only [R119_2] at h⟩
 | succ n ih =>
 obtain ⟨ih,ih2⟩:=ih
 refine ⟨?_,?_⟩
 ·intro x0 ds h K q
  rw [R119] at h
  exact AtV.go tabOk ext119Ok mixed false [] [] [0,3] [] [] trivial (ih2 _ _ _ h K q) (by kernel_rfl)
 ·intro v3 x0 ds h K q
  rw [R119_2] at h
  by_cases b0:(decide (v3<(↑(ByteArray.size x0):Int)))=true
  ·rw [if_pos b0] at h
   obtain ⟨s0,s1,h⟩:=h
   by_cases b1:(!g117_0 (↑(UInt8.toNat (List.getD (Array.toList (ByteArray.data x0)) (Int.toNat v3) 0)):Int))=true
   ·rw [if_pos b1] at h
    obtain ⟨s2,s3,h⟩:=h
    by_cases b2:(decide ((↑(UInt8.toNat (List.getD (Array.toList (ByteArray.data x0)) (Int.toNat v3) 0)):Int)<97))=true
    ·rw [if_pos b2] at h
     subst h
     exact AtV.ret Tryz.func119 tabOk ext119Ok mixed false [] tys119 [true,true,true,true] (a1 b0 (a1 s0 (a1 s1 (a1 trivial (a1 b1 (a1 s2 (a1 s3 (a1 b2 (a1 (rfl:true=true) trivial))))))))) (by kernel_rfl)
    ·rw [if_neg b2] at h
     replace b2:=bf_ b2
     obtain ⟨s4,s5,h⟩:=h
     by_cases b3:(decide ((↑(UInt8.toNat (List.getD (Array.toList (ByteArray.data x0)) (Int.toNat v3) 0)):Int)>122))=true
     ·rw [if_pos b3] at h
      subst h
      exact AtV.ret Tryz.func119 tabOk ext119Ok mixed false [] tys119 [true,true,false,true] (a1 b0 (a1 s0 (a1 s1 (a1 trivial (a1 b1 (a1 s2 (a1 s3 (a1 b2 (a1 s4 (a1 s5 (a1 b3 trivial))))))))))) (by kernel_rfl)
     ·rw [if_neg b3] at h
      replace b3:=bf_ b3
      obtain ⟨s6,h⟩:=h
      exact AtV.go tabOk ext119Ok mixed false [] [] [0,3] [] [true,true,false,false] (a1 b0 (a1 s0 (a1 s1 (a1 trivial (a1 b1 (a1 s2 (a1 s3 (a1 b2 (a1 s4 (a1 s5 (a1 b3 (a1 s6 trivial)))))))))))) (ih2 _ _ _ h K q) (by kernel_rfl)
   ·rw [if_neg b1] at h
    replace b1:=bf_ b1
    obtain ⟨s2,h⟩:=h
    exact AtV.go tabOk ext119Ok mixed false [] [] [0,3] [] [true,false,false] (a1 b0 (a1 s0 (a1 s1 (a1 trivial (a1 b1 (a1 (rfl:false=false) (a1 s2 trivial))))))) (ih2 _ _ _ h K q) (by kernel_rfl)
  ·rw [if_neg b0] at h
   replace b0:=bf_ b0
   subst h
   exact AtV.ret Tryz.func119 tabOk ext119Ok mixed false [] tys119 [false] (a1 b0 trivial) (by kernel_rfl)
def ok119 (b:Int):Bool:=g117_0 b||(decide (97≤b)&&decide (b≤122))
def g119_0 (x0:ByteArray):Bool:=(bytesOf x0).all ok119&&decide ((x0.size:Int)>0)
def P119 (x0:ByteArray):Prop:=True
theorem top119 (x0:ByteArray) (hw:Wf .str x0):R119 (x0.size+1+1) x0 [⟨.bool,g119_0 x0⟩]:=by
 have hl:=bytesOf_length x0
 rw [R119]
 have key:=loop_test (bytesOf x0) 0 ok119 [(⟨.bool,false⟩:Dyn)] [⟨.bool,decide ((x0.size:Int)>0)⟩] (fun n i ds=>R119_2 n i x0 ds) (fun n => ?_) (fun n i hi hok ds hr => ?_) (fun n i hi hok => ?_)
 ·rw [hl] at key
  unfold g119_0
  cases h:(bytesOf x0).all ok119 <;> rw [h] at key <;> simpa using key
 ·show R119_2 (n+1) ((bytesOf x0).length:Int) x0 _
  rw [R119_2,hl,if_neg (by simp)]
 ·have hu:=inR_up (xs:=bytesOf x0) (by rw [hl];exact hw) hi
  rw [R119_2,if_pos (by simp;omega)]
  simp only [Int.toNat_natCast,byte_get]
  generalize (bytesOf x0).getD i 0=c at *
  unfold ok119 at hok
  refine ⟨by omega,by omega,?_⟩
  by_cases hd:g117_0 c=true
  ·rw [if_neg (by rw [hd];simp)]
   exact ⟨hu,hr⟩
  ·rw [bf_ hd] at hok
   simp only [Bool.false_or,Bool.and_eq_true,decide_eq_true_eq] at hok
   rw [if_pos (by rw [bf_ hd];rfl)]
   refine ⟨by omega,by omega,?_⟩
   rw [if_neg (by simp only [decide_eq_true_eq];omega)]
   refine ⟨by omega,by omega,?_⟩
   rw [if_neg (by simp only [decide_eq_true_eq];omega)]
   exact ⟨hu,hr⟩
 ·rw [R119_2,if_pos (by simp;omega)]
  simp only [Int.toNat_natCast,byte_get]
  generalize (bytesOf x0).getD i 0=c at *
  unfold ok119 at hok
  refine ⟨by omega,by omega,?_⟩
  simp only [Bool.or_eq_false_iff] at hok
  obtain ⟨hd,h2⟩:=hok
  rw [if_pos (by rw [hd];rfl)]
  refine ⟨by omega,by omega,?_⟩
  by_cases h1:c<97
  ·rw [if_pos (by simpa using h1)] <;> trivial
  ·rw [if_neg (by simpa using h1)]
   refine ⟨by omega,by omega,?_⟩
   rw [if_pos (by
    simp only [Bool.and_eq_false_iff,decide_eq_false_iff_not] at h2
    simp only [decide_eq_true_eq];omega)] <;> trivial
def S119:Am.Spec:={ sig:=sig119,pre:=fun ⟨x0,_⟩=>P119 x0,res:=fun ⟨x0,_⟩=>[⟨.bool,g119_0 x0⟩] }
theorem con119:Contract Tryz.prog 119 S119:=contract_of Tryz.func119 hb119 (bl_ (by kernel_rfl)) (fun ⟨x0,_⟩ h hwf K q =>
 (snd119 _).1 x0 _ (top119 x0 hwf.1) K q)
end
noncomputable section
def ext96:Ext:=[(118,S118),(119,S119)]
theorem ext96Ok:ExtOk Tryz.prog ext96:=⟨⟨ca118,con118⟩,⟨ca119,con119⟩,trivial⟩
noncomputable def b96:Code:=bodyOf Tryz.f96
theorem hb96:Tryz.f96.body=some b96:=by kernel_rfl
def sig96:List AT:=[AT.v (.str)]
def tys96:List Ty:=[.bool]
def kds96:List RK:=[]
def oks96:List AT:=owns sig96
def E96_5 (v4:Int) (x0:ByteArray):Env:=[(3,.a (.osl 0 Option.none)),(4,.a (.val (.int .i64 v4)))]
def L96_5 (v4:Int) (x0:ByteArray):Heap:=[Option.some (Arr.mk .str (g118_0 x0 32) false Option.none Option.none)]
mutual
def R96:Nat→ByteArray→List Dyn→Prop
 | 0,_,_=>False
 | n+1,x0,ds=>(if ((↑(ByteArray.size x0):Int)==0)=true then (ds=[Dyn.mk .bool false]) else (if (decide ((↑(ByteArray.size x0):Int)>40))=true then (ds=[Dyn.mk .bool false]) else ((P118 x0 32)∧(R96_5 n (0) (x0) ds))))
def R96_5:Nat→Int→ByteArray→List Dyn→Prop
 | 0,_,_,_=>False
 | n+1,v4,x0,ds=>(if (decide (v4<(↑(List.length (g118_0 x0 32)):Int)))=true then ((0≤v4)∧(v4<(↑(List.length (g118_0 x0 32)):Int))∧(if (!g119_0 (List.getD (g118_0 x0 32) (Int.toNat v4) ByteArray.empty))=true then (ds=[Dyn.mk .bool false]) else ((InR .i64 (v4+1))∧(R96_5 n (v4+1) (x0) ds)))) else (ds=[Dyn.mk .bool true]))
end
theorem snd96:∀ n,(∀ (x0:ByteArray) ds,R96 n x0 ds→∀ K q,AtV Tryz.prog 96 (PostR kds96 oks96 ds [] [] q K) 27 K q [] [.code b96] (entE 0 0 sig96 (x0,())) (entL sig96 (x0,())))∧(∀ (v4:Int) (x0:ByteArray) ds,R96_5 n v4 x0 ds→∀ K q,AtV Tryz.prog 96 (PostR kds96 oks96 ds [] [] q K) 27 K q [] (cutAt b96 5) (E96_5 v4 x0) (L96_5 v4 x0)):=by
 intro n
 induction n with
 | zero=>exact ⟨fun _ _ h=>by simp only [R96] at h,fun _ _ _ h=>by simp only [R96_5] at h⟩
 | succ n ih =>
 obtain ⟨ih,ih5⟩:=ih
 refine ⟨?_,?_⟩
 ·intro x0 ds h K q
  rw [R96] at h
  by_cases b0:((↑(ByteArray.size x0):Int)==0)=true
  ·rw [if_pos b0] at h
   subst h
   exact AtV.ret Tryz.func96 tabOk ext96Ok mixed false [] tys96 [true,true] (a1 b0 (a1 (rfl:true=true) trivial)) (by kernel_rfl)
  ·rw [if_neg b0] at h
   replace b0:=bf_ b0
   by_cases b1:(decide ((↑(ByteArray.size x0):Int)>40))=true
   ·rw [if_pos b1] at h
    subst h
    exact AtV.ret Tryz.func96 tabOk ext96Ok mixed false [] tys96 [false,true] (a1 b0 (a1 b1 trivial)) (by kernel_rfl)
   ·rw [if_neg b1] at h
    replace b1:=bf_ b1
    obtain ⟨s0,h⟩:=h
    exact AtV.go tabOk ext96Ok mixed false [] [] [3,4] [0] [false,false] (a1 b0 (a1 b1 (a1 s0 trivial))) (ih5 _ _ _ h K q) (by kernel_rfl)
 ·intro v4 x0 ds h K q
  rw [R96_5] at h
  by_cases b0:(decide (v4<(↑(List.length (g118_0 x0 32)):Int)))=true
  ·rw [if_pos b0] at h
   obtain ⟨s0,s1,h⟩:=h
   by_cases b1:(!g119_0 (List.getD (g118_0 x0 32) (Int.toNat v4) ByteArray.empty))=true
   ·rw [if_pos b1] at h
    subst h
    exact AtV.ret Tryz.func96 tabOk ext96Ok mixed false [] tys96 [true,true] (a1 b0 (a1 s0 (a1 s1 (a1 trivial (a1 b1 trivial))))) (by kernel_rfl)
   ·rw [if_neg b1] at h
    replace b1:=bf_ b1
    obtain ⟨s2,h⟩:=h
    exact AtV.go tabOk ext96Ok mixed false [] [] [3,4] [0] [true,false] (a1 b0 (a1 s0 (a1 s1 (a1 trivial (a1 b1 (a1 s2 trivial)))))) (ih5 _ _ _ h K q) (by kernel_rfl)
  ·rw [if_neg b0] at h
   replace b0:=bf_ b0
   subst h
   exact AtV.ret Tryz.func96 tabOk ext96Ok mixed false [] tys96 [false] (a1 b0 trivial) (by kernel_rfl)
def g96_0 (x0:ByteArray):Bool := !(((x0.size:Nat):Int)==0) && !decide (((x0.size:Nat):Int)>40)&&(g118_0 x0 32).all g119_0
def P96 (x0:ByteArray):Prop:=True
theorem top96 (x0:ByteArray):∃ n,R96 n x0 [⟨.bool,g96_0 x0⟩]:=by
 unfold g96_0
 by_cases h0:(((x0.size:Nat):Int)==0)=true
 ·refine ⟨1,?_⟩
  rw [R96,if_pos h0,h0];rfl
 by_cases h1:((x0.size:Nat):Int)>40
 ·refine ⟨1,?_⟩
  rw [R96,if_neg h0,if_pos (decide_eq_true h1),bf_ h0,decide_eq_true h1];rfl
 ·have hl:(g118_0 x0 32).length=x0.data.toList.count 32+1:=by
   show (bss (splitC (32:UInt8) x0.data.toList)).length=_
   unfold bss
   rw [List.length_map,splitC_length]
  have hc:x0.data.toList.count (32:UInt8)≤x0.size:=List.count_le_length
  have hmx:1000≤maxLen:=by decide
  have key:=loop_test (g118_0 x0 32) ByteArray.empty g119_0 [(⟨.bool,false⟩:Dyn)] [⟨.bool,true⟩] (fun n i ds=>R96_5 n i x0 ds) (fun n => ?_) (fun n i hi hok ds hr => ?_) (fun n i hi hok => ?_)
  ·refine ⟨(g118_0 x0 32).length+1+1,?_⟩
   rw [R96,if_neg h0,if_neg (by simpa using h1),bf_ h0,decide_eq_false h1]
   refine ⟨⟨by omega,by omega,by omega⟩,?_⟩
   ·cases h:(g118_0 x0 32).all g119_0 <;> rw [h] at key <;> exact key
  ·rw [R96_5,if_neg (by simp)]
  ·rw [R96_5,if_pos (by simp;omega)]
   simp only [Int.toNat_natCast]
   refine ⟨by omega,by omega,?_⟩
   rw [if_neg (by rw [hok];simp)]
   exact ⟨by rw [i64_iff];omega,hr⟩
  ·rw [R96_5,if_pos (by simp;omega)]
   simp only [Int.toNat_natCast]
   refine ⟨by omega,by omega,?_⟩
   rw [if_pos (by rw [hok];rfl)] <;> trivial
def S96:Am.Spec:={ sig:=sig96,pre:=fun ⟨x0,_⟩=>P96 x0,res:=fun ⟨x0,_⟩=>[⟨.bool,g96_0 x0⟩] }
theorem con96:Contract Tryz.prog 96 S96:=contract_of Tryz.func96 hb96 (bl_ (by kernel_rfl)) (fun ⟨x0,_⟩ h hwf K q =>
 let ⟨n,hn⟩:=top96 x0
 (snd96 n).1 x0 _ hn K q)
end
noncomputable section
def ext68:Ext:=[(63,S63),(60,S60),(96,S96)]
theorem ext68Ok:ExtOk Tryz.prog ext68:=⟨⟨ca63,con63⟩,⟨ca60,con60⟩,⟨ca96,con96⟩,trivial⟩
noncomputable def b68:Code:=bodyOf Tryz.f68
theorem hb68:Tryz.f68.body=some b68:=by kernel_rfl
def sig68:List AT:=[AT.p YA6]
def tys68:List Ty:=[.bool]
def kds68:List RK:=[]
def oks68:List AT:=owns sig68
def P68 (x0:Int×Int×ByteArray×Int×Unit):Prop:=True
def g68_0 (x0:Int×Int×ByteArray×Int×Unit):Bool:=(if (g63_0 x0.1)=true then (if (g60_0 x0.2.1 0 1439)=true then (if (g96_0 x0.2.2.1)=true then g60_0 x0.2.2.2.1 0 65535 else false) else false) else false)
theorem at68 (x0:Int×Int×ByteArray×Int×Unit) (h:P68 x0) (K:Ctx) (q:Nat→Value):AtV Tryz.prog 68 (PostR kds68 oks68 [⟨.bool,g68_0 x0⟩] [] [] q K) 29 K q [] [.code b68] (entE 0 0 sig68 (x0,())) (entL sig68 (x0,())):=by
 unfold P68 at h
 unfold g68_0
 by_cases b0:(g63_0 x0.1)=true
 ·try simp only [if_pos b0] at h ⊢
  by_cases b1:(g60_0 x0.2.1 0 1439)=true
  ·try simp only [if_pos b1] at h ⊢
   by_cases b2:(g96_0 x0.2.2.1)=true
   ·try simp only [if_pos b2] at h ⊢
    exact AtV.ret Tryz.func68 tabOk ext68Ok mixed false [] tys68 [true,true,true] (a1 trivial (a1 b0 (a1 trivial (a1 b1 (a1 trivial (a1 b2 (a1 trivial trivial))))))) (by kernel_rfl)
   ·try simp only [if_neg b2] at h ⊢
    replace b2:=bf_ b2
    exact AtV.ret Tryz.func68 tabOk ext68Ok mixed false [] tys68 [true,true,false] (a1 trivial (a1 b0 (a1 trivial (a1 b1 (a1 trivial (a1 b2 trivial)))))) (by kernel_rfl)
  ·try simp only [if_neg b1] at h ⊢
   replace b1:=bf_ b1
   exact AtV.ret Tryz.func68 tabOk ext68Ok mixed false [] tys68 [true,false,false] (a1 trivial (a1 b0 (a1 trivial (a1 b1 (a1 (rfl:false=false) trivial))))) (by kernel_rfl)
 ·try simp only [if_neg b0] at h ⊢
  replace b0:=bf_ b0
  exact AtV.ret Tryz.func68 tabOk ext68Ok mixed false [] tys68 [false,false,false] (a1 trivial (a1 b0 (a1 (rfl:false=false) (a1 (rfl:false=false) trivial)))) (by kernel_rfl)
def S68:Am.Spec:={ sig:=sig68,pre:=fun ⟨x0,_⟩=>P68 x0,res:=fun ⟨x0,_⟩=>[⟨.bool,g68_0 x0⟩],kds:=kds68 }
theorem con68:Contract Tryz.prog 68 S68:=contract_of Tryz.func68 hb68 (bl_ (by kernel_rfl)) (fun ⟨x0,_⟩ h _ K q=>at68 x0 h K q)
end
noncomputable section
def ext40:Ext:=[(68,S68)]
theorem ext40Ok:ExtOk Tryz.prog ext40:=⟨⟨ca68,con68⟩,trivial⟩
noncomputable def b40:Code:=bodyOf Tryz.f40
theorem hb40:Tryz.f40.body=some b40:=by kernel_rfl
def sig40:List AT:=[AT.v (.sl YA6)]
def tys40:List Ty:=[.bool]
def kds40:List RK:=[]
def oks40:List AT:=owns sig40
def E40_2 (v3:Int) (x0:List TyB2):Env:=[(0,.a (.sl YA6 x0)),(3,.a (.val (.int .i64 v3)))]
def L40_2 (v3:Int) (x0:List TyB2):Heap:=[]
mutual
def R40:Nat→List TyB2→List Dyn→Prop
 | 0,_,_=>False
 | n+1,x0,ds=>(R40_2 n (0) (x0) ds)
def R40_2:Nat→Int→List TyB2→List Dyn→Prop
 | 0,_,_,_=>False
 | n+1,v3,x0,ds=>(if (decide (v3<(x0.length:Int)))=true then ((0≤v3)∧(v3<(x0.length:Int))∧(if (!g68_0 (List.getD x0 (Int.toNat v3) (0,0,ByteArray.empty,0,())))=true then (ds=[Dyn.mk .bool false]) else (if (decide (v3>0))=true then ((InR .i64 (v3 - 1))∧((0≤v3 - 1)∧(v3 - 1<(x0.length:Int))∧(if (decide ((List.getD x0 (Int.toNat (v3 - 1)) (0,0,ByteArray.empty,0,())).1>(List.getD x0 (Int.toNat v3) (0,0,ByteArray.empty,0,())).1))=true then (ds=[Dyn.mk .bool false]) else ((InR .i64 (v3 - 1))∧((0≤v3 - 1)∧(v3 - 1<(x0.length:Int))∧(if ((List.getD x0 (Int.toNat (v3 - 1)) (0,0,ByteArray.empty,0,())).1==(List.getD x0 (Int.toNat v3) (0,0,ByteArray.empty,0,())).1)=true then ((InR .i64 (v3 - 1))∧((0≤v3 - 1)∧(v3 - 1<(x0.length:Int))∧(if (decide ((List.getD x0 (Int.toNat (v3 - 1)) (0,0,ByteArray.empty,0,())).2.1>(List.getD x0 (Int.toNat v3) (0,0,ByteArray.empty,0,())).2.1))=true then (ds=[Dyn.mk .bool false]) else ((InR .i64 (v3+1))∧(R40_2 n (v3+1) (x0) ds))))) else ((InR .i64 (v3+1))∧(R40_2 n (v3+1) (x0) ds)))))))) else ((InR .i64 (v3+1))∧(R40_2 n (v3+1) (x0) ds))))) else (ds=[Dyn.mk .bool (decide ((x0.length:Int)≤40))]))
end
theorem snd40:∀ n,(∀ (x0:List TyB2) ds,R40 n x0 ds→∀ K q,AtV Tryz.prog 40 (PostR kds40 oks40 ds [] [] q K) 61 K q [] [.code b40] (entE 0 0 sig40 (x0,())) (entL sig40 (x0,())))∧(∀ (v3:Int) (x0:List TyB2) ds,R40_2 n v3 x0 ds→∀ K q,AtV Tryz.prog 40 (PostR kds40 oks40 ds [] [] q K) 61 K q [] (cutAt b40 2) (E40_2 v3 x0) (L40_2 v3 x0)):=by
 intro n
 induction n with
 | zero=>exact ⟨fun _ _ h=>by simp only [R40] at h,fun _ _ _ h=>by simp only [R40_2] at h⟩
 | succ n ih =>
 obtain ⟨ih,ih2⟩:=ih
 refine ⟨?_,?_⟩
 ·intro x0 ds h K q
  rw [R40] at h
  exact AtV.go tabOk ext40Ok mixed false [] [] [0,3] [] [] trivial (ih2 _ _ _ h K q) (by kernel_rfl)
 ·intro v3 x0 ds h K q
  rw [R40_2] at h
  by_cases b0:(decide (v3<(x0.length:Int)))=true
  ·rw [if_pos b0] at h
   obtain ⟨s0,s1,h⟩:=h
   by_cases b1:(!g68_0 (List.getD x0 (Int.toNat v3) (0,0,ByteArray.empty,0,())))=true
   ·rw [if_pos b1] at h
    subst h
    exact AtV.ret Tryz.func40 tabOk ext40Ok mixed false [] tys40 [true,true] (a1 b0 (a1 s0 (a1 s1 (a1 trivial (a1 b1 trivial))))) (by kernel_rfl)
   ·rw [if_neg b1] at h
    replace b1:=bf_ b1
    by_cases b2:(decide (v3>0))=true
    ·rw [if_pos b2] at h
     obtain ⟨s2,h⟩:=h
     obtain ⟨s3,s4,h⟩:=h
     by_cases b3:(decide ((List.getD x0 (Int.toNat (v3 - 1)) (0,0,ByteArray.empty,0,())).1>(List.getD x0 (Int.toNat v3) (0,0,ByteArray.empty,0,())).1))=true
     ·rw [if_pos b3] at h
      subst h
      exact AtV.ret Tryz.func40 tabOk ext40Ok mixed false [] tys40 [true,false,true,true,true] (a1 b0 (a1 s0 (a1 s1 (a1 trivial (a1 b1 (a1 b2 (a1 s2 (a1 s3 (a1 s4 (a1 b3 (a1 (rfl:true=true) trivial))))))))))) (by kernel_rfl)
     ·rw [if_neg b3] at h
      replace b3:=bf_ b3
      obtain ⟨s5,h⟩:=h
      obtain ⟨s6,s7,h⟩:=h
      by_cases b4:((List.getD x0 (Int.toNat (v3 - 1)) (0,0,ByteArray.empty,0,())).1==(List.getD x0 (Int.toNat v3) (0,0,ByteArray.empty,0,())).1)=true
      ·rw [if_pos b4] at h
       obtain ⟨s8,h⟩:=h
       obtain ⟨s9,s10,h⟩:=h
       by_cases b5:(decide ((List.getD x0 (Int.toNat (v3 - 1)) (0,0,ByteArray.empty,0,())).2.1>(List.getD x0 (Int.toNat v3) (0,0,ByteArray.empty,0,())).2.1))=true
       ·rw [if_pos b5] at h
        subst h
        exact AtV.ret Tryz.func40 tabOk ext40Ok mixed false [] tys40 [true,false,true,false,true,true] (a1 b0 (a1 s0 (a1 s1 (a1 trivial (a1 b1 (a1 b2 (a1 s2 (a1 s3 (a1 s4 (a1 b3 (a1 s5 (a1 s6 (a1 s7 (a1 b4 (a1 s8 (a1 s9 (a1 s10 (a1 b5 trivial)))))))))))))))))) (by kernel_rfl)
       ·rw [if_neg b5] at h
        replace b5:=bf_ b5
        obtain ⟨s11,h⟩:=h
        exact AtV.go tabOk ext40Ok mixed false [] [] [0,3] [] [true,false,true,false,true,false] (a1 b0 (a1 s0 (a1 s1 (a1 trivial (a1 b1 (a1 b2 (a1 s2 (a1 s3 (a1 s4 (a1 b3 (a1 s5 (a1 s6 (a1 s7 (a1 b4 (a1 s8 (a1 s9 (a1 s10 (a1 b5 (a1 s11 trivial))))))))))))))))))) (ih2 _ _ _ h K q) (by kernel_rfl)
      ·rw [if_neg b4] at h
       replace b4:=bf_ b4
       obtain ⟨s8,h⟩:=h
       exact AtV.go tabOk ext40Ok mixed false [] [] [0,3] [] [true,false,true,false,false,false] (a1 b0 (a1 s0 (a1 s1 (a1 trivial (a1 b1 (a1 b2 (a1 s2 (a1 s3 (a1 s4 (a1 b3 (a1 s5 (a1 s6 (a1 s7 (a1 b4 (a1 (rfl:false=false) (a1 s8 trivial)))))))))))))))) (ih2 _ _ _ h K q) (by kernel_rfl)
    ·rw [if_neg b2] at h
     replace b2:=bf_ b2
     obtain ⟨s2,h⟩:=h
     exact AtV.go tabOk ext40Ok mixed false [] [] [0,3] [] [true,false,false,false] (a1 b0 (a1 s0 (a1 s1 (a1 trivial (a1 b1 (a1 b2 (a1 (rfl:false=false) (a1 s2 trivial)))))))) (ih2 _ _ _ h K q) (by kernel_rfl)
  ·rw [if_neg b0] at h
   replace b0:=bf_ b0
   subst h
   exact AtV.ret Tryz.func40 tabOk ext40Ok mixed false [] tys40 [false] (a1 b0 trivial) (by kernel_rfl)
def bad40 (y x:TyB2):Bool:=if decide (y.1>x.1)=true then true else (if (y.1==x.1)=true then decide (y.2.1>x.2.1) else false)
def ok40 (x0:List TyB2) (i:Nat) (x:TyB2):Bool:=g68_0 x&&(i==0 || !bad40 (x0.getD (i - 1) ((0:Int),(0:Int),ByteArray.empty,(0:Int),())) x)
def g40_0 (x0:List TyB2):Bool:=allI (ok40 x0) 0 x0&&decide ((x0.length:Int)≤40)
def P40 (x0:List TyB2):Prop:=True
theorem step40 (n i:Nat) (x0:List TyB2) (hm:x0.length≤maxLen) (hi:i<x0.length) (ds:List Dyn)
  (h:if ok40 x0 i (x0.getD i ((0:Int),(0:Int),ByteArray.empty,(0:Int),()))=true then R40_2 n ((i:Int)+1) x0 ds else ds=[⟨.bool,false⟩]):R40_2 (n+1) (i:Int) x0 ds:=by
 have hu:=inR_up hm hi
 have hmx:maxLen≤9223372036854775807:=by decide
 rw [R40_2,if_pos (by simp only [decide_eq_true_eq];omega)]
 simp only [Int.toNat_natCast]
 refine ⟨by omega,by omega,?_⟩
 unfold ok40 at h
 by_cases hv:g68_0 (x0.getD i ((0:Int),(0:Int),ByteArray.empty,(0:Int),()))=true
 case neg=>rw [bf_ hv] at h;rw [if_pos (by rw [bf_ hv];rfl)];simpa using h
 rw [if_neg (by rw [hv];simp)]
 rw [hv] at h
 by_cases h0:(i:Int)>0
 case neg =>
  rw [if_neg (by simpa using h0)]
  have hi0:(i==0)=true:=by simp;omega
  rw [hi0] at h
  exact ⟨hu,by simpa using h⟩
 rw [if_pos (by simpa using h0)]
 have hi0:(i==0)=false:=by simp;omega
 have e:((i:Int) - 1).toNat=i - 1:=by omega
 have hd:InR .i64 ((i:Int) - 1):=by rw [i64_iff];omega
 rw [hi0] at h
 simp only [e]
 refine ⟨hd,by omega,by omega,?_⟩
 by_cases c0:(x0.getD (i - 1) ((0:Int),(0:Int),ByteArray.empty,(0:Int),())).1>(x0.getD i ((0:Int),(0:Int),ByteArray.empty,(0:Int),())).1
 ·rw [if_pos (decide_eq_true c0)]
  have:bad40 (x0.getD (i - 1) ((0:Int),(0:Int),ByteArray.empty,(0:Int),())) (x0.getD i ((0:Int),(0:Int),ByteArray.empty,(0:Int),()))=true:=by unfold bad40;rw [if_pos (decide_eq_true c0)]
  rw [this] at h
  simpa using h
 ·rw [if_neg (by simpa using c0)]
  refine ⟨hd,by omega,by omega,?_⟩
  by_cases c1:((x0.getD (i - 1) ((0:Int),(0:Int),ByteArray.empty,(0:Int),())).1==(x0.getD i ((0:Int),(0:Int),ByteArray.empty,(0:Int),())).1)=true
  ·rw [if_pos c1]
   refine ⟨hd,by omega,by omega,?_⟩
   have eb:bad40 (x0.getD (i - 1) ((0:Int),(0:Int),ByteArray.empty,(0:Int),())) (x0.getD i ((0:Int),(0:Int),ByteArray.empty,(0:Int),()))=decide ((x0.getD (i - 1) ((0:Int),(0:Int),ByteArray.empty,(0:Int),())).2.1>(x0.getD i ((0:Int),(0:Int),ByteArray.empty,(0:Int),())).2.1):=by unfold bad40;rw [if_neg (by simpa using c0),if_pos c1]
   rw [eb] at h
   by_cases c2:(x0.getD (i - 1) ((0:Int),(0:Int),ByteArray.empty,(0:Int),())).2.1>(x0.getD i ((0:Int),(0:Int),ByteArray.empty,(0:Int),())).2.1
   ·rw [if_pos (decide_eq_true c2)]
    rw [decide_eq_true c2] at h
    simpa using h
   ·rw [if_neg (by simpa using c2)]
    rw [decide_eq_false c2] at h
    exact ⟨hu,by simpa using h⟩
  ·rw [if_neg c1]
   have eb:bad40 (x0.getD (i - 1) ((0:Int),(0:Int),ByteArray.empty,(0:Int),())) (x0.getD i ((0:Int),(0:Int),ByteArray.empty,(0:Int),()))=false:=by unfold bad40;rw [if_neg (by simpa using c0),if_neg c1]
   rw [eb] at h
   exact ⟨hu,by simpa using h⟩
theorem top40 (x0:List TyB2) (hw:x0.length≤maxLen):R40 (x0.length+1+1) x0 [⟨.bool,g40_0 x0⟩]:=by
 rw [R40]
 have key:=loop_testI x0 ((0:Int),(0:Int),ByteArray.empty,(0:Int),()) (ok40 x0) [(⟨.bool,false⟩:Dyn)] [⟨.bool,decide ((x0.length:Int)≤40)⟩] (fun n i ds=>R40_2 n i x0 ds) (fun n => ?_) (fun n i hi hok ds hr => ?_) (fun n i hi hok => ?_)
 ·unfold g40_0
  cases h:allI (ok40 x0) 0 x0 with
  | true=>rw [if_pos h] at key;simpa using key
  | false=>rw [if_neg (by rw [h];simp)] at key;simpa using key
 ·rw [R40_2,if_neg (by simp)]
 ·exact step40 n i x0 hw hi ds (by rw [if_pos hok];exact hr)
 ·exact step40 n i x0 hw hi _ (by rw [if_neg (by rw [hok];simp)])
def S40:Am.Spec:={ sig:=sig40,pre:=fun ⟨x0,_⟩=>P40 x0,res:=fun ⟨x0,_⟩=>[⟨.bool,g40_0 x0⟩] }
theorem con40:Contract Tryz.prog 40 S40:=contract_of Tryz.func40 hb40 (bl_ (by kernel_rfl)) (fun ⟨x0,_⟩ h hwf K q =>
 (snd40 _).1 x0 _ (top40 x0 hwf.1.1) K q)
end
noncomputable section
def ext16:Ext:=[(32,S32),(33,S33),(34,S34),(35,S35),(36,S36),(37,S37),(38,S38),(39,S39),(40,S40)]
theorem ext16Ok:ExtOk Tryz.prog ext16:=⟨⟨ca32,con32⟩,⟨ca33,con33⟩,⟨ca34,con34⟩,⟨ca35,con35⟩,⟨ca36,con36⟩,⟨ca37,con37⟩,⟨ca38,con38⟩,⟨ca39,con39⟩,⟨ca40,con40⟩,trivial⟩
noncomputable def b16:Code:=bodyOf Tryz.f16
theorem hb16:Tryz.f16.body=some b16:=by kernel_rfl
def sig16:List AT:=[AT.p YA0]
def tys16:List Ty:=[.bool]
def kds16:List RK:=[]
def oks16:List AT:=owns sig16
def P16 (x0:TyA0):Prop:=True
def g16_0 (x0:TyA0):Bool:=(if (!g32_0 x0.1)=true then false else (if (!g33_0 x0.2.1)=true then false else (if (!g34_0 x0.2.2.1)=true then false else (if (!g35_0 x0.2.2.2.1)=true then false else (if (!g36_0 x0.2.2.2.2.1)=true then false else (if (!g37_0 x0.2.2.2.2.2.1)=true then false else (if (g38_0 x0.2.2.2.2.2.2.1 x0.2.2.2.2.2.2.2.1 x0.2.2.2.2.2.2.2.2.1 != 0)=true then false else (if (g39_0 x0.2.2.2.2.2.2.2.2.2.1 x0.2.2.2.2.2.2.2.2.2.2.1==0)=true then g40_0 x0.2.2.2.2.2.2.2.2.2.2.2.1 else false))))))))
theorem at16 (x0:TyA0) (h:P16 x0) (K:Ctx) (q:Nat→Value):AtV Tryz.prog 16 (PostR kds16 oks16 [⟨.bool,g16_0 x0⟩] [] [] q K) 76 K q [] [.code b16] (entE 0 0 sig16 (x0,())) (entL sig16 (x0,())):=by
 unfold P16 at h
 unfold g16_0
 by_cases b0:(!g32_0 x0.1)=true
 ·try simp only [if_pos b0] at h ⊢
  exact AtV.ret Tryz.func16 tabOk ext16Ok mixed false [] tys16 [true,true,true,true] (a1 trivial (a1 b0 (a1 (rfl:true=true) (a1 (rfl:true=true) (a1 (rfl:true=true) trivial))))) (by kernel_rfl)
 ·try simp only [if_neg b0] at h ⊢
  replace b0:=bf_ b0
  by_cases b1:(!g33_0 x0.2.1)=true
  ·try simp only [if_pos b1] at h ⊢
   exact AtV.ret Tryz.func16 tabOk ext16Ok mixed false [] tys16 [false,true,true,true] (a1 trivial (a1 b0 (a1 trivial (a1 b1 (a1 (rfl:true=true) (a1 (rfl:true=true) trivial)))))) (by kernel_rfl)
  ·try simp only [if_neg b1] at h ⊢
   replace b1:=bf_ b1
   by_cases b2:(!g34_0 x0.2.2.1)=true
   ·try simp only [if_pos b2] at h ⊢
    exact AtV.ret Tryz.func16 tabOk ext16Ok mixed false [] tys16 [false,false,true,true] (a1 trivial (a1 b0 (a1 trivial (a1 b1 (a1 trivial (a1 b2 (a1 (rfl:true=true) trivial))))))) (by kernel_rfl)
   ·try simp only [if_neg b2] at h ⊢
    replace b2:=bf_ b2
    by_cases b3:(!g35_0 x0.2.2.2.1)=true
    ·try simp only [if_pos b3] at h ⊢
     exact AtV.ret Tryz.func16 tabOk ext16Ok mixed false [] tys16 [false,false,false,true] (a1 trivial (a1 b0 (a1 trivial (a1 b1 (a1 trivial (a1 b2 (a1 trivial (a1 b3 trivial)))))))) (by kernel_rfl)
    ·try simp only [if_neg b3] at h ⊢
     replace b3:=bf_ b3
     by_cases b4:(!g36_0 x0.2.2.2.2.1)=true
     ·try simp only [if_pos b4] at h ⊢
      exact AtV.ret Tryz.func16 tabOk ext16Ok mixed false [] tys16 [false,false,false,false,true,true,true] (a1 trivial (a1 b0 (a1 trivial (a1 b1 (a1 trivial (a1 b2 (a1 trivial (a1 b3 (a1 trivial (a1 b4 (a1 (rfl:true=true) (a1 (rfl:true=true) trivial)))))))))))) (by kernel_rfl)
     ·try simp only [if_neg b4] at h ⊢
      replace b4:=bf_ b4
      by_cases b5:(!g37_0 x0.2.2.2.2.2.1)=true
      ·try simp only [if_pos b5] at h ⊢
       exact AtV.ret Tryz.func16 tabOk ext16Ok mixed false [] tys16 [false,false,false,false,false,true,true] (a1 trivial (a1 b0 (a1 trivial (a1 b1 (a1 trivial (a1 b2 (a1 trivial (a1 b3 (a1 trivial (a1 b4 (a1 trivial (a1 b5 (a1 (rfl:true=true) trivial))))))))))))) (by kernel_rfl)
      ·try simp only [if_neg b5] at h ⊢
       replace b5:=bf_ b5
       by_cases b6:(g38_0 x0.2.2.2.2.2.2.1 x0.2.2.2.2.2.2.2.1 x0.2.2.2.2.2.2.2.2.1 != 0)=true
       ·try simp only [if_pos b6] at h ⊢
        exact AtV.ret Tryz.func16 tabOk ext16Ok mixed false [] tys16 [false,false,false,false,false,false,true] (a1 trivial (a1 b0 (a1 trivial (a1 b1 (a1 trivial (a1 b2 (a1 trivial (a1 b3 (a1 trivial (a1 b4 (a1 trivial (a1 b5 (a1 trivial (a1 b6 trivial)))))))))))))) (by kernel_rfl)
       ·try simp only [if_neg b6] at h ⊢
        replace b6:=bf_ b6
        by_cases b7:(g39_0 x0.2.2.2.2.2.2.2.2.2.1 x0.2.2.2.2.2.2.2.2.2.2.1==0)=true
        ·try simp only [if_pos b7] at h ⊢
         exact AtV.ret Tryz.func16 tabOk ext16Ok mixed false [] tys16 [false,false,false,false,false,false,false,true] (a1 trivial (a1 b0 (a1 trivial (a1 b1 (a1 trivial (a1 b2 (a1 trivial (a1 b3 (a1 trivial (a1 b4 (a1 trivial (a1 b5 (a1 trivial (a1 b6 (a1 trivial (a1 b7 (a1 trivial trivial))))))))))))))))) (by kernel_rfl)
        ·try simp only [if_neg b7] at h ⊢
         replace b7:=bf_ b7
         exact AtV.ret Tryz.func16 tabOk ext16Ok mixed false [] tys16 [false,false,false,false,false,false,false,false] (a1 trivial (a1 b0 (a1 trivial (a1 b1 (a1 trivial (a1 b2 (a1 trivial (a1 b3 (a1 trivial (a1 b4 (a1 trivial (a1 b5 (a1 trivial (a1 b6 (a1 trivial (a1 b7 trivial)))))))))))))))) (by kernel_rfl)
def S16:Am.Spec:={ sig:=sig16,pre:=fun ⟨x0,_⟩=>P16 x0,res:=fun ⟨x0,_⟩=>[⟨.bool,g16_0 x0⟩],kds:=kds16 }
theorem con16:Contract Tryz.prog 16 S16:=contract_of Tryz.func16 hb16 (bl_ (by kernel_rfl)) (fun ⟨x0,_⟩ h _ K q=>at16 x0 h K q)
end
noncomputable section
def ext5:Ext:=[(16,S16)]
theorem ext5Ok:ExtOk Tryz.prog ext5:=⟨⟨ca16,con16⟩,trivial⟩
noncomputable def b5:Code:=bodyOf Tryz.f5
theorem hb5:Tryz.f5.body=some b5:=by kernel_rfl
def sig5:List AT:=[AT.v YA0]
def tys5:List Ty:=[.bool]
def kds5:List RK:=[]
def oks5:List AT:=owns sig5
def P5 (x0:TyA0):Prop:=True
def g5_0 (x0:TyA0):Bool:=g16_0 x0
theorem at5 (x0:TyA0) (h:P5 x0) (K:Ctx) (q:Nat→Value):AtV Tryz.prog 5 (PostR kds5 oks5 [⟨.bool,g5_0 x0⟩] [] [] q K) 4 K q [] [.code b5] (entE 0 0 sig5 (x0,())) (entL sig5 (x0,())):=by
 unfold P5 at h
 unfold g5_0
 exact AtV.ret Tryz.func5 tabOk ext5Ok mixed false [] tys5 [] (a1 trivial trivial) (by kernel_rfl)
def S5:Am.Spec:={ sig:=sig5,pre:=fun ⟨x0,_⟩=>P5 x0,res:=fun ⟨x0,_⟩=>[⟨.bool,g5_0 x0⟩],kds:=kds5 }
theorem con5:Contract Tryz.prog 5 S5:=contract_of Tryz.func5 hb5 (bl_ (by kernel_rfl)) (fun ⟨x0,_⟩ h _ K q=>at5 x0 h K q)
end
noncomputable section
def ext52:Ext:=[]
theorem ext52Ok:ExtOk Tryz.prog ext52:=trivial
noncomputable def b52:Code:=bodyOf Tryz.f52
theorem hb52:Tryz.f52.body=some b52:=by kernel_rfl
def sig52:List AT:=[AT.v (.int .i64),AT.v (.int .i64),AT.v (.int .i64)]
def tys52:List Ty:=[.bool]
def kds52:List RK:=[]
def oks52:List AT:=owns sig52
def P52 (x0:Int) (x1:Int) (x2:Int):Prop:=True
def g52_0 (x0:Int) (x1:Int) (x2:Int):Bool:=(if (decide (x0≥x1))=true then decide (x0≤x2) else false)
theorem at52 (x0:Int) (x1:Int) (x2:Int) (h:P52 x0 x1 x2) (K:Ctx) (q:Nat→Value):AtV Tryz.prog 52 (PostR kds52 oks52 [⟨.bool,g52_0 x0 x1 x2⟩] [] [] q K) 15 K q [] [.code b52] (entE 0 0 sig52 (x0,x1,x2,())) (entL sig52 (x0,x1,x2,())):=by
 unfold P52 at h
 unfold g52_0
 by_cases b0:(decide (x0≥x1))=true
 ·try simp only [if_pos b0] at h ⊢
  exact AtV.ret Tryz.func52 tabOk ext52Ok mixed false [] tys52 [true] (a1 b0 trivial) (by kernel_rfl)
 ·try simp only [if_neg b0] at h ⊢
  replace b0:=bf_ b0
  exact AtV.ret Tryz.func52 tabOk ext52Ok mixed false [] tys52 [false] (a1 b0 trivial) (by kernel_rfl)
def S52:Am.Spec:={ sig:=sig52,pre:=fun ⟨x0,x1,x2,_⟩=>P52 x0 x1 x2,res:=fun ⟨x0,x1,x2,_⟩=>[⟨.bool,g52_0 x0 x1 x2⟩],kds:=kds52 }
theorem con52:Contract Tryz.prog 52 S52:=contract_of Tryz.func52 hb52 (bl_ (by kernel_rfl)) (fun ⟨x0,x1,x2,_⟩ h _ K q=>at52 x0 x1 x2 h K q)
end
noncomputable section
def ext80:Ext:=[]
theorem ext80Ok:ExtOk Tryz.prog ext80:=trivial
noncomputable def b80:Code:=bodyOf Tryz.f80
theorem hb80:Tryz.f80.body=some b80:=by kernel_rfl
def sig80:List AT:=[AT.v YA2]
def tys80:List Ty:=[.int .i64]
def kds80:List RK:=[]
def oks80:List AT:=owns sig80
def E80_3 (v3:Int) (v9:Int) (x0:List TyB4×Int×Int×Unit):Env:=[(3,.a (.val (.int .i64 v3))),(7,.a (.sl YA11 x0.1)),(8,.a (.val (.int .i64 (x0.1.length:Int)))),(9,.a (.val (.int .i64 v9)))]
def L80_3 (v3:Int) (v9:Int) (x0:List TyB4×Int×Int×Unit):Heap:=[]
mutual
def R80:Nat→List TyB4×Int×Int×Unit→List Dyn→Prop
 | 0,_,_=>False
 | n+1,x0,ds=>(R80_3 n (0) (0) (x0) ds)
def R80_3:Nat→Int→Int→List TyB4×Int×Int×Unit→List Dyn→Prop
 | 0,_,_,_,_=>False
 | n+1,v3,v9,x0,ds=>(if (decide (v9<(x0.1.length:Int)))=true then ((0≤v9)∧(v9<(x0.1.length:Int))∧((InR .i64 (v3+(List.getD x0.1 (Int.toNat v9) (0,0,())).1))∧((InR .i64 (v9+1))∧(R80_3 n (v3+(List.getD x0.1 (Int.toNat v9) (0,0,())).1) (v9+1) (x0) ds)))) else (ds=[Dyn.mk (.int .i64) v3]))
end
theorem snd80:∀ n,(∀ (x0:List TyB4×Int×Int×Unit) ds,R80 n x0 ds→∀ K q,AtV Tryz.prog 80 (PostR kds80 oks80 ds [] [] q K) 19 K q [] [.code b80] (entE 0 0 sig80 (x0,())) (entL sig80 (x0,())))∧(∀ (v3:Int) (v9:Int) (x0:List TyB4×Int×Int×Unit) ds,R80_3 n v3 v9 x0 ds→∀ K q,AtV Tryz.prog 80 (PostR kds80 oks80 ds [] [] q K) 19 K q [] (cutAt b80 3) (E80_3 v3 v9 x0) (L80_3 v3 v9 x0)):=by
 intro n
 induction n with
 | zero=>exact ⟨fun _ _ h=>by simp only [R80] at h,fun _ _ _ _ h=>by simp only [R80_3] at h⟩
 | succ n ih =>
 obtain ⟨ih,ih3⟩:=ih
 refine ⟨?_,?_⟩
 ·intro x0 ds h K q
  rw [R80] at h
  exact AtV.go tabOk ext80Ok mixed false [] [] [3,7,8,9] [] [] trivial (ih3 _ _ _ _ h K q) (by kernel_rfl)
 ·intro v3 v9 x0 ds h K q
  rw [R80_3] at h
  by_cases b0:(decide (v9<(x0.1.length:Int)))=true
  ·rw [if_pos b0] at h
   obtain ⟨s0,s1,h⟩:=h
   obtain ⟨s2,h⟩:=h
   obtain ⟨s3,h⟩:=h
   exact AtV.go tabOk ext80Ok mixed false [] [] [3,7,8,9] [] [true] (a1 b0 (a1 s0 (a1 s1 (a1 s2 (a1 s3 trivial))))) (ih3 _ _ _ _ h K q) (by kernel_rfl)
  ·rw [if_neg b0] at h
   replace b0:=bf_ b0
   subst h
   exact AtV.ret Tryz.func80 tabOk ext80Ok mixed false [] tys80 [false] (a1 b0 trivial) (by kernel_rfl)
def sum80 (xs:List TyB4):Int:=xs.foldr (fun x n=>x.1+n) 0
def g80_0 (x0:List TyB4×Int×Int×Unit):Int:=sum80 x0.1
def P80 (x0:List TyB4×Int×Int×Unit):Prop:=x0.1.length≤1000000∧∀ x∈x0.1,0≤x.1∧x.1≤1000000000
theorem run80 (x0:List TyB4×Int×Int×Unit) (hl:x0.1.length≤1000000) (hx:∀ x∈x0.1,0≤x.1∧x.1≤1000000000):∀ (k i:Nat) (v:Int),i+k=x0.1.length→0≤v→v≤1000000000*(i:Int) →
  R80_3 (k+1) v (i:Int) x0 [⟨.int .i64,v+sum80 (x0.1.drop i)⟩]:=by
 intro k
 induction k with
 | zero =>
  intro i v hi h0 h1
  rw [R80_3,if_neg (by simp only [decide_eq_true_eq];omega),drop_end _ _ (by omega)]
  simp [sum80]
 | succ k ih =>
  intro i v hi h0 h1
  have hlt:i<x0.1.length:=by omega
  have hm:=hx _ (mem_getD x0.1 i ((0:Int),(0:Int),()) hlt)
  have h:=ih (i+1) (v+(x0.1.getD i ((0:Int),(0:Int),())).1) (by omega) (by omega) (by omega)
  rw [R80_3,if_pos (by simp only [decide_eq_true_eq];omega)]
  simp only [Int.toNat_natCast]
  refine ⟨by omega,by omega,by rw [i64_iff];omega,by rw [i64_iff];omega,?_⟩
  rw [drop_get x0.1 i ((0:Int),(0:Int),()) hlt]
  have e:∀ (y:Int×Int×Unit) l,v+sum80 (y :: l)=v+y.1+sum80 l:=fun y l=>by
   show v+(y.1+sum80 l)=_;omega
  rw [e]
  exact h
theorem top80 (x0:List TyB4×Int×Int×Unit) (h:P80 x0):R80 (x0.1.length+1+1) x0 [⟨.int .i64,g80_0 x0⟩]:=by
 rw [R80]
 have:=run80 x0 h.1 h.2 x0.1.length 0 0 (by omega) (by omega) (by omega)
 simpa [g80_0] using this
def S80:Am.Spec:={ sig:=sig80,pre:=fun ⟨x0,_⟩=>P80 x0,res:=fun ⟨x0,_⟩=>[⟨.int .i64,g80_0 x0⟩] }
theorem con80:Contract Tryz.prog 80 S80:=contract_of Tryz.func80 hb80 (bl_ (by kernel_rfl)) (fun ⟨x0,_⟩ h hwf K q =>
 (snd80 _).1 x0 _ (top80 x0 h) K q)
theorem sum80_le (xs:List TyB4) (h:∀ x∈xs,0≤x.1∧x.1≤3000000):0≤sum80 xs∧sum80 xs≤3000000*(xs.length:Int):=by
 induction xs with
 | nil=>exact ⟨Int.le_refl _,Int.le_refl _⟩
 | cons x r ih =>
  obtain ⟨i1,i2⟩:=ih fun y hy=>h y (List.mem_cons_of_mem _ hy)
  obtain ⟨x1,x2⟩:=h x (List.mem_cons_self ..)
  show 0≤x.1+sum80 r∧x.1+sum80 r≤_
  simp only [List.length_cons]
  omega
end
noncomputable section
def ext69:Ext:=[(52,S52),(80,S80)]
theorem ext69Ok:ExtOk Tryz.prog ext69:=⟨⟨ca52,con52⟩,⟨ca80,con80⟩,trivial⟩
noncomputable def b69:Code:=bodyOf Tryz.f69
theorem hb69:Tryz.f69.body=some b69:=by kernel_rfl
def sig69:List AT:=[AT.v YA2]
def tys69:List Ty:=[.bool]
def kds69:List RK:=[]
def oks69:List AT:=owns sig69
def E69_4 (v18:Int) (x0:List TyB4×Int×Int×Unit):Env:=[(1,.a (.optr 0 0 [])),(16,.a (.sl YA11 x0.1)),(17,.a (.val (.int .i64 (x0.1.length:Int)))),(18,.a (.val (.int .i64 v18)))]
def L69_4 (v18:Int) (x0:List TyB4×Int×Int×Unit):Heap:=[Option.some (Arr.mk YA2 [x0] true Option.none (Option.some false))]
mutual
def R69:Nat→List TyB4×Int×Int×Unit→List Dyn→Prop
 | 0,_,_=>False
 | n+1,x0,ds=>(if (decide ((x0.1.length:Int)<1))=true then (ds=[Dyn.mk .bool false]) else (if (decide ((x0.1.length:Int)>12))=true then (ds=[Dyn.mk .bool false]) else (R69_4 n (0) (x0) ds)))
def R69_4:Nat→Int→List TyB4×Int×Int×Unit→List Dyn→Prop
 | 0,_,_,_=>False
 | n+1,v18,x0,ds=>(if (decide (v18<(x0.1.length:Int)))=true then ((0≤v18)∧(v18<(x0.1.length:Int))∧(if (!g52_0 (List.getD x0.1 (Int.toNat v18) (0,0,())).1 1 3000000)=true then (ds=[Dyn.mk .bool false]) else (if (!g52_0 (List.getD x0.1 (Int.toNat v18) (0,0,())).2.1 0 900)=true then (ds=[Dyn.mk .bool false]) else ((InR .i64 (v18+1))∧(R69_4 n (v18+1) (x0) ds))))) else ((P80 x0)∧(if (decide (g80_0 x0≤3000000))=true then ((P80 x0)∧(if (g52_0 x0.2.1 0 (g80_0 x0))=true then ((P80 x0)∧(ds=[Dyn.mk .bool (g52_0 x0.2.2.1 x0.2.1 (g80_0 x0))])) else (ds=[Dyn.mk .bool false]))) else (ds=[Dyn.mk .bool false]))))
end
theorem snd69:∀ n,(∀ (x0:List TyB4×Int×Int×Unit) ds,R69 n x0 ds→∀ K q,AtV Tryz.prog 69 (PostR kds69 oks69 ds [] [] q K) 52 K q [] [.code b69] (entE 0 0 sig69 (x0,())) (entL sig69 (x0,())))∧(∀ (v18:Int) (x0:List TyB4×Int×Int×Unit) ds,R69_4 n v18 x0 ds→∀ K q,AtV Tryz.prog 69 (PostR kds69 oks69 ds [] [] q K) 52 K q [] (cutAt b69 4) (E69_4 v18 x0) (L69_4 v18 x0)):=by
 intro n
 induction n with
 | zero=>exact ⟨fun _ _ h=>by simp only [R69] at h,fun _ _ _ h=>by simp only [R69_4] at h⟩
 | succ n ih =>
 obtain ⟨ih,ih4⟩:=ih
 refine ⟨?_,?_⟩
 ·intro x0 ds h K q
  rw [R69] at h
  by_cases b0:(decide ((x0.1.length:Int)<1))=true
  ·rw [if_pos b0] at h
   subst h
   exact AtV.ret Tryz.func69 tabOk ext69Ok mixed false [] tys69 [true,true] (a1 b0 (a1 (rfl:true=true) trivial)) (by kernel_rfl)
  ·rw [if_neg b0] at h
   replace b0:=bf_ b0
   by_cases b1:(decide ((x0.1.length:Int)>12))=true
   ·rw [if_pos b1] at h
    subst h
    exact AtV.ret Tryz.func69 tabOk ext69Ok mixed false [] tys69 [false,true] (a1 b0 (a1 b1 trivial)) (by kernel_rfl)
   ·rw [if_neg b1] at h
    replace b1:=bf_ b1
    exact AtV.go tabOk ext69Ok mixed false [] [] [1,16,17,18] [0] [false,false] (a1 b0 (a1 b1 trivial)) (ih4 _ _ _ h K q) (by kernel_rfl)
 ·intro v18 x0 ds h K q
  rw [R69_4] at h
  by_cases b0:(decide (v18<(x0.1.length:Int)))=true
  ·rw [if_pos b0] at h
   obtain ⟨s0,s1,h⟩:=h
   by_cases b1:(!g52_0 (List.getD x0.1 (Int.toNat v18) (0,0,())).1 1 3000000)=true
   ·rw [if_pos b1] at h
    subst h
    exact AtV.ret Tryz.func69 tabOk ext69Ok mixed false [] tys69 [true,true,true] (a1 b0 (a1 s0 (a1 s1 (a1 trivial (a1 b1 (a1 (rfl:true=true) trivial)))))) (by kernel_rfl)
   ·rw [if_neg b1] at h
    replace b1:=bf_ b1
    by_cases b2:(!g52_0 (List.getD x0.1 (Int.toNat v18) (0,0,())).2.1 0 900)=true
    ·rw [if_pos b2] at h
     subst h
     exact AtV.ret Tryz.func69 tabOk ext69Ok mixed false [] tys69 [true,false,true] (a1 b0 (a1 s0 (a1 s1 (a1 trivial (a1 b1 (a1 trivial (a1 b2 trivial))))))) (by kernel_rfl)
    ·rw [if_neg b2] at h
     replace b2:=bf_ b2
     obtain ⟨s2,h⟩:=h
     exact AtV.go tabOk ext69Ok mixed false [] [] [1,16,17,18] [0] [true,false,false] (a1 b0 (a1 s0 (a1 s1 (a1 trivial (a1 b1 (a1 trivial (a1 b2 (a1 s2 trivial)))))))) (ih4 _ _ _ h K q) (by kernel_rfl)
  ·rw [if_neg b0] at h
   replace b0:=bf_ b0
   obtain ⟨s0,h⟩:=h
   by_cases b1:(decide (g80_0 x0≤3000000))=true
   ·rw [if_pos b1] at h
    obtain ⟨s1,h⟩:=h
    by_cases b2:(g52_0 x0.2.1 0 (g80_0 x0))=true
    ·rw [if_pos b2] at h
     obtain ⟨s2,h⟩:=h
     subst h
     exact AtV.ret Tryz.func69 tabOk ext69Ok mixed false [] tys69 [false,true,true] (a1 b0 (a1 s0 (a1 b1 (a1 s1 (a1 trivial (a1 b2 (a1 s2 (a1 trivial trivial)))))))) (by kernel_rfl)
    ·rw [if_neg b2] at h
     replace b2:=bf_ b2
     subst h
     exact AtV.ret Tryz.func69 tabOk ext69Ok mixed false [] tys69 [false,true,false] (a1 b0 (a1 s0 (a1 b1 (a1 s1 (a1 trivial (a1 b2 trivial)))))) (by kernel_rfl)
   ·rw [if_neg b1] at h
    replace b1:=bf_ b1
    subst h
    exact AtV.ret Tryz.func69 tabOk ext69Ok mixed false [] tys69 [false,false,false] (a1 b0 (a1 s0 (a1 b1 (a1 (rfl:false=false) trivial)))) (by kernel_rfl)
def ok69 (x:TyB4):Bool:=g52_0 x.1 1 3000000&&g52_0 x.2.1 0 900
def fine69 (x0:(List TyB4×Int×Int×Unit)):Bool:=if decide (g80_0 x0≤3000000)=true then (if g52_0 x0.2.1 0 (g80_0 x0)=true then g52_0 x0.2.2.1 x0.2.1 (g80_0 x0) else false) else false
def g69_0 (x0:(List TyB4×Int×Int×Unit)):Bool:=x0.1.all ok69&&(decide (1≤x0.1.length)&&decide (x0.1.length≤12))&&fine69 x0
def P69 (x0:(List TyB4×Int×Int×Unit)):Prop:=True
theorem in69 {x a b:Int}:g52_0 x a b=true↔a≤x∧x≤b:=by
 unfold g52_0
 by_cases c1:x≥a
 ·by_cases c2:x≤b
  ·simp [c1,c2]
  ·simp [c1,c2]
 ·have:¬ a≤x:=c1
  simp [c1,this]
theorem lenp69 {x0:(List TyB4×Int×Int×Unit)} (h:x0.1.all ok69=true) (hl:x0.1.length≤12):P80 x0∧0≤g80_0 x0∧g80_0 x0≤36000000:=by
 have hx:∀ x∈x0.1,0≤x.1∧x.1≤3000000:=fun x hx=>by
  have:=List.all_eq_true.1 h x hx
  unfold ok69 at this
  rw [Bool.and_eq_true] at this
  have:=in69.1 this.1
  omega
 obtain ⟨s1,s2⟩:=sum80_le x0.1 hx
 refine ⟨⟨by omega,fun x h=>by have:=hx x h;omega⟩,s1,?_⟩
 show sum80 x0.1≤_
 omega
theorem run69 (x0:(List TyB4×Int×Int×Unit)) (hm:x0.1.length≤maxLen) (yes:List Dyn) (hend:∀ n,x0.1.all ok69=true→R69_4 (n+1) (x0.1.length:Int) x0 yes):∀ (k i:Nat) (B:Bool),i+k=x0.1.length→(x0.1.drop i).all ok69=B→(∀ j,j<i→ok69 (x0.1.getD j ((0:Int),(0:Int),()))=true) →
  R69_4 (k+1) (i:Int) x0 (if B=true then yes else [⟨.bool,false⟩]):=by
 intro k
 induction k with
 | zero =>
  intro i B hi hB hp
  have:i=x0.1.length:=by omega
  subst this
  rw [drop_end _ _ (by omega)] at hB
  subst hB
  refine hend 0 (List.all_eq_true.2 fun x hx => ?_)
  obtain ⟨j,hj,rfl⟩:=List.getElem_of_mem hx
  have:=hp j (by omega)
  rwa [getD_lt _ _ _ hj] at this
 | succ k ih =>
  intro i B hi hB hp
  have hlt:i<x0.1.length:=by omega
  have hu:=inR_up hm hlt
  rw [R69_4,if_pos (by simp only [decide_eq_true_eq];omega)]
  rw [drop_get x0.1 i ((0:Int),(0:Int),()) hlt,List.all_cons] at hB
  simp only [Int.toNat_natCast]
  refine ⟨by omega,by omega,?_⟩
  by_cases h1:ok69 (x0.1.getD i ((0:Int),(0:Int),()))=true
  case neg =>
   have h1:=bf_ h1
   rw [h1,Bool.false_and] at hB
   subst hB
   by_cases c1:g52_0 (x0.1.getD i ((0:Int),(0:Int),())).1 1 3000000=true
   ·rw [if_neg (by rw [c1];simp)]
    have c2:g52_0 (x0.1.getD i ((0:Int),(0:Int),())).2.1 0 900=false:=by
     unfold ok69 at h1;rw [c1] at h1;simpa using h1
    rw [if_pos (by rw [c2];rfl)] <;> rfl
   ·rw [if_pos (by rw [bf_ c1];rfl)] <;> rfl
  case pos =>
   have hb:=h1
   rw [h1,Bool.true_and] at hB
   unfold ok69 at hb
   rw [Bool.and_eq_true] at hb
   rw [if_neg (by rw [hb.1];simp)]
   have e1:(((i+1:Nat)):Int)=(i:Int)+1:=by omega
   have hnext:=ih (i+1) B (by omega) hB (fun j hj=>by
    rcases Nat.lt_or_ge j i with h | h
    ·exact hp j h
    ·have:j=i:=by omega
     subst this;exact h1)
   rw [e1] at hnext
   rw [if_neg (by rw [hb.2];simp)]
   exact ⟨hu,hnext⟩
theorem end69 (x0:(List TyB4×Int×Int×Unit)) (d1:1≤x0.1.length) (d2:x0.1.length≤12) (n:Nat) (h:x0.1.all ok69=true):R69_4 (n+1) (x0.1.length:Int) x0 [⟨.bool,(decide (1≤x0.1.length)&&decide (x0.1.length≤12))&&fine69 x0⟩]:=by
 have hp:=(lenp69 h d2).1
 rw [R69_4,if_neg (by simp),decide_eq_true d1,decide_eq_true d2]
 refine ⟨hp,?_⟩
 unfold fine69
 split
 ·refine ⟨hp,?_⟩
  split
  ·exact ⟨hp,rfl⟩
  ·rfl
 ·rfl
theorem top69 (x0:(List TyB4×Int×Int×Unit)) (hm:x0.1.length≤maxLen):∃ n,R69 n x0 [⟨.bool,g69_0 x0⟩]:=by
 refine ⟨x0.1.length+1+1,?_⟩
 rw [R69]
 unfold g69_0
 by_cases c1:(x0.1.length:Int)<1
 ·rw [if_pos (decide_eq_true c1)]
  have:¬ 1≤x0.1.length:=by omega
  rw [decide_eq_false this,Bool.false_and,Bool.and_false,Bool.false_and]
 rw [if_neg (by simpa using c1)]
 by_cases c2:(x0.1.length:Int)>12
 ·rw [if_pos (decide_eq_true c2)]
  have:¬ x0.1.length≤12:=by omega
  rw [decide_eq_false this,Bool.and_false,Bool.and_false,Bool.false_and]
 rw [if_neg (by simpa using c2)]
 have key:=run69 x0 hm _ (end69 x0 (by omega) (by omega)) x0.1.length 0 _ (by omega) rfl (fun j hj=>by omega)
 rw [List.drop_zero] at key
 cases h:x0.1.all ok69 with
 | true=>rw [if_pos h] at key;rw [Bool.true_and];exact key
 | false=>rw [if_neg (by rw [h];simp)] at key;exact key
def S69:Am.Spec:={ sig:=sig69,pre:=fun ⟨x0,_⟩=>P69 x0,res:=fun ⟨x0,_⟩=>[⟨.bool,g69_0 x0⟩] }
theorem con69:Contract Tryz.prog 69 S69:=contract_of Tryz.func69 hb69 (bl_ (by kernel_rfl)) (fun ⟨x0,_⟩ h hwf K q =>
 let ⟨n,hn⟩:=top69 x0 hwf.1.1.1
 (snd69 n).1 x0 _ hn K q)
end
noncomputable section
def ext70:Ext:=[(52,S52)]
theorem ext70Ok:ExtOk Tryz.prog ext70:=⟨⟨ca52,con52⟩,trivial⟩
noncomputable def b70:Code:=bodyOf Tryz.f70
theorem hb70:Tryz.f70.body=some b70:=by kernel_rfl
def sig70:List AT:=[AT.v (.int .i64)]
def tys70:List Ty:=[.bool]
def kds70:List RK:=[]
def oks70:List AT:=owns sig70
def P70 (x0:Int):Prop:=True
def g70_0 (x0:Int):Bool:=g52_0 x0 0 3000000
theorem at70 (x0:Int) (h:P70 x0) (K:Ctx) (q:Nat→Value):AtV Tryz.prog 70 (PostR kds70 oks70 [⟨.bool,g70_0 x0⟩] [] [] q K) 5 K q [] [.code b70] (entE 0 0 sig70 (x0,())) (entL sig70 (x0,())):=by
 unfold P70 at h
 unfold g70_0
 exact AtV.ret Tryz.func70 tabOk ext70Ok mixed false [] tys70 [] (a1 trivial trivial) (by kernel_rfl)
def S70:Am.Spec:={ sig:=sig70,pre:=fun ⟨x0,_⟩=>P70 x0,res:=fun ⟨x0,_⟩=>[⟨.bool,g70_0 x0⟩],kds:=kds70 }
theorem con70:Contract Tryz.prog 70 S70:=contract_of Tryz.func70 hb70 (bl_ (by kernel_rfl)) (fun ⟨x0,_⟩ h _ K q=>at70 x0 h K q)
end
noncomputable section
def ext71:Ext:=[(52,S52)]
theorem ext71Ok:ExtOk Tryz.prog ext71:=⟨⟨ca52,con52⟩,trivial⟩
noncomputable def b71:Code:=bodyOf Tryz.f71
theorem hb71:Tryz.f71.body=some b71:=by kernel_rfl
def sig71:List AT:=[AT.v YA11]
def tys71:List Ty:=[.bool]
def kds71:List RK:=[]
def oks71:List AT:=owns sig71
def P71 (x0:Int×Int×Unit):Prop:=True
def g71_0 (x0:Int×Int×Unit):Bool:=(if (g52_0 x0.1 0 100)=true then g52_0 x0.2.1 1 10000 else false)
theorem at71 (x0:Int×Int×Unit) (h:P71 x0) (K:Ctx) (q:Nat→Value):AtV Tryz.prog 71 (PostR kds71 oks71 [⟨.bool,g71_0 x0⟩] [] [] q K) 11 K q [] [.code b71] (entE 0 0 sig71 (x0,())) (entL sig71 (x0,())):=by
 unfold P71 at h
 unfold g71_0
 by_cases b0:(g52_0 x0.1 0 100)=true
 ·try simp only [if_pos b0] at h ⊢
  exact AtV.ret Tryz.func71 tabOk ext71Ok mixed false [] tys71 [true] (a1 trivial (a1 b0 (a1 trivial trivial))) (by kernel_rfl)
 ·try simp only [if_neg b0] at h ⊢
  replace b0:=bf_ b0
  exact AtV.ret Tryz.func71 tabOk ext71Ok mixed false [] tys71 [false] (a1 trivial (a1 b0 trivial)) (by kernel_rfl)
def S71:Am.Spec:={ sig:=sig71,pre:=fun ⟨x0,_⟩=>P71 x0,res:=fun ⟨x0,_⟩=>[⟨.bool,g71_0 x0⟩],kds:=kds71 }
theorem con71:Contract Tryz.prog 71 S71:=contract_of Tryz.func71 hb71 (bl_ (by kernel_rfl)) (fun ⟨x0,_⟩ h _ K q=>at71 x0 h K q)
end
noncomputable section
def ext72:Ext:=[(52,S52),(70,S70)]
theorem ext72Ok:ExtOk Tryz.prog ext72:=⟨⟨ca52,con52⟩,⟨ca70,con70⟩,trivial⟩
noncomputable def b72:Code:=bodyOf Tryz.f72
theorem hb72:Tryz.f72.body=some b72:=by kernel_rfl
def sig72:List AT:=[AT.v YA4]
def tys72:List Ty:=[.bool]
def kds72:List RK:=[]
def oks72:List AT:=owns sig72
def P72 (x0:Int×Int×Int×Int×Unit):Prop:=True
def g72_0 (x0:Int×Int×Int×Int×Unit):Bool:=(if (g52_0 x0.1 1 2000)=true then (if (g52_0 x0.2.1 100 15000)=true then (if (g52_0 x0.2.2.1 100 x0.2.1)=true then g70_0 x0.2.2.2.1 else false) else false) else false)
theorem at72 (x0:Int×Int×Int×Int×Unit) (h:P72 x0) (K:Ctx) (q:Nat→Value):AtV Tryz.prog 72 (PostR kds72 oks72 [⟨.bool,g72_0 x0⟩] [] [] q K) 23 K q [] [.code b72] (entE 0 0 sig72 (x0,())) (entL sig72 (x0,())):=by
 unfold P72 at h
 unfold g72_0
 by_cases b0:(g52_0 x0.1 1 2000)=true
 ·try simp only [if_pos b0] at h ⊢
  by_cases b1:(g52_0 x0.2.1 100 15000)=true
  ·try simp only [if_pos b1] at h ⊢
   by_cases b2:(g52_0 x0.2.2.1 100 x0.2.1)=true
   ·try simp only [if_pos b2] at h ⊢
    exact AtV.ret Tryz.func72 tabOk ext72Ok mixed false [] tys72 [true,true,true] (a1 trivial (a1 b0 (a1 trivial (a1 b1 (a1 trivial (a1 b2 (a1 trivial trivial))))))) (by kernel_rfl)
   ·try simp only [if_neg b2] at h ⊢
    replace b2:=bf_ b2
    exact AtV.ret Tryz.func72 tabOk ext72Ok mixed false [] tys72 [true,true,false] (a1 trivial (a1 b0 (a1 trivial (a1 b1 (a1 trivial (a1 b2 trivial)))))) (by kernel_rfl)
  ·try simp only [if_neg b1] at h ⊢
   replace b1:=bf_ b1
   exact AtV.ret Tryz.func72 tabOk ext72Ok mixed false [] tys72 [true,false,false] (a1 trivial (a1 b0 (a1 trivial (a1 b1 (a1 (rfl:false=false) trivial))))) (by kernel_rfl)
 ·try simp only [if_neg b0] at h ⊢
  replace b0:=bf_ b0
  exact AtV.ret Tryz.func72 tabOk ext72Ok mixed false [] tys72 [false,false,false] (a1 trivial (a1 b0 (a1 (rfl:false=false) (a1 (rfl:false=false) trivial)))) (by kernel_rfl)
def S72:Am.Spec:={ sig:=sig72,pre:=fun ⟨x0,_⟩=>P72 x0,res:=fun ⟨x0,_⟩=>[⟨.bool,g72_0 x0⟩],kds:=kds72 }
theorem con72:Contract Tryz.prog 72 S72:=contract_of Tryz.func72 hb72 (bl_ (by kernel_rfl)) (fun ⟨x0,_⟩ h _ K q=>at72 x0 h K q)
end
noncomputable section
def ext120:Ext:=[]
theorem ext120Ok:ExtOk Tryz.prog ext120:=trivial
noncomputable def b120:Code:=bodyOf Tryz.f120
theorem hb120:Tryz.f120.body=some b120:=by kernel_rfl
def sig120:List AT:=[AT.v (.str)]
def tys120:List Ty:=[.bool]
def kds120:List RK:=[]
def oks120:List AT:=owns sig120
def E120_4 (v18:Int) (x0:ByteArray):Env:=[(16,.a (.osl 0 Option.none)),(17,.a (.val (.int .i64 (↑(List.length (bytesOf x0)):Int)))),(18,.a (.val (.int .i64 v18)))]
def L120_4 (v18:Int) (x0:ByteArray):Heap:=[Option.some (Arr.mk (.int .u8) (bytesOf x0) false Option.none Option.none)]
mutual
def R120:Nat→ByteArray→List Dyn→Prop
 | 0,_,_=>False
 | n+1,x0,ds=>(if (decide ((↑(ByteArray.size x0):Int)<1))=true then (ds=[Dyn.mk .bool false]) else (if (decide ((↑(ByteArray.size x0):Int)>10))=true then (ds=[Dyn.mk .bool false]) else (R120_4 n (0) (x0) ds)))
def R120_4:Nat→Int→ByteArray→List Dyn→Prop
 | 0,_,_,_=>False
 | n+1,v18,x0,ds=>(if (decide (v18<(↑(List.length (bytesOf x0)):Int)))=true then ((0≤v18)∧(v18<(↑(List.length (bytesOf x0)):Int))∧(if (decide (List.getD (bytesOf x0) (Int.toNat v18) 0≥97))=true then (if (decide (List.getD (bytesOf x0) (Int.toNat v18) 0≥48))=true then (if (!decide (List.getD (bytesOf x0) (Int.toNat v18) 0≤122))=true then (if (v18==0)=true then (ds=[Dyn.mk .bool false]) else (if (!decide (List.getD (bytesOf x0) (Int.toNat v18) 0≤57))=true then (ds=[Dyn.mk .bool false]) else ((InR .i64 (v18+1))∧(R120_4 n (v18+1) (x0) ds)))) else ((InR .i64 (v18+1))∧(R120_4 n (v18+1) (x0) ds))) else (if (!decide (List.getD (bytesOf x0) (Int.toNat v18) 0≤122))=true then (if (v18==0)=true then (ds=[Dyn.mk .bool false]) else (ds=[Dyn.mk .bool false])) else ((InR .i64 (v18+1))∧(R120_4 n (v18+1) (x0) ds)))) else (if (decide (List.getD (bytesOf x0) (Int.toNat v18) 0≥48))=true then (if (v18==0)=true then (ds=[Dyn.mk .bool false]) else (if (!decide (List.getD (bytesOf x0) (Int.toNat v18) 0≤57))=true then (ds=[Dyn.mk .bool false]) else ((InR .i64 (v18+1))∧(R120_4 n (v18+1) (x0) ds)))) else (if (v18==0)=true then (ds=[Dyn.mk .bool false]) else (ds=[Dyn.mk .bool false]))))) else (ds=[Dyn.mk .bool true]))
end
theorem snd120:∀ n,(∀ (x0:ByteArray) ds,R120 n x0 ds→∀ K q,AtV Tryz.prog 120 (PostR kds120 oks120 ds [] [] q K) 46 K q [] [.code b120] (entE 0 0 sig120 (x0,())) (entL sig120 (x0,())))∧(∀ (v18:Int) (x0:ByteArray) ds,R120_4 n v18 x0 ds→∀ K q,AtV Tryz.prog 120 (PostR kds120 oks120 ds [] [] q K) 46 K q [] (cutAt b120 4) (E120_4 v18 x0) (L120_4 v18 x0)):=by
 intro n
 induction n with
 | zero=>exact ⟨fun _ _ h=>by simp only [R120] at h,fun _ _ _ h=>by simp only [R120_4] at h⟩
 | succ n ih =>
 obtain ⟨ih,ih4⟩:=ih
 refine ⟨?_,?_⟩
 ·intro x0 ds h K q
  rw [R120] at h
  by_cases b0:(decide ((↑(ByteArray.size x0):Int)<1))=true
  ·rw [if_pos b0] at h
   subst h
   exact AtV.ret Tryz.func120 tabOk ext120Ok mixed false [] tys120 [true,true] (a1 b0 (a1 (rfl:true=true) trivial)) (by kernel_rfl)
  ·rw [if_neg b0] at h
   replace b0:=bf_ b0
   by_cases b1:(decide ((↑(ByteArray.size x0):Int)>10))=true
   ·rw [if_pos b1] at h
    subst h
    exact AtV.ret Tryz.func120 tabOk ext120Ok mixed false [] tys120 [false,true] (a1 b0 (a1 b1 trivial)) (by kernel_rfl)
   ·rw [if_neg b1] at h
    replace b1:=bf_ b1
    exact AtV.go tabOk ext120Ok mixed false [] [] [16,17,18] [0] [false,false] (a1 b0 (a1 b1 trivial)) (ih4 _ _ _ h K q) (by kernel_rfl)
 ·intro v18 x0 ds h K q
  rw [R120_4] at h
  by_cases b0:(decide (v18<(↑(List.length (bytesOf x0)):Int)))=true
  ·rw [if_pos b0] at h
   obtain ⟨s0,s1,h⟩:=h
   by_cases b1:(decide (List.getD (bytesOf x0) (Int.toNat v18) 0≥97))=true
   ·rw [if_pos b1] at h
    by_cases b2:(decide (List.getD (bytesOf x0) (Int.toNat v18) 0≥48))=true
    ·rw [if_pos b2] at h
     by_cases b3:(!decide (List.getD (bytesOf x0) (Int.toNat v18) 0≤122))=true
     ·rw [if_pos b3] at h
      by_cases b4:(v18==0)=true
      ·rw [if_pos b4] at h
       subst h
       exact AtV.ret Tryz.func120 tabOk ext120Ok mixed false [] tys120 [true,true,true,true,true,true] (a1 b0 (a1 s0 (a1 s1 (a1 b1 (a1 b2 (a1 b3 (a1 b4 (a1 (rfl:true=true) trivial)))))))) (by kernel_rfl)
      ·rw [if_neg b4] at h
       replace b4:=bf_ b4
       by_cases b5:(!decide (List.getD (bytesOf x0) (Int.toNat v18) 0≤57))=true
       ·rw [if_pos b5] at h
        subst h
        exact AtV.ret Tryz.func120 tabOk ext120Ok mixed false [] tys120 [true,true,true,true,false,true] (a1 b0 (a1 s0 (a1 s1 (a1 b1 (a1 b2 (a1 b3 (a1 b4 (a1 b5 trivial)))))))) (by kernel_rfl)
       ·rw [if_neg b5] at h
        replace b5:=bf_ b5
        obtain ⟨s2,h⟩:=h
        exact AtV.go tabOk ext120Ok mixed false [] [] [16,17,18] [0] [true,true,true,true,false,false] (a1 b0 (a1 s0 (a1 s1 (a1 b1 (a1 b2 (a1 b3 (a1 b4 (a1 b5 (a1 s2 trivial))))))))) (ih4 _ _ _ h K q) (by kernel_rfl)
     ·rw [if_neg b3] at h
      replace b3:=bf_ b3
      obtain ⟨s2,h⟩:=h
      exact AtV.go tabOk ext120Ok mixed false [] [] [16,17,18] [0] [true,true,true,false,false] (a1 b0 (a1 s0 (a1 s1 (a1 b1 (a1 b2 (a1 b3 (a1 (rfl:false=false) (a1 s2 trivial)))))))) (ih4 _ _ _ h K q) (by kernel_rfl)
    ·rw [if_neg b2] at h
     replace b2:=bf_ b2
     by_cases b3:(!decide (List.getD (bytesOf x0) (Int.toNat v18) 0≤122))=true
     ·rw [if_pos b3] at h
      by_cases b4:(v18==0)=true
      ·rw [if_pos b4] at h
       subst h
       exact AtV.ret Tryz.func120 tabOk ext120Ok mixed false [] tys120 [true,true,false,true,true,true] (a1 b0 (a1 s0 (a1 s1 (a1 b1 (a1 b2 (a1 b3 (a1 b4 (a1 (rfl:true=true) trivial)))))))) (by kernel_rfl)
      ·rw [if_neg b4] at h
       replace b4:=bf_ b4
       subst h
       exact AtV.ret Tryz.func120 tabOk ext120Ok mixed false [] tys120 [true,true,false,true,false,true] (a1 b0 (a1 s0 (a1 s1 (a1 b1 (a1 b2 (a1 b3 (a1 b4 (a1 (rfl:true=true) trivial)))))))) (by kernel_rfl)
     ·rw [if_neg b3] at h
      replace b3:=bf_ b3
      obtain ⟨s2,h⟩:=h
      exact AtV.go tabOk ext120Ok mixed false [] [] [16,17,18] [0] [true,true,false,false,false] (a1 b0 (a1 s0 (a1 s1 (a1 b1 (a1 b2 (a1 b3 (a1 (rfl:false=false) (a1 s2 trivial)))))))) (ih4 _ _ _ h K q) (by kernel_rfl)
   ·rw [if_neg b1] at h
    replace b1:=bf_ b1
    by_cases b2:(decide (List.getD (bytesOf x0) (Int.toNat v18) 0≥48))=true
    ·rw [if_pos b2] at h
     by_cases b3:(v18==0)=true
     ·rw [if_pos b3] at h
      subst h
      exact AtV.ret Tryz.func120 tabOk ext120Ok mixed false [] tys120 [true,false,true,true,true,true] (a1 b0 (a1 s0 (a1 s1 (a1 b1 (a1 b2 (a1 (rfl:true=true) (a1 b3 (a1 (rfl:true=true) trivial)))))))) (by kernel_rfl)
     ·rw [if_neg b3] at h
      replace b3:=bf_ b3
      by_cases b4:(!decide (List.getD (bytesOf x0) (Int.toNat v18) 0≤57))=true
      ·rw [if_pos b4] at h
       subst h
       exact AtV.ret Tryz.func120 tabOk ext120Ok mixed false [] tys120 [true,false,true,true,false,true] (a1 b0 (a1 s0 (a1 s1 (a1 b1 (a1 b2 (a1 (rfl:true=true) (a1 b3 (a1 b4 trivial)))))))) (by kernel_rfl)
      ·rw [if_neg b4] at h
       replace b4:=bf_ b4
       obtain ⟨s2,h⟩:=h
       exact AtV.go tabOk ext120Ok mixed false [] [] [16,17,18] [0] [true,false,true,true,false,false] (a1 b0 (a1 s0 (a1 s1 (a1 b1 (a1 b2 (a1 (rfl:true=true) (a1 b3 (a1 b4 (a1 s2 trivial))))))))) (ih4 _ _ _ h K q) (by kernel_rfl)
    ·rw [if_neg b2] at h
     replace b2:=bf_ b2
     by_cases b3:(v18==0)=true
     ·rw [if_pos b3] at h
      subst h
      exact AtV.ret Tryz.func120 tabOk ext120Ok mixed false [] tys120 [true,false,false,true,true,true] (a1 b0 (a1 s0 (a1 s1 (a1 b1 (a1 b2 (a1 (rfl:true=true) (a1 b3 (a1 (rfl:true=true) trivial)))))))) (by kernel_rfl)
     ·rw [if_neg b3] at h
      replace b3:=bf_ b3
      subst h
      exact AtV.ret Tryz.func120 tabOk ext120Ok mixed false [] tys120 [true,false,false,true,false,true] (a1 b0 (a1 s0 (a1 s1 (a1 b1 (a1 b2 (a1 (rfl:true=true) (a1 b3 (a1 (rfl:true=true) trivial)))))))) (by kernel_rfl)
  ·rw [if_neg b0] at h
   replace b0:=bf_ b0
   subst h
   exact AtV.ret Tryz.func120 tabOk ext120Ok mixed false [] tys120 [false] (a1 b0 trivial) (by kernel_rfl)
def ok120 (i:Nat) (b:Int):Bool:=(decide (97≤b)&&decide (b≤122))||(!(i==0)&&(decide (48≤b)&&decide (b≤57)))
def g120_0 (x0:ByteArray):Bool:=decide (1≤x0.size)&&decide (x0.size≤10)&&allI ok120 0 (bytesOf x0)
def P120 (x0:ByteArray):Prop:=True
theorem step120 (n i:Nat) (x0:ByteArray) (hw:Wf .str x0) (hi:i<(bytesOf x0).length) (ds:List Dyn) :
  R120_4 (n+1) (i:Int) x0 ds↔(if ok120 i ((bytesOf x0).getD i 0)=true then R120_4 n ((i:Int)+1) x0 ds else ds=[⟨.bool,false⟩]):=by
 have hu:=inR_up (xs:=bytesOf x0) (by rw [bytesOf_length];exact hw) hi
 rw [R120_4,if_pos (by simp;omega)]
 simp only [Int.toNat_natCast]
 have hb:(0:Int)≤(i:Int)∧(i:Int)<((bytesOf x0).length:Int):=by omega
 have hz:((i:Int)==0)=(i==0):=by
  cases i with
  | zero=>rfl
  | succ k=>simp;omega
 simp only [hz,ok120,hu,true_and,hb.1,hb.2,ge_iff_le]
 by_cases h1:(97:Int)≤(bytesOf x0).getD i 0 <;> by_cases h2:(bytesOf x0).getD i 0≤122 <;> by_cases h3:(48:Int)≤(bytesOf x0).getD i 0 <;> by_cases h4:(bytesOf x0).getD i 0≤57 <;> rcases Bool.eq_false_or_eq_true (i==0) with e0 | e0 <;> first | (exfalso;omega) | simp only [h1,h2,h3,h4,e0,decide_true,decide_false,Bool.not_true,Bool.not_false,Bool.true_and,Bool.false_and,Bool.and_true,Bool.and_false,Bool.true_or,Bool.or_true,Bool.or_false,Bool.false_or,if_true,if_false,Bool.false_eq_true]
theorem top120 (x0:ByteArray) (hw:Wf .str x0):R120 (x0.size+1+1) x0 [⟨.bool,g120_0 x0⟩]:=by
 have hl:=bytesOf_length x0
 rw [R120]
 by_cases h0:(x0.size:Int)<1
 ·rw [if_pos (by simpa using h0)]
  have:¬ 1≤x0.size:=by omega
  simp [g120_0,this]
 ·rw [if_neg (by simpa using h0)]
  by_cases h1:(x0.size:Int)>10
  ·rw [if_pos (by simpa using h1)]
   have:¬ x0.size≤10:=by omega
   simp [g120_0,this]
  ·rw [if_neg (by simpa using h1)]
   have key:=loop_testI (bytesOf x0) 0 ok120 [(⟨.bool,false⟩:Dyn)] [⟨.bool,true⟩] (fun n i ds=>R120_4 n i x0 ds) (fun n => ?_) (fun n i hi hok ds hr => ?_) (fun n i hi hok => ?_)
   ·rw [hl] at key
    have e:g120_0 x0=allI ok120 0 (bytesOf x0):=by
     have a:1≤x0.size:=by omega
     have b:x0.size≤10:=by omega
     simp [g120_0,a,b]
    rw [e]
    cases h:allI ok120 0 (bytesOf x0) with
    | true=>rw [if_pos h] at key;exact key
    | false=>rw [if_neg (by rw [h];simp)] at key;exact key
   ·show R120_4 (n+1) ((bytesOf x0).length:Int) x0 _
    rw [R120_4,if_neg (by simp)]
   ·exact (step120 n i x0 hw hi ds).2 (by rw [if_pos hok];exact hr)
   ·exact (step120 n i x0 hw hi _).2 (by rw [if_neg (by rw [hok];simp)])
def S120:Am.Spec:={ sig:=sig120,pre:=fun ⟨x0,_⟩=>P120 x0,res:=fun ⟨x0,_⟩=>[⟨.bool,g120_0 x0⟩] }
theorem con120:Contract Tryz.prog 120 S120:=contract_of Tryz.func120 hb120 (bl_ (by kernel_rfl)) (fun ⟨x0,_⟩ h hwf K q =>
 (snd120 _).1 x0 _ (top120 x0 hwf.1) K q)
end
noncomputable section
def ext98:Ext:=[(52,S52)]
theorem ext98Ok:ExtOk Tryz.prog ext98:=⟨⟨ca52,con52⟩,trivial⟩
noncomputable def b98:Code:=bodyOf Tryz.f98
theorem hb98:Tryz.f98.body=some b98:=by kernel_rfl
def sig98:List AT:=[AT.v (.int .i64)]
def tys98:List Ty:=[.bool]
def kds98:List RK:=[]
def oks98:List AT:=owns sig98
def P98 (x0:Int):Prop:=True
def g98_0 (x0:Int):Bool:=g52_0 x0 0 100000
theorem at98 (x0:Int) (h:P98 x0) (K:Ctx) (q:Nat→Value):AtV Tryz.prog 98 (PostR kds98 oks98 [⟨.bool,g98_0 x0⟩] [] [] q K) 5 K q [] [.code b98] (entE 0 0 sig98 (x0,())) (entL sig98 (x0,())):=by
 unfold P98 at h
 unfold g98_0
 exact AtV.ret Tryz.func98 tabOk ext98Ok mixed false [] tys98 [] (a1 trivial trivial) (by kernel_rfl)
def S98:Am.Spec:={ sig:=sig98,pre:=fun ⟨x0,_⟩=>P98 x0,res:=fun ⟨x0,_⟩=>[⟨.bool,g98_0 x0⟩],kds:=kds98 }
theorem con98:Contract Tryz.prog 98 S98:=contract_of Tryz.func98 hb98 (bl_ (by kernel_rfl)) (fun ⟨x0,_⟩ h _ K q=>at98 x0 h K q)
end
noncomputable section
def ext97:Ext:=[(120,S120),(52,S52),(98,S98)]
theorem ext97Ok:ExtOk Tryz.prog ext97:=⟨⟨ca120,con120⟩,⟨ca52,con52⟩,⟨ca98,con98⟩,trivial⟩
noncomputable def b97:Code:=bodyOf Tryz.f97
theorem hb97:Tryz.f97.body=some b97:=by kernel_rfl
def sig97:List AT:=[AT.v YA5]
def tys97:List Ty:=[.bool]
def kds97:List RK:=[]
def oks97:List AT:=owns sig97
def P97 (x0:ByteArray×Int×Int×Int×Unit):Prop:=True
def g97_0 (x0:ByteArray×Int×Int×Int×Unit):Bool:=(if (g120_0 x0.1)=true then (if (g52_0 x0.2.1 1 200)=true then (if (g52_0 x0.2.2.1 0 40)=true then g98_0 x0.2.2.2.1 else false) else false) else false)
theorem at97 (x0:ByteArray×Int×Int×Int×Unit) (h:P97 x0) (K:Ctx) (q:Nat→Value):AtV Tryz.prog 97 (PostR kds97 oks97 [⟨.bool,g97_0 x0⟩] [] [] q K) 21 K q [] [.code b97] (entE 0 0 sig97 (x0,())) (entL sig97 (x0,())):=by
 unfold P97 at h
 unfold g97_0
 by_cases b0:(g120_0 x0.1)=true
 ·try simp only [if_pos b0] at h ⊢
  by_cases b1:(g52_0 x0.2.1 1 200)=true
  ·try simp only [if_pos b1] at h ⊢
   by_cases b2:(g52_0 x0.2.2.1 0 40)=true
   ·try simp only [if_pos b2] at h ⊢
    exact AtV.ret Tryz.func97 tabOk ext97Ok mixed false [] tys97 [true,true,true] (a1 trivial (a1 b0 (a1 trivial (a1 b1 (a1 trivial (a1 b2 (a1 trivial trivial))))))) (by kernel_rfl)
   ·try simp only [if_neg b2] at h ⊢
    replace b2:=bf_ b2
    exact AtV.ret Tryz.func97 tabOk ext97Ok mixed false [] tys97 [true,true,false] (a1 trivial (a1 b0 (a1 trivial (a1 b1 (a1 trivial (a1 b2 trivial)))))) (by kernel_rfl)
  ·try simp only [if_neg b1] at h ⊢
   replace b1:=bf_ b1
   exact AtV.ret Tryz.func97 tabOk ext97Ok mixed false [] tys97 [true,false,false] (a1 trivial (a1 b0 (a1 trivial (a1 b1 (a1 (rfl:false=false) trivial))))) (by kernel_rfl)
 ·try simp only [if_neg b0] at h ⊢
  replace b0:=bf_ b0
  exact AtV.ret Tryz.func97 tabOk ext97Ok mixed false [] tys97 [false,false,false] (a1 trivial (a1 b0 (a1 (rfl:false=false) (a1 (rfl:false=false) trivial)))) (by kernel_rfl)
def S97:Am.Spec:={ sig:=sig97,pre:=fun ⟨x0,_⟩=>P97 x0,res:=fun ⟨x0,_⟩=>[⟨.bool,g97_0 x0⟩],kds:=kds97 }
theorem con97:Contract Tryz.prog 97 S97:=contract_of Tryz.func97 hb97 (bl_ (by kernel_rfl)) (fun ⟨x0,_⟩ h _ K q=>at97 x0 h K q)
end
noncomputable section
def ext73:Ext:=[(97,S97)]
theorem ext73Ok:ExtOk Tryz.prog ext73:=⟨⟨ca97,con97⟩,trivial⟩
noncomputable def b73:Code:=bodyOf Tryz.f73
theorem hb73:Tryz.f73.body=some b73:=by kernel_rfl
def sig73:List AT:=[AT.v (.sl YA5)]
def tys73:List Ty:=[.bool]
def kds73:List RK:=[]
def oks73:List AT:=owns sig73
def E73_2 (v7:Int) (x0:List TyB1):Env:=[(0,.a (.sl YA5 x0)),(5,.a (.sl YA5 x0)),(6,.a (.val (.int .i64 (x0.length:Int)))),(7,.a (.val (.int .i64 v7)))]
def L73_2 (v7:Int) (x0:List TyB1):Heap:=[]
mutual
def R73:Nat→List TyB1→List Dyn→Prop
 | 0,_,_=>False
 | n+1,x0,ds=>(R73_2 n (0) (x0) ds)
def R73_2:Nat→Int→List TyB1→List Dyn→Prop
 | 0,_,_,_=>False
 | n+1,v7,x0,ds=>(if (decide (v7<(x0.length:Int)))=true then ((0≤v7)∧(v7<(x0.length:Int))∧(if (!g97_0 (List.getD x0 (Int.toNat v7) (ByteArray.empty,0,0,0,())))=true then (ds=[Dyn.mk .bool false]) else (if (decide (v7>0))=true then ((InR .i64 (v7 - 1))∧((0≤v7 - 1)∧(v7 - 1<(x0.length:Int))∧(if (Op.bytesLess (ByteArray.toList (List.getD x0 (Int.toNat v7) (ByteArray.empty,0,0,0,())).1) (ByteArray.toList (List.getD x0 (Int.toNat (v7 - 1)) (ByteArray.empty,0,0,0,())).1)||ByteArray.toList (List.getD x0 (Int.toNat v7) (ByteArray.empty,0,0,0,())).1==ByteArray.toList (List.getD x0 (Int.toNat (v7 - 1)) (ByteArray.empty,0,0,0,())).1)=true then (ds=[Dyn.mk .bool false]) else ((InR .i64 (v7+1))∧(R73_2 n (v7+1) (x0) ds))))) else ((InR .i64 (v7+1))∧(R73_2 n (v7+1) (x0) ds))))) else (ds=[Dyn.mk .bool (decide ((x0.length:Int)≤12))]))
end
theorem snd73:∀ n,(∀ (x0:List TyB1) ds,R73 n x0 ds→∀ K q,AtV Tryz.prog 73 (PostR kds73 oks73 ds [] [] q K) 34 K q [] [.code b73] (entE 0 0 sig73 (x0,())) (entL sig73 (x0,())))∧(∀ (v7:Int) (x0:List TyB1) ds,R73_2 n v7 x0 ds→∀ K q,AtV Tryz.prog 73 (PostR kds73 oks73 ds [] [] q K) 34 K q [] (cutAt b73 2) (E73_2 v7 x0) (L73_2 v7 x0)):=by
 intro n
 induction n with
 | zero=>exact ⟨fun _ _ h=>by simp only [R73] at h,fun _ _ _ h=>by simp only [R73_2] at h⟩
 | succ n ih =>
 obtain ⟨ih,ih2⟩:=ih
 refine ⟨?_,?_⟩
 ·intro x0 ds h K q
  rw [R73] at h
  exact AtV.go tabOk ext73Ok mixed false [] [] [0,5,6,7] [] [] trivial (ih2 _ _ _ h K q) (by kernel_rfl)
 ·intro v7 x0 ds h K q
  rw [R73_2] at h
  by_cases b0:(decide (v7<(x0.length:Int)))=true
  ·rw [if_pos b0] at h
   obtain ⟨s0,s1,h⟩:=h
   by_cases b1:(!g97_0 (List.getD x0 (Int.toNat v7) (ByteArray.empty,0,0,0,())))=true
   ·rw [if_pos b1] at h
    subst h
    exact AtV.ret Tryz.func73 tabOk ext73Ok mixed false [] tys73 [true,true,true] (a1 b0 (a1 s0 (a1 s1 (a1 trivial (a1 b1 (a1 (rfl:true=true) trivial)))))) (by kernel_rfl)
   ·rw [if_neg b1] at h
    replace b1:=bf_ b1
    by_cases b2:(decide (v7>0))=true
    ·rw [if_pos b2] at h
     obtain ⟨s2,h⟩:=h
     obtain ⟨s3,s4,h⟩:=h
     by_cases b3:(Op.bytesLess (ByteArray.toList (List.getD x0 (Int.toNat v7) (ByteArray.empty,0,0,0,())).1) (ByteArray.toList (List.getD x0 (Int.toNat (v7 - 1)) (ByteArray.empty,0,0,0,())).1)||ByteArray.toList (List.getD x0 (Int.toNat v7) (ByteArray.empty,0,0,0,())).1==ByteArray.toList (List.getD x0 (Int.toNat (v7 - 1)) (ByteArray.empty,0,0,0,())).1)=true
     ·rw [if_pos b3] at h
      subst h
      exact AtV.ret Tryz.func73 tabOk ext73Ok mixed false [] tys73 [true,false,true,true] (a1 b0 (a1 s0 (a1 s1 (a1 trivial (a1 b1 (a1 b2 (a1 s2 (a1 s3 (a1 s4 (a1 b3 trivial)))))))))) (by kernel_rfl)
     ·rw [if_neg b3] at h
      replace b3:=bf_ b3
      obtain ⟨s5,h⟩:=h
      exact AtV.go tabOk ext73Ok mixed false [] [] [0,5,6,7] [] [true,false,true,false] (a1 b0 (a1 s0 (a1 s1 (a1 trivial (a1 b1 (a1 b2 (a1 s2 (a1 s3 (a1 s4 (a1 b3 (a1 s5 trivial))))))))))) (ih2 _ _ _ h K q) (by kernel_rfl)
    ·rw [if_neg b2] at h
     replace b2:=bf_ b2
     obtain ⟨s2,h⟩:=h
     exact AtV.go tabOk ext73Ok mixed false [] [] [0,5,6,7] [] [true,false,false,false] (a1 b0 (a1 s0 (a1 s1 (a1 trivial (a1 b1 (a1 b2 (a1 (rfl:false=false) (a1 s2 trivial)))))))) (ih2 _ _ _ h K q) (by kernel_rfl)
  ·rw [if_neg b0] at h
   replace b0:=bf_ b0
   subst h
   exact AtV.ret Tryz.func73 tabOk ext73Ok mixed false [] tys73 [false] (a1 b0 trivial) (by kernel_rfl)
def ok73 (x0:List TyB1) (i:Nat) (x:TyB1):Bool :=
 g97_0 x&&(i==0 || !(Op.bytesLess (ByteArray.toList x.1) (ByteArray.toList (x0.getD (i - 1) (ByteArray.empty,(0:Int),(0:Int),(0:Int),())).1)||ByteArray.toList x.1==ByteArray.toList (x0.getD (i - 1) (ByteArray.empty,(0:Int),(0:Int),(0:Int),())).1))
def g73_0 (x0:List TyB1):Bool:=allI (ok73 x0) 0 x0&&decide (x0.length≤12)
def P73 (x0:List TyB1):Prop:=True
theorem step73 (n i : Nat) (x0 : List TyB1) (hm : x0.length ≤ maxLen) (hi : i < x0.length) (ds : List Dyn) :
    (if ok73 x0 i (x0.getD i (ByteArray.empty, (0 : Int), (0 : Int), (0 : Int), ())) = true then R73_2 n ((i : Int) + 1) x0 ds else ds = [⟨.bool, false⟩]) → R73_2 (n + 1) (i : Int) x0 ds := by
  intro h
  have hu := inR_up hm hi
  rw [R73_2, if_pos (by simp; omega)]
  refine ⟨by omega, by omega, ?_⟩
  simp only [Int.toNat_natCast]
  unfold ok73 at h
  by_cases h1 : g97_0 (x0.getD i (ByteArray.empty, (0 : Int), (0 : Int), (0 : Int), ())) = true
  case neg =>
    have h1 := bf_ h1
    rw [h1] at h
    rw [if_pos (by rw [h1]; rfl)]
    simpa using h
  case pos =>
    rw [h1] at h
    rw [if_neg (by rw [h1]; simp)]
    by_cases h0 : (i : Int) > 0
    · rw [if_pos (by simpa using h0)]
      have hi0 : (i == 0) = false := by simp; omega
      have e : ((i : Int) - 1).toNat = i - 1 := by omega
      refine ⟨by rw [i64_iff]; have : maxLen ≤ 9223372036854775807 := by decide
                 omega, by omega, by omega, ?_⟩
      rw [e]
      by_cases h2 : (Op.bytesLess (ByteArray.toList (x0.getD i (ByteArray.empty, (0 : Int), (0 : Int), (0 : Int), ())).1) (ByteArray.toList (x0.getD (i - 1) (ByteArray.empty, (0 : Int), (0 : Int), (0 : Int), ())).1) || ByteArray.toList (x0.getD i (ByteArray.empty, (0 : Int), (0 : Int), (0 : Int), ())).1 == ByteArray.toList (x0.getD (i - 1) (ByteArray.empty, (0 : Int), (0 : Int), (0 : Int), ())).1) = true
      · rw [if_pos h2]
        rw [hi0, h2] at h
        simpa using h
      · rw [if_neg h2]
        rw [hi0, bf_ h2] at h
        exact ⟨hu, by simpa using h⟩
    · rw [if_neg (by simpa using h0)]
      have hi0 : (i == 0) = true := by simp; omega
      rw [hi0] at h
      exact ⟨hu, by simpa using h⟩
theorem top73 (x0:List TyB1) (hw:x0.length≤maxLen):R73 (x0.length+1+1) x0 [⟨.bool,g73_0 x0⟩]:=by
 rw [R73]
 have key:=loop_testI x0 (ByteArray.empty,(0:Int),(0:Int),(0:Int),()) (ok73 x0) [(⟨.bool,false⟩:Dyn)] [⟨.bool,decide (x0.length≤12)⟩] (fun n i ds=>R73_2 n i x0 ds) (fun n => ?_) (fun n i hi hok ds hr => ?_) (fun n i hi hok => ?_)
 ·unfold g73_0
  cases h:allI (ok73 x0) 0 x0 with
  | true=>rw [if_pos h] at key;simpa using key
  | false=>rw [if_neg (by rw [h];simp)] at key;simpa using key
 ·rw [R73_2,if_neg (by simp)]
  have hc:decide ((x0.length:Int)≤12)=decide (x0.length≤12):=by
   congr 1;exact propext ⟨fun h=>by omega,fun h=>by omega⟩
  rw [hc]
 ·exact step73 n i x0 hw hi ds (by rw [if_pos hok];exact hr)
 ·exact step73 n i x0 hw hi _ (by rw [if_neg (by rw [hok];simp)])
def S73:Am.Spec:={ sig:=sig73,pre:=fun ⟨x0,_⟩=>P73 x0,res:=fun ⟨x0,_⟩=>[⟨.bool,g73_0 x0⟩] }
theorem con73:Contract Tryz.prog 73 S73:=contract_of Tryz.func73 hb73 (bl_ (by kernel_rfl)) (fun ⟨x0,_⟩ h hwf K q =>
 (snd73 _).1 x0 _ (top73 x0 hwf.1.1) K q)
end
noncomputable section
def ext74:Ext:=[(52,S52),(98,S98)]
theorem ext74Ok:ExtOk Tryz.prog ext74:=⟨⟨ca52,con52⟩,⟨ca98,con98⟩,trivial⟩
noncomputable def b74:Code:=bodyOf Tryz.f74
theorem hb74:Tryz.f74.body=some b74:=by kernel_rfl
def sig74:List AT:=[AT.v YA8]
def tys74:List Ty:=[.bool]
def kds74:List RK:=[]
def oks74:List AT:=owns sig74
def P74 (x0:Int×Int×Int×Unit):Prop:=True
def g74_0 (x0:Int×Int×Int×Unit):Bool:=(if (g52_0 x0.1 0 200)=true then (if (g52_0 x0.2.1 0 40)=true then g98_0 x0.2.2.1 else false) else false)
theorem at74 (x0:Int×Int×Int×Unit) (h:P74 x0) (K:Ctx) (q:Nat→Value):AtV Tryz.prog 74 (PostR kds74 oks74 [⟨.bool,g74_0 x0⟩] [] [] q K) 16 K q [] [.code b74] (entE 0 0 sig74 (x0,())) (entL sig74 (x0,())):=by
 unfold P74 at h
 unfold g74_0
 by_cases b0:(g52_0 x0.1 0 200)=true
 ·try simp only [if_pos b0] at h ⊢
  by_cases b1:(g52_0 x0.2.1 0 40)=true
  ·try simp only [if_pos b1] at h ⊢
   exact AtV.ret Tryz.func74 tabOk ext74Ok mixed false [] tys74 [true,true] (a1 trivial (a1 b0 (a1 trivial (a1 b1 (a1 trivial trivial))))) (by kernel_rfl)
  ·try simp only [if_neg b1] at h ⊢
   replace b1:=bf_ b1
   exact AtV.ret Tryz.func74 tabOk ext74Ok mixed false [] tys74 [true,false] (a1 trivial (a1 b0 (a1 trivial (a1 b1 trivial)))) (by kernel_rfl)
 ·try simp only [if_neg b0] at h ⊢
  replace b0:=bf_ b0
  exact AtV.ret Tryz.func74 tabOk ext74Ok mixed false [] tys74 [false,false] (a1 trivial (a1 b0 (a1 (rfl:false=false) trivial))) (by kernel_rfl)
def S74:Am.Spec:={ sig:=sig74,pre:=fun ⟨x0,_⟩=>P74 x0,res:=fun ⟨x0,_⟩=>[⟨.bool,g74_0 x0⟩],kds:=kds74 }
theorem con74:Contract Tryz.prog 74 S74:=contract_of Tryz.func74 hb74 (bl_ (by kernel_rfl)) (fun ⟨x0,_⟩ h _ K q=>at74 x0 h K q)
end
noncomputable section
def ext101:Ext:=[(52,S52)]
theorem ext101Ok:ExtOk Tryz.prog ext101:=⟨⟨ca52,con52⟩,trivial⟩
noncomputable def b101:Code:=bodyOf Tryz.f101
theorem hb101:Tryz.f101.body=some b101:=by kernel_rfl
def sig101:List AT:=[AT.v (.int .i64)]
def tys101:List Ty:=[.bool]
def kds101:List RK:=[]
def oks101:List AT:=owns sig101
def P101 (x0:Int):Prop:=True
def g101_0 (x0:Int):Bool:=g52_0 x0 0 100000
theorem at101 (x0:Int) (h:P101 x0) (K:Ctx) (q:Nat→Value):AtV Tryz.prog 101 (PostR kds101 oks101 [⟨.bool,g101_0 x0⟩] [] [] q K) 5 K q [] [.code b101] (entE 0 0 sig101 (x0,())) (entL sig101 (x0,())):=by
 unfold P101 at h
 unfold g101_0
 exact AtV.ret Tryz.func101 tabOk ext101Ok mixed false [] tys101 [] (a1 trivial trivial) (by kernel_rfl)
def S101:Am.Spec:={ sig:=sig101,pre:=fun ⟨x0,_⟩=>P101 x0,res:=fun ⟨x0,_⟩=>[⟨.bool,g101_0 x0⟩],kds:=kds101 }
theorem con101:Contract Tryz.prog 101 S101:=contract_of Tryz.func101 hb101 (bl_ (by kernel_rfl)) (fun ⟨x0,_⟩ h _ K q=>at101 x0 h K q)
end
noncomputable section
def ext100:Ext:=[(52,S52)]
theorem ext100Ok:ExtOk Tryz.prog ext100:=⟨⟨ca52,con52⟩,trivial⟩
noncomputable def b100:Code:=bodyOf Tryz.f100
theorem hb100:Tryz.f100.body=some b100:=by kernel_rfl
def sig100:List AT:=[AT.v (.int .i64)]
def tys100:List Ty:=[.bool]
def kds100:List RK:=[]
def oks100:List AT:=owns sig100
def P100 (x0:Int):Prop:=True
def g100_0 (x0:Int):Bool:=g52_0 x0 0 1000000
theorem at100 (x0:Int) (h:P100 x0) (K:Ctx) (q:Nat→Value):AtV Tryz.prog 100 (PostR kds100 oks100 [⟨.bool,g100_0 x0⟩] [] [] q K) 5 K q [] [.code b100] (entE 0 0 sig100 (x0,())) (entL sig100 (x0,())):=by
 unfold P100 at h
 unfold g100_0
 exact AtV.ret Tryz.func100 tabOk ext100Ok mixed false [] tys100 [] (a1 trivial trivial) (by kernel_rfl)
def S100:Am.Spec:={ sig:=sig100,pre:=fun ⟨x0,_⟩=>P100 x0,res:=fun ⟨x0,_⟩=>[⟨.bool,g100_0 x0⟩],kds:=kds100 }
theorem con100:Contract Tryz.prog 100 S100:=contract_of Tryz.func100 hb100 (bl_ (by kernel_rfl)) (fun ⟨x0,_⟩ h _ K q=>at100 x0 h K q)
end
noncomputable section
def ext121:Ext:=[(120,S120),(52,S52),(101,S101),(100,S100)]
theorem ext121Ok:ExtOk Tryz.prog ext121:=⟨⟨ca120,con120⟩,⟨ca52,con52⟩,⟨ca101,con101⟩,⟨ca100,con100⟩,trivial⟩
noncomputable def b121:Code:=bodyOf Tryz.f121
theorem hb121:Tryz.f121.body=some b121:=by kernel_rfl
def sig121:List AT:=[AT.v YA3]
def tys121:List Ty:=[.bool]
def kds121:List RK:=[]
def oks121:List AT:=owns sig121
def P121 (x0:ByteArray×Int×Int×Int×Int×Unit):Prop:=True
def g121_0 (x0:ByteArray×Int×Int×Int×Int×Unit):Bool:=(if (g120_0 x0.1)=true then (if (g52_0 x0.2.1 1 100000)=true then (if (g52_0 x0.2.2.1 1 1000000)=true then (if (g101_0 x0.2.2.2.1)=true then g100_0 x0.2.2.2.2.1 else false) else false) else false) else false)
theorem at121 (x0:ByteArray×Int×Int×Int×Int×Unit) (h:P121 x0) (K:Ctx) (q:Nat→Value):AtV Tryz.prog 121 (PostR kds121 oks121 [⟨.bool,g121_0 x0⟩] [] [] q K) 26 K q [] [.code b121] (entE 0 0 sig121 (x0,())) (entL sig121 (x0,())):=by
 unfold P121 at h
 unfold g121_0
 by_cases b0:(g120_0 x0.1)=true
 ·try simp only [if_pos b0] at h ⊢
  by_cases b1:(g52_0 x0.2.1 1 100000)=true
  ·try simp only [if_pos b1] at h ⊢
   by_cases b2:(g52_0 x0.2.2.1 1 1000000)=true
   ·try simp only [if_pos b2] at h ⊢
    by_cases b3:(g101_0 x0.2.2.2.1)=true
    ·try simp only [if_pos b3] at h ⊢
     exact AtV.ret Tryz.func121 tabOk ext121Ok mixed false [] tys121 [true,true,true,true] (a1 trivial (a1 b0 (a1 trivial (a1 b1 (a1 trivial (a1 b2 (a1 trivial (a1 b3 (a1 trivial trivial))))))))) (by kernel_rfl)
    ·try simp only [if_neg b3] at h ⊢
     replace b3:=bf_ b3
     exact AtV.ret Tryz.func121 tabOk ext121Ok mixed false [] tys121 [true,true,true,false] (a1 trivial (a1 b0 (a1 trivial (a1 b1 (a1 trivial (a1 b2 (a1 trivial (a1 b3 trivial)))))))) (by kernel_rfl)
   ·try simp only [if_neg b2] at h ⊢
    replace b2:=bf_ b2
    exact AtV.ret Tryz.func121 tabOk ext121Ok mixed false [] tys121 [true,true,false,false] (a1 trivial (a1 b0 (a1 trivial (a1 b1 (a1 trivial (a1 b2 (a1 (rfl:false=false) trivial))))))) (by kernel_rfl)
  ·try simp only [if_neg b1] at h ⊢
   replace b1:=bf_ b1
   exact AtV.ret Tryz.func121 tabOk ext121Ok mixed false [] tys121 [true,false,false,false] (a1 trivial (a1 b0 (a1 trivial (a1 b1 (a1 (rfl:false=false) (a1 (rfl:false=false) trivial)))))) (by kernel_rfl)
 ·try simp only [if_neg b0] at h ⊢
  replace b0:=bf_ b0
  exact AtV.ret Tryz.func121 tabOk ext121Ok mixed false [] tys121 [false,false,false,false] (a1 trivial (a1 b0 (a1 (rfl:false=false) (a1 (rfl:false=false) (a1 (rfl:false=false) trivial))))) (by kernel_rfl)
def S121:Am.Spec:={ sig:=sig121,pre:=fun ⟨x0,_⟩=>P121 x0,res:=fun ⟨x0,_⟩=>[⟨.bool,g121_0 x0⟩],kds:=kds121 }
theorem con121:Contract Tryz.prog 121 S121:=contract_of Tryz.func121 hb121 (bl_ (by kernel_rfl)) (fun ⟨x0,_⟩ h _ K q=>at121 x0 h K q)
end
noncomputable section
def ext99:Ext:=[(121,S121)]
theorem ext99Ok:ExtOk Tryz.prog ext99:=⟨⟨ca121,con121⟩,trivial⟩
noncomputable def b99:Code:=bodyOf Tryz.f99
theorem hb99:Tryz.f99.body=some b99:=by kernel_rfl
def sig99:List AT:=[AT.v (.sl YA3)]
def tys99:List Ty:=[.bool]
def kds99:List RK:=[]
def oks99:List AT:=owns sig99
def E99_2 (v7:Int) (x0:List TyB0):Env:=[(0,.a (.sl YA3 x0)),(5,.a (.sl YA3 x0)),(6,.a (.val (.int .i64 (x0.length:Int)))),(7,.a (.val (.int .i64 v7)))]
def L99_2 (v7:Int) (x0:List TyB0):Heap:=[]
mutual
def R99:Nat→List TyB0→List Dyn→Prop
 | 0,_,_=>False
 | n+1,x0,ds=>(R99_2 n (0) (x0) ds)
def R99_2:Nat→Int→List TyB0→List Dyn→Prop
 | 0,_,_,_=>False
 | n+1,v7,x0,ds=>(if (decide (v7<(x0.length:Int)))=true then ((0≤v7)∧(v7<(x0.length:Int))∧(if (!g121_0 (List.getD x0 (Int.toNat v7) (ByteArray.empty,0,0,0,0,())))=true then (ds=[Dyn.mk .bool false]) else (if (decide (v7>0))=true then ((InR .i64 (v7 - 1))∧((0≤v7 - 1)∧(v7 - 1<(x0.length:Int))∧(if (Op.bytesLess (ByteArray.toList (List.getD x0 (Int.toNat v7) (ByteArray.empty,0,0,0,0,())).1) (ByteArray.toList (List.getD x0 (Int.toNat (v7 - 1)) (ByteArray.empty,0,0,0,0,())).1)||ByteArray.toList (List.getD x0 (Int.toNat v7) (ByteArray.empty,0,0,0,0,())).1==ByteArray.toList (List.getD x0 (Int.toNat (v7 - 1)) (ByteArray.empty,0,0,0,0,())).1)=true then (ds=[Dyn.mk .bool false]) else ((InR .i64 (v7+1))∧(R99_2 n (v7+1) (x0) ds))))) else ((InR .i64 (v7+1))∧(R99_2 n (v7+1) (x0) ds))))) else (ds=[Dyn.mk .bool (decide ((x0.length:Int)≤16))]))
end
theorem snd99:∀ n,(∀ (x0:List TyB0) ds,R99 n x0 ds→∀ K q,AtV Tryz.prog 99 (PostR kds99 oks99 ds [] [] q K) 34 K q [] [.code b99] (entE 0 0 sig99 (x0,())) (entL sig99 (x0,())))∧(∀ (v7:Int) (x0:List TyB0) ds,R99_2 n v7 x0 ds→∀ K q,AtV Tryz.prog 99 (PostR kds99 oks99 ds [] [] q K) 34 K q [] (cutAt b99 2) (E99_2 v7 x0) (L99_2 v7 x0)):=by
 intro n
 induction n with
 | zero=>exact ⟨fun _ _ h=>by simp only [R99] at h,fun _ _ _ h=>by simp only [R99_2] at h⟩
 | succ n ih =>
 obtain ⟨ih,ih2⟩:=ih
 refine ⟨?_,?_⟩
 ·intro x0 ds h K q
  rw [R99] at h
  exact AtV.go tabOk ext99Ok mixed false [] [] [0,5,6,7] [] [] trivial (ih2 _ _ _ h K q) (by kernel_rfl)
 ·intro v7 x0 ds h K q
  rw [R99_2] at h
  by_cases b0:(decide (v7<(x0.length:Int)))=true
  ·rw [if_pos b0] at h
   obtain ⟨s0,s1,h⟩:=h
   by_cases b1:(!g121_0 (List.getD x0 (Int.toNat v7) (ByteArray.empty,0,0,0,0,())))=true
   ·rw [if_pos b1] at h
    subst h
    exact AtV.ret Tryz.func99 tabOk ext99Ok mixed false [] tys99 [true,true,true] (a1 b0 (a1 s0 (a1 s1 (a1 trivial (a1 b1 (a1 (rfl:true=true) trivial)))))) (by kernel_rfl)
   ·rw [if_neg b1] at h
    replace b1:=bf_ b1
    by_cases b2:(decide (v7>0))=true
    ·rw [if_pos b2] at h
     obtain ⟨s2,h⟩:=h
     obtain ⟨s3,s4,h⟩:=h
     by_cases b3:(Op.bytesLess (ByteArray.toList (List.getD x0 (Int.toNat v7) (ByteArray.empty,0,0,0,0,())).1) (ByteArray.toList (List.getD x0 (Int.toNat (v7 - 1)) (ByteArray.empty,0,0,0,0,())).1)||ByteArray.toList (List.getD x0 (Int.toNat v7) (ByteArray.empty,0,0,0,0,())).1==ByteArray.toList (List.getD x0 (Int.toNat (v7 - 1)) (ByteArray.empty,0,0,0,0,())).1)=true
     ·rw [if_pos b3] at h
      subst h
      exact AtV.ret Tryz.func99 tabOk ext99Ok mixed false [] tys99 [true,false,true,true] (a1 b0 (a1 s0 (a1 s1 (a1 trivial (a1 b1 (a1 b2 (a1 s2 (a1 s3 (a1 s4 (a1 b3 trivial)))))))))) (by kernel_rfl)
     ·rw [if_neg b3] at h
      replace b3:=bf_ b3
      obtain ⟨s5,h⟩:=h
      exact AtV.go tabOk ext99Ok mixed false [] [] [0,5,6,7] [] [true,false,true,false] (a1 b0 (a1 s0 (a1 s1 (a1 trivial (a1 b1 (a1 b2 (a1 s2 (a1 s3 (a1 s4 (a1 b3 (a1 s5 trivial))))))))))) (ih2 _ _ _ h K q) (by kernel_rfl)
    ·rw [if_neg b2] at h
     replace b2:=bf_ b2
     obtain ⟨s2,h⟩:=h
     exact AtV.go tabOk ext99Ok mixed false [] [] [0,5,6,7] [] [true,false,false,false] (a1 b0 (a1 s0 (a1 s1 (a1 trivial (a1 b1 (a1 b2 (a1 (rfl:false=false) (a1 s2 trivial)))))))) (ih2 _ _ _ h K q) (by kernel_rfl)
  ·rw [if_neg b0] at h
   replace b0:=bf_ b0
   subst h
   exact AtV.ret Tryz.func99 tabOk ext99Ok mixed false [] tys99 [false] (a1 b0 trivial) (by kernel_rfl)
def ok99 (x0:List TyB0) (i:Nat) (x:TyB0):Bool :=
 g121_0 x&&(i==0 || !(Op.bytesLess (ByteArray.toList x.1) (ByteArray.toList (x0.getD (i - 1) (ByteArray.empty,(0:Int),(0:Int),(0:Int),(0:Int),())).1)||ByteArray.toList x.1==ByteArray.toList (x0.getD (i - 1) (ByteArray.empty,(0:Int),(0:Int),(0:Int),(0:Int),())).1))
def g99_0 (x0:List TyB0):Bool:=allI (ok99 x0) 0 x0&&decide (x0.length≤16)
def P99 (x0:List TyB0):Prop:=True
theorem step99 (n i : Nat) (x0 : List TyB0) (hm : x0.length ≤ maxLen) (hi : i < x0.length) (ds : List Dyn) :
    (if ok99 x0 i (x0.getD i (ByteArray.empty, (0 : Int), (0 : Int), (0 : Int), (0 : Int), ())) = true then R99_2 n ((i : Int) + 1) x0 ds else ds = [⟨.bool, false⟩]) → R99_2 (n + 1) (i : Int) x0 ds := by
  intro h
  have hu := inR_up hm hi
  rw [R99_2, if_pos (by simp; omega)]
  refine ⟨by omega, by omega, ?_⟩
  simp only [Int.toNat_natCast]
  unfold ok99 at h
  by_cases h1 : g121_0 (x0.getD i (ByteArray.empty, (0 : Int), (0 : Int), (0 : Int), (0 : Int), ())) = true
  case neg =>
    have h1 := bf_ h1
    rw [h1] at h
    rw [if_pos (by rw [h1]; rfl)]
    simpa using h
  case pos =>
    rw [h1] at h
    rw [if_neg (by rw [h1]; simp)]
    by_cases h0 : (i : Int) > 0
    · rw [if_pos (by simpa using h0)]
      have hi0 : (i == 0) = false := by simp; omega
      have e : ((i : Int) - 1).toNat = i - 1 := by omega
      refine ⟨by rw [i64_iff]; have : maxLen ≤ 9223372036854775807 := by decide
                 omega, by omega, by omega, ?_⟩
      rw [e]
      by_cases h2 : (Op.bytesLess (ByteArray.toList (x0.getD i (ByteArray.empty, (0 : Int), (0 : Int), (0 : Int), (0 : Int), ())).1) (ByteArray.toList (x0.getD (i - 1) (ByteArray.empty, (0 : Int), (0 : Int), (0 : Int), (0 : Int), ())).1) || ByteArray.toList (x0.getD i (ByteArray.empty, (0 : Int), (0 : Int), (0 : Int), (0 : Int), ())).1 == ByteArray.toList (x0.getD (i - 1) (ByteArray.empty, (0 : Int), (0 : Int), (0 : Int), (0 : Int), ())).1) = true
      · rw [if_pos h2]
        rw [hi0, h2] at h
        simpa using h
      · rw [if_neg h2]
        rw [hi0, bf_ h2] at h
        exact ⟨hu, by simpa using h⟩
    · rw [if_neg (by simpa using h0)]
      have hi0 : (i == 0) = true := by simp; omega
      rw [hi0] at h
      exact ⟨hu, by simpa using h⟩
theorem top99 (x0:List TyB0) (hw:x0.length≤maxLen):R99 (x0.length+1+1) x0 [⟨.bool,g99_0 x0⟩]:=by
 rw [R99]
 have key:=loop_testI x0 (ByteArray.empty,(0:Int),(0:Int),(0:Int),(0:Int),()) (ok99 x0) [(⟨.bool,false⟩:Dyn)] [⟨.bool,decide (x0.length≤16)⟩] (fun n i ds=>R99_2 n i x0 ds) (fun n => ?_) (fun n i hi hok ds hr => ?_) (fun n i hi hok => ?_)
 ·unfold g99_0
  cases h:allI (ok99 x0) 0 x0 with
  | true=>rw [if_pos h] at key;simpa using key
  | false=>rw [if_neg (by rw [h];simp)] at key;simpa using key
 ·rw [R99_2,if_neg (by simp)]
  have hc:decide ((x0.length:Int)≤16)=decide (x0.length≤16):=by
   congr 1;exact propext ⟨fun h=>by omega,fun h=>by omega⟩
  rw [hc]
 ·exact step99 n i x0 hw hi ds (by rw [if_pos hok];exact hr)
 ·exact step99 n i x0 hw hi _ (by rw [if_neg (by rw [hok];simp)])
def S99:Am.Spec:={ sig:=sig99,pre:=fun ⟨x0,_⟩=>P99 x0,res:=fun ⟨x0,_⟩=>[⟨.bool,g99_0 x0⟩] }
theorem con99:Contract Tryz.prog 99 S99:=contract_of Tryz.func99 hb99 (bl_ (by kernel_rfl)) (fun ⟨x0,_⟩ h hwf K q =>
 (snd99 _).1 x0 _ (top99 x0 hwf.1.1) K q)
end
noncomputable section
def ext103:Ext:=[]
theorem ext103Ok:ExtOk Tryz.prog ext103:=trivial
noncomputable def b103:Code:=bodyOf Tryz.f103
theorem hb103:Tryz.f103.body=some b103:=by kernel_rfl
def sig103:List AT:=[AT.v YA3,AT.p (.int .i64),AT.p (.int .i64)]
def tys103:List Ty:=[.bool]
def kds103:List RK:=[]
def oks103:List AT:=owns sig103
def P103 (x0:ByteArray×Int×Int×Int×Int×Unit) (x1:Int) (x2:Int):Prop:=True
def g103_0 (x0:ByteArray×Int×Int×Int×Int×Unit) (x1:Int) (x2:Int):Bool:=(if (decide (x0.2.2.2.1>x1))=true then true else decide (x0.2.2.2.2.1>x2))
theorem at103 (x0:ByteArray×Int×Int×Int×Int×Unit) (x1:Int) (x2:Int) (h:P103 x0 x1 x2) (K:Ctx) (q:Nat→Value):AtV Tryz.prog 103 (PostR kds103 oks103 [⟨.bool,g103_0 x0 x1 x2⟩] [] [] q K) 15 K q [] [.code b103] (entE 0 0 sig103 (x0,x1,x2,())) (entL sig103 (x0,x1,x2,())):=by
 unfold P103 at h
 unfold g103_0
 by_cases b0:(decide (x0.2.2.2.1>x1))=true
 ·try simp only [if_pos b0] at h ⊢
  exact AtV.ret Tryz.func103 tabOk ext103Ok mixed false [] tys103 [true] (a1 b0 trivial) (by kernel_rfl)
 ·try simp only [if_neg b0] at h ⊢
  replace b0:=bf_ b0
  exact AtV.ret Tryz.func103 tabOk ext103Ok mixed false [] tys103 [false] (a1 b0 trivial) (by kernel_rfl)
def S103:Am.Spec:={ sig:=sig103,pre:=fun ⟨x0,x1,x2,_⟩=>P103 x0 x1 x2,res:=fun ⟨x0,x1,x2,_⟩=>[⟨.bool,g103_0 x0 x1 x2⟩],kds:=kds103 }
theorem con103:Contract Tryz.prog 103 S103:=contract_of Tryz.func103 hb103 (bl_ (by kernel_rfl)) (fun ⟨x0,x1,x2,_⟩ h _ K q=>at103 x0 x1 x2 h K q)
end
noncomputable section
def ext122c103:Ext:=[(103,S103)]
theorem ext122c103Ok:ExtOk Tryz.prog ext122c103:=⟨⟨ca103,con103⟩,trivial⟩
noncomputable def b122c103:Code:=bodyOf Tryz.f122
theorem hb122c103:Tryz.f122.body=some b122c103:=by kernel_rfl
def sig122c103:List AT:=[AT.v (.sl YA3),AT.fn 103 [(true,(.int .i64)),(true,(.int .i64))]]
def tys122c103:List Ty:=[.int .i64]
def kds122c103:List RK:=[]
def oks122c103:List AT:=owns sig122c103
def E122c103_2 (v8:Int) (x0:List TyB0) (x1:Int) (x1c:Int):Env:=[(0,.a (.sl YA3 x0)),(1,PV.fn 103 [Atom.ptr (.int .i64) x1,Atom.ptr (.int .i64) x1c]),(7,.a (.val (.int .i64 (x0.length:Int)))),(8,.a (.val (.int .i64 v8)))]
def L122c103_2 (v8:Int) (x0:List TyB0) (x1:Int) (x1c:Int):Heap:=[]
mutual
def R122c103:Nat→List TyB0→Int→Int→List Dyn→Prop
 | 0,_,_,_,_=>False
 | n+1,x0,x1,x1c,ds=>(R122c103_2 n (0) (x0) (x1) (x1c) ds)
def R122c103_2:Nat→Int→List TyB0→Int→Int→List Dyn→Prop
 | 0,_,_,_,_,_=>False
 | n+1,v8,x0,x1,x1c,ds=>(if (decide (v8<(x0.length:Int)))=true then ((0≤v8)∧(v8<(x0.length:Int))∧(if (g103_0 (List.getD x0 (Int.toNat v8) (ByteArray.empty,0,0,0,0,())) x1 x1c)=true then (ds=[Dyn.mk (.int .i64) v8]) else ((InR .i64 (v8+1))∧(R122c103_2 n (v8+1) (x0) (x1) (x1c) ds)))) else (ds=[Dyn.mk (.int .i64) (-1)]))
end
theorem snd122c103:∀ n,(∀ (x0:List TyB0) (x1:Int) (x1c:Int) ds,R122c103 n x0 x1 x1c ds→∀ K q,AtV Tryz.prog 122 (PostR kds122c103 oks122c103 ds [] [] q K) 19 K q [] [.code b122c103] (entE 0 0 sig122c103 (x0,(x1,x1c,()),())) (entL sig122c103 (x0,(x1,x1c,()),())))∧(∀ (v8:Int) (x0:List TyB0) (x1:Int) (x1c:Int) ds,R122c103_2 n v8 x0 x1 x1c ds→∀ K q,AtV Tryz.prog 122 (PostR kds122c103 oks122c103 ds [] [] q K) 19 K q [] (cutAt b122c103 2) (E122c103_2 v8 x0 x1 x1c) (L122c103_2 v8 x0 x1 x1c)):=by
 intro n
 induction n with
 | zero=>exact ⟨fun _ _ _ _ h=>by simp only [R122c103] at h,fun _ _ _ _ _ h=>by simp only [R122c103_2] at h⟩
 | succ n ih =>
 obtain ⟨ih,ih2⟩:=ih
 refine ⟨?_,?_⟩
 ·intro x0 x1 x1c ds h K q
  rw [R122c103] at h
  exact AtV.go tabOk ext122c103Ok mixed false [] [] [0,1,7,8] [] [] trivial (ih2 _ _ _ _ _ h K q) (by kernel_rfl)
 ·intro v8 x0 x1 x1c ds h K q
  rw [R122c103_2] at h
  by_cases b0:(decide (v8<(x0.length:Int)))=true
  ·rw [if_pos b0] at h
   obtain ⟨s0,s1,h⟩:=h
   by_cases b1:(g103_0 (List.getD x0 (Int.toNat v8) (ByteArray.empty,0,0,0,0,())) x1 x1c)=true
   ·rw [if_pos b1] at h
    subst h
    exact AtV.ret Tryz.func122 tabOk ext122c103Ok mixed false [] tys122c103 [true,true] (a1 b0 (a1 s0 (a1 s1 (a1 trivial (a1 b1 trivial))))) (by kernel_rfl)
   ·rw [if_neg b1] at h
    replace b1:=bf_ b1
    obtain ⟨s2,h⟩:=h
    exact AtV.go tabOk ext122c103Ok mixed false [] [] [0,1,7,8] [] [true,false] (a1 b0 (a1 s0 (a1 s1 (a1 trivial (a1 b1 (a1 s2 trivial)))))) (ih2 _ _ _ _ _ h K q) (by kernel_rfl)
  ·rw [if_neg b0] at h
   replace b0:=bf_ b0
   subst h
   exact AtV.ret Tryz.func122 tabOk ext122c103Ok mixed false [] tys122c103 [false] (a1 b0 trivial) (by kernel_rfl)
def g122c103_0 (x0:List TyB0) (y0:Int) (y1:Int):Int:=idx (x0.findIdx? (fun x=>g103_0 x y0 y1))
def P122c103 (x0:List TyB0) (y0:Int) (y1:Int):Prop:=True
theorem top122c103 (x0:List TyB0) (y0:Int) (y1:Int) (hm:x0.length≤maxLen):R122c103 (x0.length+1+1) x0 y0 y1 [⟨.int .i64,g122c103_0 x0 y0 y1⟩]:=by
 rw [R122c103]
 have key:=loop_find x0 (ByteArray.empty,(0:Int),(0:Int),(0:Int),(0:Int),()) (fun x=>g103_0 x y0 y1) [(⟨.int .i64, -1⟩:Dyn)] (fun k=>[⟨.int .i64,k⟩]) (fun n i ds=>R122c103_2 n i x0 y0 y1 ds) (fun n => ?_) (fun n i hi hok ds hr => ?_) (fun n i hi hok => ?_)
 ·unfold g122c103_0
  cases h:x0.findIdx? (fun x=>g103_0 x y0 y1) <;> rw [h] at key <;> exact key
 ·rw [R122c103_2,if_neg (by simp)]
 ·rw [R122c103_2,if_pos (by simp;omega)]
  simp only [Int.toNat_natCast]
  refine ⟨by omega,by omega,?_⟩
  rw [if_neg (by rw [hok];simp)]
  exact ⟨inR_up hm hi,hr⟩
 ·rw [R122c103_2,if_pos (by simp;omega)]
  simp only [Int.toNat_natCast]
  refine ⟨by omega,by omega,?_⟩
  rw [if_pos hok] <;> trivial
def S122c103:Am.Spec:={ sig:=sig122c103,pre:=fun ⟨x0,⟨y0,y1,_⟩,_⟩=>P122c103 x0 y0 y1,res:=fun ⟨x0,⟨y0,y1,_⟩,_⟩=>[⟨.int .i64,g122c103_0 x0 y0 y1⟩] }
theorem con122c103:Contract Tryz.prog 122 S122c103:=contract_of Tryz.func122 hb122c103 (bl_ (by kernel_rfl)) (fun ⟨x0,⟨y0,y1,_⟩,_⟩ h hwf K q =>
 (snd122c103 _).1 x0 y0 y1 _ (top122c103 x0 y0 y1 hwf.1.1) K q)
theorem any122c103 (x0:List TyB0) (y0:Int) (y1:Int):decide (g122c103_0 x0 y0 y1≥0)=x0.any (fun x=>g103_0 x y0 y1):=by
 have:=findIdx_any (fun x=>g103_0 x y0 y1) x0
 unfold g122c103_0
 cases h:x0.any (fun x=>g103_0 x y0 y1) with
 | true=>rw [h] at this;simpa using this
 | false=>rw [h] at this;simpa using this
end
noncomputable section
def ext102c103:Ext:=[(122,S122c103),(103,S103)]
theorem ext102c103Ok:ExtOk Tryz.prog ext102c103:=⟨⟨ca122,con122c103⟩,⟨ca103,con103⟩,trivial⟩
noncomputable def b102c103:Code:=bodyOf Tryz.f102
theorem hb102c103:Tryz.f102.body=some b102c103:=by kernel_rfl
def sig102c103:List AT:=[AT.v (.sl YA3),AT.fn 103 [(true,(.int .i64)),(true,(.int .i64))]]
def tys102c103:List Ty:=[.bool]
def kds102c103:List RK:=[]
def oks102c103:List AT:=owns sig102c103
def P102c103 (x0:List TyB0) (x1:Int) (x1c:Int):Prop:=True
def g102c103_0 (x0:List TyB0) (x1:Int) (x1c:Int):Bool:=decide (g122c103_0 x0 x1 x1c≥0)
theorem at102c103 (x0:List TyB0) (x1:Int) (x1c:Int) (h:P102c103 x0 x1 x1c) (K:Ctx) (q:Nat→Value):AtV Tryz.prog 102 (PostR kds102c103 oks102c103 [⟨.bool,g102c103_0 x0 x1 x1c⟩] [] [] q K) 9 K q [] [.code b102c103] (entE 0 0 sig102c103 (x0,(x1,x1c,()),())) (entL sig102c103 (x0,(x1,x1c,()),())):=by
 unfold P102c103 at h
 unfold g102c103_0
 exact AtV.ret Tryz.func102 tabOk ext102c103Ok mixed false [] tys102c103 [] (a1 trivial trivial) (by kernel_rfl)
def S102c103:Am.Spec:={ sig:=sig102c103,pre:=fun ⟨x0,⟨x1,x1c,_⟩,_⟩=>P102c103 x0 x1 x1c,res:=fun ⟨x0,⟨x1,x1c,_⟩,_⟩=>[⟨.bool,g102c103_0 x0 x1 x1c⟩],kds:=kds102c103 }
theorem con102c103:Contract Tryz.prog 102 S102c103:=contract_of Tryz.func102 hb102c103 (bl_ (by kernel_rfl)) (fun ⟨x0,⟨x1,x1c,_⟩,_⟩ h _ K q=>at102c103 x0 x1 x1c h K q)
end
noncomputable section
def ext75:Ext:=[(99,S99),(100,S100),(101,S101),(102,S102c103)]
theorem ext75Ok:ExtOk Tryz.prog ext75:=⟨⟨ca99,con99⟩,⟨ca100,con100⟩,⟨ca101,con101⟩,⟨ca102,con102c103⟩,trivial⟩
noncomputable def b75:Code:=bodyOf Tryz.f75
theorem hb75:Tryz.f75.body=some b75:=by kernel_rfl
def sig75:List AT:=[AT.v (.sl YA3),AT.v (.int .i64),AT.v (.int .i64),AT.v (.int .i64)]
def tys75:List Ty:=[.int .i64]
def kds75:List RK:=[]
def oks75:List AT:=owns sig75
def P75 (x0:List TyB0) (x1:Int) (x2:Int) (x3:Int):Prop:=True
def g75_0 (x0:List TyB0) (x1:Int) (x2:Int) (x3:Int):Int:=(if (!g99_0 x0)=true then 1 else (if (!g100_0 x3)=true then 2 else (if (!g101_0 x1)=true then 2 else (if (!g100_0 x2)=true then 2 else (if (g102c103_0 x0 x1 x2)=true then 6 else 0)))))
theorem at75 (x0:List TyB0) (x1:Int) (x2:Int) (x3:Int) (h:P75 x0 x1 x2 x3) (K:Ctx) (q:Nat→Value):AtV Tryz.prog 75 (PostR kds75 oks75 [⟨.int .i64,g75_0 x0 x1 x2 x3⟩] [] [] q K) 31 K q [] [.code b75] (entE 0 0 sig75 (x0,x1,x2,x3,())) (entL sig75 (x0,x1,x2,x3,())):=by
 unfold P75 at h
 unfold g75_0
 by_cases b0:(!g99_0 x0)=true
 ·try simp only [if_pos b0] at h ⊢
  exact AtV.ret Tryz.func75 tabOk ext75Ok mixed false [] tys75 [true] (a1 trivial (a1 b0 trivial)) (by kernel_rfl)
 ·try simp only [if_neg b0] at h ⊢
  replace b0:=bf_ b0
  by_cases b1:(!g100_0 x3)=true
  ·try simp only [if_pos b1] at h ⊢
   exact AtV.ret Tryz.func75 tabOk ext75Ok mixed false [] tys75 [false,true,true,true] (a1 trivial (a1 b0 (a1 trivial (a1 b1 (a1 (rfl:true=true) (a1 (rfl:true=true) trivial)))))) (by kernel_rfl)
  ·try simp only [if_neg b1] at h ⊢
   replace b1:=bf_ b1
   by_cases b2:(!g101_0 x1)=true
   ·try simp only [if_pos b2] at h ⊢
    exact AtV.ret Tryz.func75 tabOk ext75Ok mixed false [] tys75 [false,false,true,true] (a1 trivial (a1 b0 (a1 trivial (a1 b1 (a1 trivial (a1 b2 (a1 (rfl:true=true) trivial))))))) (by kernel_rfl)
   ·try simp only [if_neg b2] at h ⊢
    replace b2:=bf_ b2
    by_cases b3:(!g100_0 x2)=true
    ·try simp only [if_pos b3] at h ⊢
     exact AtV.ret Tryz.func75 tabOk ext75Ok mixed false [] tys75 [false,false,false,true] (a1 trivial (a1 b0 (a1 trivial (a1 b1 (a1 trivial (a1 b2 (a1 trivial (a1 b3 trivial)))))))) (by kernel_rfl)
    ·try simp only [if_neg b3] at h ⊢
     replace b3:=bf_ b3
     by_cases b4:(g102c103_0 x0 x1 x2)=true
     ·try simp only [if_pos b4] at h ⊢
      exact AtV.ret Tryz.func75 tabOk ext75Ok mixed false [] tys75 [false,false,false,false,true] (a1 trivial (a1 b0 (a1 trivial (a1 b1 (a1 trivial (a1 b2 (a1 trivial (a1 b3 (a1 trivial (a1 b4 trivial)))))))))) (by kernel_rfl)
     ·try simp only [if_neg b4] at h ⊢
      replace b4:=bf_ b4
      exact AtV.ret Tryz.func75 tabOk ext75Ok mixed false [] tys75 [false,false,false,false,false] (a1 trivial (a1 b0 (a1 trivial (a1 b1 (a1 trivial (a1 b2 (a1 trivial (a1 b3 (a1 trivial (a1 b4 trivial)))))))))) (by kernel_rfl)
def S75:Am.Spec:={ sig:=sig75,pre:=fun ⟨x0,x1,x2,x3,_⟩=>P75 x0 x1 x2 x3,res:=fun ⟨x0,x1,x2,x3,_⟩=>[⟨.int .i64,g75_0 x0 x1 x2 x3⟩],kds:=kds75 }
theorem con75:Contract Tryz.prog 75 S75:=contract_of Tryz.func75 hb75 (bl_ (by kernel_rfl)) (fun ⟨x0,x1,x2,x3,_⟩ h _ K q=>at75 x0 x1 x2 x3 h K q)
end
noncomputable section
def ext77:Ext:=[(52,S52)]
theorem ext77Ok:ExtOk Tryz.prog ext77:=⟨⟨ca52,con52⟩,trivial⟩
noncomputable def b77:Code:=bodyOf Tryz.f77
theorem hb77:Tryz.f77.body=some b77:=by kernel_rfl
def sig77:List AT:=[AT.v (.int .i64)]
def tys77:List Ty:=[.bool]
def kds77:List RK:=[]
def oks77:List AT:=owns sig77
def P77 (x0:Int):Prop:=True
def g77_0 (x0:Int):Bool:=g52_0 x0 0 1440
theorem at77 (x0:Int) (h:P77 x0) (K:Ctx) (q:Nat→Value):AtV Tryz.prog 77 (PostR kds77 oks77 [⟨.bool,g77_0 x0⟩] [] [] q K) 5 K q [] [.code b77] (entE 0 0 sig77 (x0,())) (entL sig77 (x0,())):=by
 unfold P77 at h
 unfold g77_0
 exact AtV.ret Tryz.func77 tabOk ext77Ok mixed false [] tys77 [] (a1 trivial trivial) (by kernel_rfl)
def S77:Am.Spec:={ sig:=sig77,pre:=fun ⟨x0,_⟩=>P77 x0,res:=fun ⟨x0,_⟩=>[⟨.bool,g77_0 x0⟩],kds:=kds77 }
theorem con77:Contract Tryz.prog 77 S77:=contract_of Tryz.func77 hb77 (bl_ (by kernel_rfl)) (fun ⟨x0,_⟩ h _ K q=>at77 x0 h K q)
end
noncomputable section
def ext104:Ext:=[(77,S77),(52,S52)]
theorem ext104Ok:ExtOk Tryz.prog ext104:=⟨⟨ca77,con77⟩,⟨ca52,con52⟩,trivial⟩
noncomputable def b104:Code:=bodyOf Tryz.f104
theorem hb104:Tryz.f104.body=some b104:=by kernel_rfl
def sig104:List AT:=[AT.v YA11]
def tys104:List Ty:=[.bool]
def kds104:List RK:=[]
def oks104:List AT:=owns sig104
def P104 (x0:Int×Int×Unit):Prop:=(if (g77_0 x0.1)=true then (if (g52_0 x0.2.1 1 1440)=true then ((InR .i64 (x0.1+x0.2.1))∧True) else True) else True)
def g104_0 (x0:Int×Int×Unit):Bool:=(if (g77_0 x0.1)=true then (if (g52_0 x0.2.1 1 1440)=true then decide (x0.1+x0.2.1≤1440) else false) else false)
theorem at104 (x0:Int×Int×Unit) (h:P104 x0) (K:Ctx) (q:Nat→Value):AtV Tryz.prog 104 (PostR kds104 oks104 [⟨.bool,g104_0 x0⟩] [] [] q K) 19 K q [] [.code b104] (entE 0 0 sig104 (x0,())) (entL sig104 (x0,())):=by
 unfold P104 at h
 unfold g104_0
 by_cases b0:(g77_0 x0.1)=true
 ·try simp only [if_pos b0] at h ⊢
  by_cases b1:(g52_0 x0.2.1 1 1440)=true
  ·try simp only [if_pos b1] at h ⊢
   obtain ⟨s0,h⟩:=h
   exact AtV.ret Tryz.func104 tabOk ext104Ok mixed false [] tys104 [true,true] (a1 trivial (a1 b0 (a1 trivial (a1 b1 (a1 s0 trivial))))) (by kernel_rfl)
  ·try simp only [if_neg b1] at h ⊢
   replace b1:=bf_ b1
   exact AtV.ret Tryz.func104 tabOk ext104Ok mixed false [] tys104 [true,false] (a1 trivial (a1 b0 (a1 trivial (a1 b1 trivial)))) (by kernel_rfl)
 ·try simp only [if_neg b0] at h ⊢
  replace b0:=bf_ b0
  exact AtV.ret Tryz.func104 tabOk ext104Ok mixed false [] tys104 [false,false] (a1 trivial (a1 b0 (a1 (rfl:false=false) trivial))) (by kernel_rfl)
def S104:Am.Spec:={ sig:=sig104,pre:=fun ⟨x0,_⟩=>P104 x0,res:=fun ⟨x0,_⟩=>[⟨.bool,g104_0 x0⟩],kds:=kds104 }
theorem con104:Contract Tryz.prog 104 S104:=contract_of Tryz.func104 hb104 (bl_ (by kernel_rfl)) (fun ⟨x0,_⟩ h _ K q=>at104 x0 h K q)
end
noncomputable section
def ext88:Ext:=[]
theorem ext88Ok:ExtOk Tryz.prog ext88:=trivial
noncomputable def b88:Code:=bodyOf Tryz.f88
theorem hb88:Tryz.f88.body=some b88:=by kernel_rfl
def sig88:List AT:=[AT.v YA11]
def tys88:List Ty:=[.int .i64]
def kds88:List RK:=[]
def oks88:List AT:=owns sig88
def P88 (x0:Int×Int×Unit):Prop:=((InR .i64 (x0.1+x0.2.1))∧True)
def g88_0 (x0:Int×Int×Unit):Int:=x0.1+x0.2.1
theorem at88 (x0:Int×Int×Unit) (h:P88 x0) (K:Ctx) (q:Nat→Value):AtV Tryz.prog 88 (PostR kds88 oks88 [⟨.int .i64,g88_0 x0⟩] [] [] q K) 8 K q [] [.code b88] (entE 0 0 sig88 (x0,())) (entL sig88 (x0,())):=by
 unfold P88 at h
 unfold g88_0
 obtain ⟨s0,h⟩:=h
 exact AtV.ret Tryz.func88 tabOk ext88Ok mixed false [] tys88 [] (a1 s0 trivial) (by kernel_rfl)
def S88:Am.Spec:={ sig:=sig88,pre:=fun ⟨x0,_⟩=>P88 x0,res:=fun ⟨x0,_⟩=>[⟨.int .i64,g88_0 x0⟩],kds:=kds88 }
theorem con88:Contract Tryz.prog 88 S88:=contract_of Tryz.func88 hb88 (bl_ (by kernel_rfl)) (fun ⟨x0,_⟩ h _ K q=>at88 x0 h K q)
end
noncomputable section
def ext76:Ext:=[(104,S104),(88,S88)]
theorem ext76Ok:ExtOk Tryz.prog ext76:=⟨⟨ca104,con104⟩,⟨ca88,con88⟩,trivial⟩
noncomputable def b76:Code:=bodyOf Tryz.f76
theorem hb76:Tryz.f76.body=some b76:=by kernel_rfl
def sig76:List AT:=[AT.v (.sl YA11)]
def tys76:List Ty:=[.bool]
def kds76:List RK:=[]
def oks76:List AT:=owns sig76
def E76_2 (v7:Int) (x0:List TyB4):Env:=[(0,.a (.sl YA11 x0)),(5,.a (.sl YA11 x0)),(6,.a (.val (.int .i64 (x0.length:Int)))),(7,.a (.val (.int .i64 v7)))]
def L76_2 (v7:Int) (x0:List TyB4):Heap:=[]
mutual
def R76:Nat→List TyB4→List Dyn→Prop
 | 0,_,_=>False
 | n+1,x0,ds=>(R76_2 n (0) (x0) ds)
def R76_2:Nat→Int→List TyB4→List Dyn→Prop
 | 0,_,_,_=>False
 | n+1,v7,x0,ds=>(if (decide (v7<(x0.length:Int)))=true then ((0≤v7)∧(v7<(x0.length:Int))∧((P104 (List.getD x0 (Int.toNat v7) (0,0,())))∧(if (!g104_0 (List.getD x0 (Int.toNat v7) (0,0,())))=true then (ds=[Dyn.mk .bool false]) else (if (decide (v7>0))=true then ((InR .i64 (v7 - 1))∧((0≤v7 - 1)∧(v7 - 1<(x0.length:Int))∧((P88 (List.getD x0 (Int.toNat (v7 - 1)) (0,0,())))∧(if (decide ((List.getD x0 (Int.toNat v7) (0,0,())).1<g88_0 (List.getD x0 (Int.toNat (v7 - 1)) (0,0,()))))=true then (ds=[Dyn.mk .bool false]) else ((InR .i64 (v7+1))∧(R76_2 n (v7+1) (x0) ds)))))) else ((InR .i64 (v7+1))∧(R76_2 n (v7+1) (x0) ds)))))) else (ds=[Dyn.mk .bool (decide ((x0.length:Int)≤24))]))
end
theorem snd76:∀ n,(∀ (x0:List TyB4) ds,R76 n x0 ds→∀ K q,AtV Tryz.prog 76 (PostR kds76 oks76 ds [] [] q K) 34 K q [] [.code b76] (entE 0 0 sig76 (x0,())) (entL sig76 (x0,())))∧(∀ (v7:Int) (x0:List TyB4) ds,R76_2 n v7 x0 ds→∀ K q,AtV Tryz.prog 76 (PostR kds76 oks76 ds [] [] q K) 34 K q [] (cutAt b76 2) (E76_2 v7 x0) (L76_2 v7 x0)):=by
 intro n
 induction n with
 | zero=>exact ⟨fun _ _ h=>by simp only [R76] at h,fun _ _ _ h=>by simp only [R76_2] at h⟩
 | succ n ih =>
 obtain ⟨ih,ih2⟩:=ih
 refine ⟨?_,?_⟩
 ·intro x0 ds h K q
  rw [R76] at h
  exact AtV.go tabOk ext76Ok mixed false [] [] [0,5,6,7] [] [] trivial (ih2 _ _ _ h K q) (by kernel_rfl)
 ·intro v7 x0 ds h K q
  rw [R76_2] at h
  by_cases b0:(decide (v7<(x0.length:Int)))=true
  ·rw [if_pos b0] at h
   obtain ⟨s0,s1,h⟩:=h
   obtain ⟨s2,h⟩:=h
   by_cases b1:(!g104_0 (List.getD x0 (Int.toNat v7) (0,0,())))=true
   ·rw [if_pos b1] at h
    subst h
    exact AtV.ret Tryz.func76 tabOk ext76Ok mixed false [] tys76 [true,true,true] (a1 b0 (a1 s0 (a1 s1 (a1 s2 (a1 b1 (a1 (rfl:true=true) trivial)))))) (by kernel_rfl)
   ·rw [if_neg b1] at h
    replace b1:=bf_ b1
    by_cases b2:(decide (v7>0))=true
    ·rw [if_pos b2] at h
     obtain ⟨s3,h⟩:=h
     obtain ⟨s4,s5,h⟩:=h
     obtain ⟨s6,h⟩:=h
     by_cases b3:(decide ((List.getD x0 (Int.toNat v7) (0,0,())).1<g88_0 (List.getD x0 (Int.toNat (v7 - 1)) (0,0,()))))=true
     ·rw [if_pos b3] at h
      subst h
      exact AtV.ret Tryz.func76 tabOk ext76Ok mixed false [] tys76 [true,false,true,true] (a1 b0 (a1 s0 (a1 s1 (a1 s2 (a1 b1 (a1 b2 (a1 s3 (a1 s4 (a1 s5 (a1 s6 (a1 b3 trivial))))))))))) (by kernel_rfl)
     ·rw [if_neg b3] at h
      replace b3:=bf_ b3
      obtain ⟨s7,h⟩:=h
      exact AtV.go tabOk ext76Ok mixed false [] [] [0,5,6,7] [] [true,false,true,false] (a1 b0 (a1 s0 (a1 s1 (a1 s2 (a1 b1 (a1 b2 (a1 s3 (a1 s4 (a1 s5 (a1 s6 (a1 b3 (a1 s7 trivial)))))))))))) (ih2 _ _ _ h K q) (by kernel_rfl)
    ·rw [if_neg b2] at h
     replace b2:=bf_ b2
     obtain ⟨s3,h⟩:=h
     exact AtV.go tabOk ext76Ok mixed false [] [] [0,5,6,7] [] [true,false,false,false] (a1 b0 (a1 s0 (a1 s1 (a1 s2 (a1 b1 (a1 b2 (a1 (rfl:false=false) (a1 s3 trivial)))))))) (ih2 _ _ _ h K q) (by kernel_rfl)
  ·rw [if_neg b0] at h
   replace b0:=bf_ b0
   subst h
   exact AtV.ret Tryz.func76 tabOk ext76Ok mixed false [] tys76 [false] (a1 b0 trivial) (by kernel_rfl)
def one76 (x:TyB4):Bool:=g104_0 x
def ok76 (x0:List TyB4) (i:Nat) (x:TyB4):Bool:=one76 x&&(i==0||decide ((x0.getD (i - 1) ((0:Int),(0:Int),())).1+(x0.getD (i - 1) ((0:Int),(0:Int),())).2.1≤x.1))
def g76_0 (x0:List TyB4):Bool:=allI (ok76 x0) 0 x0&&decide ((x0.length:Int)≤24)
def P76 (x0:List TyB4):Prop:=True
theorem in76 {x a b:Int}:g52_0 x a b=true↔a≤x∧x≤b:=by
 unfold g52_0
 by_cases c1:x≥a
 ·by_cases c2:x≤b
  ·simp [c1,c2]
  ·simp [c1,c2]
 ·have:¬ a≤x:=c1
  simp [c1,this]
theorem one76_pre (x:TyB4):P104 x:=by
 unfold P104
 split
 ·rename_i h1
  split
  ·rename_i h2
   have h1:=in76.1 (show g52_0 x.1 0 1440=true from h1)
   have h2:=in76.1 (show g52_0 x.2.1 1 1440=true from h2)
   exact ⟨by rw [i64_iff];omega,trivial⟩
  ·trivial
 ·trivial
theorem one76_b {x:TyB4} (h:one76 x=true):(0≤x.1∧x.1≤1440)∧(1≤x.2.1∧x.2.1≤1440):=by
 unfold one76 g104_0 at h
 split at h
 ·rename_i h0
  split at h
  ·rename_i h1
   exact ⟨in76.1 h0,in76.1 h1⟩
  ·cases h
 ·cases h
theorem run76 (x0:List TyB4) (hm:x0.length≤maxLen):∀ (k i:Nat),i+k=x0.length→(∀ j,j<i→one76 (x0.getD j ((0:Int),(0:Int),()))=true) →
  R76_2 (k+1) (i:Int) x0 [⟨.bool,allI (ok76 x0) i (x0.drop i)&&decide ((x0.length:Int)≤24)⟩]:=by
 intro k
 induction k with
 | zero =>
  intro i hi _
  rw [R76_2,if_neg (by simp only [decide_eq_true_eq];omega),drop_end _ _ (by omega)]
  rfl
 | succ k ih =>
  intro i hi hp
  have hlt:i<x0.length:=by omega
  have hu:=inR_up hm hlt
  have hmx:maxLen≤9223372036854775807:=by decide
  rw [R76_2,if_pos (by simp only [decide_eq_true_eq];omega),drop_get x0 i ((0:Int),(0:Int),()) hlt]
  simp only [Int.toNat_natCast,allI]
  refine ⟨by omega,by omega,one76_pre _,?_⟩
  cases h1:one76 (x0.getD i ((0:Int),(0:Int),())) with
  | false =>
   unfold one76 at h1
   rw [if_pos (by rw [h1];rfl)]
   have:ok76 x0 i (x0.getD i ((0:Int),(0:Int),()))=false:=by unfold ok76 one76;rw [h1];rfl
   rw [this];rfl
  | true =>
   have h1':=h1
   unfold one76 at h1
   rw [if_neg (by rw [h1];simp)]
   have hnext:=ih (i+1) (by omega) (fun j hj=>by
    rcases Nat.lt_or_ge j i with h | h
    ·exact hp j h
    ·have:j=i:=by omega
     subst this;exact h1')
   have e1:(((i+1:Nat)):Int)=(i:Int)+1:=by omega
   rw [e1] at hnext
   by_cases h0:(i:Int)>0
   ·rw [if_pos (by simpa using h0)]
    have hi0:(i==0)=false:=by simp;omega
    have e:((i:Int) - 1).toNat=i - 1:=by omega
    obtain ⟨b1,b2⟩:=one76_b (hp (i - 1) (by omega))
    have hd:InR .i64 ((i:Int) - 1):=by rw [i64_iff];omega
    simp only [e]
    refine ⟨hd,by omega,by omega,⟨by rw [i64_iff];show _≤(x0.getD (i - 1) ((0:Int),(0:Int),())).1+(x0.getD (i - 1) ((0:Int),(0:Int),())).2.1∧_;omega,trivial⟩,?_⟩
    by_cases hc:(x0.getD (i - 1) ((0:Int),(0:Int),())).1+(x0.getD (i - 1) ((0:Int),(0:Int),())).2.1≤(x0.getD i ((0:Int),(0:Int),())).1
    ·rw [if_neg (by show ¬ decide ((x0.getD i ((0:Int),(0:Int),())).1<(x0.getD (i - 1) ((0:Int),(0:Int),())).1+(x0.getD (i - 1) ((0:Int),(0:Int),())).2.1)=true;rw [decide_eq_true_eq];omega)]
     have:ok76 x0 i (x0.getD i ((0:Int),(0:Int),()))=true:=by unfold ok76;rw [h1',hi0,decide_eq_true hc];rfl
     rw [this,Bool.true_and]
     exact ⟨hu,hnext⟩
    ·rw [if_pos (by show decide ((x0.getD i ((0:Int),(0:Int),())).1<(x0.getD (i - 1) ((0:Int),(0:Int),())).1+(x0.getD (i - 1) ((0:Int),(0:Int),())).2.1)=true;rw [decide_eq_true_eq];omega)]
     have:ok76 x0 i (x0.getD i ((0:Int),(0:Int),()))=false:=by unfold ok76;rw [hi0,decide_eq_false hc,Bool.or_false,Bool.and_false]
     rw [this,Bool.false_and,Bool.false_and]
   ·rw [if_neg (by simpa using h0)]
    have hi0:(i==0)=true:=by simp;omega
    have:ok76 x0 i (x0.getD i ((0:Int),(0:Int),()))=true:=by unfold ok76;rw [h1',hi0];rfl
    rw [this,Bool.true_and]
    exact ⟨hu,hnext⟩
theorem top76 (x0:List TyB4) (hw:x0.length≤maxLen):R76 (x0.length+1+1) x0 [⟨.bool,g76_0 x0⟩]:=by
 rw [R76]
 exact run76 x0 hw x0.length 0 (by omega) (fun j hj=>by omega)
def S76:Am.Spec:={ sig:=sig76,pre:=fun ⟨x0,_⟩=>P76 x0,res:=fun ⟨x0,_⟩=>[⟨.bool,g76_0 x0⟩] }
theorem con76:Contract Tryz.prog 76 S76:=contract_of Tryz.func76 hb76 (bl_ (by kernel_rfl)) (fun ⟨x0,_⟩ h hwf K q =>
 (snd76 _).1 x0 _ (top76 x0 hwf.1.1) K q)
end
noncomputable section
def ext123:Ext:=[(52,S52)]
theorem ext123Ok:ExtOk Tryz.prog ext123:=⟨⟨ca52,con52⟩,trivial⟩
noncomputable def b123:Code:=bodyOf Tryz.f123
theorem hb123:Tryz.f123.body=some b123:=by kernel_rfl
def sig123:List AT:=[AT.v (.int .i64)]
def tys123:List Ty:=[.bool]
def kds123:List RK:=[]
def oks123:List AT:=owns sig123
def P123 (x0:Int):Prop:=True
def g123_0 (x0:Int):Bool:=g52_0 x0 0 1439
theorem at123 (x0:Int) (h:P123 x0) (K:Ctx) (q:Nat→Value):AtV Tryz.prog 123 (PostR kds123 oks123 [⟨.bool,g123_0 x0⟩] [] [] q K) 5 K q [] [.code b123] (entE 0 0 sig123 (x0,())) (entL sig123 (x0,())):=by
 unfold P123 at h
 unfold g123_0
 exact AtV.ret Tryz.func123 tabOk ext123Ok mixed false [] tys123 [] (a1 trivial trivial) (by kernel_rfl)
def S123:Am.Spec:={ sig:=sig123,pre:=fun ⟨x0,_⟩=>P123 x0,res:=fun ⟨x0,_⟩=>[⟨.bool,g123_0 x0⟩],kds:=kds123 }
theorem con123:Contract Tryz.prog 123 S123:=contract_of Tryz.func123 hb123 (bl_ (by kernel_rfl)) (fun ⟨x0,_⟩ h _ K q=>at123 x0 h K q)
end
end Go.Proofs.YtpojfdgfpamapaaGreatDoor
set_option linter.unusedVariables false
set_option maxRecDepth 100000
namespace Go.Proofs
open Go.Shelf
def Tryz.laysM173_ren:Go.Shelf.Ren:=⟨fun | 173=>82 | 246=>108 | 283=>126 | 284=>127 | 285=>128 | 286=>129 | 129=>141 | 317=>140 | 318=>142 | 319=>143 | 320=>144 | 337=>151 | 338=>152 | n=>n,fun | 2=>2 | 3=>3 | 9=>9 | 4=>4 | 171=>161 | 0=>0 | 53=>67 | 37=>22 | 5=>5 | 173=>164 | 212=>173 | 51=>174 | 20=>20 | 213=>175 | 46=>137 | 232=>187 | 233=>188 | n=>n,fun | 17=>0 | 18=>1 | 19=>2 | n=>n⟩
theorem Tryz.laysM173:Go.Proofs.LaysM.n173 Tryz.prog Tryz.laysM173_ren:={
 mixed:=by kernel_rfl
 f129:=Tryz.func141.trans (congrArg some (by kernel_rfl))
 f173:=Tryz.func82.trans (congrArg some (by kernel_rfl))
 f246:=Tryz.func108.trans (congrArg some (by kernel_rfl))
 f283:=Tryz.func126.trans (congrArg some (by kernel_rfl))
 f284:=Tryz.func127.trans (congrArg some (by kernel_rfl))
 f285:=Tryz.func128.trans (congrArg some (by kernel_rfl))
 f286:=Tryz.func129.trans (congrArg some (by kernel_rfl))
 f317:=Tryz.func140.trans (congrArg some (by kernel_rfl))
 f318:=Tryz.func142.trans (congrArg some (by kernel_rfl))
 f319:=Tryz.func143.trans (congrArg some (by kernel_rfl))
 f320:=Tryz.func144.trans (congrArg some (by kernel_rfl))
 f337:=Tryz.func151.trans (congrArg some (by kernel_rfl))
 f338:=Tryz.func152.trans (congrArg some (by kernel_rfl))
 t0:=Tryz.underlying0
 a0:=Tryz.isAgg0
 z0:=Tryz.sizeOf0
 v0:=Tryz.zeroValue0
 t2:=Tryz.underlying2
 a2:=Tryz.isAgg2
 z2:=Tryz.sizeOf2
 v2:=Tryz.zeroValue2
 t3:=Tryz.underlying3
 a3:=Tryz.isAgg3
 z3:=Tryz.sizeOf3
 v3:=Tryz.zeroValue3
 t4:=Tryz.underlying4
 a4:=Tryz.isAgg4
 z4:=Tryz.sizeOf4
 v4:=Tryz.zeroValue4
 t5:=Tryz.underlying5
 a5:=Tryz.isAgg5
 z5:=Tryz.sizeOf5
 v5:=Tryz.zeroValue5
 t9:=Tryz.underlying9
 a9:=Tryz.isAgg9
 z9:=Tryz.sizeOf9
 v9:=Tryz.zeroValue9
 t20:=Tryz.underlying20
 a20:=Tryz.isAgg20
 z20:=Tryz.sizeOf20
 v20:=Tryz.zeroValue20
 t37:=Tryz.underlying22
 a37:=Tryz.isAgg22
 z37:=Tryz.sizeOf22
 v37:=Tryz.zeroValue22
 t46:=Tryz.underlying137
 a46:=Tryz.isAgg137
 z46:=Tryz.sizeOf137
 v46:=Tryz.zeroValue137
 t51:=Tryz.underlying174
 a51:=Tryz.isAgg174
 z51:=Tryz.sizeOf174
 v51:=Tryz.zeroValue174
 t53:=Tryz.underlying67
 a53:=Tryz.isAgg67
 z53:=Tryz.sizeOf67
 v53:=Tryz.zeroValue67
 t171:=Tryz.underlying161
 a171:=Tryz.isAgg161
 z171:=Tryz.sizeOf161
 v171:=Tryz.zeroValue161
 t173:=Tryz.underlying164
 a173:=Tryz.isAgg164
 z173:=Tryz.sizeOf164
 v173:=Tryz.zeroValue164
 t212:=Tryz.underlying173
 a212:=Tryz.isAgg173
 z212:=Tryz.sizeOf173
 v212:=Tryz.zeroValue173
 t213:=Tryz.underlying175
 a213:=Tryz.isAgg175
 z213:=Tryz.sizeOf175
 t232:=Tryz.underlying187
 a232:=Tryz.isAgg187
 z232:=Tryz.sizeOf187
 v232:=Tryz.zeroValue187
 t233:=Tryz.underlying188
 a233:=Tryz.isAgg188
 z233:=Tryz.sizeOf188
 v233:=Tryz.zeroValue188
 g17:=by kernel_rfl
 g18:=by kernel_rfl
 g19:=by kernel_rfl
 i0:=by kernel_rfl
 i2:=by kernel_rfl
 i3:=by kernel_rfl
 i4:=by kernel_rfl
 i5:=by kernel_rfl
 i9:=by kernel_rfl
 i20:=by kernel_rfl
 i37:=by kernel_rfl
 i46:=by kernel_rfl
 i51:=by kernel_rfl
 i53:=by kernel_rfl
 i171:=by kernel_rfl
 i173:=by kernel_rfl
 i212:=by kernel_rfl
 i232:=by kernel_rfl
 i233:=by kernel_rfl
 m17:=by kernel_rfl
 m18:=by kernel_rfl
 m19:=by kernel_rfl }
open Go.RowKit Go.Sort Go.Lib in theorem Tryz.strconv_FormatInt_10 (n : Int) (h0 : -9223372036854775808 ≤ n) (h1 : n ≤ 9223372036854775807) (w : World) (htab : Lib.TabIs Tryz.prog w "internal/strconv.uint64pow10" .u64 Lib.pow10Tab) :
    Calls Tryz.prog 82 #[.int .i64 n, .int .i64 10] w fun e w' => e = .returned (.string ⟨(Lib.itoa n).toArray⟩) ∧ ∃ k os, w' = grow (w.drewN k) os := Any.strconv_FormatInt_10 Tryz.laysM173 n h0 h1 w htab
def Tryz.lays146_ren:Go.Shelf.Ren:=⟨fun | 146=>137 | 221=>148 | 268=>154 | 138=>155 | 143=>156 | 195=>158 | 197=>159 | 218=>160 | 219=>161 | 260=>162 | 217=>163 | 225=>164 | 224=>165 | 267=>166 | 266=>167 | 314=>168 | n=>n,fun | 9=>9 | 31=>66 | 3=>3 | 4=>4 | 0=>0 | 105=>190 | 21=>21 | 5=>5 | 46=>137 | 119=>193 | 139=>196 | 138=>195 | 146=>197 | 51=>174 | n=>n,fun | 1=>3 | 3=>4 | 4=>5 | n=>n⟩
theorem Tryz.lays146:Go.Proofs.Lays.n146 Tryz.prog Tryz.lays146_ren:={
 mixed:=by kernel_rfl
 f138:=Tryz.func155.trans (congrArg some (by kernel_rfl))
 f143:=Tryz.func156.trans (congrArg some (by kernel_rfl))
 f146:=Tryz.func137.trans (congrArg some (by kernel_rfl))
 f195:=Tryz.func158.trans (congrArg some (by kernel_rfl))
 f197:=Tryz.func159.trans (congrArg some (by kernel_rfl))
 f217:=Tryz.func163.trans (congrArg some (by kernel_rfl))
 f218:=Tryz.func160.trans (congrArg some (by kernel_rfl))
 f219:=Tryz.func161.trans (congrArg some (by kernel_rfl))
 f221:=Tryz.func148.trans (congrArg some (by kernel_rfl))
 f224:=Tryz.func165.trans (congrArg some (by kernel_rfl))
 f225:=Tryz.func164.trans (congrArg some (by kernel_rfl))
 f260:=Tryz.func162.trans (congrArg some (by kernel_rfl))
 f266:=Tryz.func167.trans (congrArg some (by kernel_rfl))
 f267:=Tryz.func166.trans (congrArg some (by kernel_rfl))
 f268:=Tryz.func154.trans (congrArg some (by kernel_rfl))
 f314:=Tryz.func168.trans (congrArg some (by kernel_rfl))
 t0:=Tryz.underlying0
 a0:=Tryz.isAgg0
 z0:=Tryz.sizeOf0
 v0:=Tryz.zeroValue0
 t3:=Tryz.underlying3
 a3:=Tryz.isAgg3
 z3:=Tryz.sizeOf3
 v3:=Tryz.zeroValue3
 t4:=Tryz.underlying4
 a4:=Tryz.isAgg4
 z4:=Tryz.sizeOf4
 v4:=Tryz.zeroValue4
 t5:=Tryz.underlying5
 a5:=Tryz.isAgg5
 z5:=Tryz.sizeOf5
 v5:=Tryz.zeroValue5
 t9:=Tryz.underlying9
 a9:=Tryz.isAgg9
 z9:=Tryz.sizeOf9
 v9:=Tryz.zeroValue9
 t21:=Tryz.underlying21
 a21:=Tryz.isAgg21
 z21:=Tryz.sizeOf21
 v21:=Tryz.zeroValue21
 t31:=Tryz.underlying66
 a31:=Tryz.isAgg66
 z31:=Tryz.sizeOf66
 v31:=Tryz.zeroValue66
 t46:=Tryz.underlying137
 a46:=Tryz.isAgg137
 z46:=Tryz.sizeOf137
 v46:=Tryz.zeroValue137
 t51:=Tryz.underlying174
 a51:=Tryz.isAgg174
 z51:=Tryz.sizeOf174
 v51:=Tryz.zeroValue174
 t105:=Tryz.underlying190
 a105:=Tryz.isAgg190
 z105:=Tryz.sizeOf190
 v105:=Tryz.zeroValue190
 t119:=Tryz.underlying193
 a119:=Tryz.isAgg193
 z119:=Tryz.sizeOf193
 t138:=Tryz.underlying195
 a138:=Tryz.isAgg195
 z138:=Tryz.sizeOf195
 v138:=Tryz.zeroValue195
 t139:=Tryz.underlying196
 a139:=Tryz.isAgg196
 z139:=Tryz.sizeOf196
 v139:=Tryz.zeroValue196
 t146:=Tryz.underlying197
 a146:=Tryz.isAgg197
 z146:=Tryz.sizeOf197
 v146:=Tryz.zeroValue197
 g1:=by kernel_rfl
 g3:=by kernel_rfl
 g4:=by kernel_rfl }
open Go.RowKit Go.Lib in theorem Tryz.strings_Split (s sep : ByteArray) (m : Int) (w : World) (hs : s.size < 4294967281) (hm : w.cell? ⟨3, 0, none⟩ = some (.int .i64 m)) (h1 : 1 ≤ sep.size) :
    Calls Tryz.prog 137 #[.string s, .string sep] w fun e w' =>
      e = .returned (.slice (some ⟨w.heap.size, 0, none⟩) (Lib.countB s sep + 1) (Lib.countB s sep + 1)) ∧ w' = w.alloc (.cells ((Lib.splitB sep 0 (Lib.countB s sep) s).map Value.string).toArray 9) := Any.strings_Split Tryz.lays146 (by kernel_rfl) s sep m w hs hm h1
end Go.Proofs
set_option linter.unusedVariables false
set_option linter.unusedSimpArgs false
set_option maxRecDepth 100000
namespace Go.Proofs.YtpojfdgfpamapaaGreatDoor
open Go Go.Am Go.Proofs
def sig137:List AT:=[AT.v Ty.str,AT.v Ty.str]
def g137_0 (x0 x1:ByteArray):List ByteArray:=Lib.splitB x1 0 (Lib.countB x0 x1) x0
def P137 (x0 x1:ByteArray):Prop:=x0.size<4294967281∧1≤x1.size
def S137:Am.Spec:={ sig:=sig137,pre:=fun ⟨x0,x1,_⟩=>P137 x0 x1,res:=fun ⟨x0,x1,_⟩=>[⟨Ty.sl Ty.str,g137_0 x0 x1⟩] }
theorem con137:Contract Tryz.prog 137 S137:=by
 refine Contract0.up rfl rfl ?_
 rintro w ⟨x0,x1,u⟩ vs bss hgo hp ⟨v0,s0,b0,bs0,rfl,rfl,⟨rfl,rfl,_⟩,v1,s1,b1,bs1,rfl,rfl,⟨rfl,rfl,_⟩,rfl,rfl⟩ hn
 obtain ⟨hs,h1⟩:x0.size<4294967281∧1≤x1.size:=hp
 obtain ⟨m,hm⟩:=maxLenG hgo.inv
 refine (Tryz.strings_Split x0 x1 m w hs hm h1).mono ?_
 rintro e w' ⟨rfl,rfl⟩
 have hlen:(g137_0 x0 x1).length=Lib.countB x0 x1+1:=Lib.splitB_all x1 h1 0 _ _ rfl
 have hle:=Lib.countB_le x1 h1 x0.size x0 (Nat.le_refl _)
 have hparts:∀ y∈g137_0 x0 x1,y.size≤maxLen:=fun y hy=>by
  have:=splitB_part x1 0 _ _ y hy
  unfold maxLen;omega
 have e1:∀ xs:List ByteArray,fcs .str xs=xs.map Value.string:=by
  intro xs
  induction xs with
  | nil=>rfl
  | cons a r ih=>unfold fcs at ih ⊢;rw [List.map_cons,List.flatten_cons,ih];rfl
 have ho:OwnC (w.alloc (.cells ((g137_0 x0 x1).map Value.string).toArray 9)) (.sl .str) (g137_0 x0 x1) [.slice (some ⟨w.heap.size,0,none⟩) (Lib.countB x0 x1+1) (Lib.countB x0 x1+1)] [w.heap.size] :=
  own_flat_mk rfl hparts hlen.symm (Nat.le_of_eq hlen) (by unfold maxLen;omega) (by rw [List.size_toArray,List.length_map,hlen];simp [Ty.size]) (heap_new w _) (freeS_zero _ _) (fun j u hj=>by
   rw [e1] at hj
   rw [Nat.zero_add, ← Array.getElem?_toList]
   exact hj)
 refine ⟨[_],[],[[w.heap.size]],rfl,(Kept.refl _ _).alloc _,⟨_,_,_,_,_,rfl,rfl,ho,rfl,rfl,rfl⟩,⟨rfl,rfl⟩,by simp,fun b hb hg => ?_⟩
 simp at hb
 have:=hg.1
 omega
noncomputable section
def ext150:Ext:=[]
theorem ext150Ok:ExtOk Tryz.prog ext150:=trivial
noncomputable def b150:Code:=bodyOf Tryz.f150
theorem hb150:Tryz.f150.body=some b150:=by kernel_rfl
def sig150:List AT:=[AT.v (.int .u8)]
def tys150:List Ty:=[.bool]
def kds150:List RK:=[]
def oks150:List AT:=owns sig150
def P150 (x0:Int):Prop:=True
def g150_0 (x0:Int):Bool:=(if (decide (x0<97))=true then (if (decide (x0<48))=true then true else decide (x0>57)) else (if (decide (x0>122))=true then (if (decide (x0<48))=true then true else decide (x0>57)) else false))
theorem at150 (x0:Int) (h:P150 x0) (K:Ctx) (q:Nat→Value):AtV Tryz.prog 150 (PostR kds150 oks150 [⟨.bool,g150_0 x0⟩] [] [] q K) 17 K q [] [.code b150] (entE 0 0 sig150 (x0,())) (entL sig150 (x0,())):=by
 unfold P150 at h
 unfold g150_0
 by_cases b0:(decide (x0<97))=true
 ·try simp only [if_pos b0] at h ⊢
  by_cases b1:(decide (x0<48))=true
  ·try simp only [if_pos b1] at h ⊢
   exact AtV.ret Tryz.func150 tabOk ext150Ok mixed false [] tys150 [true,true,true] (a1 b0 (a1 (rfl:true=true) (a1 b1 trivial))) (by kernel_rfl)
  ·try simp only [if_neg b1] at h ⊢
   replace b1:=bf_ b1
   exact AtV.ret Tryz.func150 tabOk ext150Ok mixed false [] tys150 [true,true,false] (a1 b0 (a1 (rfl:true=true) (a1 b1 trivial))) (by kernel_rfl)
 ·try simp only [if_neg b0] at h ⊢
  replace b0:=bf_ b0
  by_cases b1:(decide (x0>122))=true
  ·try simp only [if_pos b1] at h ⊢
   by_cases b2:(decide (x0<48))=true
   ·try simp only [if_pos b2] at h ⊢
    exact AtV.ret Tryz.func150 tabOk ext150Ok mixed false [] tys150 [false,true,true] (a1 b0 (a1 b1 (a1 b2 trivial))) (by kernel_rfl)
   ·try simp only [if_neg b2] at h ⊢
    replace b2:=bf_ b2
    exact AtV.ret Tryz.func150 tabOk ext150Ok mixed false [] tys150 [false,true,false] (a1 b0 (a1 b1 (a1 b2 trivial))) (by kernel_rfl)
  ·try simp only [if_neg b1] at h ⊢
   replace b1:=bf_ b1
   exact AtV.ret Tryz.func150 tabOk ext150Ok mixed false [] tys150 [false,false] (a1 b0 (a1 b1 trivial)) (by kernel_rfl)
def S150:Am.Spec:={ sig:=sig150,pre:=fun ⟨x0,_⟩=>P150 x0,res:=fun ⟨x0,_⟩=>[⟨.bool,g150_0 x0⟩],kds:=kds150 }
theorem con150:Contract Tryz.prog 150 S150:=contract_of Tryz.func150 hb150 (bl_ (by kernel_rfl)) (fun ⟨x0,_⟩ h _ K q=>at150 x0 h K q)
end
noncomputable section
def ext157c150:Ext:=[(150,S150)]
theorem ext157c150Ok:ExtOk Tryz.prog ext157c150:=⟨⟨ca150,con150⟩,trivial⟩
noncomputable def b157c150:Code:=bodyOf Tryz.f157
theorem hb157c150:Tryz.f157.body=some b157c150:=by kernel_rfl
def sig157c150:List AT:=[AT.v (.sl (.int .u8)),AT.fn 150 []]
def tys157c150:List Ty:=[.int .i64]
def kds157c150:List RK:=[]
def oks157c150:List AT:=owns sig157c150
def E157c150_2 (v8:Int) (x0:List Int):Env:=[(0,.a (.sl (.int .u8) x0)),(1,PV.fn 150 []),(7,.a (.val (.int .i64 (x0.length:Int)))),(8,.a (.val (.int .i64 v8)))]
def L157c150_2 (v8:Int) (x0:List Int):Heap:=[]
mutual
def R157c150:Nat→List Int→List Dyn→Prop
 | 0,_,_=>False
 | n+1,x0,ds=>(R157c150_2 n (0) (x0) ds)
def R157c150_2:Nat→Int→List Int→List Dyn→Prop
 | 0,_,_,_=>False
 | n+1,v8,x0,ds=>(if (decide (v8<(x0.length:Int)))=true then ((0≤v8)∧(v8<(x0.length:Int))∧(if (g150_0 (List.getD x0 (Int.toNat v8) 0))=true then (ds=[Dyn.mk (.int .i64) v8]) else ((InR .i64 (v8+1))∧(R157c150_2 n (v8+1) (x0) ds)))) else (ds=[Dyn.mk (.int .i64) (-1)]))
end
theorem snd157c150:∀ n,(∀ (x0:List Int) ds,R157c150 n x0 ds→∀ K q,AtV Tryz.prog 157 (PostR kds157c150 oks157c150 ds [] [] q K) 19 K q [] [.code b157c150] (entE 0 0 sig157c150 (x0,(),())) (entL sig157c150 (x0,(),())))∧(∀ (v8:Int) (x0:List Int) ds,R157c150_2 n v8 x0 ds→∀ K q,AtV Tryz.prog 157 (PostR kds157c150 oks157c150 ds [] [] q K) 19 K q [] (cutAt b157c150 2) (E157c150_2 v8 x0) (L157c150_2 v8 x0)):=by
 intro n
 induction n with
 | zero=>exact ⟨fun _ _ h=>by simp only [R157c150] at h,fun _ _ _ h=>by simp only [R157c150_2] at h⟩
 | succ n ih =>
 obtain ⟨ih,ih2⟩:=ih
 refine ⟨?_,?_⟩
 ·intro x0 ds h K q
  rw [R157c150] at h
  exact AtV.go tabOk ext157c150Ok mixed false [] [] [0,1,7,8] [] [] trivial (ih2 _ _ _ h K q) (by kernel_rfl)
 ·intro v8 x0 ds h K q
  rw [R157c150_2] at h
  by_cases b0:(decide (v8<(x0.length:Int)))=true
  ·rw [if_pos b0] at h
   obtain ⟨s0,s1,h⟩:=h
   by_cases b1:(g150_0 (List.getD x0 (Int.toNat v8) 0))=true
   ·rw [if_pos b1] at h
    subst h
    exact AtV.ret Tryz.func157 tabOk ext157c150Ok mixed false [] tys157c150 [true,true] (a1 b0 (a1 s0 (a1 s1 (a1 trivial (a1 b1 trivial))))) (by kernel_rfl)
   ·rw [if_neg b1] at h
    replace b1:=bf_ b1
    obtain ⟨s2,h⟩:=h
    exact AtV.go tabOk ext157c150Ok mixed false [] [] [0,1,7,8] [] [true,false] (a1 b0 (a1 s0 (a1 s1 (a1 trivial (a1 b1 (a1 s2 trivial)))))) (ih2 _ _ _ h K q) (by kernel_rfl)
  ·rw [if_neg b0] at h
   replace b0:=bf_ b0
   subst h
   exact AtV.ret Tryz.func157 tabOk ext157c150Ok mixed false [] tys157c150 [false] (a1 b0 trivial) (by kernel_rfl)
def g157c150_0 (x0:List (Int)):Int:=idx (x0.findIdx? g150_0)
def P157c150 (x0:List (Int)):Prop:=True
theorem top157c150 (x0:List (Int)) (hm:x0.length≤maxLen):R157c150 (x0.length+1+1) x0 [⟨.int .i64,g157c150_0 x0⟩]:=by
 rw [R157c150]
 have key:=loop_find x0 (0:Int) g150_0 [(⟨.int .i64, -1⟩:Dyn)] (fun k=>[⟨.int .i64,k⟩]) (fun n i ds=>R157c150_2 n i x0 ds) (fun n => ?_) (fun n i hi hok ds hr => ?_) (fun n i hi hok => ?_)
 ·unfold g157c150_0
  cases h:x0.findIdx? g150_0 <;> rw [h] at key <;> exact key
 ·rw [R157c150_2,if_neg (by simp)]
 ·rw [R157c150_2,if_pos (by simp;omega)]
  simp only [Int.toNat_natCast]
  refine ⟨by omega,by omega,?_⟩
  rw [if_neg (by rw [hok];simp)]
  exact ⟨inR_up hm hi,hr⟩
 ·rw [R157c150_2,if_pos (by simp;omega)]
  simp only [Int.toNat_natCast]
  refine ⟨by omega,by omega,?_⟩
  rw [if_pos hok] <;> trivial
def S157c150:Am.Spec:={ sig:=sig157c150,pre:=fun ⟨x0,_⟩=>P157c150 x0,res:=fun ⟨x0,_⟩=>[⟨.int .i64,g157c150_0 x0⟩] }
theorem con157c150:Contract Tryz.prog 157 S157c150:=contract_of Tryz.func157 hb157c150 (bl_ (by kernel_rfl)) (fun ⟨x0,_⟩ h hwf K q =>
 (snd157c150 _).1 x0 _ (top157c150 x0 hwf.1.1) K q)
theorem any157c150 (x0:List (Int)):decide (g157c150_0 x0≥0)=x0.any g150_0:=by
 have:=findIdx_any g150_0 x0
 unfold g157c150_0
 cases h:x0.any g150_0 with
 | true=>rw [h] at this;simpa using this
 | false=>rw [h] at this;simpa using this
end
noncomputable section
def ext149c150:Ext:=[(157,S157c150),(150,S150)]
theorem ext149c150Ok:ExtOk Tryz.prog ext149c150:=⟨⟨ca157,con157c150⟩,⟨ca150,con150⟩,trivial⟩
noncomputable def b149c150:Code:=bodyOf Tryz.f149
theorem hb149c150:Tryz.f149.body=some b149c150:=by kernel_rfl
def sig149c150:List AT:=[AT.v (.sl (.int .u8)),AT.fn 150 []]
def tys149c150:List Ty:=[.bool]
def kds149c150:List RK:=[]
def oks149c150:List AT:=owns sig149c150
def P149c150 (x0:List Int):Prop:=True
def g149c150_0 (x0:List Int):Bool:=decide (g157c150_0 x0≥0)
theorem at149c150 (x0:List Int) (h:P149c150 x0) (K:Ctx) (q:Nat→Value):AtV Tryz.prog 149 (PostR kds149c150 oks149c150 [⟨.bool,g149c150_0 x0⟩] [] [] q K) 9 K q [] [.code b149c150] (entE 0 0 sig149c150 (x0,(),())) (entL sig149c150 (x0,(),())):=by
 unfold P149c150 at h
 unfold g149c150_0
 exact AtV.ret Tryz.func149 tabOk ext149c150Ok mixed false [] tys149c150 [] (a1 trivial trivial) (by kernel_rfl)
def S149c150:Am.Spec:={ sig:=sig149c150,pre:=fun ⟨x0,_⟩=>P149c150 x0,res:=fun ⟨x0,_⟩=>[⟨.bool,g149c150_0 x0⟩],kds:=kds149c150 }
theorem con149c150:Contract Tryz.prog 149 S149c150:=contract_of Tryz.func149 hb149c150 (bl_ (by kernel_rfl)) (fun ⟨x0,_⟩ h _ K q=>at149c150 x0 h K q)
end
noncomputable section
def ext139:Ext:=[(149,S149c150)]
theorem ext139Ok:ExtOk Tryz.prog ext139:=⟨⟨ca149,con149c150⟩,trivial⟩
noncomputable def b139:Code:=bodyOf Tryz.f139
theorem hb139:Tryz.f139.body=some b139:=by kernel_rfl
def sig139:List AT:=[AT.v (.str)]
def tys139:List Ty:=[.bool]
def kds139:List RK:=[]
def oks139:List AT:=owns sig139
def P139 (x0:ByteArray):Prop:=True
def g139_0 (x0:ByteArray):Bool:=(if (!ByteArray.toList x0==ByteArray.toList (ByteArray.mk #[]))=true then !g149c150_0 (bytesOf x0) else false)
theorem at139 (x0:ByteArray) (h:P139 x0) (K:Ctx) (q:Nat→Value):AtV Tryz.prog 139 (PostR kds139 oks139 [⟨.bool,g139_0 x0⟩] [] [] q K) 11 K q [] [.code b139] (entE 0 0 sig139 (x0,())) (entL sig139 (x0,())):=by
 unfold P139 at h
 unfold g139_0
 by_cases b0:(!ByteArray.toList x0==ByteArray.toList (ByteArray.mk #[]))=true
 ·try simp only [if_pos b0] at h ⊢
  exact AtV.ret Tryz.func139 tabOk ext139Ok mixed false [] tys139 [true] (a1 b0 (a1 trivial trivial)) (by kernel_rfl)
 ·try simp only [if_neg b0] at h ⊢
  replace b0:=bf_ b0
  exact AtV.ret Tryz.func139 tabOk ext139Ok mixed false [] tys139 [false] (a1 b0 trivial) (by kernel_rfl)
def S139:Am.Spec:={ sig:=sig139,pre:=fun ⟨x0,_⟩=>P139 x0,res:=fun ⟨x0,_⟩=>[⟨.bool,g139_0 x0⟩],kds:=kds139 }
theorem con139:Contract Tryz.prog 139 S139:=contract_of Tryz.func139 hb139 (bl_ (by kernel_rfl)) (fun ⟨x0,_⟩ h _ K q=>at139 x0 h K q)
end
noncomputable section
def ext138:Ext:=[(139,S139)]
theorem ext138Ok:ExtOk Tryz.prog ext138:=⟨⟨ca139,con139⟩,trivial⟩
noncomputable def b138:Code:=bodyOf Tryz.f138
theorem hb138:Tryz.f138.body=some b138:=by kernel_rfl
def sig138:List AT:=[AT.v (.str)]
def tys138:List Ty:=[.bool]
def kds138:List RK:=[]
def oks138:List AT:=owns sig138
def P138 (x0:ByteArray):Prop:=True
def g138_0 (x0:ByteArray):Bool := !g139_0 x0
theorem at138 (x0:ByteArray) (h:P138 x0) (K:Ctx) (q:Nat→Value):AtV Tryz.prog 138 (PostR kds138 oks138 [⟨.bool,g138_0 x0⟩] [] [] q K) 6 K q [] [.code b138] (entE 0 0 sig138 (x0,())) (entL sig138 (x0,())):=by
 unfold P138 at h
 unfold g138_0
 exact AtV.ret Tryz.func138 tabOk ext138Ok mixed false [] tys138 [] (a1 trivial trivial) (by kernel_rfl)
def S138:Am.Spec:={ sig:=sig138,pre:=fun ⟨x0,_⟩=>P138 x0,res:=fun ⟨x0,_⟩=>[⟨.bool,g138_0 x0⟩],kds:=kds138 }
theorem con138:Contract Tryz.prog 138 S138:=contract_of Tryz.func138 hb138 (bl_ (by kernel_rfl)) (fun ⟨x0,_⟩ h _ K q=>at138 x0 h K q)
end
end Go.Proofs.YtpojfdgfpamapaaGreatDoor
