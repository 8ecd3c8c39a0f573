/- Several texts in one: the functions that this law reaches, and their laws. -/
import Derived.Test.YtfpmclmpbjbmcaaGreatDoorZ3A
import Derived.Test.YtfpmclmpbjbmcaaGreatDoorZ3B
import Derived.Test.YtfpmclmpbjbmcaaGreatDoorZ3C
import Derived.Lib.TrimByte
import Derived.Shelf.Utf8.RuneCount
import Derived.Shelf.Strconv.Itoa0
import Derived.Shelf.Strconv.Itoa1
import Derived.Shelf.LaysM
import Derived.Shelf.Strconv.Itoa2
import Derived.Shelf.Strconv.Itoa3
import Derived.Shelf.Strconv.Itoa4
import Derived.Shelf.Strings.Search1
import Derived.Shelf.Strings.Search2
import Derived.Shelf.Strings.Search3
import Derived.Shelf.Strings.Count
import Derived.Shelf.Strings.Shaped
import Derived.Shelf.Strings.Split
import Derived.Shelf.Strings.SplitShaped
import Derived.Shelf.Unicode.Decode
import Derived.Shelf.Strings.RuneCount
import Derived.Shelf.Strings.Explode
import Derived.Shelf.Unicode.DecodeSlow
import Derived.Shelf.Unicode.DecodeAny
set_option linter.unusedVariables false
set_option linter.unusedSimpArgs false
set_option maxRecDepth 100000
namespace Go.Proofs.YtfpmclmpbjbmcaaGreatDoor
open Go Go.Am Go.Proofs
noncomputable section
def ext18:Ext:=[(43,S43),(44,S44),(45,S45),(46,S46),(47,S47),(48,S48)]
theorem ext18Ok:ExtOk Tryz.prog ext18:=⟨⟨ca43,con43⟩,⟨ca44,con44⟩,⟨ca45,con45⟩,⟨ca46,con46⟩,⟨ca47,con47⟩,⟨ca48,con48⟩,trivial⟩
noncomputable def b18:Code:=bodyOf Tryz.f18
theorem hb18:Tryz.f18.body=some b18:=by kernel_rfl
def sig18:List AT:=[AT.pb YA7]
def tys18:List Ty:=[.cons YA2 YA1]
def kds18:List RK:=[.frz]
def oks18:List AT:=owns sig18
def E18_13 (v5:Int) (h0:List Int×Int×Int×Unit) (h5:List TyB0) (x0:List Int×Int×Int×Unit):Env:=[(0,.a (.optr 0 0 [])),(2,.a (.bptr 1 0 YA0)),(3,.a (.bptr 2 0 YA0)),(4,.a (.osl 3 Option.none)),(5,.a (.val (.int .i64 v5)))]
def L18_13 (v5:Int) (h0:List Int×Int×Int×Unit) (h5:List TyB0) (x0:List Int×Int×Int×Unit):Heap:=[Option.some (Arr.mk YA7 [h0] true Option.none (Option.some true)),Option.some (Arr.mk YA0 [] false (Option.some [Leaf.val (Value.slice Option.none 0 0),Leaf.val (Value.int .i64 0),Leaf.val (Value.int .i64 0),Leaf.val (Value.int .i64 0),Leaf.val (Value.int .i64 0),Leaf.val (Value.int .i64 0),Leaf.val (Value.int .i64 0),Leaf.val (Value.int .i64 0),Leaf.val (Value.int .i64 0),Leaf.val (Value.int .i64 0),Leaf.val (Value.slice Option.none 0 0),Leaf.val (Value.int .i64 0),Leaf.val (Value.int .i64 0),Leaf.val (Value.int .i64 0),Leaf.val (Value.slice Option.none 0 0),Leaf.val (Value.int .i64 0),Leaf.val (Value.int .i64 0),Leaf.val (Value.slice Option.none 0 0),Leaf.val (Value.int .i64 0),Leaf.val (Value.slice Option.none 0 0)]) Option.none),Option.some (Arr.mk YA0 [] false (Option.some [Leaf.sl YA11 (g43_0 x0).1,Leaf.val (Value.int .i64 (g43_0 x0).2.1),Leaf.val (Value.int .i64 (g43_0 x0).2.2.1),Leaf.val (Value.int .i64 8000),Leaf.val (Value.int .i64 (g44_0 (u43_0 x0) 2)),Leaf.val (Value.int .i64 (7000+100*g44_0 (u44_0 (u43_0 x0) 2) 20)),Leaf.val (Value.int .i64 200),Leaf.val (Value.int .i64 (2000+100*g44_0 (u45_0 (u44_0 (u44_0 (u43_0 x0) 2) 20)) 30)),Leaf.val (Value.int .i64 100),Leaf.val (Value.int .i64 2000),Leaf.osl 4 Option.none,Leaf.val (Value.int .i64 40),Leaf.val (Value.int .i64 10),Leaf.val (Value.int .i64 5000),Leaf.osl 5 Option.none,Leaf.val (Value.int .i64 70),Leaf.val (Value.int .i64 3200),Leaf.val (Value.slice Option.none 0 0),Leaf.val (Value.int .i64 0),Leaf.val (Value.slice Option.none 0 0)]) Option.none),Option.some (Arr.mk .str [ByteArray.mk #[98,114,97,107,101],ByteArray.mk #[100,111,111,114],ByteArray.mk #[114,111,112,101]] false Option.none Option.none),Option.some (Arr.mk YA5 (g46_0 (u44_0 (u45_0 (u44_0 (u44_0 (u43_0 x0) 2) 20)) 30)) false Option.none Option.none),Option.some (Arr.mk YA3 h5 false Option.none Option.none)]
def E18_19 (v6:Int) (v7:Int) (h2l18:Int) (h5:List TyB4) (h0:List Int×Int×Int×Unit) (x0:List Int×Int×Int×Unit) (h5a:List TyB0):Env:=[(0,.a (.optr 0 0 [])),(2,.a (.bptr 1 0 YA0)),(3,.a (.bptr 2 0 YA0)),(6,.a (.val (.int .i64 v6))),(7,.a (.val (.int .i64 v7)))]
def L18_19 (v6:Int) (v7:Int) (h2l18:Int) (h5:List TyB4) (h0:List Int×Int×Int×Unit) (x0:List Int×Int×Int×Unit) (h5a:List TyB0):Heap:=[Option.some (Arr.mk YA7 [u44_0 (u44_0 (u44_0 h0 100) 3) 6] true Option.none (Option.some true)),Option.some (Arr.mk YA0 [] false (Option.some [Leaf.val (Value.slice Option.none 0 0),Leaf.val (Value.int .i64 0),Leaf.val (Value.int .i64 0),Leaf.val (Value.int .i64 0),Leaf.val (Value.int .i64 0),Leaf.val (Value.int .i64 0),Leaf.val (Value.int .i64 0),Leaf.val (Value.int .i64 0),Leaf.val (Value.int .i64 0),Leaf.val (Value.int .i64 0),Leaf.val (Value.slice Option.none 0 0),Leaf.val (Value.int .i64 0),Leaf.val (Value.int .i64 0),Leaf.val (Value.int .i64 0),Leaf.val (Value.slice Option.none 0 0),Leaf.val (Value.int .i64 0),Leaf.val (Value.int .i64 0),Leaf.val (Value.slice Option.none 0 0),Leaf.val (Value.int .i64 0),Leaf.val (Value.slice Option.none 0 0)]) Option.none),Option.some (Arr.mk YA0 [] false (Option.some [Leaf.sl YA11 (g43_0 x0).1,Leaf.val (Value.int .i64 (g43_0 x0).2.1),Leaf.val (Value.int .i64 (g43_0 x0).2.2.1),Leaf.val (Value.int .i64 8000),Leaf.val (Value.int .i64 (g44_0 (u43_0 x0) 2)),Leaf.val (Value.int .i64 (7000+100*g44_0 (u44_0 (u43_0 x0) 2) 20)),Leaf.val (Value.int .i64 200),Leaf.val (Value.int .i64 (2000+100*g44_0 (u45_0 (u44_0 (u44_0 (u43_0 x0) 2) 20)) 30)),Leaf.val (Value.int .i64 100),Leaf.val (Value.int .i64 2000),Leaf.osl 3 Option.none,Leaf.val (Value.int .i64 40),Leaf.val (Value.int .i64 10),Leaf.val (Value.int .i64 5000),Leaf.osl 4 Option.none,Leaf.val (Value.int .i64 70),Leaf.val (Value.int .i64 3200),Leaf.osl 5 Option.none,Leaf.val (Value.int .i64 h2l18),Leaf.val (Value.slice Option.none 0 0)]) Option.none),Option.some (Arr.mk YA5 (g46_0 (u44_0 (u45_0 (u44_0 (u44_0 (u43_0 x0) 2) 20)) 30)) false Option.none Option.none),Option.some (Arr.mk YA3 h5a false Option.none Option.none),Option.some (Arr.mk YA11 h5 false Option.none Option.none)]
mutual
def R18:Nat→List Int×Int×Int×Unit→List Dyn→List (Option Lst)→Prop
 | 0,_,_,_=>False
 | n+1,x0,ds,us=>((P43 x0)∧((P44 (u43_0 x0) 2)∧((P44 (u44_0 (u43_0 x0) 2) 20)∧((InR .i64 (100*g44_0 (u44_0 (u43_0 x0) 2) 20))∧((InR .i64 (7000+100*g44_0 (u44_0 (u43_0 x0) 2) 20))∧((P45 (u44_0 (u44_0 (u43_0 x0) 2) 20))∧((P44 (u45_0 (u44_0 (u44_0 (u43_0 x0) 2) 20)) 30)∧((InR .i64 (100*g44_0 (u45_0 (u44_0 (u44_0 (u43_0 x0) 2) 20)) 30))∧((InR .i64 (2000+100*g44_0 (u45_0 (u44_0 (u44_0 (u43_0 x0) 2) 20)) 30))∧((P46 (u44_0 (u45_0 (u44_0 (u44_0 (u43_0 x0) 2) 20)) 30))∧(R18_13 n (0) (u46_0 (u44_0 (u45_0 (u44_0 (u44_0 (u43_0 x0) 2) 20)) 30)) ([]) (x0) ds us)))))))))))
def R18_13:Nat→Int→List Int×Int×Int×Unit→List TyB0→List Int×Int×Int×Unit→List Dyn→List (Option Lst)→Prop
 | 0,_,_,_,_,_,_=>False
 | n+1,v5,h0,h5,x0,ds,us=>(if (decide (v5<3))=true then ((0≤v5)∧(v5<3)∧((P44 h0 20)∧((InR .i64 (50+g44_0 h0 20))∧(((List.length h5+1)*48≤140737488355328)∧((InR .i64 (v5+1))∧(R18_13 n (v5+1) (u44_0 h0 20) (h5++[(List.getD [ByteArray.mk #[98,114,97,107,101],ByteArray.mk #[100,111,111,114],ByteArray.mk #[114,111,112,101]] (Int.toNat v5) ByteArray.empty,30,2000,50+g44_0 h0 20,2000,())]) (x0) ds us)))))) else ((P44 h0 100)∧((InR .i64 (300+g44_0 h0 100))∧((P44 (u44_0 h0 100) 3)∧((P44 (u44_0 (u44_0 h0 100) 3) 6)∧(R18_19 n (300+g44_0 h0 100) (g44_0 (u44_0 (u44_0 h0 100) 3) 6) (g44_0 (u44_0 h0 100) 3) ([]) (h0) (x0) (h5) ds us))))))
def R18_19:Nat→Int→Int→Int→List TyB4→List Int×Int×Int×Unit→List Int×Int×Int×Unit→List TyB0→List Dyn→List (Option Lst)→Prop
 | 0,_,_,_,_,_,_,_,_,_=>False
 | n+1,v6,v7,h2l18,h5,h0,x0,h5a,ds,us=>(if (decide (v7>0))=true then ((P44 (u44_0 (u44_0 (u44_0 h0 100) 3) 6) 6)∧((InR .i64 (4+g44_0 (u44_0 (u44_0 (u44_0 h0 100) 3) 6) 6))∧(((List.length h5+1)*16≤140737488355328)∧((InR .i64 (4+g44_0 (u44_0 (u44_0 (u44_0 h0 100) 3) 6) 6+3))∧((InR .i64 (v6+(4+g44_0 (u44_0 (u44_0 (u44_0 h0 100) 3) 6) 6+3)))∧((InR .i64 (v7 - 1))∧(R18_19 n (v6+(4+g44_0 (u44_0 (u44_0 (u44_0 h0 100) 3) 6) 6+3)) (v7 - 1) (h2l18) (h5++[(v6,4+g44_0 (u44_0 (u44_0 (u44_0 h0 100) 3) 6) 6,())]) (u44_0 h0 100) (x0) (h5a) ds us))))))) else ((P47 (u44_0 (u44_0 (u44_0 h0 100) 3) 6))∧((P44 (u47_0 (u44_0 (u44_0 (u44_0 h0 100) 3) 6)) 14)∧(if (g44_0 (u47_0 (u44_0 (u44_0 (u44_0 h0 100) 3) 6)) 14==0)=true then ((InR .i64 ((g43_0 x0).2.2.1 - 1000))∧((InR .i64 ((g43_0 x0).2.1+4000))∧(ds=[Dyn.mk YA0 (((g43_0 x0).1,(g43_0 x0).2.1+4000,(g43_0 x0).2.2.1 - 1000,()),8000,(g44_0 (u43_0 x0) 2,7000+100*g44_0 (u44_0 (u43_0 x0) 2) 20,()),(200,2000+100*g44_0 (u45_0 (u44_0 (u44_0 (u43_0 x0) 2) 20)) 30,100,2000,()),g46_0 (u44_0 (u45_0 (u44_0 (u44_0 (u43_0 x0) 2) 20)) 30),(40,10,5000,()),h5a,70,3200,h5,h2l18,g47_0 (u44_0 (u44_0 (u44_0 h0 100) 3) 6),())]∧us=[Option.some (Lst.mk YA7 [u44_0 (u47_0 (u44_0 (u44_0 (u44_0 h0 100) 3) 6)) 14])]))) else (if (g44_0 (u47_0 (u44_0 (u44_0 (u44_0 h0 100) 3) 6)) 14==1)=true then ((P44 (u44_0 (u47_0 (u44_0 (u44_0 (u44_0 h0 100) 3) 6)) 14) 60)∧((InR .i64 (100*g44_0 (u44_0 (u47_0 (u44_0 (u44_0 (u44_0 h0 100) 3) 6)) 14) 60))∧((InR .i64 (500+100*g44_0 (u44_0 (u47_0 (u44_0 (u44_0 (u44_0 h0 100) 3) 6)) 14) 60))∧(ds=[Dyn.mk YA0 (((g43_0 x0).1,(g43_0 x0).2.1,(g43_0 x0).2.2.1,()),8000,(g44_0 (u43_0 x0) 2,500+100*g44_0 (u44_0 (u47_0 (u44_0 (u44_0 (u44_0 h0 100) 3) 6)) 14) 60,()),(200,2000+100*g44_0 (u45_0 (u44_0 (u44_0 (u43_0 x0) 2) 20)) 30,100,2000,()),g46_0 (u44_0 (u45_0 (u44_0 (u44_0 (u43_0 x0) 2) 20)) 30),(40,10,5000,()),h5a,70,3200,h5,h2l18,g47_0 (u44_0 (u44_0 (u44_0 h0 100) 3) 6),())]∧us=[Option.some (Lst.mk YA7 [u44_0 (u44_0 (u47_0 (u44_0 (u44_0 (u44_0 h0 100) 3) 6)) 14) 60])])))) else (if (g44_0 (u47_0 (u44_0 (u44_0 (u44_0 h0 100) 3) 6)) 14==2)=true then (ds=[Dyn.mk YA0 (((g43_0 x0).1,(g43_0 x0).2.1,(g43_0 x0).2.2.1,()),8000,(g44_0 (u43_0 x0) 2,7000+100*g44_0 (u44_0 (u43_0 x0) 2) 20,()),(200,2000+100*g44_0 (u45_0 (u44_0 (u44_0 (u43_0 x0) 2) 20)) 30,100,2000,()),g46_0 (u44_0 (u45_0 (u44_0 (u44_0 (u43_0 x0) 2) 20)) 30),(12,3,1200,()),h5a,70,3200,h5,h2l18,g47_0 (u44_0 (u44_0 (u44_0 h0 100) 3) 6),())]∧us=[Option.some (Lst.mk YA7 [u44_0 (u47_0 (u44_0 (u44_0 (u44_0 h0 100) 3) 6)) 14])]) else (if (g44_0 (u47_0 (u44_0 (u44_0 (u44_0 h0 100) 3) 6)) 14==3)=true then ((P48 (u44_0 (u47_0 (u44_0 (u44_0 (u44_0 h0 100) 3) 6)) 14))∧(ds=[Dyn.mk YA0 (((g43_0 x0).1,(g43_0 x0).2.1,(g43_0 x0).2.2.1,()),8000,(g44_0 (u43_0 x0) 2,7000+100*g44_0 (u44_0 (u43_0 x0) 2) 20,()),(200,2000+100*g44_0 (u45_0 (u44_0 (u44_0 (u43_0 x0) 2) 20)) 30,100,2000,()),g46_0 (u44_0 (u45_0 (u44_0 (u44_0 (u43_0 x0) 2) 20)) 30),(40,10,5000,()),g48_0 (u44_0 (u47_0 (u44_0 (u44_0 (u44_0 h0 100) 3) 6)) 14),70,3200,h5,h2l18,g47_0 (u44_0 (u44_0 (u44_0 h0 100) 3) 6),())]∧us=[Option.some (Lst.mk YA7 [u48_0 (u44_0 (u47_0 (u44_0 (u44_0 (u44_0 h0 100) 3) 6)) 14)])])) else (if (g44_0 (u47_0 (u44_0 (u44_0 (u44_0 h0 100) 3) 6)) 14==4)=true then (ds=[Dyn.mk YA0 (((g43_0 x0).1,(g43_0 x0).2.1,(g43_0 x0).2.2.1,()),8000,(g44_0 (u43_0 x0) 2,7000+100*g44_0 (u44_0 (u43_0 x0) 2) 20,()),(200,2000+100*g44_0 (u45_0 (u44_0 (u44_0 (u43_0 x0) 2) 20)) 30,100,2000,()),g46_0 (u44_0 (u45_0 (u44_0 (u44_0 (u43_0 x0) 2) 20)) 30),(40,10,5000,()),h5a,70,3200,h5,4,g47_0 (u44_0 (u44_0 (u44_0 h0 100) 3) 6),())]∧us=[Option.some (Lst.mk YA7 [u44_0 (u47_0 (u44_0 (u44_0 (u44_0 h0 100) 3) 6)) 14])]) else (if (g44_0 (u47_0 (u44_0 (u44_0 (u44_0 h0 100) 3) 6)) 14==5)=true then (if (decide ((↑(List.length (g47_0 (u44_0 (u44_0 (u44_0 h0 100) 3) 6))):Int)>0))=true then ((P44 (u44_0 (u47_0 (u44_0 (u44_0 (u44_0 h0 100) 3) 6)) 14) (↑(List.length (g47_0 (u44_0 (u44_0 (u44_0 h0 100) 3) 6))):Int))∧((P44 (u44_0 (u44_0 (u47_0 (u44_0 (u44_0 (u44_0 h0 100) 3) 6)) 14) (↑(List.length (g47_0 (u44_0 (u44_0 (u44_0 h0 100) 3) 6))):Int)) 60000)∧((0≤g44_0 (u44_0 (u47_0 (u44_0 (u44_0 (u44_0 h0 100) 3) 6)) 14) (↑(List.length (g47_0 (u44_0 (u44_0 (u44_0 h0 100) 3) 6))):Int))∧(g44_0 (u44_0 (u47_0 (u44_0 (u44_0 (u44_0 h0 100) 3) 6)) 14) (↑(List.length (g47_0 (u44_0 (u44_0 (u44_0 h0 100) 3) 6))):Int)<(↑(List.length (g47_0 (u44_0 (u44_0 (u44_0 h0 100) 3) 6))):Int))∧(ds=[Dyn.mk YA0 (((g43_0 x0).1,(g43_0 x0).2.1,(g43_0 x0).2.2.1,()),8000,(g44_0 (u43_0 x0) 2,7000+100*g44_0 (u44_0 (u43_0 x0) 2) 20,()),(200,2000+100*g44_0 (u45_0 (u44_0 (u44_0 (u43_0 x0) 2) 20)) 30,100,2000,()),g46_0 (u44_0 (u45_0 (u44_0 (u44_0 (u43_0 x0) 2) 20)) 30),(40,10,5000,()),h5a,70,3200,h5,h2l18,List.set (g47_0 (u44_0 (u44_0 (u44_0 h0 100) 3) 6)) (Int.toNat (g44_0 (u44_0 (u47_0 (u44_0 (u44_0 (u44_0 h0 100) 3) 6)) 14) (↑(List.length (g47_0 (u44_0 (u44_0 (u44_0 h0 100) 3) 6))):Int))) ((List.getD (g47_0 (u44_0 (u44_0 (u44_0 h0 100) 3) 6)) (Int.toNat (g44_0 (u44_0 (u47_0 (u44_0 (u44_0 (u44_0 h0 100) 3) 6)) 14) (↑(List.length (g47_0 (u44_0 (u44_0 (u44_0 h0 100) 3) 6))):Int))) (0,0,ByteArray.empty,0,())).1,(List.getD (g47_0 (u44_0 (u44_0 (u44_0 h0 100) 3) 6)) (Int.toNat (g44_0 (u44_0 (u47_0 (u44_0 (u44_0 (u44_0 h0 100) 3) 6)) 14) (↑(List.length (g47_0 (u44_0 (u44_0 (u44_0 h0 100) 3) 6))):Int))) (0,0,ByteArray.empty,0,())).2.1,(List.getD (g47_0 (u44_0 (u44_0 (u44_0 h0 100) 3) 6)) (Int.toNat (g44_0 (u44_0 (u47_0 (u44_0 (u44_0 (u44_0 h0 100) 3) 6)) 14) (↑(List.length (g47_0 (u44_0 (u44_0 (u44_0 h0 100) 3) 6))):Int))) (0,0,ByteArray.empty,0,())).2.2.1,g44_0 (u44_0 (u44_0 (u47_0 (u44_0 (u44_0 (u44_0 h0 100) 3) 6)) 14) (↑(List.length (g47_0 (u44_0 (u44_0 (u44_0 h0 100) 3) 6))):Int)) 60000,(List.getD (g47_0 (u44_0 (u44_0 (u44_0 h0 100) 3) 6)) (Int.toNat (g44_0 (u44_0 (u47_0 (u44_0 (u44_0 (u44_0 h0 100) 3) 6)) 14) (↑(List.length (g47_0 (u44_0 (u44_0 (u44_0 h0 100) 3) 6))):Int))) (0,0,ByteArray.empty,0,())).2.2.2.2),())]∧us=[Option.some (Lst.mk YA7 [u44_0 (u44_0 (u44_0 (u47_0 (u44_0 (u44_0 (u44_0 h0 100) 3) 6)) 14) (↑(List.length (g47_0 (u44_0 (u44_0 (u44_0 h0 100) 3) 6))):Int)) 60000])])))) else (ds=[Dyn.mk YA0 (((g43_0 x0).1,(g43_0 x0).2.1,(g43_0 x0).2.2.1,()),8000,(g44_0 (u43_0 x0) 2,7000+100*g44_0 (u44_0 (u43_0 x0) 2) 20,()),(200,2000+100*g44_0 (u45_0 (u44_0 (u44_0 (u43_0 x0) 2) 20)) 30,100,2000,()),g46_0 (u44_0 (u45_0 (u44_0 (u44_0 (u43_0 x0) 2) 20)) 30),(40,10,5000,()),h5a,70,3200,h5,h2l18,g47_0 (u44_0 (u44_0 (u44_0 h0 100) 3) 6),())]∧us=[Option.some (Lst.mk YA7 [u44_0 (u47_0 (u44_0 (u44_0 (u44_0 h0 100) 3) 6)) 14])])) else (if (g44_0 (u47_0 (u44_0 (u44_0 (u44_0 h0 100) 3) 6)) 14==6)=true then (ds=[Dyn.mk YA0 (((g43_0 x0).1,(g43_0 x0).2.1,(g43_0 x0).2.1,()),8000,(g44_0 (u43_0 x0) 2,7000+100*g44_0 (u44_0 (u43_0 x0) 2) 20,()),(200,2000+100*g44_0 (u45_0 (u44_0 (u44_0 (u43_0 x0) 2) 20)) 30,100,2000,()),g46_0 (u44_0 (u45_0 (u44_0 (u44_0 (u43_0 x0) 2) 20)) 30),(40,10,5000,()),h5a,70,3200,h5,h2l18,g47_0 (u44_0 (u44_0 (u44_0 h0 100) 3) 6),())]∧us=[Option.some (Lst.mk YA7 [u44_0 (u47_0 (u44_0 (u44_0 (u44_0 h0 100) 3) 6)) 14])]) else (ds=[Dyn.mk YA0 (((g43_0 x0).1,(g43_0 x0).2.1,(g43_0 x0).2.2.1,()),8000,(g44_0 (u43_0 x0) 2,7000+100*g44_0 (u44_0 (u43_0 x0) 2) 20,()),(200,2000+100*g44_0 (u45_0 (u44_0 (u44_0 (u43_0 x0) 2) 20)) 30,100,2000,()),g46_0 (u44_0 (u45_0 (u44_0 (u44_0 (u43_0 x0) 2) 20)) 30),(40,10,5000,()),h5a,70,3200,h5,h2l18,g47_0 (u44_0 (u44_0 (u44_0 h0 100) 3) 6),())]∧us=[Option.some (Lst.mk YA7 [u44_0 (u47_0 (u44_0 (u44_0 (u44_0 h0 100) 3) 6)) 14])])))))))))))
end
theorem snd18:∀ n,(∀ (x0:List Int×Int×Int×Unit) ds us,R18 n x0 ds us→∀ K q,AtV Tryz.prog 18 (PostR kds18 oks18 ds us [0] q K) 155 K q [0] [.code b18] (entE 0 0 sig18 (x0,())) (entL sig18 (x0,())))∧(∀ (v5:Int) (h0:List Int×Int×Int×Unit) (h5:List TyB0) (x0:List Int×Int×Int×Unit) ds us,R18_13 n v5 h0 h5 x0 ds us→∀ K q,AtV Tryz.prog 18 (PostR kds18 oks18 ds us [0] q K) 155 K q [0] (cutAt b18 13) (E18_13 v5 h0 h5 x0) (L18_13 v5 h0 h5 x0))∧(∀ (v6:Int) (v7:Int) (h2l18:Int) (h5:List TyB4) (h0:List Int×Int×Int×Unit) (x0:List Int×Int×Int×Unit) (h5a:List TyB0) ds us,R18_19 n v6 v7 h2l18 h5 h0 x0 h5a ds us→∀ K q,AtV Tryz.prog 18 (PostR kds18 oks18 ds us [0] q K) 155 K q [0] (cutAt b18 19) (E18_19 v6 v7 h2l18 h5 h0 x0 h5a) (L18_19 v6 v7 h2l18 h5 h0 x0 h5a)):=by
 intro n
 induction n with
 | zero=>exact ⟨fun _ _ _ h=>by simp only [R18] at h,fun _ _ _ _ _ _ h=>by simp only [R18_13] at h,fun _ _ _ _ _ _ _ _ _ h=>by simp only [R18_19] at h⟩
 | succ n ih =>
 obtain ⟨ih,ih13,ih19⟩:=ih
 refine ⟨?_,?_,?_⟩
 ·intro x0 ds us h K q
  rw [R18] at h
  obtain ⟨s0,h⟩:=h
  obtain ⟨s1,h⟩:=h
  obtain ⟨s2,h⟩:=h
  obtain ⟨s3,h⟩:=h
  obtain ⟨s4,h⟩:=h
  obtain ⟨s5,h⟩:=h
  obtain ⟨s6,h⟩:=h
  obtain ⟨s7,h⟩:=h
  obtain ⟨s8,h⟩:=h
  obtain ⟨s9,h⟩:=h
  exact AtV.go tabOk ext18Ok mixed false [] [(15000003,.cons .str YA4)] [0,2,3,4,5] [0,1,2,4,3,5] [] (a1 s0 (a1 s1 (a1 s2 (a1 s3 (a1 s4 (a1 s5 (a1 s6 (a1 s7 (a1 s8 (a1 s9 trivial)))))))))) (ih13 _ _ _ _ _ _ h K q) (by kernel_rfl)
 ·intro v5 h0 h5 x0 ds us h K q
  rw [R18_13] at h
  by_cases b0:(decide (v5<3))=true
  ·rw [if_pos b0] at h
   obtain ⟨s0,s1,h⟩:=h
   obtain ⟨s2,h⟩:=h
   obtain ⟨s3,h⟩:=h
   obtain ⟨s4,h⟩:=h
   obtain ⟨s5,h⟩:=h
   exact AtV.go tabOk ext18Ok mixed false [] [(15000003,.cons .str YA4)] [0,2,3,4,5] [0,1,2,3,4,5] [true] (a1 b0 (a1 s0 (a1 s1 (a1 s2 (a1 s3 (a1 s4 (a1 s5 trivial))))))) (ih13 _ _ _ _ _ _ h K q) (by kernel_rfl)
  ·rw [if_neg b0] at h
   replace b0:=bf_ b0
   obtain ⟨s0,h⟩:=h
   obtain ⟨s1,h⟩:=h
   obtain ⟨s2,h⟩:=h
   obtain ⟨s3,h⟩:=h
   exact AtV.go tabOk ext18Ok mixed false [] [(18000003,.cons (.int .i64) (.cons (.int .i64) .unit))] [0,2,3,6,7] [0,1,2,4,5,6] [false] (a1 b0 (a1 s0 (a1 s1 (a1 s2 (a1 s3 trivial))))) (ih19 _ _ _ _ _ _ _ _ _ h K q) (by kernel_rfl)
 ·intro v6 v7 h2l18 h5 h0 x0 h5a ds us h K q
  rw [R18_19] at h
  by_cases b0:(decide (v7>0))=true
  ·rw [if_pos b0] at h
   obtain ⟨s0,h⟩:=h
   obtain ⟨s1,h⟩:=h
   obtain ⟨s2,h⟩:=h
   obtain ⟨s3,h⟩:=h
   obtain ⟨s4,h⟩:=h
   obtain ⟨s5,h⟩:=h
   exact AtV.go tabOk ext18Ok mixed false [] [(18000003,.cons (.int .i64) (.cons (.int .i64) .unit))] [0,2,3,6,7] [0,1,2,3,4,5] [true] (a1 b0 (a1 s0 (a1 s1 (a1 s2 (a1 s3 (a1 s4 (a1 s5 trivial))))))) (ih19 _ _ _ _ _ _ _ _ _ h K q) (by kernel_rfl)
  ·rw [if_neg b0] at h
   replace b0:=bf_ b0
   obtain ⟨s0,h⟩:=h
   obtain ⟨s1,h⟩:=h
   by_cases b1:(g44_0 (u47_0 (u44_0 (u44_0 (u44_0 h0 100) 3) 6)) 14==0)=true
   ·rw [if_pos b1] at h
    obtain ⟨s2,h⟩:=h
    obtain ⟨s3,h⟩:=h
    obtain ⟨h,h'⟩:=h;subst h;subst h'
    exact AtV.ret Tryz.func18 tabOk ext18Ok mixed false [] tys18 [false,true] (a1 b0 (a1 s0 (a1 s1 (a1 b1 (a1 s2 (a1 s3 trivial)))))) (by kernel_rfl)
   ·rw [if_neg b1] at h
    replace b1:=bf_ b1
    by_cases b2:(g44_0 (u47_0 (u44_0 (u44_0 (u44_0 h0 100) 3) 6)) 14==1)=true
    ·rw [if_pos b2] at h
     obtain ⟨s2,h⟩:=h
     obtain ⟨s3,h⟩:=h
     obtain ⟨s4,h⟩:=h
     obtain ⟨h,h'⟩:=h;subst h;subst h'
     exact AtV.ret Tryz.func18 tabOk ext18Ok mixed false [] tys18 [false,false,true] (a1 b0 (a1 s0 (a1 s1 (a1 b1 (a1 b2 (a1 s2 (a1 s3 (a1 s4 trivial)))))))) (by kernel_rfl)
    ·rw [if_neg b2] at h
     replace b2:=bf_ b2
     by_cases b3:(g44_0 (u47_0 (u44_0 (u44_0 (u44_0 h0 100) 3) 6)) 14==2)=true
     ·rw [if_pos b3] at h
      obtain ⟨h,h'⟩:=h;subst h;subst h'
      exact AtV.ret Tryz.func18 tabOk ext18Ok mixed false [] tys18 [false,false,false,true] (a1 b0 (a1 s0 (a1 s1 (a1 b1 (a1 b2 (a1 b3 trivial)))))) (by kernel_rfl)
     ·rw [if_neg b3] at h
      replace b3:=bf_ b3
      by_cases b4:(g44_0 (u47_0 (u44_0 (u44_0 (u44_0 h0 100) 3) 6)) 14==3)=true
      ·rw [if_pos b4] at h
       obtain ⟨s2,h⟩:=h
       obtain ⟨h,h'⟩:=h;subst h;subst h'
       exact AtV.ret Tryz.func18 tabOk ext18Ok mixed false [] tys18 [false,false,false,false,true] (a1 b0 (a1 s0 (a1 s1 (a1 b1 (a1 b2 (a1 b3 (a1 b4 (a1 s2 trivial)))))))) (by kernel_rfl)
      ·rw [if_neg b4] at h
       replace b4:=bf_ b4
       by_cases b5:(g44_0 (u47_0 (u44_0 (u44_0 (u44_0 h0 100) 3) 6)) 14==4)=true
       ·rw [if_pos b5] at h
        obtain ⟨h,h'⟩:=h;subst h;subst h'
        exact AtV.ret Tryz.func18 tabOk ext18Ok mixed false [] tys18 [false,false,false,false,false,true] (a1 b0 (a1 s0 (a1 s1 (a1 b1 (a1 b2 (a1 b3 (a1 b4 (a1 b5 trivial)))))))) (by kernel_rfl)
       ·rw [if_neg b5] at h
        replace b5:=bf_ b5
        by_cases b6:(g44_0 (u47_0 (u44_0 (u44_0 (u44_0 h0 100) 3) 6)) 14==5)=true
        ·rw [if_pos b6] at h
         by_cases b7:(decide ((↑(List.length (g47_0 (u44_0 (u44_0 (u44_0 h0 100) 3) 6))):Int)>0))=true
         ·rw [if_pos b7] at h
          obtain ⟨s2,h⟩:=h
          obtain ⟨s3,h⟩:=h
          obtain ⟨s4,s5,h⟩:=h
          obtain ⟨h,h'⟩:=h;subst h;subst h'
          exact AtV.ret Tryz.func18 tabOk ext18Ok mixed false [] tys18 [false,false,false,false,false,false,true,true] (a1 b0 (a1 s0 (a1 s1 (a1 b1 (a1 b2 (a1 b3 (a1 b4 (a1 b5 (a1 b6 (a1 b7 (a1 s2 (a1 s3 (a1 s4 (a1 s5 trivial)))))))))))))) (by kernel_rfl)
         ·rw [if_neg b7] at h
          replace b7:=bf_ b7
          obtain ⟨h,h'⟩:=h;subst h;subst h'
          exact AtV.ret Tryz.func18 tabOk ext18Ok mixed false [] tys18 [false,false,false,false,false,false,true,false] (a1 b0 (a1 s0 (a1 s1 (a1 b1 (a1 b2 (a1 b3 (a1 b4 (a1 b5 (a1 b6 (a1 b7 trivial)))))))))) (by kernel_rfl)
        ·rw [if_neg b6] at h
         replace b6:=bf_ b6
         by_cases b7:(g44_0 (u47_0 (u44_0 (u44_0 (u44_0 h0 100) 3) 6)) 14==6)=true
         ·rw [if_pos b7] at h
          obtain ⟨h,h'⟩:=h;subst h;subst h'
          exact AtV.ret Tryz.func18 tabOk ext18Ok mixed false [] tys18 [false,false,false,false,false,false,false,true] (a1 b0 (a1 s0 (a1 s1 (a1 b1 (a1 b2 (a1 b3 (a1 b4 (a1 b5 (a1 b6 (a1 b7 trivial)))))))))) (by kernel_rfl)
         ·rw [if_neg b7] at h
          replace b7:=bf_ b7
          obtain ⟨h,h'⟩:=h;subst h;subst h'
          exact AtV.ret Tryz.func18 tabOk ext18Ok mixed false [] tys18 [false,false,false,false,false,false,false,false] (a1 b0 (a1 s0 (a1 s1 (a1 b1 (a1 b2 (a1 b3 (a1 b4 (a1 b5 (a1 b6 (a1 b7 trivial)))))))))) (by kernel_rfl)
def P18 (x0:(List Int×Int×Int×Unit)):Prop:=SrcOk 100000000 x0
def Q18 (x0:(List Int×Int×Int×Unit)) (y:(TyA0)) (s:(List Int×Int×Int×Unit)):Prop:=SrcOk (x0.2.1+9000) s∧∃ n,R18 n x0 [⟨(.cons (.cons (.sl (.cons (.int .i64) (.cons (.int .i64) .unit))) (.cons (.int .i64) (.cons (.int .i64) .unit))) (.cons (.int .i64) (.cons (.cons (.int .i64) (.cons (.int .i64) .unit)) (.cons (.cons (.int .i64) (.cons (.int .i64) (.cons (.int .i64) (.cons (.int .i64) .unit)))) (.cons (.sl (.cons .str (.cons (.int .i64) (.cons (.int .i64) (.cons (.int .i64) .unit))))) (.cons (.cons (.int .i64) (.cons (.int .i64) (.cons (.int .i64) .unit))) (.cons (.sl (.cons .str (.cons (.int .i64) (.cons (.int .i64) (.cons (.int .i64) (.cons (.int .i64) .unit)))))) (.cons (.int .i64) (.cons (.int .i64) (.cons (.sl (.cons (.int .i64) (.cons (.int .i64) .unit))) (.cons (.int .i64) (.cons (.sl (.cons (.int .i64) (.cons (.int .i64) (.cons .str (.cons (.int .i64) .unit))))) .unit)))))))))))),y⟩] [some ⟨(.cons (.sl (.int .u8)) (.cons (.int .i64) (.cons (.int .u64) .unit))),[s]⟩]
theorem end18 (x0:(List Int×Int×Int×Unit)) (hb:bnd43 (g43_0 x0)) (h5a:List TyB0) (v6 v7 tn:Int) (h5:List TyB4) (h0:(List Int×Int×Int×Unit)) (m:Int) (hv:¬ v7>0) (hs:SrcOk m h0) (hm:m≤300000000) :
  ∃ (y:(TyA0)) (z:(List Int×Int×Int×Unit)),SrcOk (m+3000) z∧R18_19 1 v6 v7 tn h5 h0 x0 h5a [⟨(.cons (.cons (.sl (.cons (.int .i64) (.cons (.int .i64) .unit))) (.cons (.int .i64) (.cons (.int .i64) .unit))) (.cons (.int .i64) (.cons (.cons (.int .i64) (.cons (.int .i64) .unit)) (.cons (.cons (.int .i64) (.cons (.int .i64) (.cons (.int .i64) (.cons (.int .i64) .unit)))) (.cons (.sl (.cons .str (.cons (.int .i64) (.cons (.int .i64) (.cons (.int .i64) .unit))))) (.cons (.cons (.int .i64) (.cons (.int .i64) (.cons (.int .i64) .unit))) (.cons (.sl (.cons .str (.cons (.int .i64) (.cons (.int .i64) (.cons (.int .i64) (.cons (.int .i64) .unit)))))) (.cons (.int .i64) (.cons (.int .i64) (.cons (.sl (.cons (.int .i64) (.cons (.int .i64) .unit))) (.cons (.int .i64) (.cons (.sl (.cons (.int .i64) (.cons (.int .i64) (.cons .str (.cons (.int .i64) .unit))))) .unit)))))))))))),y⟩] [some ⟨(.cons (.sl (.int .u8)) (.cons (.int .i64) (.cons (.int .u64) .unit))),[z]⟩]:=by
 obtain ⟨⟨hb1,hb2⟩,hb3,hb4⟩:=hb
 obtain ⟨_,t1,_⟩:=pick_ok hs 100 (by omega)
 obtain ⟨_,t2,_⟩:=pick_ok t1 3 (by omega)
 obtain ⟨_,t3,_⟩:=pick_ok t2 6 (by omega)
 have p47:P47 (u44_0 (u44_0 (u44_0 h0 100) 3) 6):=t3.up (by omega)
 obtain ⟨t4,hl,_⟩:=q47 _ p47
 have t4:=t4.up (show _≤m+1006 by have:=t3.at_le;omega)
 obtain ⟨p14,t5,_,_,_⟩:=pick_ok t4 14 (by omega)
 have nv:¬ decide (v7>0)=true:=by simpa using hv
 by_cases c0:(g44_0 (u47_0 (u44_0 (u44_0 (u44_0 h0 100) 3) 6)) 14==0)=true
 ·exact ⟨_,_,t5.up (by omega),by
   rw [R18_19,if_neg nv,if_pos c0]
   exact ⟨p47,p14,by rw [i64_iff];omega,by rw [i64_iff];omega,rfl,rfl⟩⟩
 by_cases c1:(g44_0 (u47_0 (u44_0 (u44_0 (u44_0 h0 100) 3) 6)) 14==1)=true
 ·obtain ⟨p60,t6,a6,b6,_⟩:=pick_ok t5 60 (by omega)
  have b6:=b6 (by decide)
  exact ⟨_,_,t6.up (by omega),by
   rw [R18_19,if_neg nv,if_neg c0,if_pos c1]
   exact ⟨p47,p14,p60,by rw [i64_iff];omega,by rw [i64_iff];omega,rfl,rfl⟩⟩
 by_cases c2:(g44_0 (u47_0 (u44_0 (u44_0 (u44_0 h0 100) 3) 6)) 14==2)=true
 ·exact ⟨_,_,t5.up (by omega),by
   rw [R18_19,if_neg nv,if_neg c0,if_neg c1,if_pos c2]
   exact ⟨p47,p14,rfl,rfl⟩⟩
 by_cases c3:(g44_0 (u47_0 (u44_0 (u44_0 (u44_0 h0 100) 3) 6)) 14==3)=true
 ·have p48:P48 (u44_0 (u47_0 (u44_0 (u44_0 (u44_0 h0 100) 3) 6)) 14):=t5.up (by omega)
  obtain ⟨t6,_⟩:=q48 _ p48
  exact ⟨_,_,t6.up (show _≤m+3000 by have:=t5.at_le;omega),by
   rw [R18_19,if_neg nv,if_neg c0,if_neg c1,if_neg c2,if_pos c3]
   exact ⟨p47,p14,p48,rfl,rfl⟩⟩
 by_cases c4:(g44_0 (u47_0 (u44_0 (u44_0 (u44_0 h0 100) 3) 6)) 14==4)=true
 ·exact ⟨_,_,t5.up (by omega),by
   rw [R18_19,if_neg nv,if_neg c0,if_neg c1,if_neg c2,if_neg c3,if_pos c4]
   exact ⟨p47,p14,rfl,rfl⟩⟩
 by_cases c5:(g44_0 (u47_0 (u44_0 (u44_0 (u44_0 h0 100) 3) 6)) 14==5)=true
 ·by_cases c:decide ((List.length (g47_0 (u44_0 (u44_0 (u44_0 h0 100) 3) 6)):Int)>0)=true
  ·have hc:=of_decide_eq_true c
   obtain ⟨p6,t6,a6,b6,_⟩:=pick_ok t5 (List.length (g47_0 (u44_0 (u44_0 (u44_0 h0 100) 3) 6)):Int) (by omega)
   have b6:=b6 (by omega)
   obtain ⟨p7,t7,_,_,_⟩:=pick_ok t6 60000 (by omega)
   exact ⟨_,_,t7.up (by omega),by
    rw [R18_19,if_neg nv,if_neg c0,if_neg c1,if_neg c2,if_neg c3,if_neg c4,if_pos c5,if_pos c]
    exact ⟨p47,p14,p6,p7,a6,b6,rfl,rfl⟩⟩
  ·exact ⟨_,_,t5.up (by omega),by
    rw [R18_19,if_neg nv,if_neg c0,if_neg c1,if_neg c2,if_neg c3,if_neg c4,if_pos c5,if_neg c]
    exact ⟨p47,p14,rfl,rfl⟩⟩
 by_cases c6:(g44_0 (u47_0 (u44_0 (u44_0 (u44_0 h0 100) 3) 6)) 14==6)=true
 ·exact ⟨_,_,t5.up (by omega),by
   rw [R18_19,if_neg nv,if_neg c0,if_neg c1,if_neg c2,if_neg c3,if_neg c4,if_neg c5,if_pos c6]
   exact ⟨p47,p14,rfl,rfl⟩⟩
 ·exact ⟨_,_,t5.up (by omega),by
   rw [R18_19,if_neg nv,if_neg c0,if_neg c1,if_neg c2,if_neg c3,if_neg c4,if_neg c5,if_neg c6]
   exact ⟨p47,p14,rfl,rfl⟩⟩
theorem rides18 (x0:(List Int×Int×Int×Unit)) (hb:bnd43 (g43_0 x0)) (h5a:List TyB0) (tn:Int):∀ (k:Nat) (v6 v7:Int) (h5:List TyB4) (h0:(List Int×Int×Int×Unit)) (m:Int),v7=(k:Int)→SrcOk m h0→m+20*(k:Int)≤300000000→(0≤v6∧v6+100*(k:Int)≤10000)→h5.length+k≤10 →
  ∃ (n:Nat) (y:(TyA0)) (z:(List Int×Int×Int×Unit)),SrcOk (m+20*(k:Int)+3000) z∧R18_19 n v6 v7 tn h5 h0 x0 h5a [⟨(.cons (.cons (.sl (.cons (.int .i64) (.cons (.int .i64) .unit))) (.cons (.int .i64) (.cons (.int .i64) .unit))) (.cons (.int .i64) (.cons (.cons (.int .i64) (.cons (.int .i64) .unit)) (.cons (.cons (.int .i64) (.cons (.int .i64) (.cons (.int .i64) (.cons (.int .i64) .unit)))) (.cons (.sl (.cons .str (.cons (.int .i64) (.cons (.int .i64) (.cons (.int .i64) .unit))))) (.cons (.cons (.int .i64) (.cons (.int .i64) (.cons (.int .i64) .unit))) (.cons (.sl (.cons .str (.cons (.int .i64) (.cons (.int .i64) (.cons (.int .i64) (.cons (.int .i64) .unit)))))) (.cons (.int .i64) (.cons (.int .i64) (.cons (.sl (.cons (.int .i64) (.cons (.int .i64) .unit))) (.cons (.int .i64) (.cons (.sl (.cons (.int .i64) (.cons (.int .i64) (.cons .str (.cons (.int .i64) .unit))))) .unit)))))))))))),y⟩] [some ⟨(.cons (.sl (.int .u8)) (.cons (.int .i64) (.cons (.int .u64) .unit))),[z]⟩]:=by
 intro k
 induction k with
 | zero =>
  intro v6 v7 h5 h0 m hv hs hm h6 hl
  obtain ⟨y,z,a,b⟩:=end18 x0 hb h5a v6 v7 tn h5 h0 m (by omega) hs (by omega)
  exact ⟨1,y,z,a.up (by omega),b⟩
 | succ k ih =>
  intro v6 v7 h5 h0 m hv hs hm h6 hl
  obtain ⟨_,t1,_⟩:=pick_ok hs 100 (by omega)
  obtain ⟨_,t2,_⟩:=pick_ok t1 3 (by omega)
  obtain ⟨_,t3,_⟩:=pick_ok t2 6 (by omega)
  obtain ⟨p6,_,a6,b6,_⟩:=pick_ok t3 6 (by omega)
  have b6:=b6 (by decide)
  obtain ⟨n,y,z,a,b⟩:=ih (v6+(4+g44_0 (u44_0 (u44_0 (u44_0 h0 100) 3) 6) 6+3)) (v7 - 1) (h5++[(v6,4+g44_0 (u44_0 (u44_0 (u44_0 h0 100) 3) 6) 6,())]) _ _ (by omega) t1 (by omega) (by omega) (by rw [List.length_append,List.length_singleton];omega)
  refine ⟨n+1,y,z,a.up (by omega),?_⟩
  rw [R18_19,if_pos (by simp only [decide_eq_true_eq];omega)]
  exact ⟨p6,by rw [i64_iff];omega,by omega,by rw [i64_iff];omega,by rw [i64_iff];omega,by rw [i64_iff];omega,b⟩
theorem checks18 (x0:(List Int×Int×Int×Unit)) (hb:bnd43 (g43_0 x0)):∀ (k:Nat) (v5:Int) (h0:(List Int×Int×Int×Unit)) (h5:List TyB0) (m:Int),v5+(k:Int)=3→0≤v5→SrcOk m h0→m+20*(k:Int)≤200000000→(h5.length:Int)≤v5 →
  ∃ (n:Nat) (y:(TyA0)) (z:(List Int×Int×Int×Unit)),SrcOk (m+20*(k:Int)+3200) z∧R18_13 n v5 h0 h5 x0 [⟨(.cons (.cons (.sl (.cons (.int .i64) (.cons (.int .i64) .unit))) (.cons (.int .i64) (.cons (.int .i64) .unit))) (.cons (.int .i64) (.cons (.cons (.int .i64) (.cons (.int .i64) .unit)) (.cons (.cons (.int .i64) (.cons (.int .i64) (.cons (.int .i64) (.cons (.int .i64) .unit)))) (.cons (.sl (.cons .str (.cons (.int .i64) (.cons (.int .i64) (.cons (.int .i64) .unit))))) (.cons (.cons (.int .i64) (.cons (.int .i64) (.cons (.int .i64) .unit))) (.cons (.sl (.cons .str (.cons (.int .i64) (.cons (.int .i64) (.cons (.int .i64) (.cons (.int .i64) .unit)))))) (.cons (.int .i64) (.cons (.int .i64) (.cons (.sl (.cons (.int .i64) (.cons (.int .i64) .unit))) (.cons (.int .i64) (.cons (.sl (.cons (.int .i64) (.cons (.int .i64) (.cons .str (.cons (.int .i64) .unit))))) .unit)))))))))))),y⟩] [some ⟨(.cons (.sl (.int .u8)) (.cons (.int .i64) (.cons (.int .u64) .unit))),[z]⟩]:=by
 intro k
 induction k with
 | zero =>
  intro v5 h0 h5 m hv h1 hs hm hl
  obtain ⟨p1,t1,a1,b1,_⟩:=pick_ok hs 100 (by omega)
  have b1:=b1 (by decide)
  obtain ⟨p2,t2,a2,b2,_⟩:=pick_ok t1 3 (by omega)
  obtain ⟨p3,t3,a3,b3,_⟩:=pick_ok t2 6 (by omega)
  have b3:=b3 (by decide)
  obtain ⟨n,y,z,a,b⟩:=rides18 x0 hb h5 (g44_0 (u44_0 h0 100) 3) (g44_0 (u44_0 (u44_0 h0 100) 3) 6).toNat (300+g44_0 h0 100) (g44_0 (u44_0 (u44_0 h0 100) 3) 6) [] h0 m (by omega) hs (by omega) (by omega) (by simp;omega)
  refine ⟨n+1,y,z,a.up (by omega),?_⟩
  rw [R18_13,if_neg (by simp only [decide_eq_true_eq];omega)]
  exact ⟨p1,by rw [i64_iff];omega,p2,p3,b⟩
 | succ k ih =>
  intro v5 h0 h5 m hv h1 hs hm hl
  obtain ⟨p1,t1,a1,b1,_⟩:=pick_ok hs 20 (by omega)
  have b1:=b1 (by decide)
  obtain ⟨n,y,z,a,b⟩:=ih (v5+1) _ (h5++[(List.getD [ByteArray.mk #[98,114,97,107,101],ByteArray.mk #[100,111,111,114],ByteArray.mk #[114,111,112,101]] (Int.toNat v5) ByteArray.empty,30,2000,50+g44_0 h0 20,2000,())]) _ (by omega) (by omega) t1 (by omega) (by rw [List.length_append,List.length_singleton];omega)
  refine ⟨n+1,y,z,a.up (by omega),?_⟩
  rw [R18_13,if_pos (by simp only [decide_eq_true_eq];omega)]
  exact ⟨h1,by omega,p1,by rw [i64_iff];omega,by omega,by rw [i64_iff];omega,b⟩
theorem prof18 {n:Int} {s:(List Int×Int×Int×Unit)} (h:SrcOk n s) (hn:n≤1000000000):P45 s∧SrcOk (n+8) (u45_0 s):=by
 obtain ⟨p1,s1,a1,b1,_⟩:=pick_ok h 40 (by omega)
 obtain ⟨p2,s2,a2,b2,_⟩:=pick_ok s1 6 (by omega)
 obtain ⟨p3,s3,a3,b3,_⟩:=pick_ok s2 80 (by omega)
 obtain ⟨p4,s4,a4,b4,_⟩:=pick_ok s3 8 (by omega)
 have b1:=b1 (by decide)
 have b2:=b2 (by decide)
 have b3:=b3 (by decide)
 have b4:=b4 (by decide)
 refine ⟨?_,s4.up (by omega)⟩
 unfold P45
 refine ⟨p1,?_⟩
 repeat' first | exact trivial | assumption | (rw [i64_iff];omega) | apply And.intro
theorem ex18 (x0:(List Int×Int×Int×Unit)) (h:P18 x0):∃ y s,Q18 x0 y s:=by
 have h0:x0.2.1≤100000000:=h.2.2
 have p43:P43 x0:=h.up (by decide)
 obtain ⟨t1,hb,_⟩:=q43 x0 p43
 obtain ⟨p2,t2,a2,b2,_⟩:=pick_ok t1 2 (by omega)
 obtain ⟨p3,t3,a3,b3,_⟩:=pick_ok t2 20 (by omega)
 have b3:=b3 (by decide)
 obtain ⟨p4,t4⟩:=prof18 t3 (by omega)
 obtain ⟨p5,t5,a5,b5,_⟩:=pick_ok t4 30 (by omega)
 have b5:=b5 (by decide)
 have p46:P46 _:=t5.up (show _≤(800000000:Int) by omega)
 obtain ⟨t6,_⟩:=q46 _ p46
 have t6:=t6.up (show _≤x0.2.1+2014 by have:=t5.at_le;omega)
 obtain ⟨n,y,z,a,b⟩:=checks18 x0 hb 3 0 _ [] _ (by omega) (by omega) t6 (by omega) (by simp)
 refine ⟨y,z,a.up (by omega),n+1,?_⟩
 rw [R18]
 exact ⟨p43,p2,p3,by rw [i64_iff];omega,by rw [i64_iff];omega,p4,p5,by rw [i64_iff];omega,by rw [i64_iff];omega,p46,b⟩
def g18_0 (x0:(List Int×Int×Int×Unit)):(TyA0):=(sel2 ((([],0,0,()),0,(0,0,()),(0,0,0,0,()),[],(0,0,0,()),[],0,0,[],0,[],()):(TyA0)) x0 (Q18 x0)).1
def u18_0 (x0:(List Int×Int×Int×Unit)):(List Int×Int×Int×Unit):=(sel2 ((([],0,0,()),0,(0,0,()),(0,0,0,0,()),[],(0,0,0,()),[],0,0,[],0,[],()):(TyA0)) x0 (Q18 x0)).2
theorem q18 (x0:(List Int×Int×Int×Unit)) (h:P18 x0):Q18 x0 (g18_0 x0) (u18_0 x0):=by
 obtain ⟨y,s,hq⟩:=ex18 x0 h
 exact sel2_spec hq
def S18:Am.Spec:={ sig:=sig18,pre:=fun ⟨x0,_⟩=>P18 x0,upd:=fun ⟨x0,_⟩=>[some ⟨(.cons (.sl (.int .u8)) (.cons (.int .i64) (.cons (.int .u64) .unit))),[u18_0 x0]⟩],res:=fun ⟨x0,_⟩=>[⟨(.cons (.cons (.sl (.cons (.int .i64) (.cons (.int .i64) .unit))) (.cons (.int .i64) (.cons (.int .i64) .unit))) (.cons (.int .i64) (.cons (.cons (.int .i64) (.cons (.int .i64) .unit)) (.cons (.cons (.int .i64) (.cons (.int .i64) (.cons (.int .i64) (.cons (.int .i64) .unit)))) (.cons (.sl (.cons .str (.cons (.int .i64) (.cons (.int .i64) (.cons (.int .i64) .unit))))) (.cons (.cons (.int .i64) (.cons (.int .i64) (.cons (.int .i64) .unit))) (.cons (.sl (.cons .str (.cons (.int .i64) (.cons (.int .i64) (.cons (.int .i64) (.cons (.int .i64) .unit)))))) (.cons (.int .i64) (.cons (.int .i64) (.cons (.sl (.cons (.int .i64) (.cons (.int .i64) .unit))) (.cons (.int .i64) (.cons (.sl (.cons (.int .i64) (.cons (.int .i64) (.cons .str (.cons (.int .i64) .unit))))) .unit)))))))))))),g18_0 x0⟩],kds:=kds18 }
theorem con18:Contract Tryz.prog 18 S18:=contract_of Tryz.func18 hb18 (bl_ (by kernel_rfl)) (fun ⟨x0,_⟩ h hwf K q =>
 let ⟨n,hn⟩:=(q18 x0 h).2
 (snd18 n).1 x0 _ _ hn K q)
end
noncomputable section
def ext4:Ext:=[(17,S17),(18,S18)]
theorem ext4Ok:ExtOk Tryz.prog ext4:=⟨⟨ca17,con17⟩,⟨ca18,con18⟩,trivial⟩
noncomputable def b4:Code:=bodyOf Tryz.f4
theorem hb4:Tryz.f4.body=some b4:=by kernel_rfl
def sig4:List AT:=[AT.v (.sl (.int .u8))]
def tys4:List Ty:=[.cons YA2 YA1]
def kds4:List RK:=[.frz]
def oks4:List AT:=owns sig4
def P4 (x0:List Int):Prop:=((P18 (g17_0 x0))∧True)
def g4_0 (x0:List Int):TyA0:=(((g18_0 (g17_0 x0)).1.1,(g18_0 (g17_0 x0)).1.2.1,(g18_0 (g17_0 x0)).1.2.2.1,()),(g18_0 (g17_0 x0)).2.1,((g18_0 (g17_0 x0)).2.2.1.1,(g18_0 (g17_0 x0)).2.2.1.2.1,()),((g18_0 (g17_0 x0)).2.2.2.1.1,(g18_0 (g17_0 x0)).2.2.2.1.2.1,(g18_0 (g17_0 x0)).2.2.2.1.2.2.1,(g18_0 (g17_0 x0)).2.2.2.1.2.2.2.1,()),(g18_0 (g17_0 x0)).2.2.2.2.1,((g18_0 (g17_0 x0)).2.2.2.2.2.1.1,(g18_0 (g17_0 x0)).2.2.2.2.2.1.2.1,(g18_0 (g17_0 x0)).2.2.2.2.2.1.2.2.1,()),(g18_0 (g17_0 x0)).2.2.2.2.2.2.1,(g18_0 (g17_0 x0)).2.2.2.2.2.2.2.1,(g18_0 (g17_0 x0)).2.2.2.2.2.2.2.2.1,(g18_0 (g17_0 x0)).2.2.2.2.2.2.2.2.2.1,(g18_0 (g17_0 x0)).2.2.2.2.2.2.2.2.2.2.1,(g18_0 (g17_0 x0)).2.2.2.2.2.2.2.2.2.2.2.1,())
theorem at4 (x0:List Int) (h:P4 x0) (K:Ctx) (q:Nat→Value):AtV Tryz.prog 4 (PostR kds4 oks4 [⟨.cons YA2 YA1,g4_0 x0⟩] [] [] q K) 8 K q [] [.code b4] (entE 0 0 sig4 (x0,())) (entL sig4 (x0,())):=by
 unfold P4 at h
 unfold g4_0
 obtain ⟨s0,h⟩:=h
 exact AtV.ret Tryz.func4 tabOk ext4Ok mixed false [] tys4 [] (a1 trivial (a1 s0 trivial)) (by kernel_rfl)
def S4:Am.Spec:={ sig:=sig4,pre:=fun ⟨x0,_⟩=>P4 x0,res:=fun ⟨x0,_⟩=>[⟨.cons YA2 YA1,g4_0 x0⟩],kds:=kds4 }
theorem con4:Contract Tryz.prog 4 S4:=contract_of Tryz.func4 hb4 (bl_ (by kernel_rfl)) (fun ⟨x0,_⟩ h _ K q=>at4 x0 h K q)
end
noncomputable section
def ext30:Ext:=[]
theorem ext30Ok:ExtOk Tryz.prog ext30:=trivial
noncomputable def b30:Code:=bodyOf Tryz.f30
theorem hb30:Tryz.f30.body=some b30:=by kernel_rfl
def sig30:List AT:=[AT.v (.int .i64),AT.v (.int .i64),AT.v (.int .i64)]
def tys30:List Ty:=[.bool]
def kds30:List RK:=[]
def oks30:List AT:=owns sig30
def P30 (x0:Int) (x1:Int) (x2:Int):Prop:=True
def g30_0 (x0:Int) (x1:Int) (x2:Int):Bool:=(if (decide (x0≥x1))=true then decide (x0≤x2) else false)
theorem at30 (x0:Int) (x1:Int) (x2:Int) (h:P30 x0 x1 x2) (K:Ctx) (q:Nat→Value):AtV Tryz.prog 30 (PostR kds30 oks30 [⟨.bool,g30_0 x0 x1 x2⟩] [] [] q K) 15 K q [] [.code b30] (entE 0 0 sig30 (x0,x1,x2,())) (entL sig30 (x0,x1,x2,())):=by
 unfold P30 at h
 unfold g30_0
 by_cases b0:(decide (x0≥x1))=true
 ·try simp only [if_pos b0] at h ⊢
  exact AtV.ret Tryz.func30 tabOk ext30Ok mixed false [] tys30 [true] (a1 b0 trivial) (by kernel_rfl)
 ·try simp only [if_neg b0] at h ⊢
  replace b0:=bf_ b0
  exact AtV.ret Tryz.func30 tabOk ext30Ok mixed false [] tys30 [false] (a1 b0 trivial) (by kernel_rfl)
def S30:Am.Spec:={ sig:=sig30,pre:=fun ⟨x0,x1,x2,_⟩=>P30 x0 x1 x2,res:=fun ⟨x0,x1,x2,_⟩=>[⟨.bool,g30_0 x0 x1 x2⟩],kds:=kds30 }
theorem con30:Contract Tryz.prog 30 S30:=contract_of Tryz.func30 hb30 (bl_ (by kernel_rfl)) (fun ⟨x0,x1,x2,_⟩ h _ K q=>at30 x0 x1 x2 h K q)
end
noncomputable section
def ext24:Ext:=[(30,S30),(25,S25)]
theorem ext24Ok:ExtOk Tryz.prog ext24:=⟨⟨ca30,con30⟩,⟨ca25,con25⟩,trivial⟩
noncomputable def b24:Code:=bodyOf Tryz.f24
theorem hb24:Tryz.f24.body=some b24:=by kernel_rfl
def sig24:List AT:=[AT.p YA2]
def tys24:List Ty:=[.bool]
def kds24:List RK:=[]
def oks24:List AT:=owns sig24
def E24_2 (v3:Int) (x0:List TyB4×Int×Int×Unit):Env:=[(0,.a (.ptr YA2 x0)),(3,.a (.val (.int .i64 v3)))]
def L24_2 (v3:Int) (x0:List TyB4×Int×Int×Unit):Heap:=[]
mutual
def R24:Nat→List TyB4×Int×Int×Unit→List Dyn→Prop
 | 0,_,_=>False
 | n+1,x0,ds=>(R24_2 n (0) (x0) ds)
def R24_2:Nat→Int→List TyB4×Int×Int×Unit→List Dyn→Prop
 | 0,_,_,_=>False
 | n+1,v3,x0,ds=>(if (decide (v3<(x0.1.length:Int)))=true then ((0≤v3)∧(v3<(x0.1.length:Int))∧(if (!g30_0 (List.getD x0.1 (Int.toNat v3) (0,0,())).1 1 3000000)=true then (ds=[Dyn.mk .bool false]) else ((0≤v3)∧(v3<(x0.1.length:Int))∧(if (!g30_0 (List.getD x0.1 (Int.toNat v3) (0,0,())).2.1 0 900)=true then (ds=[Dyn.mk .bool false]) else ((InR .i64 (v3+1))∧(R24_2 n (v3+1) (x0) ds)))))) else (if ((x0.1.length:Int)==0)=true then (ds=[Dyn.mk .bool false]) else (if (decide ((x0.1.length:Int)>12))=true then (ds=[Dyn.mk .bool false]) else ((P25 x0)∧(if (decide (g25_0 x0≤3000000))=true then (if (g30_0 x0.2.1 0 (g25_0 x0))=true then (ds=[Dyn.mk .bool (g30_0 x0.2.2.1 x0.2.1 (g25_0 x0))]) else (ds=[Dyn.mk .bool false])) else (ds=[Dyn.mk .bool false]))))))
end
theorem snd24:∀ n,(∀ (x0:List TyB4×Int×Int×Unit) ds,R24 n x0 ds→∀ K q,AtV Tryz.prog 24 (PostR kds24 oks24 ds [] [] q K) 74 K q [] [.code b24] (entE 0 0 sig24 (x0,())) (entL sig24 (x0,())))∧(∀ (v3:Int) (x0:List TyB4×Int×Int×Unit) ds,R24_2 n v3 x0 ds→∀ K q,AtV Tryz.prog 24 (PostR kds24 oks24 ds [] [] q K) 74 K q [] (cutAt b24 2) (E24_2 v3 x0) (L24_2 v3 x0)):=by
 intro n
 induction n with
 | zero=>exact ⟨fun _ _ h=>by simp only [R24] at h,fun _ _ _ h=>by simp only [R24_2] at h⟩
 | succ n ih =>
 obtain ⟨ih,ih2⟩:=ih
 refine ⟨?_,?_⟩
 ·intro x0 ds h K q
  rw [R24] at h
  exact AtV.go tabOk ext24Ok mixed false [] [] [0,3] [] [] trivial (ih2 _ _ _ h K q) (by kernel_rfl)
 ·intro v3 x0 ds h K q
  rw [R24_2] at h
  by_cases b0:(decide (v3<(x0.1.length:Int)))=true
  ·rw [if_pos b0] at h
   obtain ⟨s0,s1,h⟩:=h
   by_cases b1:(!g30_0 (List.getD x0.1 (Int.toNat v3) (0,0,())).1 1 3000000)=true
   ·rw [if_pos b1] at h
    subst h
    exact AtV.ret Tryz.func24 tabOk ext24Ok mixed false [] tys24 [true,true,true] (a1 b0 (a1 s0 (a1 s1 (a1 trivial (a1 b1 (a1 (rfl:true=true) trivial)))))) (by kernel_rfl)
   ·rw [if_neg b1] at h
    replace b1:=bf_ b1
    obtain ⟨s2,s3,h⟩:=h
    by_cases b2:(!g30_0 (List.getD x0.1 (Int.toNat v3) (0,0,())).2.1 0 900)=true
    ·rw [if_pos b2] at h
     subst h
     exact AtV.ret Tryz.func24 tabOk ext24Ok mixed false [] tys24 [true,false,true] (a1 b0 (a1 s0 (a1 s1 (a1 trivial (a1 b1 (a1 s2 (a1 s3 (a1 trivial (a1 b2 trivial))))))))) (by kernel_rfl)
    ·rw [if_neg b2] at h
     replace b2:=bf_ b2
     obtain ⟨s4,h⟩:=h
     exact AtV.go tabOk ext24Ok mixed false [] [] [0,3] [] [true,false,false] (a1 b0 (a1 s0 (a1 s1 (a1 trivial (a1 b1 (a1 s2 (a1 s3 (a1 trivial (a1 b2 (a1 s4 trivial)))))))))) (ih2 _ _ _ h K q) (by kernel_rfl)
  ·rw [if_neg b0] at h
   replace b0:=bf_ b0
   by_cases b1:((x0.1.length:Int)==0)=true
   ·rw [if_pos b1] at h
    subst h
    exact AtV.ret Tryz.func24 tabOk ext24Ok mixed false [] tys24 [false,true,true] (a1 b0 (a1 b1 (a1 (rfl:true=true) trivial))) (by kernel_rfl)
   ·rw [if_neg b1] at h
    replace b1:=bf_ b1
    by_cases b2:(decide ((x0.1.length:Int)>12))=true
    ·rw [if_pos b2] at h
     subst h
     exact AtV.ret Tryz.func24 tabOk ext24Ok mixed false [] tys24 [false,false,true] (a1 b0 (a1 b1 (a1 b2 trivial))) (by kernel_rfl)
    ·rw [if_neg b2] at h
     replace b2:=bf_ b2
     obtain ⟨s0,h⟩:=h
     by_cases b3:(decide (g25_0 x0≤3000000))=true
     ·rw [if_pos b3] at h
      by_cases b4:(g30_0 x0.2.1 0 (g25_0 x0))=true
      ·rw [if_pos b4] at h
       subst h
       exact AtV.ret Tryz.func24 tabOk ext24Ok mixed false [] tys24 [false,false,false,true,true] (a1 b0 (a1 b1 (a1 b2 (a1 s0 (a1 b3 (a1 trivial (a1 b4 (a1 trivial trivial)))))))) (by kernel_rfl)
      ·rw [if_neg b4] at h
       replace b4:=bf_ b4
       subst h
       exact AtV.ret Tryz.func24 tabOk ext24Ok mixed false [] tys24 [false,false,false,true,false] (a1 b0 (a1 b1 (a1 b2 (a1 s0 (a1 b3 (a1 trivial (a1 b4 trivial))))))) (by kernel_rfl)
     ·rw [if_neg b3] at h
      replace b3:=bf_ b3
      subst h
      exact AtV.ret Tryz.func24 tabOk ext24Ok mixed false [] tys24 [false,false,false,false,false] (a1 b0 (a1 b1 (a1 b2 (a1 s0 (a1 b3 (a1 (rfl:false=false) trivial)))))) (by kernel_rfl)
def ok24 (x:TyB4):Bool:=g30_0 x.1 1 3000000&&g30_0 x.2.1 0 900
def fine24 (x0:(List TyB4×Int×Int×Unit)):Bool:=if decide (g25_0 x0≤3000000)=true then (if g30_0 x0.2.1 0 (g25_0 x0)=true then g30_0 x0.2.2.1 x0.2.1 (g25_0 x0) else false) else false
def g24_0 (x0:(List TyB4×Int×Int×Unit)):Bool:=x0.1.all ok24&&(decide (1≤x0.1.length)&&decide (x0.1.length≤12))&&fine24 x0
def P24 (x0:(List TyB4×Int×Int×Unit)):Prop:=True
theorem in24 {x a b:Int}:g30_0 x a b=true↔a≤x∧x≤b:=by
 unfold g30_0
 by_cases c1:x≥a
 ·by_cases c2:x≤b
  ·simp [c1,c2]
  ·simp [c1,c2]
 ·have:¬ a≤x:=c1
  simp [c1,this]
theorem lenp24 {x0:(List TyB4×Int×Int×Unit)} (h:x0.1.all ok24=true) (hl:x0.1.length≤12):P25 x0∧0≤g25_0 x0∧g25_0 x0≤36000000:=by
 have hx:∀ x∈x0.1,0≤x.1∧x.1≤3000000:=fun x hx=>by
  have:=List.all_eq_true.1 h x hx
  unfold ok24 at this
  rw [Bool.and_eq_true] at this
  have:=in24.1 this.1
  omega
 obtain ⟨s1,s2⟩:=sum25_le x0.1 hx
 refine ⟨⟨by omega,fun x h=>by have:=hx x h;omega⟩,s1,?_⟩
 show sum25 x0.1≤_
 omega
theorem run24 (x0:(List TyB4×Int×Int×Unit)) (hm:x0.1.length≤maxLen) (yes:List Dyn) (hend:∀ n,x0.1.all ok24=true→R24_2 (n+1) (x0.1.length:Int) x0 yes):∀ (k i:Nat) (B:Bool),i+k=x0.1.length→(x0.1.drop i).all ok24=B→(∀ j,j<i→ok24 (x0.1.getD j ((0:Int),(0:Int),()))=true) →
  R24_2 (k+1) (i:Int) x0 (if B=true then yes else [⟨.bool,false⟩]):=by
 intro k
 induction k with
 | zero =>
  intro i B hi hB hp
  have:i=x0.1.length:=by omega
  subst this
  rw [drop_end _ _ (by omega)] at hB
  subst hB
  refine hend 0 (List.all_eq_true.2 fun x hx => ?_)
  obtain ⟨j,hj,rfl⟩:=List.getElem_of_mem hx
  have:=hp j (by omega)
  rwa [getD_lt _ _ _ hj] at this
 | succ k ih =>
  intro i B hi hB hp
  have hlt:i<x0.1.length:=by omega
  have hu:=inR_up hm hlt
  rw [R24_2,if_pos (by simp only [decide_eq_true_eq];omega)]
  rw [drop_get x0.1 i ((0:Int),(0:Int),()) hlt,List.all_cons] at hB
  simp only [Int.toNat_natCast]
  refine ⟨by omega,by omega,?_⟩
  by_cases h1:ok24 (x0.1.getD i ((0:Int),(0:Int),()))=true
  case neg =>
   have h1:=bf_ h1
   rw [h1,Bool.false_and] at hB
   subst hB
   by_cases c1:g30_0 (x0.1.getD i ((0:Int),(0:Int),())).1 1 3000000=true
   ·rw [if_neg (by rw [c1];simp)]
    have c2:g30_0 (x0.1.getD i ((0:Int),(0:Int),())).2.1 0 900=false:=by
     unfold ok24 at h1;rw [c1] at h1;simpa using h1
    exact ⟨by omega,by omega,by rw [if_pos (by rw [c2];rfl)] <;> rfl⟩
   ·rw [if_pos (by rw [bf_ c1];rfl)] <;> rfl
  case pos =>
   have hb:=h1
   rw [h1,Bool.true_and] at hB
   unfold ok24 at hb
   rw [Bool.and_eq_true] at hb
   rw [if_neg (by rw [hb.1];simp)]
   have e1:(((i+1:Nat)):Int)=(i:Int)+1:=by omega
   have hnext:=ih (i+1) B (by omega) hB (fun j hj=>by
    rcases Nat.lt_or_ge j i with h | h
    ·exact hp j h
    ·have:j=i:=by omega
     subst this;exact h1)
   rw [e1] at hnext
   exact ⟨by omega,by omega,by rw [if_neg (by rw [hb.2];simp)];exact ⟨hu,hnext⟩⟩
theorem end24 (x0:(List TyB4×Int×Int×Unit)) (n:Nat) (h:x0.1.all ok24=true):R24_2 (n+1) (x0.1.length:Int) x0 [⟨.bool,(decide (1≤x0.1.length)&&decide (x0.1.length≤12))&&fine24 x0⟩]:=by
 rw [R24_2,if_neg (by simp)]
 by_cases c1:((x0.1.length:Int)==0)=true
 ·rw [if_pos c1]
  have:¬ 1≤x0.1.length:=by simp only [beq_iff_eq] at c1;omega
  rw [decide_eq_false this];rfl
 ·rw [if_neg c1]
  have d1:1≤x0.1.length:=by simp only [beq_iff_eq] at c1;omega
  by_cases c2:(x0.1.length:Int)>12
  ·rw [if_pos (decide_eq_true c2)]
   have:¬ x0.1.length≤12:=by omega
   rw [decide_eq_false this,Bool.and_false];rfl
  ·rw [if_neg (by simpa using c2)]
   have d2:x0.1.length≤12:=by omega
   rw [decide_eq_true d1,decide_eq_true d2]
   refine ⟨(lenp24 h d2).1,?_⟩
   unfold fine24
   split
   ·split
    ·rfl
    ·rfl
   ·rfl
theorem top24 (x0:(List TyB4×Int×Int×Unit)) (hm:x0.1.length≤maxLen):∃ n,R24 n x0 [⟨.bool,g24_0 x0⟩]:=by
 refine ⟨x0.1.length+1+1,?_⟩
 rw [R24]
 have key:=run24 x0 hm _ (end24 x0) x0.1.length 0 _ (by omega) rfl (fun j hj=>by omega)
 rw [List.drop_zero] at key
 unfold g24_0
 cases h:x0.1.all ok24 with
 | true=>rw [if_pos h] at key;rw [Bool.true_and];exact key
 | false=>rw [if_neg (by rw [h];simp)] at key;exact key
def S24:Am.Spec:={ sig:=sig24,pre:=fun ⟨x0,_⟩=>P24 x0,res:=fun ⟨x0,_⟩=>[⟨.bool,g24_0 x0⟩] }
theorem con24:Contract Tryz.prog 24 S24:=contract_of Tryz.func24 hb24 (bl_ (by kernel_rfl)) (fun ⟨x0,_⟩ h hwf K q =>
 let ⟨n,hn⟩:=top24 x0 hwf.1.1.1
 (snd24 n).1 x0 _ hn K q)
end
noncomputable section
def ext49:Ext:=[(30,S30)]
theorem ext49Ok:ExtOk Tryz.prog ext49:=⟨⟨ca30,con30⟩,trivial⟩
noncomputable def b49:Code:=bodyOf Tryz.f49
theorem hb49:Tryz.f49.body=some b49:=by kernel_rfl
def sig49:List AT:=[AT.v (.int .i64)]
def tys49:List Ty:=[.bool]
def kds49:List RK:=[]
def oks49:List AT:=owns sig49
def P49 (x0:Int):Prop:=True
def g49_0 (x0:Int):Bool:=g30_0 x0 0 3000000
theorem at49 (x0:Int) (h:P49 x0) (K:Ctx) (q:Nat→Value):AtV Tryz.prog 49 (PostR kds49 oks49 [⟨.bool,g49_0 x0⟩] [] [] q K) 5 K q [] [.code b49] (entE 0 0 sig49 (x0,())) (entL sig49 (x0,())):=by
 unfold P49 at h
 unfold g49_0
 exact AtV.ret Tryz.func49 tabOk ext49Ok mixed false [] tys49 [] (a1 trivial trivial) (by kernel_rfl)
def S49:Am.Spec:={ sig:=sig49,pre:=fun ⟨x0,_⟩=>P49 x0,res:=fun ⟨x0,_⟩=>[⟨.bool,g49_0 x0⟩],kds:=kds49 }
theorem con49:Contract Tryz.prog 49 S49:=contract_of Tryz.func49 hb49 (bl_ (by kernel_rfl)) (fun ⟨x0,_⟩ h _ K q=>at49 x0 h K q)
end
noncomputable section
def ext50:Ext:=[(30,S30)]
theorem ext50Ok:ExtOk Tryz.prog ext50:=⟨⟨ca30,con30⟩,trivial⟩
noncomputable def b50:Code:=bodyOf Tryz.f50
theorem hb50:Tryz.f50.body=some b50:=by kernel_rfl
def sig50:List AT:=[AT.p YA11]
def tys50:List Ty:=[.bool]
def kds50:List RK:=[]
def oks50:List AT:=owns sig50
def P50 (x0:Int×Int×Unit):Prop:=True
def g50_0 (x0:Int×Int×Unit):Bool:=(if (g30_0 x0.1 0 100)=true then g30_0 x0.2.1 1 10000 else false)
theorem at50 (x0:Int×Int×Unit) (h:P50 x0) (K:Ctx) (q:Nat→Value):AtV Tryz.prog 50 (PostR kds50 oks50 [⟨.bool,g50_0 x0⟩] [] [] q K) 15 K q [] [.code b50] (entE 0 0 sig50 (x0,())) (entL sig50 (x0,())):=by
 unfold P50 at h
 unfold g50_0
 by_cases b0:(g30_0 x0.1 0 100)=true
 ·try simp only [if_pos b0] at h ⊢
  exact AtV.ret Tryz.func50 tabOk ext50Ok mixed false [] tys50 [true] (a1 trivial (a1 b0 (a1 trivial trivial))) (by kernel_rfl)
 ·try simp only [if_neg b0] at h ⊢
  replace b0:=bf_ b0
  exact AtV.ret Tryz.func50 tabOk ext50Ok mixed false [] tys50 [false] (a1 trivial (a1 b0 trivial)) (by kernel_rfl)
def S50:Am.Spec:={ sig:=sig50,pre:=fun ⟨x0,_⟩=>P50 x0,res:=fun ⟨x0,_⟩=>[⟨.bool,g50_0 x0⟩],kds:=kds50 }
theorem con50:Contract Tryz.prog 50 S50:=contract_of Tryz.func50 hb50 (bl_ (by kernel_rfl)) (fun ⟨x0,_⟩ h _ K q=>at50 x0 h K q)
end
noncomputable section
def ext29:Ext:=[(30,S30)]
theorem ext29Ok:ExtOk Tryz.prog ext29:=⟨⟨ca30,con30⟩,trivial⟩
noncomputable def b29:Code:=bodyOf Tryz.f29
theorem hb29:Tryz.f29.body=some b29:=by kernel_rfl
def sig29:List AT:=[AT.p YA4]
def tys29:List Ty:=[.bool]
def kds29:List RK:=[]
def oks29:List AT:=owns sig29
def P29 (x0:Int×Int×Int×Int×Unit):Prop:=True
def g29_0 (x0:Int×Int×Int×Int×Unit):Bool:=(if (g30_0 x0.1 1 2000)=true then (if (g30_0 x0.2.1 100 15000)=true then (if (g30_0 x0.2.2.1 100 x0.2.1)=true then g30_0 x0.2.2.2.1 0 3000000 else false) else false) else false)
theorem at29 (x0:Int×Int×Int×Int×Unit) (h:P29 x0) (K:Ctx) (q:Nat→Value):AtV Tryz.prog 29 (PostR kds29 oks29 [⟨.bool,g29_0 x0⟩] [] [] q K) 33 K q [] [.code b29] (entE 0 0 sig29 (x0,())) (entL sig29 (x0,())):=by
 unfold P29 at h
 unfold g29_0
 by_cases b0:(g30_0 x0.1 1 2000)=true
 ·try simp only [if_pos b0] at h ⊢
  by_cases b1:(g30_0 x0.2.1 100 15000)=true
  ·try simp only [if_pos b1] at h ⊢
   by_cases b2:(g30_0 x0.2.2.1 100 x0.2.1)=true
   ·try simp only [if_pos b2] at h ⊢
    exact AtV.ret Tryz.func29 tabOk ext29Ok mixed false [] tys29 [true,true,true] (a1 trivial (a1 b0 (a1 trivial (a1 b1 (a1 trivial (a1 b2 (a1 trivial trivial))))))) (by kernel_rfl)
   ·try simp only [if_neg b2] at h ⊢
    replace b2:=bf_ b2
    exact AtV.ret Tryz.func29 tabOk ext29Ok mixed false [] tys29 [true,true,false] (a1 trivial (a1 b0 (a1 trivial (a1 b1 (a1 trivial (a1 b2 trivial)))))) (by kernel_rfl)
  ·try simp only [if_neg b1] at h ⊢
   replace b1:=bf_ b1
   exact AtV.ret Tryz.func29 tabOk ext29Ok mixed false [] tys29 [true,false,false] (a1 trivial (a1 b0 (a1 trivial (a1 b1 (a1 (rfl:false=false) trivial))))) (by kernel_rfl)
 ·try simp only [if_neg b0] at h ⊢
  replace b0:=bf_ b0
  exact AtV.ret Tryz.func29 tabOk ext29Ok mixed false [] tys29 [false,false,false] (a1 trivial (a1 b0 (a1 (rfl:false=false) (a1 (rfl:false=false) trivial)))) (by kernel_rfl)
def S29:Am.Spec:={ sig:=sig29,pre:=fun ⟨x0,_⟩=>P29 x0,res:=fun ⟨x0,_⟩=>[⟨.bool,g29_0 x0⟩],kds:=kds29 }
theorem con29:Contract Tryz.prog 29 S29:=contract_of Tryz.func29 hb29 (bl_ (by kernel_rfl)) (fun ⟨x0,_⟩ h _ K q=>at29 x0 h K q)
end
noncomputable section
def ext139:Ext:=[]
theorem ext139Ok:ExtOk Tryz.prog ext139:=trivial
noncomputable def b139:Code:=bodyOf Tryz.f139
theorem hb139:Tryz.f139.body=some b139:=by kernel_rfl
def sig139:List AT:=[AT.v (.int .u8)]
def tys139:List Ty:=[.bool]
def kds139:List RK:=[]
def oks139:List AT:=owns sig139
def P139 (x0:Int):Prop:=True
def g139_0 (x0:Int):Bool:=(if (decide (x0≥97))=true then decide (x0≤122) else false)
theorem at139 (x0:Int) (h:P139 x0) (K:Ctx) (q:Nat→Value):AtV Tryz.prog 139 (PostR kds139 oks139 [⟨.bool,g139_0 x0⟩] [] [] q K) 9 K q [] [.code b139] (entE 0 0 sig139 (x0,())) (entL sig139 (x0,())):=by
 unfold P139 at h
 unfold g139_0
 by_cases b0:(decide (x0≥97))=true
 ·try simp only [if_pos b0] at h ⊢
  exact AtV.ret Tryz.func139 tabOk ext139Ok mixed false [] tys139 [true] (a1 b0 trivial) (by kernel_rfl)
 ·try simp only [if_neg b0] at h ⊢
  replace b0:=bf_ b0
  exact AtV.ret Tryz.func139 tabOk ext139Ok mixed false [] tys139 [false] (a1 b0 trivial) (by kernel_rfl)
def S139:Am.Spec:={ sig:=sig139,pre:=fun ⟨x0,_⟩=>P139 x0,res:=fun ⟨x0,_⟩=>[⟨.bool,g139_0 x0⟩],kds:=kds139 }
theorem con139:Contract Tryz.prog 139 S139:=contract_of Tryz.func139 hb139 (bl_ (by kernel_rfl)) (fun ⟨x0,_⟩ h _ K q=>at139 x0 h K q)
end
noncomputable section
def ext140:Ext:=[]
theorem ext140Ok:ExtOk Tryz.prog ext140:=trivial
noncomputable def b140:Code:=bodyOf Tryz.f140
theorem hb140:Tryz.f140.body=some b140:=by kernel_rfl
def sig140:List AT:=[AT.v (.int .u8)]
def tys140:List Ty:=[.bool]
def kds140:List RK:=[]
def oks140:List AT:=owns sig140
def P140 (x0:Int):Prop:=True
def g140_0 (x0:Int):Bool:=(if (decide (x0≥48))=true then decide (x0≤57) else false)
theorem at140 (x0:Int) (h:P140 x0) (K:Ctx) (q:Nat→Value):AtV Tryz.prog 140 (PostR kds140 oks140 [⟨.bool,g140_0 x0⟩] [] [] q K) 9 K q [] [.code b140] (entE 0 0 sig140 (x0,())) (entL sig140 (x0,())):=by
 unfold P140 at h
 unfold g140_0
 by_cases b0:(decide (x0≥48))=true
 ·try simp only [if_pos b0] at h ⊢
  exact AtV.ret Tryz.func140 tabOk ext140Ok mixed false [] tys140 [true] (a1 b0 trivial) (by kernel_rfl)
 ·try simp only [if_neg b0] at h ⊢
  replace b0:=bf_ b0
  exact AtV.ret Tryz.func140 tabOk ext140Ok mixed false [] tys140 [false] (a1 b0 trivial) (by kernel_rfl)
def S140:Am.Spec:={ sig:=sig140,pre:=fun ⟨x0,_⟩=>P140 x0,res:=fun ⟨x0,_⟩=>[⟨.bool,g140_0 x0⟩],kds:=kds140 }
theorem con140:Contract Tryz.prog 140 S140:=contract_of Tryz.func140 hb140 (bl_ (by kernel_rfl)) (fun ⟨x0,_⟩ h _ K q=>at140 x0 h K q)
end
noncomputable section
def ext111:Ext:=[(139,S139),(140,S140)]
theorem ext111Ok:ExtOk Tryz.prog ext111:=⟨⟨ca139,con139⟩,⟨ca140,con140⟩,trivial⟩
noncomputable def b111:Code:=bodyOf Tryz.f111
theorem hb111:Tryz.f111.body=some b111:=by kernel_rfl
def sig111:List AT:=[AT.v (.str)]
def tys111:List Ty:=[.bool]
def kds111:List RK:=[]
def oks111:List AT:=owns sig111
def E111_4 (v3:Int) (x0:ByteArray):Env:=[(0,.a (.val (.string x0))),(3,.a (.val (.int .i64 v3)))]
def L111_4 (v3:Int) (x0:ByteArray):Heap:=[]
mutual
def R111:Nat→ByteArray→List Dyn→Prop
 | 0,_,_=>False
 | n+1,x0,ds=>(if (ByteArray.toList x0==ByteArray.toList (ByteArray.mk #[]))=true then (ds=[Dyn.mk .bool false]) else (if (decide ((↑(ByteArray.size x0):Int)>10))=true then (ds=[Dyn.mk .bool false]) else ((0<(↑(ByteArray.size x0):Int))∧(if (!g139_0 (↑(UInt8.toNat (List.getD (Array.toList (ByteArray.data x0)) 0 0)):Int))=true then (ds=[Dyn.mk .bool false]) else (R111_4 n (0) (x0) ds)))))
def R111_4:Nat→Int→ByteArray→List Dyn→Prop
 | 0,_,_,_=>False
 | n+1,v3,x0,ds=>(if (decide (v3<(↑(ByteArray.size x0):Int)))=true then ((0≤v3)∧(v3<(↑(ByteArray.size x0):Int))∧(if (!g139_0 (↑(UInt8.toNat (List.getD (Array.toList (ByteArray.data x0)) (Int.toNat v3) 0)):Int))=true then ((0≤v3)∧(v3<(↑(ByteArray.size x0):Int))∧(if (!g140_0 (↑(UInt8.toNat (List.getD (Array.toList (ByteArray.data x0)) (Int.toNat v3) 0)):Int))=true then (ds=[Dyn.mk .bool false]) else ((InR .i64 (v3+1))∧(R111_4 n (v3+1) (x0) ds)))) else ((InR .i64 (v3+1))∧(R111_4 n (v3+1) (x0) ds)))) else (ds=[Dyn.mk .bool true]))
end
theorem snd111:∀ n,(∀ (x0:ByteArray) ds,R111 n x0 ds→∀ K q,AtV Tryz.prog 111 (PostR kds111 oks111 ds [] [] q K) 35 K q [] [.code b111] (entE 0 0 sig111 (x0,())) (entL sig111 (x0,())))∧(∀ (v3:Int) (x0:ByteArray) ds,R111_4 n v3 x0 ds→∀ K q,AtV Tryz.prog 111 (PostR kds111 oks111 ds [] [] q K) 35 K q [] (cutAt b111 4) (E111_4 v3 x0) (L111_4 v3 x0)):=by
 intro n
 induction n with
 | zero=>exact ⟨fun _ _ h=>by simp only [R111] at h,fun _ _ _ h=>by simp only [R111_4] at h⟩
 | succ n ih =>
 obtain ⟨ih,ih4⟩:=ih
 refine ⟨?_,?_⟩
 ·intro x0 ds h K q
  rw [R111] at h
  by_cases b0:(ByteArray.toList x0==ByteArray.toList (ByteArray.mk #[]))=true
  ·rw [if_pos b0] at h
   subst h
   exact AtV.ret Tryz.func111 tabOk ext111Ok mixed false [] tys111 [true,true,true] (a1 b0 (a1 (rfl:true=true) (a1 (rfl:true=true) trivial))) (by kernel_rfl)
  ·rw [if_neg b0] at h
   replace b0:=bf_ b0
   by_cases b1:(decide ((↑(ByteArray.size x0):Int)>10))=true
   ·rw [if_pos b1] at h
    subst h
    exact AtV.ret Tryz.func111 tabOk ext111Ok mixed false [] tys111 [false,true,true] (a1 b0 (a1 b1 (a1 (rfl:true=true) trivial))) (by kernel_rfl)
   ·rw [if_neg b1] at h
    replace b1:=bf_ b1
    obtain ⟨s0,h⟩:=h
    by_cases b2:(!g139_0 (↑(UInt8.toNat (List.getD (Array.toList (ByteArray.data x0)) 0 0)):Int))=true
    ·rw [if_pos b2] at h
     subst h
     exact AtV.ret Tryz.func111 tabOk ext111Ok mixed false [] tys111 [false,false,true] (a1 b0 (a1 b1 (a1 ((by decide):(0:Int)≤(0:Int)) (a1 s0 (a1 trivial (a1 b2 trivial)))))) (by kernel_rfl)
    ·rw [if_neg b2] at h
     replace b2:=bf_ b2
     exact AtV.go tabOk ext111Ok mixed false [] [] [0,3] [] [false,false,false] (a1 b0 (a1 b1 (a1 ((by decide):(0:Int)≤(0:Int)) (a1 s0 (a1 trivial (a1 b2 trivial)))))) (ih4 _ _ _ h K q) (by kernel_rfl)
 ·intro v3 x0 ds h K q
  rw [R111_4] at h
  by_cases b0:(decide (v3<(↑(ByteArray.size x0):Int)))=true
  ·rw [if_pos b0] at h
   obtain ⟨s0,s1,h⟩:=h
   by_cases b1:(!g139_0 (↑(UInt8.toNat (List.getD (Array.toList (ByteArray.data x0)) (Int.toNat v3) 0)):Int))=true
   ·rw [if_pos b1] at h
    obtain ⟨s2,s3,h⟩:=h
    by_cases b2:(!g140_0 (↑(UInt8.toNat (List.getD (Array.toList (ByteArray.data x0)) (Int.toNat v3) 0)):Int))=true
    ·rw [if_pos b2] at h
     subst h
     exact AtV.ret Tryz.func111 tabOk ext111Ok mixed false [] tys111 [true,true,true] (a1 b0 (a1 s0 (a1 s1 (a1 trivial (a1 b1 (a1 s2 (a1 s3 (a1 trivial (a1 b2 trivial))))))))) (by kernel_rfl)
    ·rw [if_neg b2] at h
     replace b2:=bf_ b2
     obtain ⟨s4,h⟩:=h
     exact AtV.go tabOk ext111Ok mixed false [] [] [0,3] [] [true,true,false] (a1 b0 (a1 s0 (a1 s1 (a1 trivial (a1 b1 (a1 s2 (a1 s3 (a1 trivial (a1 b2 (a1 s4 trivial)))))))))) (ih4 _ _ _ h K q) (by kernel_rfl)
   ·rw [if_neg b1] at h
    replace b1:=bf_ b1
    obtain ⟨s2,h⟩:=h
    exact AtV.go tabOk ext111Ok mixed false [] [] [0,3] [] [true,false,false] (a1 b0 (a1 s0 (a1 s1 (a1 trivial (a1 b1 (a1 (rfl:false=false) (a1 s2 trivial))))))) (ih4 _ _ _ h K q) (by kernel_rfl)
  ·rw [if_neg b0] at h
   replace b0:=bf_ b0
   subst h
   exact AtV.ret Tryz.func111 tabOk ext111Ok mixed false [] tys111 [false] (a1 b0 trivial) (by kernel_rfl)
def g111_0 (x0:ByteArray):Bool:=decide (1≤x0.size)&&decide (x0.size≤10)&&g139_0 ((bytesOf x0).getD 0 0)&&(bytesOf x0).all fun b=>g139_0 b||g140_0 b
def P111 (x0:ByteArray):Prop:=True
theorem top111 (x0:ByteArray) (hw:Wf .str x0):R111 (x0.size+1+1) x0 [⟨.bool,g111_0 x0⟩]:=by
 have hl:=bytesOf_length x0
 rw [R111]
 by_cases h0:x0=ByteArray.mk #[]
 ·rw [if_pos ((bytes_eq _ _).2 h0)]
  subst h0
  rfl
 ·rw [if_neg (fun h=>h0 ((bytes_eq _ _).1 h))]
  have hs:1≤x0.size:=by
   rcases Nat.lt_or_ge 0 x0.size with h | h
   ·exact h
   ·exact absurd (bytesOf_inj (s:=x0) (t:=ByteArray.mk #[]) (List.eq_nil_of_length_eq_zero (by rw [hl];omega))) h0
  by_cases h1:(x0.size:Int)>10
  ·rw [if_pos (by simpa using h1)]
   have:¬ x0.size≤10:=by omega
   simp [g111_0,this]
  ·rw [if_neg (by simpa using h1)]
   refine ⟨by omega,?_⟩
   rw [byte_get]
   cases h2:g139_0 ((bytesOf x0).getD 0 0) with
   | false =>
    rw [if_pos (by simp)]
    simp [g111_0,h2, -List.getD_eq_getElem?_getD]
   | true =>
    rw [if_neg (by simp)]
    have key:=loop_test (bytesOf x0) 0 (fun b=>g139_0 b||g140_0 b) [(⟨.bool,false⟩:Dyn)] [⟨.bool,true⟩] (fun n i ds=>R111_4 n i x0 ds) (fun n => ?_) (fun n i hi hok ds hr => ?_) (fun n i hi hok => ?_)
    ·rw [hl] at key
     have e:g111_0 x0=(bytesOf x0).all fun b=>g139_0 b||g140_0 b:=by
      have:x0.size≤10:=by omega
      unfold g111_0
      simp only [hs,this,decide_true,Bool.true_and,h2]
     rw [e]
     cases h:(bytesOf x0).all fun b=>g139_0 b||g140_0 b with
     | true=>rw [if_pos h] at key;exact key
     | false=>rw [if_neg (by rw [h];simp)] at key;exact key
    ·show R111_4 (n+1) ((bytesOf x0).length:Int) x0 _
     rw [R111_4,hl,if_neg (by simp)]
    ·rw [R111_4,if_pos (by simp;omega)]
     simp only [Int.toNat_natCast,byte_get]
     generalize (bytesOf x0).getD i 0=c at *
     refine ⟨by omega,by omega,?_⟩
     have hu:=inR_up (xs:=bytesOf x0) (by rw [hl];exact hw) hi
     cases h3:g139_0 c with
     | true=>rw [if_neg (by simp)];exact ⟨hu,hr⟩
     | false =>
      rw [if_pos (by simp)]
      rw [h3,Bool.false_or] at hok
      refine ⟨by omega,by omega,?_⟩
      rw [if_neg (by rw [hok];simp)]
      exact ⟨hu,hr⟩
    ·simp only [Bool.or_eq_false_iff] at hok
     rw [R111_4,if_pos (by simp;omega)]
     simp only [Int.toNat_natCast,byte_get]
     refine ⟨by omega,by omega,?_⟩
     rw [if_pos (by rw [hok.1];rfl)]
     refine ⟨by omega,by omega,?_⟩
     rw [if_pos (by rw [hok.2];rfl)] <;> trivial
def S111:Am.Spec:={ sig:=sig111,pre:=fun ⟨x0,_⟩=>P111 x0,res:=fun ⟨x0,_⟩=>[⟨.bool,g111_0 x0⟩] }
theorem con111:Contract Tryz.prog 111 S111:=contract_of Tryz.func111 hb111 (bl_ (by kernel_rfl)) (fun ⟨x0,_⟩ h hwf K q =>
 (snd111 _).1 x0 _ (top111 x0 hwf.1) K q)
end
noncomputable section
def ext74:Ext:=[(111,S111),(30,S30)]
theorem ext74Ok:ExtOk Tryz.prog ext74:=⟨⟨ca111,con111⟩,⟨ca30,con30⟩,trivial⟩
noncomputable def b74:Code:=bodyOf Tryz.f74
theorem hb74:Tryz.f74.body=some b74:=by kernel_rfl
def sig74:List AT:=[AT.p YA5]
def tys74:List Ty:=[.bool]
def kds74:List RK:=[]
def oks74:List AT:=owns sig74
def P74 (x0:ByteArray×Int×Int×Int×Unit):Prop:=True
def g74_0 (x0:ByteArray×Int×Int×Int×Unit):Bool:=(if (g111_0 x0.1)=true then (if (g30_0 x0.2.1 1 200)=true then (if (g30_0 x0.2.2.1 0 40)=true then g30_0 x0.2.2.2.1 0 100000 else false) else false) else false)
theorem at74 (x0:ByteArray×Int×Int×Int×Unit) (h:P74 x0) (K:Ctx) (q:Nat→Value):AtV Tryz.prog 74 (PostR kds74 oks74 [⟨.bool,g74_0 x0⟩] [] [] q K) 29 K q [] [.code b74] (entE 0 0 sig74 (x0,())) (entL sig74 (x0,())):=by
 unfold P74 at h
 unfold g74_0
 by_cases b0:(g111_0 x0.1)=true
 ·try simp only [if_pos b0] at h ⊢
  by_cases b1:(g30_0 x0.2.1 1 200)=true
  ·try simp only [if_pos b1] at h ⊢
   by_cases b2:(g30_0 x0.2.2.1 0 40)=true
   ·try simp only [if_pos b2] at h ⊢
    exact AtV.ret Tryz.func74 tabOk ext74Ok mixed false [] tys74 [true,true,true] (a1 trivial (a1 b0 (a1 trivial (a1 b1 (a1 trivial (a1 b2 (a1 trivial trivial))))))) (by kernel_rfl)
   ·try simp only [if_neg b2] at h ⊢
    replace b2:=bf_ b2
    exact AtV.ret Tryz.func74 tabOk ext74Ok mixed false [] tys74 [true,true,false] (a1 trivial (a1 b0 (a1 trivial (a1 b1 (a1 trivial (a1 b2 trivial)))))) (by kernel_rfl)
  ·try simp only [if_neg b1] at h ⊢
   replace b1:=bf_ b1
   exact AtV.ret Tryz.func74 tabOk ext74Ok mixed false [] tys74 [true,false,false] (a1 trivial (a1 b0 (a1 trivial (a1 b1 (a1 (rfl:false=false) trivial))))) (by kernel_rfl)
 ·try simp only [if_neg b0] at h ⊢
  replace b0:=bf_ b0
  exact AtV.ret Tryz.func74 tabOk ext74Ok mixed false [] tys74 [false,false,false] (a1 trivial (a1 b0 (a1 (rfl:false=false) (a1 (rfl:false=false) trivial)))) (by kernel_rfl)
def S74:Am.Spec:={ sig:=sig74,pre:=fun ⟨x0,_⟩=>P74 x0,res:=fun ⟨x0,_⟩=>[⟨.bool,g74_0 x0⟩],kds:=kds74 }
theorem con74:Contract Tryz.prog 74 S74:=contract_of Tryz.func74 hb74 (bl_ (by kernel_rfl)) (fun ⟨x0,_⟩ h _ K q=>at74 x0 h K q)
end
noncomputable section
def ext38:Ext:=[(74,S74)]
theorem ext38Ok:ExtOk Tryz.prog ext38:=⟨⟨ca74,con74⟩,trivial⟩
noncomputable def b38:Code:=bodyOf Tryz.f38
theorem hb38:Tryz.f38.body=some b38:=by kernel_rfl
def sig38:List AT:=[AT.v (.sl YA5)]
def tys38:List Ty:=[.bool]
def kds38:List RK:=[]
def oks38:List AT:=owns sig38
def E38_2 (v3:Int) (x0:List TyB1):Env:=[(0,.a (.sl YA5 x0)),(3,.a (.val (.int .i64 v3)))]
def L38_2 (v3:Int) (x0:List TyB1):Heap:=[]
mutual
def R38:Nat→List TyB1→List Dyn→Prop
 | 0,_,_=>False
 | n+1,x0,ds=>(R38_2 n (0) (x0) ds)
def R38_2:Nat→Int→List TyB1→List Dyn→Prop
 | 0,_,_,_=>False
 | n+1,v3,x0,ds=>(if (decide (v3<(x0.length:Int)))=true then ((0≤v3)∧(v3<(x0.length:Int))∧(if (!g74_0 (List.getD x0 (Int.toNat v3) (ByteArray.empty,0,0,0,())))=true then (ds=[Dyn.mk .bool false]) else (if (decide (v3>0))=true then ((InR .i64 (v3 - 1))∧((0≤v3 - 1)∧(v3 - 1<(x0.length:Int))∧((0≤v3)∧(v3<(x0.length:Int))∧(if (!Op.bytesLess (ByteArray.toList (List.getD x0 (Int.toNat (v3 - 1)) (ByteArray.empty,0,0,0,())).1) (ByteArray.toList (List.getD x0 (Int.toNat v3) (ByteArray.empty,0,0,0,())).1))=true then (ds=[Dyn.mk .bool false]) else ((InR .i64 (v3+1))∧(R38_2 n (v3+1) (x0) ds)))))) else ((InR .i64 (v3+1))∧(R38_2 n (v3+1) (x0) ds))))) else (ds=[Dyn.mk .bool (decide ((x0.length:Int)≤12))]))
end
theorem snd38:∀ n,(∀ (x0:List TyB1) ds,R38 n x0 ds→∀ K q,AtV Tryz.prog 38 (PostR kds38 oks38 ds [] [] q K) 36 K q [] [.code b38] (entE 0 0 sig38 (x0,())) (entL sig38 (x0,())))∧(∀ (v3:Int) (x0:List TyB1) ds,R38_2 n v3 x0 ds→∀ K q,AtV Tryz.prog 38 (PostR kds38 oks38 ds [] [] q K) 36 K q [] (cutAt b38 2) (E38_2 v3 x0) (L38_2 v3 x0)):=by
 intro n
 induction n with
 | zero=>exact ⟨fun _ _ h=>by simp only [R38] at h,fun _ _ _ h=>by simp only [R38_2] at h⟩
 | succ n ih =>
 obtain ⟨ih,ih2⟩:=ih
 refine ⟨?_,?_⟩
 ·intro x0 ds h K q
  rw [R38] at h
  exact AtV.go tabOk ext38Ok mixed false [] [] [0,3] [] [] trivial (ih2 _ _ _ h K q) (by kernel_rfl)
 ·intro v3 x0 ds h K q
  rw [R38_2] at h
  by_cases b0:(decide (v3<(x0.length:Int)))=true
  ·rw [if_pos b0] at h
   obtain ⟨s0,s1,h⟩:=h
   by_cases b1:(!g74_0 (List.getD x0 (Int.toNat v3) (ByteArray.empty,0,0,0,())))=true
   ·rw [if_pos b1] at h
    subst h
    exact AtV.ret Tryz.func38 tabOk ext38Ok mixed false [] tys38 [true,true,true] (a1 b0 (a1 s0 (a1 s1 (a1 trivial (a1 b1 (a1 (rfl:true=true) trivial)))))) (by kernel_rfl)
   ·rw [if_neg b1] at h
    replace b1:=bf_ b1
    by_cases b2:(decide (v3>0))=true
    ·rw [if_pos b2] at h
     obtain ⟨s2,h⟩:=h
     obtain ⟨s3,s4,h⟩:=h
     obtain ⟨s5,s6,h⟩:=h
     by_cases b3:(!Op.bytesLess (ByteArray.toList (List.getD x0 (Int.toNat (v3 - 1)) (ByteArray.empty,0,0,0,())).1) (ByteArray.toList (List.getD x0 (Int.toNat v3) (ByteArray.empty,0,0,0,())).1))=true
     ·rw [if_pos b3] at h
      subst h
      exact AtV.ret Tryz.func38 tabOk ext38Ok mixed false [] tys38 [true,false,true,true] (a1 b0 (a1 s0 (a1 s1 (a1 trivial (a1 b1 (a1 b2 (a1 s2 (a1 s3 (a1 s4 (a1 s5 (a1 s6 (a1 b3 trivial)))))))))))) (by kernel_rfl)
     ·rw [if_neg b3] at h
      replace b3:=bf_ b3
      obtain ⟨s7,h⟩:=h
      exact AtV.go tabOk ext38Ok mixed false [] [] [0,3] [] [true,false,true,false] (a1 b0 (a1 s0 (a1 s1 (a1 trivial (a1 b1 (a1 b2 (a1 s2 (a1 s3 (a1 s4 (a1 s5 (a1 s6 (a1 b3 (a1 s7 trivial))))))))))))) (ih2 _ _ _ h K q) (by kernel_rfl)
    ·rw [if_neg b2] at h
     replace b2:=bf_ b2
     obtain ⟨s2,h⟩:=h
     exact AtV.go tabOk ext38Ok mixed false [] [] [0,3] [] [true,false,false,false] (a1 b0 (a1 s0 (a1 s1 (a1 trivial (a1 b1 (a1 b2 (a1 (rfl:false=false) (a1 s2 trivial)))))))) (ih2 _ _ _ h K q) (by kernel_rfl)
  ·rw [if_neg b0] at h
   replace b0:=bf_ b0
   subst h
   exact AtV.ret Tryz.func38 tabOk ext38Ok mixed false [] tys38 [false] (a1 b0 trivial) (by kernel_rfl)
def ok38 (x0:List TyB1) (i:Nat) (x:TyB1):Bool :=
 g74_0 x&&(i==0||Op.bytesLess (ByteArray.toList (x0.getD (i - 1) (ByteArray.empty,(0:Int),(0:Int),(0:Int),())).1) (ByteArray.toList x.1))
def g38_0 (x0:List TyB1):Bool:=allI (ok38 x0) 0 x0&&decide (x0.length≤12)
def P38 (x0:List TyB1):Prop:=True
theorem step38 (n i : Nat) (x0 : List TyB1) (hm : x0.length ≤ maxLen) (hi : i < x0.length) (ds : List Dyn) :
    (if ok38 x0 i (x0.getD i (ByteArray.empty, (0 : Int), (0 : Int), (0 : Int), ())) = true then R38_2 n ((i : Int) + 1) x0 ds else ds = [⟨.bool, false⟩]) → R38_2 (n + 1) (i : Int) x0 ds := by
  intro h
  have hu := inR_up hm hi
  rw [R38_2, if_pos (by simp; omega)]
  refine ⟨by omega, by omega, ?_⟩
  simp only [Int.toNat_natCast]
  unfold ok38 at h
  cases h1 : g74_0 (x0.getD i (ByteArray.empty, (0 : Int), (0 : Int), (0 : Int), ())) with
  | false =>
    rw [h1] at h
    rw [if_pos (by rfl)]
    simpa using h
  | true =>
    rw [h1] at h
    rw [if_neg (by simp)]
    by_cases h0 : (i : Int) > 0
    · rw [if_pos (by simpa using h0)]
      have hi0 : (i == 0) = false := by simp; omega
      have e : ((i : Int) - 1).toNat = i - 1 := by omega
      refine ⟨by rw [i64_iff]; have : maxLen ≤ 9223372036854775807 := by decide
                 omega, by omega, by omega, by omega, by omega, ?_⟩
      rw [e]
      by_cases h2 : Op.bytesLess (ByteArray.toList (x0.getD (i - 1) (ByteArray.empty, (0 : Int), (0 : Int), (0 : Int), ())).1) (ByteArray.toList (x0.getD i (ByteArray.empty, (0 : Int), (0 : Int), (0 : Int), ())).1) = true
      · rw [h2, hi0] at h
        rw [if_neg (by rw [h2]; simp)]
        exact ⟨hu, by simpa using h⟩
      · have h2 := bf_ h2
        rw [h2, hi0] at h
        rw [if_pos (by rw [h2]; rfl)]
        simpa using h
    · rw [if_neg (by simpa using h0)]
      have hi0 : (i == 0) = true := by simp; omega
      rw [hi0] at h
      exact ⟨hu, by simpa using h⟩
theorem top38 (x0:List TyB1) (hw:x0.length≤maxLen):R38 (x0.length+1+1) x0 [⟨.bool,g38_0 x0⟩]:=by
 rw [R38]
 have key:=loop_testI x0 (ByteArray.empty,(0:Int),(0:Int),(0:Int),()) (ok38 x0) [(⟨.bool,false⟩:Dyn)] [⟨.bool,decide (x0.length≤12)⟩] (fun n i ds=>R38_2 n i x0 ds) (fun n => ?_) (fun n i hi hok ds hr => ?_) (fun n i hi hok => ?_)
 ·unfold g38_0
  cases h:allI (ok38 x0) 0 x0 with
  | true=>rw [if_pos h] at key;simpa using key
  | false=>rw [if_neg (by rw [h];simp)] at key;simpa using key
 ·rw [R38_2,if_neg (by simp)]
  have hc:decide ((x0.length:Int)≤12)=decide (x0.length≤12):=by
   congr 1;exact propext ⟨fun h=>by omega,fun h=>by omega⟩
  rw [hc]
 ·exact step38 n i x0 hw hi ds (by rw [if_pos hok];exact hr)
 ·exact step38 n i x0 hw hi _ (by rw [if_neg (by rw [hok];simp)])
def S38:Am.Spec:={ sig:=sig38,pre:=fun ⟨x0,_⟩=>P38 x0,res:=fun ⟨x0,_⟩=>[⟨.bool,g38_0 x0⟩] }
theorem con38:Contract Tryz.prog 38 S38:=contract_of Tryz.func38 hb38 (bl_ (by kernel_rfl)) (fun ⟨x0,_⟩ h hwf K q =>
 (snd38 _).1 x0 _ (top38 x0 hwf.1.1) K q)
end
noncomputable section
def ext39:Ext:=[(30,S30)]
theorem ext39Ok:ExtOk Tryz.prog ext39:=⟨⟨ca30,con30⟩,trivial⟩
noncomputable def b39:Code:=bodyOf Tryz.f39
theorem hb39:Tryz.f39.body=some b39:=by kernel_rfl
def sig39:List AT:=[AT.p YA8]
def tys39:List Ty:=[.bool]
def kds39:List RK:=[]
def oks39:List AT:=owns sig39
def P39 (x0:Int×Int×Int×Unit):Prop:=True
def g39_0 (x0:Int×Int×Int×Unit):Bool:=(if (g30_0 x0.1 0 200)=true then (if (g30_0 x0.2.1 0 40)=true then g30_0 x0.2.2.1 0 100000 else false) else false)
theorem at39 (x0:Int×Int×Int×Unit) (h:P39 x0) (K:Ctx) (q:Nat→Value):AtV Tryz.prog 39 (PostR kds39 oks39 [⟨.bool,g39_0 x0⟩] [] [] q K) 22 K q [] [.code b39] (entE 0 0 sig39 (x0,())) (entL sig39 (x0,())):=by
 unfold P39 at h
 unfold g39_0
 by_cases b0:(g30_0 x0.1 0 200)=true
 ·try simp only [if_pos b0] at h ⊢
  by_cases b1:(g30_0 x0.2.1 0 40)=true
  ·try simp only [if_pos b1] at h ⊢
   exact AtV.ret Tryz.func39 tabOk ext39Ok mixed false [] tys39 [true,true] (a1 trivial (a1 b0 (a1 trivial (a1 b1 (a1 trivial trivial))))) (by kernel_rfl)
  ·try simp only [if_neg b1] at h ⊢
   replace b1:=bf_ b1
   exact AtV.ret Tryz.func39 tabOk ext39Ok mixed false [] tys39 [true,false] (a1 trivial (a1 b0 (a1 trivial (a1 b1 trivial)))) (by kernel_rfl)
 ·try simp only [if_neg b0] at h ⊢
  replace b0:=bf_ b0
  exact AtV.ret Tryz.func39 tabOk ext39Ok mixed false [] tys39 [false,false] (a1 trivial (a1 b0 (a1 (rfl:false=false) trivial))) (by kernel_rfl)
def S39:Am.Spec:={ sig:=sig39,pre:=fun ⟨x0,_⟩=>P39 x0,res:=fun ⟨x0,_⟩=>[⟨.bool,g39_0 x0⟩],kds:=kds39 }
theorem con39:Contract Tryz.prog 39 S39:=contract_of Tryz.func39 hb39 (bl_ (by kernel_rfl)) (fun ⟨x0,_⟩ h _ K q=>at39 x0 h K q)
end
noncomputable section
def ext63:Ext:=[(30,S30)]
theorem ext63Ok:ExtOk Tryz.prog ext63:=⟨⟨ca30,con30⟩,trivial⟩
noncomputable def b63:Code:=bodyOf Tryz.f63
theorem hb63:Tryz.f63.body=some b63:=by kernel_rfl
def sig63:List AT:=[AT.v (.int .i64)]
def tys63:List Ty:=[.bool]
def kds63:List RK:=[]
def oks63:List AT:=owns sig63
def P63 (x0:Int):Prop:=True
def g63_0 (x0:Int):Bool:=g30_0 x0 0 100000
theorem at63 (x0:Int) (h:P63 x0) (K:Ctx) (q:Nat→Value):AtV Tryz.prog 63 (PostR kds63 oks63 [⟨.bool,g63_0 x0⟩] [] [] q K) 5 K q [] [.code b63] (entE 0 0 sig63 (x0,())) (entL sig63 (x0,())):=by
 unfold P63 at h
 unfold g63_0
 exact AtV.ret Tryz.func63 tabOk ext63Ok mixed false [] tys63 [] (a1 trivial trivial) (by kernel_rfl)
def S63:Am.Spec:={ sig:=sig63,pre:=fun ⟨x0,_⟩=>P63 x0,res:=fun ⟨x0,_⟩=>[⟨.bool,g63_0 x0⟩],kds:=kds63 }
theorem con63:Contract Tryz.prog 63 S63:=contract_of Tryz.func63 hb63 (bl_ (by kernel_rfl)) (fun ⟨x0,_⟩ h _ K q=>at63 x0 h K q)
end
noncomputable section
def ext64:Ext:=[(30,S30)]
theorem ext64Ok:ExtOk Tryz.prog ext64:=⟨⟨ca30,con30⟩,trivial⟩
noncomputable def b64:Code:=bodyOf Tryz.f64
theorem hb64:Tryz.f64.body=some b64:=by kernel_rfl
def sig64:List AT:=[AT.v (.int .i64)]
def tys64:List Ty:=[.bool]
def kds64:List RK:=[]
def oks64:List AT:=owns sig64
def P64 (x0:Int):Prop:=True
def g64_0 (x0:Int):Bool:=g30_0 x0 0 1000000
theorem at64 (x0:Int) (h:P64 x0) (K:Ctx) (q:Nat→Value):AtV Tryz.prog 64 (PostR kds64 oks64 [⟨.bool,g64_0 x0⟩] [] [] q K) 5 K q [] [.code b64] (entE 0 0 sig64 (x0,())) (entL sig64 (x0,())):=by
 unfold P64 at h
 unfold g64_0
 exact AtV.ret Tryz.func64 tabOk ext64Ok mixed false [] tys64 [] (a1 trivial trivial) (by kernel_rfl)
def S64:Am.Spec:={ sig:=sig64,pre:=fun ⟨x0,_⟩=>P64 x0,res:=fun ⟨x0,_⟩=>[⟨.bool,g64_0 x0⟩],kds:=kds64 }
theorem con64:Contract Tryz.prog 64 S64:=contract_of Tryz.func64 hb64 (bl_ (by kernel_rfl)) (fun ⟨x0,_⟩ h _ K q=>at64 x0 h K q)
end
noncomputable section
def ext106:Ext:=[(111,S111),(30,S30),(63,S63),(64,S64)]
theorem ext106Ok:ExtOk Tryz.prog ext106:=⟨⟨ca111,con111⟩,⟨ca30,con30⟩,⟨ca63,con63⟩,⟨ca64,con64⟩,trivial⟩
noncomputable def b106:Code:=bodyOf Tryz.f106
theorem hb106:Tryz.f106.body=some b106:=by kernel_rfl
def sig106:List AT:=[AT.p YA3]
def tys106:List Ty:=[.bool]
def kds106:List RK:=[]
def oks106:List AT:=owns sig106
def P106 (x0:ByteArray×Int×Int×Int×Int×Unit):Prop:=True
def g106_0 (x0:ByteArray×Int×Int×Int×Int×Unit):Bool:=(if (g111_0 x0.1)=true then (if (g30_0 x0.2.1 1 100000)=true then (if (g30_0 x0.2.2.1 1 1000000)=true then (if (g63_0 x0.2.2.2.1)=true then g64_0 x0.2.2.2.2.1 else false) else false) else false) else false)
theorem at106 (x0:ByteArray×Int×Int×Int×Int×Unit) (h:P106 x0) (K:Ctx) (q:Nat→Value):AtV Tryz.prog 106 (PostR kds106 oks106 [⟨.bool,g106_0 x0⟩] [] [] q K) 36 K q [] [.code b106] (entE 0 0 sig106 (x0,())) (entL sig106 (x0,())):=by
 unfold P106 at h
 unfold g106_0
 by_cases b0:(g111_0 x0.1)=true
 ·try simp only [if_pos b0] at h ⊢
  by_cases b1:(g30_0 x0.2.1 1 100000)=true
  ·try simp only [if_pos b1] at h ⊢
   by_cases b2:(g30_0 x0.2.2.1 1 1000000)=true
   ·try simp only [if_pos b2] at h ⊢
    by_cases b3:(g63_0 x0.2.2.2.1)=true
    ·try simp only [if_pos b3] at h ⊢
     exact AtV.ret Tryz.func106 tabOk ext106Ok mixed false [] tys106 [true,true,true,true] (a1 trivial (a1 b0 (a1 trivial (a1 b1 (a1 trivial (a1 b2 (a1 trivial (a1 b3 (a1 trivial trivial))))))))) (by kernel_rfl)
    ·try simp only [if_neg b3] at h ⊢
     replace b3:=bf_ b3
     exact AtV.ret Tryz.func106 tabOk ext106Ok mixed false [] tys106 [true,true,true,false] (a1 trivial (a1 b0 (a1 trivial (a1 b1 (a1 trivial (a1 b2 (a1 trivial (a1 b3 trivial)))))))) (by kernel_rfl)
   ·try simp only [if_neg b2] at h ⊢
    replace b2:=bf_ b2
    exact AtV.ret Tryz.func106 tabOk ext106Ok mixed false [] tys106 [true,true,false,false] (a1 trivial (a1 b0 (a1 trivial (a1 b1 (a1 trivial (a1 b2 (a1 (rfl:false=false) trivial))))))) (by kernel_rfl)
  ·try simp only [if_neg b1] at h ⊢
   replace b1:=bf_ b1
   exact AtV.ret Tryz.func106 tabOk ext106Ok mixed false [] tys106 [true,false,false,false] (a1 trivial (a1 b0 (a1 trivial (a1 b1 (a1 (rfl:false=false) (a1 (rfl:false=false) trivial)))))) (by kernel_rfl)
 ·try simp only [if_neg b0] at h ⊢
  replace b0:=bf_ b0
  exact AtV.ret Tryz.func106 tabOk ext106Ok mixed false [] tys106 [false,false,false,false] (a1 trivial (a1 b0 (a1 (rfl:false=false) (a1 (rfl:false=false) (a1 (rfl:false=false) trivial))))) (by kernel_rfl)
def S106:Am.Spec:={ sig:=sig106,pre:=fun ⟨x0,_⟩=>P106 x0,res:=fun ⟨x0,_⟩=>[⟨.bool,g106_0 x0⟩],kds:=kds106 }
theorem con106:Contract Tryz.prog 106 S106:=contract_of Tryz.func106 hb106 (bl_ (by kernel_rfl)) (fun ⟨x0,_⟩ h _ K q=>at106 x0 h K q)
end
noncomputable section
def ext62:Ext:=[(106,S106)]
theorem ext62Ok:ExtOk Tryz.prog ext62:=⟨⟨ca106,con106⟩,trivial⟩
noncomputable def b62:Code:=bodyOf Tryz.f62
theorem hb62:Tryz.f62.body=some b62:=by kernel_rfl
def sig62:List AT:=[AT.v (.sl YA3)]
def tys62:List Ty:=[.bool]
def kds62:List RK:=[]
def oks62:List AT:=owns sig62
def E62_2 (v3:Int) (x0:List TyB0):Env:=[(0,.a (.sl YA3 x0)),(3,.a (.val (.int .i64 v3)))]
def L62_2 (v3:Int) (x0:List TyB0):Heap:=[]
mutual
def R62:Nat→List TyB0→List Dyn→Prop
 | 0,_,_=>False
 | n+1,x0,ds=>(R62_2 n (0) (x0) ds)
def R62_2:Nat→Int→List TyB0→List Dyn→Prop
 | 0,_,_,_=>False
 | n+1,v3,x0,ds=>(if (decide (v3<(x0.length:Int)))=true then ((0≤v3)∧(v3<(x0.length:Int))∧(if (!g106_0 (List.getD x0 (Int.toNat v3) (ByteArray.empty,0,0,0,0,())))=true then (ds=[Dyn.mk .bool false]) else (if (decide (v3>0))=true then ((InR .i64 (v3 - 1))∧((0≤v3 - 1)∧(v3 - 1<(x0.length:Int))∧((0≤v3)∧(v3<(x0.length:Int))∧(if (!Op.bytesLess (ByteArray.toList (List.getD x0 (Int.toNat (v3 - 1)) (ByteArray.empty,0,0,0,0,())).1) (ByteArray.toList (List.getD x0 (Int.toNat v3) (ByteArray.empty,0,0,0,0,())).1))=true then (ds=[Dyn.mk .bool false]) else ((InR .i64 (v3+1))∧(R62_2 n (v3+1) (x0) ds)))))) else ((InR .i64 (v3+1))∧(R62_2 n (v3+1) (x0) ds))))) else (ds=[Dyn.mk .bool (decide ((x0.length:Int)≤16))]))
end
theorem snd62:∀ n,(∀ (x0:List TyB0) ds,R62 n x0 ds→∀ K q,AtV Tryz.prog 62 (PostR kds62 oks62 ds [] [] q K) 36 K q [] [.code b62] (entE 0 0 sig62 (x0,())) (entL sig62 (x0,())))∧(∀ (v3:Int) (x0:List TyB0) ds,R62_2 n v3 x0 ds→∀ K q,AtV Tryz.prog 62 (PostR kds62 oks62 ds [] [] q K) 36 K q [] (cutAt b62 2) (E62_2 v3 x0) (L62_2 v3 x0)):=by
 intro n
 induction n with
 | zero=>exact ⟨fun _ _ h=>by simp only [R62] at h,fun _ _ _ h=>by simp only [R62_2] at h⟩
 | succ n ih =>
 obtain ⟨ih,ih2⟩:=ih
 refine ⟨?_,?_⟩
 ·intro x0 ds h K q
  rw [R62] at h
  exact AtV.go tabOk ext62Ok mixed false [] [] [0,3] [] [] trivial (ih2 _ _ _ h K q) (by kernel_rfl)
 ·intro v3 x0 ds h K q
  rw [R62_2] at h
  by_cases b0:(decide (v3<(x0.length:Int)))=true
  ·rw [if_pos b0] at h
   obtain ⟨s0,s1,h⟩:=h
   by_cases b1:(!g106_0 (List.getD x0 (Int.toNat v3) (ByteArray.empty,0,0,0,0,())))=true
   ·rw [if_pos b1] at h
    subst h
    exact AtV.ret Tryz.func62 tabOk ext62Ok mixed false [] tys62 [true,true,true] (a1 b0 (a1 s0 (a1 s1 (a1 trivial (a1 b1 (a1 (rfl:true=true) trivial)))))) (by kernel_rfl)
   ·rw [if_neg b1] at h
    replace b1:=bf_ b1
    by_cases b2:(decide (v3>0))=true
    ·rw [if_pos b2] at h
     obtain ⟨s2,h⟩:=h
     obtain ⟨s3,s4,h⟩:=h
     obtain ⟨s5,s6,h⟩:=h
     by_cases b3:(!Op.bytesLess (ByteArray.toList (List.getD x0 (Int.toNat (v3 - 1)) (ByteArray.empty,0,0,0,0,())).1) (ByteArray.toList (List.getD x0 (Int.toNat v3) (ByteArray.empty,0,0,0,0,())).1))=true
     ·rw [if_pos b3] at h
      subst h
      exact AtV.ret Tryz.func62 tabOk ext62Ok mixed false [] tys62 [true,false,true,true] (a1 b0 (a1 s0 (a1 s1 (a1 trivial (a1 b1 (a1 b2 (a1 s2 (a1 s3 (a1 s4 (a1 s5 (a1 s6 (a1 b3 trivial)))))))))))) (by kernel_rfl)
     ·rw [if_neg b3] at h
      replace b3:=bf_ b3
      obtain ⟨s7,h⟩:=h
      exact AtV.go tabOk ext62Ok mixed false [] [] [0,3] [] [true,false,true,false] (a1 b0 (a1 s0 (a1 s1 (a1 trivial (a1 b1 (a1 b2 (a1 s2 (a1 s3 (a1 s4 (a1 s5 (a1 s6 (a1 b3 (a1 s7 trivial))))))))))))) (ih2 _ _ _ h K q) (by kernel_rfl)
    ·rw [if_neg b2] at h
     replace b2:=bf_ b2
     obtain ⟨s2,h⟩:=h
     exact AtV.go tabOk ext62Ok mixed false [] [] [0,3] [] [true,false,false,false] (a1 b0 (a1 s0 (a1 s1 (a1 trivial (a1 b1 (a1 b2 (a1 (rfl:false=false) (a1 s2 trivial)))))))) (ih2 _ _ _ h K q) (by kernel_rfl)
  ·rw [if_neg b0] at h
   replace b0:=bf_ b0
   subst h
   exact AtV.ret Tryz.func62 tabOk ext62Ok mixed false [] tys62 [false] (a1 b0 trivial) (by kernel_rfl)
def ok62 (x0:List TyB0) (i:Nat) (x:TyB0):Bool :=
 g106_0 x&&(i==0||Op.bytesLess (ByteArray.toList (x0.getD (i - 1) (ByteArray.empty,(0:Int),(0:Int),(0:Int),(0:Int),())).1) (ByteArray.toList x.1))
def g62_0 (x0:List TyB0):Bool:=allI (ok62 x0) 0 x0&&decide (x0.length≤16)
def P62 (x0:List TyB0):Prop:=True
theorem step62 (n i : Nat) (x0 : List TyB0) (hm : x0.length ≤ maxLen) (hi : i < x0.length) (ds : List Dyn) :
    (if ok62 x0 i (x0.getD i (ByteArray.empty, (0 : Int), (0 : Int), (0 : Int), (0 : Int), ())) = true then R62_2 n ((i : Int) + 1) x0 ds else ds = [⟨.bool, false⟩]) → R62_2 (n + 1) (i : Int) x0 ds := by
  intro h
  have hu := inR_up hm hi
  rw [R62_2, if_pos (by simp; omega)]
  refine ⟨by omega, by omega, ?_⟩
  simp only [Int.toNat_natCast]
  unfold ok62 at h
  cases h1 : g106_0 (x0.getD i (ByteArray.empty, (0 : Int), (0 : Int), (0 : Int), (0 : Int), ())) with
  | false =>
    rw [h1] at h
    rw [if_pos (by rfl)]
    simpa using h
  | true =>
    rw [h1] at h
    rw [if_neg (by simp)]
    by_cases h0 : (i : Int) > 0
    · rw [if_pos (by simpa using h0)]
      have hi0 : (i == 0) = false := by simp; omega
      have e : ((i : Int) - 1).toNat = i - 1 := by omega
      refine ⟨by rw [i64_iff]; have : maxLen ≤ 9223372036854775807 := by decide
                 omega, by omega, by omega, by omega, by omega, ?_⟩
      rw [e]
      by_cases h2 : Op.bytesLess (ByteArray.toList (x0.getD (i - 1) (ByteArray.empty, (0 : Int), (0 : Int), (0 : Int), (0 : Int), ())).1) (ByteArray.toList (x0.getD i (ByteArray.empty, (0 : Int), (0 : Int), (0 : Int), (0 : Int), ())).1) = true
      · rw [h2, hi0] at h
        rw [if_neg (by rw [h2]; simp)]
        exact ⟨hu, by simpa using h⟩
      · have h2 := bf_ h2
        rw [h2, hi0] at h
        rw [if_pos (by rw [h2]; rfl)]
        simpa using h
    · rw [if_neg (by simpa using h0)]
      have hi0 : (i == 0) = true := by simp; omega
      rw [hi0] at h
      exact ⟨hu, by simpa using h⟩
theorem top62 (x0:List TyB0) (hw:x0.length≤maxLen):R62 (x0.length+1+1) x0 [⟨.bool,g62_0 x0⟩]:=by
 rw [R62]
 have key:=loop_testI x0 (ByteArray.empty,(0:Int),(0:Int),(0:Int),(0:Int),()) (ok62 x0) [(⟨.bool,false⟩:Dyn)] [⟨.bool,decide (x0.length≤16)⟩] (fun n i ds=>R62_2 n i x0 ds) (fun n => ?_) (fun n i hi hok ds hr => ?_) (fun n i hi hok => ?_)
 ·unfold g62_0
  cases h:allI (ok62 x0) 0 x0 with
  | true=>rw [if_pos h] at key;simpa using key
  | false=>rw [if_neg (by rw [h];simp)] at key;simpa using key
 ·rw [R62_2,if_neg (by simp)]
  have hc:decide ((x0.length:Int)≤16)=decide (x0.length≤16):=by
   congr 1;exact propext ⟨fun h=>by omega,fun h=>by omega⟩
  rw [hc]
 ·exact step62 n i x0 hw hi ds (by rw [if_pos hok];exact hr)
 ·exact step62 n i x0 hw hi _ (by rw [if_neg (by rw [hok];simp)])
def S62:Am.Spec:={ sig:=sig62,pre:=fun ⟨x0,_⟩=>P62 x0,res:=fun ⟨x0,_⟩=>[⟨.bool,g62_0 x0⟩] }
theorem con62:Contract Tryz.prog 62 S62:=contract_of Tryz.func62 hb62 (bl_ (by kernel_rfl)) (fun ⟨x0,_⟩ h hwf K q =>
 (snd62 _).1 x0 _ (top62 x0 hwf.1.1) K q)
end
noncomputable section
def ext65:Ext:=[]
theorem ext65Ok:ExtOk Tryz.prog ext65:=trivial
noncomputable def b65:Code:=bodyOf Tryz.f65
theorem hb65:Tryz.f65.body=some b65:=by kernel_rfl
def sig65:List AT:=[AT.p YA3,AT.v (.int .i64),AT.v (.int .i64)]
def tys65:List Ty:=[.bool]
def kds65:List RK:=[]
def oks65:List AT:=owns sig65
def P65 (x0:ByteArray×Int×Int×Int×Int×Unit) (x1:Int) (x2:Int):Prop:=True
def g65_0 (x0:ByteArray×Int×Int×Int×Int×Unit) (x1:Int) (x2:Int):Bool:=(if (decide (x0.2.2.2.1≤x1))=true then decide (x0.2.2.2.2.1≤x2) else false)
theorem at65 (x0:ByteArray×Int×Int×Int×Int×Unit) (x1:Int) (x2:Int) (h:P65 x0 x1 x2) (K:Ctx) (q:Nat→Value):AtV Tryz.prog 65 (PostR kds65 oks65 [⟨.bool,g65_0 x0 x1 x2⟩] [] [] q K) 21 K q [] [.code b65] (entE 0 0 sig65 (x0,x1,x2,())) (entL sig65 (x0,x1,x2,())):=by
 unfold P65 at h
 unfold g65_0
 by_cases b0:(decide (x0.2.2.2.1≤x1))=true
 ·try simp only [if_pos b0] at h ⊢
  exact AtV.ret Tryz.func65 tabOk ext65Ok mixed false [] tys65 [true] (a1 b0 trivial) (by kernel_rfl)
 ·try simp only [if_neg b0] at h ⊢
  replace b0:=bf_ b0
  exact AtV.ret Tryz.func65 tabOk ext65Ok mixed false [] tys65 [false] (a1 b0 trivial) (by kernel_rfl)
def S65:Am.Spec:={ sig:=sig65,pre:=fun ⟨x0,x1,x2,_⟩=>P65 x0 x1 x2,res:=fun ⟨x0,x1,x2,_⟩=>[⟨.bool,g65_0 x0 x1 x2⟩],kds:=kds65 }
theorem con65:Contract Tryz.prog 65 S65:=contract_of Tryz.func65 hb65 (bl_ (by kernel_rfl)) (fun ⟨x0,x1,x2,_⟩ h _ K q=>at65 x0 x1 x2 h K q)
end
noncomputable section
def ext26:Ext:=[(62,S62),(63,S63),(64,S64),(65,S65)]
theorem ext26Ok:ExtOk Tryz.prog ext26:=⟨⟨ca62,con62⟩,⟨ca63,con63⟩,⟨ca64,con64⟩,⟨ca65,con65⟩,trivial⟩
noncomputable def b26:Code:=bodyOf Tryz.f26
theorem hb26:Tryz.f26.body=some b26:=by kernel_rfl
def sig26:List AT:=[AT.v (.sl YA3),AT.v (.int .i64),AT.v (.int .i64)]
def tys26:List Ty:=[.int .i64]
def kds26:List RK:=[]
def oks26:List AT:=owns sig26
def E26_6 (v7:Int) (x0:List TyB0) (x1:Int) (x2:Int):Env:=[(0,.a (.sl YA3 x0)),(1,.a (.val (.int .i64 x1))),(2,.a (.val (.int .i64 x2))),(7,.a (.val (.int .i64 v7)))]
def L26_6 (v7:Int) (x0:List TyB0) (x1:Int) (x2:Int):Heap:=[]
mutual
def R26:Nat→List TyB0→Int→Int→List Dyn→Prop
 | 0,_,_,_,_=>False
 | n+1,x0,x1,x2,ds=>(if (!g62_0 x0)=true then (ds=[Dyn.mk (.int .i64) 1]) else (if (!g63_0 x1)=true then (ds=[Dyn.mk (.int .i64) 2]) else (if (!g64_0 x2)=true then (ds=[Dyn.mk (.int .i64) 2]) else (R26_6 n (0) (x0) (x1) (x2) ds))))
def R26_6:Nat→Int→List TyB0→Int→Int→List Dyn→Prop
 | 0,_,_,_,_,_=>False
 | n+1,v7,x0,x1,x2,ds=>(if (decide (v7<(x0.length:Int)))=true then ((0≤v7)∧(v7<(x0.length:Int))∧(if (!g65_0 (List.getD x0 (Int.toNat v7) (ByteArray.empty,0,0,0,0,())) x1 x2)=true then (ds=[Dyn.mk (.int .i64) 6]) else ((InR .i64 (v7+1))∧(R26_6 n (v7+1) (x0) (x1) (x2) ds)))) else (ds=[Dyn.mk (.int .i64) 0]))
end
theorem snd26:∀ n,(∀ (x0:List TyB0) (x1:Int) (x2:Int) ds,R26 n x0 x1 x2 ds→∀ K q,AtV Tryz.prog 26 (PostR kds26 oks26 ds [] [] q K) 32 K q [] [.code b26] (entE 0 0 sig26 (x0,x1,x2,())) (entL sig26 (x0,x1,x2,())))∧(∀ (v7:Int) (x0:List TyB0) (x1:Int) (x2:Int) ds,R26_6 n v7 x0 x1 x2 ds→∀ K q,AtV Tryz.prog 26 (PostR kds26 oks26 ds [] [] q K) 32 K q [] (cutAt b26 6) (E26_6 v7 x0 x1 x2) (L26_6 v7 x0 x1 x2)):=by
 intro n
 induction n with
 | zero=>exact ⟨fun _ _ _ _ h=>by simp only [R26] at h,fun _ _ _ _ _ h=>by simp only [R26_6] at h⟩
 | succ n ih =>
 obtain ⟨ih,ih6⟩:=ih
 refine ⟨?_,?_⟩
 ·intro x0 x1 x2 ds h K q
  rw [R26] at h
  by_cases b0:(!g62_0 x0)=true
  ·rw [if_pos b0] at h
   subst h
   exact AtV.ret Tryz.func26 tabOk ext26Ok mixed false [] tys26 [true] (a1 trivial (a1 b0 trivial)) (by kernel_rfl)
  ·rw [if_neg b0] at h
   replace b0:=bf_ b0
   by_cases b1:(!g63_0 x1)=true
   ·rw [if_pos b1] at h
    subst h
    exact AtV.ret Tryz.func26 tabOk ext26Ok mixed false [] tys26 [false,true,true] (a1 trivial (a1 b0 (a1 trivial (a1 b1 (a1 (rfl:true=true) trivial))))) (by kernel_rfl)
   ·rw [if_neg b1] at h
    replace b1:=bf_ b1
    by_cases b2:(!g64_0 x2)=true
    ·rw [if_pos b2] at h
     subst h
     exact AtV.ret Tryz.func26 tabOk ext26Ok mixed false [] tys26 [false,false,true] (a1 trivial (a1 b0 (a1 trivial (a1 b1 (a1 trivial (a1 b2 trivial)))))) (by kernel_rfl)
    ·rw [if_neg b2] at h
     replace b2:=bf_ b2
     exact AtV.go tabOk ext26Ok mixed false [] [] [0,1,2,7] [] [false,false,false] (a1 trivial (a1 b0 (a1 trivial (a1 b1 (a1 trivial (a1 b2 trivial)))))) (ih6 _ _ _ _ _ h K q) (by kernel_rfl)
 ·intro v7 x0 x1 x2 ds h K q
  rw [R26_6] at h
  by_cases b0:(decide (v7<(x0.length:Int)))=true
  ·rw [if_pos b0] at h
   obtain ⟨s0,s1,h⟩:=h
   by_cases b1:(!g65_0 (List.getD x0 (Int.toNat v7) (ByteArray.empty,0,0,0,0,())) x1 x2)=true
   ·rw [if_pos b1] at h
    subst h
    exact AtV.ret Tryz.func26 tabOk ext26Ok mixed false [] tys26 [true,true] (a1 b0 (a1 s0 (a1 s1 (a1 trivial (a1 b1 trivial))))) (by kernel_rfl)
   ·rw [if_neg b1] at h
    replace b1:=bf_ b1
    obtain ⟨s2,h⟩:=h
    exact AtV.go tabOk ext26Ok mixed false [] [] [0,1,2,7] [] [true,false] (a1 b0 (a1 s0 (a1 s1 (a1 trivial (a1 b1 (a1 s2 trivial)))))) (ih6 _ _ _ _ _ h K q) (by kernel_rfl)
  ·rw [if_neg b0] at h
   replace b0:=bf_ b0
   subst h
   exact AtV.ret Tryz.func26 tabOk ext26Ok mixed false [] tys26 [false] (a1 b0 trivial) (by kernel_rfl)
def q26 (x1 x2:Int) (x:TyB0):Bool:=g65_0 x x1 x2
def g26_0 (x0:List TyB0) (x1 x2:Int):Int:=if g62_0 x0=true then (if g63_0 x1=true then (if g64_0 x2=true then (if x0.all (q26 x1 x2)=true then 0 else 6) else 2) else 2) else 1
def P26 (x0:List TyB0) (x1 x2:Int):Prop:=True
theorem top26 (x0:List TyB0) (x1 x2:Int) (hm:x0.length≤maxLen):R26 (x0.length+1+1) x0 x1 x2 [⟨.int .i64,g26_0 x0 x1 x2⟩]:=by
 rw [R26]
 unfold g26_0
 cases h0:g62_0 x0 with
 | false=>rw [if_pos (show (!false)=true from rfl),if_neg (by simp)]
 | true =>
 cases h1:g63_0 x1 with
 | false=>rw [if_neg (show ¬ (!true)=true by decide),if_pos (show (!false)=true from rfl),if_pos rfl,if_neg (by simp)]
 | true =>
 cases h2:g64_0 x2 with
 | false=>rw [if_neg (show ¬ (!true)=true by decide),if_neg (show ¬ (!true)=true by decide),if_pos (show (!false)=true from rfl),if_pos rfl,if_pos rfl,if_neg (by simp)]
 | true =>
 rw [if_neg (show ¬ (!true)=true by decide),if_neg (show ¬ (!true)=true by decide),if_neg (show ¬ (!true)=true by decide),if_pos rfl,if_pos rfl,if_pos rfl]
 have key:=loop_test x0 (ByteArray.empty,(0:Int),(0:Int),(0:Int),(0:Int),()) (q26 x1 x2) [(⟨.int .i64,6⟩:Dyn)] [⟨.int .i64,0⟩] (fun n i ds=>R26_6 n i x0 x1 x2 ds) (fun n => ?_) (fun n i hi hok ds hr => ?_) (fun n i hi hok => ?_)
 ·cases h:x0.all (q26 x1 x2) <;> rw [h] at key <;> simpa using key
 ·rw [R26_6,if_neg (by simp)]
 ·rw [R26_6,if_pos (by simp;omega)]
  simp only [Int.toNat_natCast]
  unfold q26 at hok
  refine ⟨by omega,by omega,?_⟩
  rw [if_neg (by rw [hok];simp)]
  exact ⟨inR_up hm hi,hr⟩
 ·rw [R26_6,if_pos (by simp;omega)]
  simp only [Int.toNat_natCast]
  unfold q26 at hok
  refine ⟨by omega,by omega,?_⟩
  rw [if_pos (by rw [hok];rfl)] <;> trivial
def S26:Am.Spec:={ sig:=sig26,pre:=fun ⟨x0,x1,x2,_⟩=>P26 x0 x1 x2,res:=fun ⟨x0,x1,x2,_⟩=>[⟨.int .i64,g26_0 x0 x1 x2⟩] }
theorem con26:Contract Tryz.prog 26 S26:=contract_of Tryz.func26 hb26 (bl_ (by kernel_rfl)) (fun ⟨x0,x1,x2,_⟩ h hwf K q =>
 (snd26 _).1 x0 x1 x2 _ (top26 x0 x1 x2 hwf.1.1) K q)
end
noncomputable section
def ext77:Ext:=[(30,S30)]
theorem ext77Ok:ExtOk Tryz.prog ext77:=⟨⟨ca30,con30⟩,trivial⟩
noncomputable def b77:Code:=bodyOf Tryz.f77
theorem hb77:Tryz.f77.body=some b77:=by kernel_rfl
def sig77:List AT:=[AT.v (.int .i64)]
def tys77:List Ty:=[.bool]
def kds77:List RK:=[]
def oks77:List AT:=owns sig77
def P77 (x0:Int):Prop:=True
def g77_0 (x0:Int):Bool:=g30_0 x0 0 1440
theorem at77 (x0:Int) (h:P77 x0) (K:Ctx) (q:Nat→Value):AtV Tryz.prog 77 (PostR kds77 oks77 [⟨.bool,g77_0 x0⟩] [] [] q K) 5 K q [] [.code b77] (entE 0 0 sig77 (x0,())) (entL sig77 (x0,())):=by
 unfold P77 at h
 unfold g77_0
 exact AtV.ret Tryz.func77 tabOk ext77Ok mixed false [] tys77 [] (a1 trivial trivial) (by kernel_rfl)
def S77:Am.Spec:={ sig:=sig77,pre:=fun ⟨x0,_⟩=>P77 x0,res:=fun ⟨x0,_⟩=>[⟨.bool,g77_0 x0⟩],kds:=kds77 }
theorem con77:Contract Tryz.prog 77 S77:=contract_of Tryz.func77 hb77 (bl_ (by kernel_rfl)) (fun ⟨x0,_⟩ h _ K q=>at77 x0 h K q)
end
noncomputable section
def ext112:Ext:=[(77,S77),(30,S30)]
theorem ext112Ok:ExtOk Tryz.prog ext112:=⟨⟨ca77,con77⟩,⟨ca30,con30⟩,trivial⟩
noncomputable def b112:Code:=bodyOf Tryz.f112
theorem hb112:Tryz.f112.body=some b112:=by kernel_rfl
def sig112:List AT:=[AT.p YA11]
def tys112:List Ty:=[.bool]
def kds112:List RK:=[]
def oks112:List AT:=owns sig112
def P112 (x0:Int×Int×Unit):Prop:=(if (g77_0 x0.1)=true then (if (g30_0 x0.2.1 1 1440)=true then ((InR .i64 (x0.1+x0.2.1))∧True) else True) else True)
def g112_0 (x0:Int×Int×Unit):Bool:=(if (g77_0 x0.1)=true then (if (g30_0 x0.2.1 1 1440)=true then decide (x0.1+x0.2.1≤1440) else false) else false)
theorem at112 (x0:Int×Int×Unit) (h:P112 x0) (K:Ctx) (q:Nat→Value):AtV Tryz.prog 112 (PostR kds112 oks112 [⟨.bool,g112_0 x0⟩] [] [] q K) 27 K q [] [.code b112] (entE 0 0 sig112 (x0,())) (entL sig112 (x0,())):=by
 unfold P112 at h
 unfold g112_0
 by_cases b0:(g77_0 x0.1)=true
 ·try simp only [if_pos b0] at h ⊢
  by_cases b1:(g30_0 x0.2.1 1 1440)=true
  ·try simp only [if_pos b1] at h ⊢
   obtain ⟨s0,h⟩:=h
   exact AtV.ret Tryz.func112 tabOk ext112Ok mixed false [] tys112 [true,true] (a1 trivial (a1 b0 (a1 trivial (a1 b1 (a1 s0 trivial))))) (by kernel_rfl)
  ·try simp only [if_neg b1] at h ⊢
   replace b1:=bf_ b1
   exact AtV.ret Tryz.func112 tabOk ext112Ok mixed false [] tys112 [true,false] (a1 trivial (a1 b0 (a1 trivial (a1 b1 trivial)))) (by kernel_rfl)
 ·try simp only [if_neg b0] at h ⊢
  replace b0:=bf_ b0
  exact AtV.ret Tryz.func112 tabOk ext112Ok mixed false [] tys112 [false,false] (a1 trivial (a1 b0 (a1 (rfl:false=false) trivial))) (by kernel_rfl)
def S112:Am.Spec:={ sig:=sig112,pre:=fun ⟨x0,_⟩=>P112 x0,res:=fun ⟨x0,_⟩=>[⟨.bool,g112_0 x0⟩],kds:=kds112 }
theorem con112:Contract Tryz.prog 112 S112:=contract_of Tryz.func112 hb112 (bl_ (by kernel_rfl)) (fun ⟨x0,_⟩ h _ K q=>at112 x0 h K q)
end
noncomputable section
def ext76:Ext:=[(112,S112)]
theorem ext76Ok:ExtOk Tryz.prog ext76:=⟨⟨ca112,con112⟩,trivial⟩
noncomputable def b76:Code:=bodyOf Tryz.f76
theorem hb76:Tryz.f76.body=some b76:=by kernel_rfl
def sig76:List AT:=[AT.v (.sl YA11)]
def tys76:List Ty:=[.bool]
def kds76:List RK:=[]
def oks76:List AT:=owns sig76
def E76_2 (v3:Int) (x0:List TyB4):Env:=[(0,.a (.sl YA11 x0)),(3,.a (.val (.int .i64 v3)))]
def L76_2 (v3:Int) (x0:List TyB4):Heap:=[]
mutual
def R76:Nat→List TyB4→List Dyn→Prop
 | 0,_,_=>False
 | n+1,x0,ds=>(R76_2 n (0) (x0) ds)
def R76_2:Nat→Int→List TyB4→List Dyn→Prop
 | 0,_,_,_=>False
 | n+1,v3,x0,ds=>(if (decide (v3<(x0.length:Int)))=true then ((0≤v3)∧(v3<(x0.length:Int))∧((P112 (List.getD x0 (Int.toNat v3) (0,0,())))∧(if (!g112_0 (List.getD x0 (Int.toNat v3) (0,0,())))=true then (ds=[Dyn.mk .bool false]) else (if (decide (v3>0))=true then ((InR .i64 (v3 - 1))∧((0≤v3 - 1)∧(v3 - 1<(x0.length:Int))∧((InR .i64 (v3 - 1))∧((0≤v3 - 1)∧(v3 - 1<(x0.length:Int))∧((InR .i64 ((List.getD x0 (Int.toNat (v3 - 1)) (0,0,())).1+(List.getD x0 (Int.toNat (v3 - 1)) (0,0,())).2.1))∧((0≤v3)∧(v3<(x0.length:Int))∧(if (decide ((List.getD x0 (Int.toNat (v3 - 1)) (0,0,())).1+(List.getD x0 (Int.toNat (v3 - 1)) (0,0,())).2.1>(List.getD x0 (Int.toNat v3) (0,0,())).1))=true then (ds=[Dyn.mk .bool false]) else ((InR .i64 (v3+1))∧(R76_2 n (v3+1) (x0) ds))))))))) else ((InR .i64 (v3+1))∧(R76_2 n (v3+1) (x0) ds)))))) else (ds=[Dyn.mk .bool (decide ((x0.length:Int)≤24))]))
end
theorem snd76:∀ n,(∀ (x0:List TyB4) ds,R76 n x0 ds→∀ K q,AtV Tryz.prog 76 (PostR kds76 oks76 ds [] [] q K) 43 K q [] [.code b76] (entE 0 0 sig76 (x0,())) (entL sig76 (x0,())))∧(∀ (v3:Int) (x0:List TyB4) ds,R76_2 n v3 x0 ds→∀ K q,AtV Tryz.prog 76 (PostR kds76 oks76 ds [] [] q K) 43 K q [] (cutAt b76 2) (E76_2 v3 x0) (L76_2 v3 x0)):=by
 intro n
 induction n with
 | zero=>exact ⟨fun _ _ h=>by simp only [R76] at h,fun _ _ _ h=>by simp only [R76_2] at h⟩
 | succ n ih =>
 obtain ⟨ih,ih2⟩:=ih
 refine ⟨?_,?_⟩
 ·intro x0 ds h K q
  rw [R76] at h
  exact AtV.go tabOk ext76Ok mixed false [] [] [0,3] [] [] trivial (ih2 _ _ _ h K q) (by kernel_rfl)
 ·intro v3 x0 ds h K q
  rw [R76_2] at h
  by_cases b0:(decide (v3<(x0.length:Int)))=true
  ·rw [if_pos b0] at h
   obtain ⟨s0,s1,h⟩:=h
   obtain ⟨s2,h⟩:=h
   by_cases b1:(!g112_0 (List.getD x0 (Int.toNat v3) (0,0,())))=true
   ·rw [if_pos b1] at h
    subst h
    exact AtV.ret Tryz.func76 tabOk ext76Ok mixed false [] tys76 [true,true,true] (a1 b0 (a1 s0 (a1 s1 (a1 s2 (a1 b1 (a1 (rfl:true=true) trivial)))))) (by kernel_rfl)
   ·rw [if_neg b1] at h
    replace b1:=bf_ b1
    by_cases b2:(decide (v3>0))=true
    ·rw [if_pos b2] at h
     obtain ⟨s3,h⟩:=h
     obtain ⟨s4,s5,h⟩:=h
     obtain ⟨s6,h⟩:=h
     obtain ⟨s7,s8,h⟩:=h
     obtain ⟨s9,h⟩:=h
     obtain ⟨s10,s11,h⟩:=h
     by_cases b3:(decide ((List.getD x0 (Int.toNat (v3 - 1)) (0,0,())).1+(List.getD x0 (Int.toNat (v3 - 1)) (0,0,())).2.1>(List.getD x0 (Int.toNat v3) (0,0,())).1))=true
     ·rw [if_pos b3] at h
      subst h
      exact AtV.ret Tryz.func76 tabOk ext76Ok mixed false [] tys76 [true,false,true,true] (a1 b0 (a1 s0 (a1 s1 (a1 s2 (a1 b1 (a1 b2 (a1 s3 (a1 s4 (a1 s5 (a1 s6 (a1 s7 (a1 s8 (a1 s9 (a1 s10 (a1 s11 (a1 b3 trivial)))))))))))))))) (by kernel_rfl)
     ·rw [if_neg b3] at h
      replace b3:=bf_ b3
      obtain ⟨s12,h⟩:=h
      exact AtV.go tabOk ext76Ok mixed false [] [] [0,3] [] [true,false,true,false] (a1 b0 (a1 s0 (a1 s1 (a1 s2 (a1 b1 (a1 b2 (a1 s3 (a1 s4 (a1 s5 (a1 s6 (a1 s7 (a1 s8 (a1 s9 (a1 s10 (a1 s11 (a1 b3 (a1 s12 trivial))))))))))))))))) (ih2 _ _ _ h K q) (by kernel_rfl)
    ·rw [if_neg b2] at h
     replace b2:=bf_ b2
     obtain ⟨s3,h⟩:=h
     exact AtV.go tabOk ext76Ok mixed false [] [] [0,3] [] [true,false,false,false] (a1 b0 (a1 s0 (a1 s1 (a1 s2 (a1 b1 (a1 b2 (a1 (rfl:false=false) (a1 s3 trivial)))))))) (ih2 _ _ _ h K q) (by kernel_rfl)
  ·rw [if_neg b0] at h
   replace b0:=bf_ b0
   subst h
   exact AtV.ret Tryz.func76 tabOk ext76Ok mixed false [] tys76 [false] (a1 b0 trivial) (by kernel_rfl)
def one76 (x:TyB4):Bool:=g112_0 x
def ok76 (x0:List TyB4) (i:Nat) (x:TyB4):Bool:=one76 x&&(i==0||decide ((x0.getD (i - 1) ((0:Int),(0:Int),())).1+(x0.getD (i - 1) ((0:Int),(0:Int),())).2.1≤x.1))
def g76_0 (x0:List TyB4):Bool:=allI (ok76 x0) 0 x0&&decide ((x0.length:Int)≤24)
def P76 (x0:List TyB4):Prop:=True
theorem in76 {x a b:Int}:g30_0 x a b=true↔a≤x∧x≤b:=by
 unfold g30_0
 by_cases c1:x≥a
 ·by_cases c2:x≤b
  ·simp [c1,c2]
  ·simp [c1,c2]
 ·have:¬ a≤x:=c1
  simp [c1,this]
theorem one76_pre (x:TyB4):P112 x:=by
 unfold P112
 split
 ·rename_i h1
  split
  ·rename_i h2
   have h1:=in76.1 (show g30_0 x.1 0 1440=true from h1)
   have h2:=in76.1 (show g30_0 x.2.1 1 1440=true from h2)
   exact ⟨by rw [i64_iff];omega,trivial⟩
  ·trivial
 ·trivial
theorem one76_b {x:TyB4} (h:one76 x=true):(0≤x.1∧x.1≤1440)∧(1≤x.2.1∧x.2.1≤1440):=by
 unfold one76 g112_0 at h
 split at h
 ·rename_i h0
  split at h
  ·rename_i h1
   exact ⟨in76.1 h0,in76.1 h1⟩
  ·cases h
 ·cases h
theorem run76 (x0:List TyB4) (hm:x0.length≤maxLen):∀ (k i:Nat),i+k=x0.length→(∀ j,j<i→one76 (x0.getD j ((0:Int),(0:Int),()))=true) →
  R76_2 (k+1) (i:Int) x0 [⟨.bool,allI (ok76 x0) i (x0.drop i)&&decide ((x0.length:Int)≤24)⟩]:=by
 intro k
 induction k with
 | zero =>
  intro i hi _
  rw [R76_2,if_neg (by simp only [decide_eq_true_eq];omega),drop_end _ _ (by omega)]
  rfl
 | succ k ih =>
  intro i hi hp
  have hlt:i<x0.length:=by omega
  have hu:=inR_up hm hlt
  have hmx:maxLen≤9223372036854775807:=by decide
  rw [R76_2,if_pos (by simp only [decide_eq_true_eq];omega),drop_get x0 i ((0:Int),(0:Int),()) hlt]
  simp only [Int.toNat_natCast,allI]
  refine ⟨by omega,by omega,one76_pre _,?_⟩
  cases h1:one76 (x0.getD i ((0:Int),(0:Int),())) with
  | false =>
   unfold one76 at h1
   rw [if_pos (by rw [h1];rfl)]
   have:ok76 x0 i (x0.getD i ((0:Int),(0:Int),()))=false:=by unfold ok76 one76;rw [h1];rfl
   rw [this];rfl
  | true =>
   have h1':=h1
   unfold one76 at h1
   rw [if_neg (by rw [h1];simp)]
   have hnext:=ih (i+1) (by omega) (fun j hj=>by
    rcases Nat.lt_or_ge j i with h | h
    ·exact hp j h
    ·have:j=i:=by omega
     subst this;exact h1')
   have e1:(((i+1:Nat)):Int)=(i:Int)+1:=by omega
   rw [e1] at hnext
   by_cases h0:(i:Int)>0
   ·rw [if_pos (by simpa using h0)]
    have hi0:(i==0)=false:=by simp;omega
    have e:((i:Int) - 1).toNat=i - 1:=by omega
    obtain ⟨b1,b2⟩:=one76_b (hp (i - 1) (by omega))
    have hd:InR .i64 ((i:Int) - 1):=by rw [i64_iff];omega
    simp only [e]
    refine ⟨hd,by omega,by omega,hd,by omega,by omega,by rw [i64_iff];omega,by omega,by omega,?_⟩
    by_cases hc:(x0.getD (i - 1) ((0:Int),(0:Int),())).1+(x0.getD (i - 1) ((0:Int),(0:Int),())).2.1≤(x0.getD i ((0:Int),(0:Int),())).1
    ·rw [if_neg (by show ¬ decide ((x0.getD (i - 1) ((0:Int),(0:Int),())).1+(x0.getD (i - 1) ((0:Int),(0:Int),())).2.1>(x0.getD i ((0:Int),(0:Int),())).1)=true;rw [decide_eq_true_eq];omega)]
     have:ok76 x0 i (x0.getD i ((0:Int),(0:Int),()))=true:=by unfold ok76;rw [h1',hi0,decide_eq_true hc];rfl
     rw [this,Bool.true_and]
     exact ⟨hu,hnext⟩
    ·rw [if_pos (by show decide ((x0.getD (i - 1) ((0:Int),(0:Int),())).1+(x0.getD (i - 1) ((0:Int),(0:Int),())).2.1>(x0.getD i ((0:Int),(0:Int),())).1)=true;rw [decide_eq_true_eq];omega)]
     have:ok76 x0 i (x0.getD i ((0:Int),(0:Int),()))=false:=by unfold ok76;rw [hi0,decide_eq_false hc,Bool.or_false,Bool.and_false]
     rw [this,Bool.false_and,Bool.false_and]
   ·rw [if_neg (by simpa using h0)]
    have hi0:(i==0)=true:=by simp;omega
    have:ok76 x0 i (x0.getD i ((0:Int),(0:Int),()))=true:=by unfold ok76;rw [h1',hi0];rfl
    rw [this,Bool.true_and]
    exact ⟨hu,hnext⟩
theorem top76 (x0:List TyB4) (hw:x0.length≤maxLen):R76 (x0.length+1+1) x0 [⟨.bool,g76_0 x0⟩]:=by
 rw [R76]
 exact run76 x0 hw x0.length 0 (by omega) (fun j hj=>by omega)
def S76:Am.Spec:={ sig:=sig76,pre:=fun ⟨x0,_⟩=>P76 x0,res:=fun ⟨x0,_⟩=>[⟨.bool,g76_0 x0⟩] }
theorem con76:Contract Tryz.prog 76 S76:=contract_of Tryz.func76 hb76 (bl_ (by kernel_rfl)) (fun ⟨x0,_⟩ h hwf K q =>
 (snd76 _).1 x0 _ (top76 x0 hwf.1.1) K q)
end
noncomputable section
def ext42:Ext:=[(76,S76),(77,S77)]
theorem ext42Ok:ExtOk Tryz.prog ext42:=⟨⟨ca76,con76⟩,⟨ca77,con77⟩,trivial⟩
noncomputable def b42:Code:=bodyOf Tryz.f42
theorem hb42:Tryz.f42.body=some b42:=by kernel_rfl
def sig42:List AT:=[AT.v (.sl YA11),AT.v (.int .i64)]
def tys42:List Ty:=[.int .i64]
def kds42:List RK:=[]
def oks42:List AT:=owns sig42
def P42 (x0:List TyB4) (x1:Int):Prop:=True
def g42_0 (x0:List TyB4) (x1:Int):Int:=(if (!g76_0 x0)=true then 1 else (if (!g77_0 x1)=true then 2 else 0))
theorem at42 (x0:List TyB4) (x1:Int) (h:P42 x0 x1) (K:Ctx) (q:Nat→Value):AtV Tryz.prog 42 (PostR kds42 oks42 [⟨.int .i64,g42_0 x0 x1⟩] [] [] q K) 11 K q [] [.code b42] (entE 0 0 sig42 (x0,x1,())) (entL sig42 (x0,x1,())):=by
 unfold P42 at h
 unfold g42_0
 by_cases b0:(!g76_0 x0)=true
 ·try simp only [if_pos b0] at h ⊢
  exact AtV.ret Tryz.func42 tabOk ext42Ok mixed false [] tys42 [true] (a1 trivial (a1 b0 trivial)) (by kernel_rfl)
 ·try simp only [if_neg b0] at h ⊢
  replace b0:=bf_ b0
  by_cases b1:(!g77_0 x1)=true
  ·try simp only [if_pos b1] at h ⊢
   exact AtV.ret Tryz.func42 tabOk ext42Ok mixed false [] tys42 [false,true] (a1 trivial (a1 b0 (a1 trivial (a1 b1 trivial)))) (by kernel_rfl)
  ·try simp only [if_neg b1] at h ⊢
   replace b1:=bf_ b1
   exact AtV.ret Tryz.func42 tabOk ext42Ok mixed false [] tys42 [false,false] (a1 trivial (a1 b0 (a1 trivial (a1 b1 trivial)))) (by kernel_rfl)
def S42:Am.Spec:={ sig:=sig42,pre:=fun ⟨x0,x1,_⟩=>P42 x0 x1,res:=fun ⟨x0,x1,_⟩=>[⟨.int .i64,g42_0 x0 x1⟩],kds:=kds42 }
theorem con42:Contract Tryz.prog 42 S42:=contract_of Tryz.func42 hb42 (bl_ (by kernel_rfl)) (fun ⟨x0,x1,_⟩ h _ K q=>at42 x0 x1 h K q)
end
noncomputable section
def ext141:Ext:=[]
theorem ext141Ok:ExtOk Tryz.prog ext141:=trivial
noncomputable def b141:Code:=bodyOf Tryz.f141
theorem hb141:Tryz.f141.body=some b141:=by kernel_rfl
def sig141:List AT:=[AT.v (.str),AT.v (.int .u8)]
def tys141:List Ty:=[.sl .str]
def kds141:List RK:=[]
def oks141:List AT:=owns sig141
def E141_4 (v6:Int) (v7:Int) (h0:List ByteArray) (x0:ByteArray) (x1:Int):Env:=[(0,.a (.val (.string x0))),(1,.a (.val (.int .u8 x1))),(5,.a (.osl 0 Option.none)),(6,.a (.val (.int .i64 v6))),(7,.a (.val (.int .i64 v7)))]
def L141_4 (v6:Int) (v7:Int) (h0:List ByteArray) (x0:ByteArray) (x1:Int):Heap:=[Option.some (Arr.mk .str h0 false Option.none Option.none)]
mutual
def R141:Nat→ByteArray→Int→List Dyn→Prop
 | 0,_,_,_=>False
 | n+1,x0,x1,ds=>(R141_4 n (0) (0) ([]) (x0) (x1) ds)
def R141_4:Nat→Int→Int→List ByteArray→ByteArray→Int→List Dyn→Prop
 | 0,_,_,_,_,_,_=>False
 | n+1,v6,v7,h0,x0,x1,ds=>(if (decide (v7<(↑(ByteArray.size x0):Int)))=true then ((0≤v7)∧(v7<(↑(ByteArray.size x0):Int))∧(if ((↑(UInt8.toNat (List.getD (Array.toList (ByteArray.data x0)) (Int.toNat v7) 0)):Int)==x1)=true then ((0≤v6)∧(v6≤v7)∧(v7≤(↑(ByteArray.size x0):Int))∧(((List.length h0+1)*16≤140737488355328)∧((InR .i64 (v7+1))∧((InR .i64 (v7+1))∧(R141_4 n (v7+1) (v7+1) (h0++[ByteArray.extract x0 (Int.toNat v6) (Int.toNat v7)]) (x0) (x1) ds))))) else ((InR .i64 (v7+1))∧(R141_4 n (v6) (v7+1) (h0) (x0) (x1) ds)))) else ((0≤v6)∧(v6≤(↑(ByteArray.size x0):Int))∧(((List.length h0+1)*16≤140737488355328)∧(ds=[Dyn.mk (.sl .str) (h0++[ByteArray.extract x0 (Int.toNat v6) (Int.toNat (↑(ByteArray.size x0):Int))])]))))
end
theorem snd141:∀ n,(∀ (x0:ByteArray) (x1:Int) ds,R141 n x0 x1 ds→∀ K q,AtV Tryz.prog 141 (PostR kds141 oks141 ds [] [] q K) 35 K q [] [.code b141] (entE 0 0 sig141 (x0,x1,())) (entL sig141 (x0,x1,())))∧(∀ (v6:Int) (v7:Int) (h0:List ByteArray) (x0:ByteArray) (x1:Int) ds,R141_4 n v6 v7 h0 x0 x1 ds→∀ K q,AtV Tryz.prog 141 (PostR kds141 oks141 ds [] [] q K) 35 K q [] (cutAt b141 4) (E141_4 v6 v7 h0 x0 x1) (L141_4 v6 v7 h0 x0 x1)):=by
 intro n
 induction n with
 | zero=>exact ⟨fun _ _ _ h=>by simp only [R141] at h,fun _ _ _ _ _ _ h=>by simp only [R141_4] at h⟩
 | succ n ih =>
 obtain ⟨ih,ih4⟩:=ih
 refine ⟨?_,?_⟩
 ·intro x0 x1 ds h K q
  rw [R141] at h
  exact AtV.go tabOk ext141Ok mixed false [] [] [0,1,5,6,7] [0] [] trivial (ih4 _ _ _ _ _ _ h K q) (by kernel_rfl)
 ·intro v6 v7 h0 x0 x1 ds h K q
  rw [R141_4] at h
  by_cases b0:(decide (v7<(↑(ByteArray.size x0):Int)))=true
  ·rw [if_pos b0] at h
   obtain ⟨s0,s1,h⟩:=h
   by_cases b1:((↑(UInt8.toNat (List.getD (Array.toList (ByteArray.data x0)) (Int.toNat v7) 0)):Int)==x1)=true
   ·rw [if_pos b1] at h
    obtain ⟨s2,s3,s4,h⟩:=h
    obtain ⟨s5,h⟩:=h
    obtain ⟨s6,h⟩:=h
    obtain ⟨s7,h⟩:=h
    exact AtV.go tabOk ext141Ok mixed false [] [] [0,1,5,6,7] [0] [true,true] (a1 b0 (a1 s0 (a1 s1 (a1 b1 (a1 s2 (a1 s3 (a1 s4 (a1 s5 (a1 s6 (a1 s7 trivial)))))))))) (ih4 _ _ _ _ _ _ h K q) (by kernel_rfl)
   ·rw [if_neg b1] at h
    replace b1:=bf_ b1
    obtain ⟨s2,h⟩:=h
    exact AtV.go tabOk ext141Ok mixed false [] [] [0,1,5,6,7] [0] [true,false] (a1 b0 (a1 s0 (a1 s1 (a1 b1 (a1 s2 trivial))))) (ih4 _ _ _ _ _ _ h K q) (by kernel_rfl)
  ·rw [if_neg b0] at h
   replace b0:=bf_ b0
   obtain ⟨s0,s1,h⟩:=h
   obtain ⟨s2,h⟩:=h
   subst h
   exact AtV.ret Tryz.func141 tabOk ext141Ok mixed false [] tys141 [false] (a1 b0 (a1 s0 (a1 s1 (a1 s2 trivial)))) (by kernel_rfl)
def c141 (x1:Int):UInt8:=UInt8.ofNat x1.toNat
def g141_0 (x0:ByteArray) (x1:Int):List ByteArray:=bss (splitC (c141 x1) x0.data.toList)
def P141 (x0:ByteArray) (x1:Int):Prop:=x0.size<4294967281∧0≤x1∧x1≤255
theorem run141 (x0:ByteArray) (x1:Int) (hs:x0.size<4294967281) (h0:0≤x1) (h1:x1≤255):∀ (k i frm:Nat) (h:List ByteArray),i+k=x0.size→frm≤i→c141 x1 ∉ (x0.data.toList.drop frm).take (i - frm)→h.length≤i →
  R141_4 (k+1) (frm:Int) (i:Int) h x0 x1 [⟨.sl .str,h++bss (splitC (c141 x1) (x0.data.toList.drop frm))⟩]:=by
 intro k
 have hll:x0.data.toList.length=x0.size:=rfl
 induction k with
 | zero =>
  intro i frm h hi hf hc hl
  rw [R141_4,if_neg (by simp;omega)]
  refine ⟨by omega,by omega,by omega,?_⟩
  have e:(x0.data.toList.drop frm).take (i - frm)=x0.data.toList.drop frm:=List.take_of_length_le (by rw [List.length_drop];omega)
  rw [e] at hc
  rw [splitC_free _ hc,Int.toNat_natCast,Int.toNat_natCast,Lib.extract_from]
  rfl
 | succ k ih =>
  intro i frm h hi hf hc hl
  have hup:InR .i64 ((i:Int)+1):=by rw [i64_iff];omega
  have hlt:i<x0.data.toList.length:=by rw [hll];omega
  have hcons:x0.data.toList.drop i=x0.data.toList.getD i 0 :: x0.data.toList.drop (i+1):=drop_get _ i 0 hlt
  have hsplit:x0.data.toList.drop frm=(x0.data.toList.drop frm).take (i - frm)++x0.data.toList.drop i:=by
   conv=>lhs;rw [← List.take_append_drop (i - frm) (x0.data.toList.drop frm)]
   rw [List.drop_drop,show frm+(i - frm)=i by omega]
  rw [R141_4,if_pos (by simp;omega)]
  simp only [Int.toNat_natCast]
  refine ⟨by omega,by omega,?_⟩
  have hb:(((x0.data.toList.getD i 0).toNat:Int)==x1)=true↔x0.data.toList.getD i 0=c141 x1:=by
   have hlt':=(x0.data.toList.getD i 0).toNat_lt
   rw [beq_iff_eq, ← UInt8.toNat_inj]
   unfold c141
   have:(UInt8.ofNat x1.toNat).toNat=x1.toNat:=by rw [UInt8.toNat_ofNat'];omega
   rw [this]
   omega
  by_cases he:x0.data.toList.getD i 0=c141 x1
  ·rw [if_pos (hb.2 he)]
   refine ⟨by omega,by omega,by omega,by omega,hup,hup,?_⟩
   have:=ih (i+1) (i+1) (h++[x0.extract frm i]) (by omega) (Nat.le_refl _) (by simp) (by simp;omega)
   have e2:x0.extract frm i=⟨((x0.data.toList.drop frm).take (i - frm)).toArray⟩:=Lib.extract_mk x0.data.toList frm i
   have e3:splitC (c141 x1) (x0.data.toList.drop frm)=(x0.data.toList.drop frm).take (i - frm) :: splitC (c141 x1) (x0.data.toList.drop (i+1)):=by
    conv=>lhs;rw [hsplit,hcons,he]
    exact splitC_hit _ _ hc
   rw [e3,e2]
   rw [List.append_assoc,e2] at this
   exact this
  ·rw [if_neg (fun hh=>he (hb.1 hh))]
   refine ⟨hup,?_⟩
   refine ih (i+1) frm h (by omega) (by omega) (fun hm => ?_) (by omega)
   have e4:(x0.data.toList.drop frm).take (i+1 - frm)=(x0.data.toList.drop frm).take (i - frm)++[x0.data.toList.getD i 0]:=by
    conv=>lhs;rw [hsplit,hcons]
    rw [List.take_append,List.take_of_length_le (by rw [List.length_take,List.length_drop];omega)]
    have:i+1 - frm - ((x0.data.toList.drop frm).take (i - frm)).length=1:=by rw [List.length_take,List.length_drop];omega
    rw [this]
    rfl
   rw [e4] at hm
   rcases List.mem_append.1 hm with hm | hm
   ·exact hc hm
   ·exact he (List.mem_singleton.1 hm).symm
theorem top141 (x0:ByteArray) (x1:Int) (h:P141 x0 x1):R141 (x0.size+1+1) x0 x1 [⟨.sl .str,g141_0 x0 x1⟩]:=by
 rw [R141]
 have:=run141 x0 x1 h.1 h.2.1 h.2.2 x0.size 0 0 [] (by omega) (Nat.le_refl _) (by simp) (by simp)
 simpa [g141_0] using this
def S141:Am.Spec:={ sig:=sig141,pre:=fun ⟨x0,x1,_⟩=>P141 x0 x1,res:=fun ⟨x0,x1,_⟩=>[⟨.sl .str,g141_0 x0 x1⟩] }
theorem con141:Contract Tryz.prog 141 S141:=contract_of Tryz.func141 hb141 (bl_ (by kernel_rfl)) (fun ⟨x0,x1,_⟩ h hwf K q =>
 (snd141 _).1 x0 x1 _ (top141 x0 x1 h) K q)
end
noncomputable section
def ext142:Ext:=[(140,S140)]
theorem ext142Ok:ExtOk Tryz.prog ext142:=⟨⟨ca140,con140⟩,trivial⟩
noncomputable def b142:Code:=bodyOf Tryz.f142
theorem hb142:Tryz.f142.body=some b142:=by kernel_rfl
def sig142:List AT:=[AT.v (.str)]
def tys142:List Ty:=[.bool]
def kds142:List RK:=[]
def oks142:List AT:=owns sig142
def E142_2 (v3:Int) (x0:ByteArray):Env:=[(0,.a (.val (.string x0))),(3,.a (.val (.int .i64 v3)))]
def L142_2 (v3:Int) (x0:ByteArray):Heap:=[]
mutual
def R142:Nat→ByteArray→List Dyn→Prop
 | 0,_,_=>False
 | n+1,x0,ds=>(R142_2 n (0) (x0) ds)
def R142_2:Nat→Int→ByteArray→List Dyn→Prop
 | 0,_,_,_=>False
 | n+1,v3,x0,ds=>(if (decide (v3<(↑(ByteArray.size x0):Int)))=true then ((0≤v3)∧(v3<(↑(ByteArray.size x0):Int))∧(if (!g140_0 (↑(UInt8.toNat (List.getD (Array.toList (ByteArray.data x0)) (Int.toNat v3) 0)):Int))=true then ((0≤v3)∧(v3<(↑(ByteArray.size x0):Int))∧(if (decide ((↑(UInt8.toNat (List.getD (Array.toList (ByteArray.data x0)) (Int.toNat v3) 0)):Int)<97))=true then (ds=[Dyn.mk .bool false]) else ((0≤v3)∧(v3<(↑(ByteArray.size x0):Int))∧(if (decide ((↑(UInt8.toNat (List.getD (Array.toList (ByteArray.data x0)) (Int.toNat v3) 0)):Int)>122))=true then (ds=[Dyn.mk .bool false]) else ((InR .i64 (v3+1))∧(R142_2 n (v3+1) (x0) ds)))))) else ((InR .i64 (v3+1))∧(R142_2 n (v3+1) (x0) ds)))) else (ds=[Dyn.mk .bool (decide ((↑(ByteArray.size x0):Int)>0))]))
end
theorem snd142:∀ n,(∀ (x0:ByteArray) ds,R142 n x0 ds→∀ K q,AtV Tryz.prog 142 (PostR kds142 oks142 ds [] [] q K) 30 K q [] [.code b142] (entE 0 0 sig142 (x0,())) (entL sig142 (x0,())))∧(∀ (v3:Int) (x0:ByteArray) ds,R142_2 n v3 x0 ds→∀ K q,AtV Tryz.prog 142 (PostR kds142 oks142 ds [] [] q K) 30 K q [] (cutAt b142 2) (E142_2 v3 x0) (L142_2 v3 x0)):=by
 intro n
 induction n with
 | zero=>exact ⟨fun _ _ h=>by simp only [R142] at h,fun _ _ _ h=>by simp only [R142_2] at h⟩
 | succ n ih =>
 obtain ⟨ih,ih2⟩:=ih
 refine ⟨?_,?_⟩
 ·intro x0 ds h K q
  rw [R142] at h
  exact AtV.go tabOk ext142Ok mixed false [] [] [0,3] [] [] trivial (ih2 _ _ _ h K q) (by kernel_rfl)
 ·intro v3 x0 ds h K q
  rw [R142_2] at h
  by_cases b0:(decide (v3<(↑(ByteArray.size x0):Int)))=true
  ·rw [if_pos b0] at h
   obtain ⟨s0,s1,h⟩:=h
   by_cases b1:(!g140_0 (↑(UInt8.toNat (List.getD (Array.toList (ByteArray.data x0)) (Int.toNat v3) 0)):Int))=true
   ·rw [if_pos b1] at h
    obtain ⟨s2,s3,h⟩:=h
    by_cases b2:(decide ((↑(UInt8.toNat (List.getD (Array.toList (ByteArray.data x0)) (Int.toNat v3) 0)):Int)<97))=true
    ·rw [if_pos b2] at h
     subst h
     exact AtV.ret Tryz.func142 tabOk ext142Ok mixed false [] tys142 [true,true,true,true] (a1 b0 (a1 s0 (a1 s1 (a1 trivial (a1 b1 (a1 s2 (a1 s3 (a1 b2 (a1 (rfl:true=true) trivial))))))))) (by kernel_rfl)
    ·rw [if_neg b2] at h
     replace b2:=bf_ b2
     obtain ⟨s4,s5,h⟩:=h
     by_cases b3:(decide ((↑(UInt8.toNat (List.getD (Array.toList (ByteArray.data x0)) (Int.toNat v3) 0)):Int)>122))=true
     ·rw [if_pos b3] at h
      subst h
      exact AtV.ret Tryz.func142 tabOk ext142Ok mixed false [] tys142 [true,true,false,true] (a1 b0 (a1 s0 (a1 s1 (a1 trivial (a1 b1 (a1 s2 (a1 s3 (a1 b2 (a1 s4 (a1 s5 (a1 b3 trivial))))))))))) (by kernel_rfl)
     ·rw [if_neg b3] at h
      replace b3:=bf_ b3
      obtain ⟨s6,h⟩:=h
      exact AtV.go tabOk ext142Ok mixed false [] [] [0,3] [] [true,true,false,false] (a1 b0 (a1 s0 (a1 s1 (a1 trivial (a1 b1 (a1 s2 (a1 s3 (a1 b2 (a1 s4 (a1 s5 (a1 b3 (a1 s6 trivial)))))))))))) (ih2 _ _ _ h K q) (by kernel_rfl)
   ·rw [if_neg b1] at h
    replace b1:=bf_ b1
    obtain ⟨s2,h⟩:=h
    exact AtV.go tabOk ext142Ok mixed false [] [] [0,3] [] [true,false,false] (a1 b0 (a1 s0 (a1 s1 (a1 trivial (a1 b1 (a1 (rfl:false=false) (a1 s2 trivial))))))) (ih2 _ _ _ h K q) (by kernel_rfl)
  ·rw [if_neg b0] at h
   replace b0:=bf_ b0
   subst h
   exact AtV.ret Tryz.func142 tabOk ext142Ok mixed false [] tys142 [false] (a1 b0 trivial) (by kernel_rfl)
def ok142 (b:Int):Bool:=g140_0 b||(decide (97≤b)&&decide (b≤122))
def g142_0 (x0:ByteArray):Bool:=(bytesOf x0).all ok142&&decide ((x0.size:Int)>0)
def P142 (x0:ByteArray):Prop:=True
theorem top142 (x0:ByteArray) (hw:Wf .str x0):R142 (x0.size+1+1) x0 [⟨.bool,g142_0 x0⟩]:=by
 have hl:=bytesOf_length x0
 rw [R142]
 have key:=loop_test (bytesOf x0) 0 ok142 [(⟨.bool,false⟩:Dyn)] [⟨.bool,decide ((x0.size:Int)>0)⟩] (fun n i ds=>R142_2 n i x0 ds) (fun n => ?_) (fun n i hi hok ds hr => ?_) (fun n i hi hok => ?_)
 ·rw [hl] at key
  unfold g142_0
  cases h:(bytesOf x0).all ok142 <;> rw [h] at key <;> simpa using key
 ·show R142_2 (n+1) ((bytesOf x0).length:Int) x0 _
  rw [R142_2,hl,if_neg (by simp)]
 ·have hu:=inR_up (xs:=bytesOf x0) (by rw [hl];exact hw) hi
  rw [R142_2,if_pos (by simp;omega)]
  simp only [Int.toNat_natCast,byte_get]
  generalize (bytesOf x0).getD i 0=c at *
  unfold ok142 at hok
  refine ⟨by omega,by omega,?_⟩
  by_cases hd:g140_0 c=true
  ·rw [if_neg (by rw [hd];simp)]
   exact ⟨hu,hr⟩
  ·rw [bf_ hd] at hok
   simp only [Bool.false_or,Bool.and_eq_true,decide_eq_true_eq] at hok
   rw [if_pos (by rw [bf_ hd];rfl)]
   refine ⟨by omega,by omega,?_⟩
   rw [if_neg (by simp only [decide_eq_true_eq];omega)]
   refine ⟨by omega,by omega,?_⟩
   rw [if_neg (by simp only [decide_eq_true_eq];omega)]
   exact ⟨hu,hr⟩
 ·rw [R142_2,if_pos (by simp;omega)]
  simp only [Int.toNat_natCast,byte_get]
  generalize (bytesOf x0).getD i 0=c at *
  unfold ok142 at hok
  refine ⟨by omega,by omega,?_⟩
  simp only [Bool.or_eq_false_iff] at hok
  obtain ⟨hd,h2⟩:=hok
  rw [if_pos (by rw [hd];rfl)]
  refine ⟨by omega,by omega,?_⟩
  by_cases h1:c<97
  ·rw [if_pos (by simpa using h1)] <;> trivial
  ·rw [if_neg (by simpa using h1)]
   refine ⟨by omega,by omega,?_⟩
   rw [if_pos (by
    simp only [Bool.and_eq_false_iff,decide_eq_false_iff_not] at h2
    simp only [decide_eq_true_eq];omega)] <;> trivial
def S142:Am.Spec:={ sig:=sig142,pre:=fun ⟨x0,_⟩=>P142 x0,res:=fun ⟨x0,_⟩=>[⟨.bool,g142_0 x0⟩] }
theorem con142:Contract Tryz.prog 142 S142:=contract_of Tryz.func142 hb142 (bl_ (by kernel_rfl)) (fun ⟨x0,_⟩ h hwf K q =>
 (snd142 _).1 x0 _ (top142 x0 hwf.1) K q)
end
noncomputable section
def ext115:Ext:=[(141,S141),(142,S142)]
theorem ext115Ok:ExtOk Tryz.prog ext115:=⟨⟨ca141,con141⟩,⟨ca142,con142⟩,trivial⟩
noncomputable def b115:Code:=bodyOf Tryz.f115
theorem hb115:Tryz.f115.body=some b115:=by kernel_rfl
def sig115:List AT:=[AT.v (.str)]
def tys115:List Ty:=[.bool]
def kds115:List RK:=[]
def oks115:List AT:=owns sig115
def E115_5 (v4:Int) (x0:ByteArray):Env:=[(3,.a (.osl 0 Option.none)),(4,.a (.val (.int .i64 v4)))]
def L115_5 (v4:Int) (x0:ByteArray):Heap:=[Option.some (Arr.mk .str (g141_0 x0 32) false Option.none Option.none)]
mutual
def R115:Nat→ByteArray→List Dyn→Prop
 | 0,_,_=>False
 | n+1,x0,ds=>(if ((↑(ByteArray.size x0):Int)==0)=true then (ds=[Dyn.mk .bool false]) else (if (decide ((↑(ByteArray.size x0):Int)>40))=true then (ds=[Dyn.mk .bool false]) else ((P141 x0 32)∧(R115_5 n (0) (x0) ds))))
def R115_5:Nat→Int→ByteArray→List Dyn→Prop
 | 0,_,_,_=>False
 | n+1,v4,x0,ds=>(if (decide (v4<(↑(List.length (g141_0 x0 32)):Int)))=true then ((0≤v4)∧(v4<(↑(List.length (g141_0 x0 32)):Int))∧(if (!g142_0 (List.getD (g141_0 x0 32) (Int.toNat v4) ByteArray.empty))=true then (ds=[Dyn.mk .bool false]) else ((InR .i64 (v4+1))∧(R115_5 n (v4+1) (x0) ds)))) else (ds=[Dyn.mk .bool true]))
end
theorem snd115:∀ n,(∀ (x0:ByteArray) ds,R115 n x0 ds→∀ K q,AtV Tryz.prog 115 (PostR kds115 oks115 ds [] [] q K) 27 K q [] [.code b115] (entE 0 0 sig115 (x0,())) (entL sig115 (x0,())))∧(∀ (v4:Int) (x0:ByteArray) ds,R115_5 n v4 x0 ds→∀ K q,AtV Tryz.prog 115 (PostR kds115 oks115 ds [] [] q K) 27 K q [] (cutAt b115 5) (E115_5 v4 x0) (L115_5 v4 x0)):=by
 intro n
 induction n with
 | zero=>exact ⟨fun _ _ h=>by simp only [R115] at h,fun _ _ _ h=>by simp only [R115_5] at h⟩
 | succ n ih =>
 obtain ⟨ih,ih5⟩:=ih
 refine ⟨?_,?_⟩
 ·intro x0 ds h K q
  rw [R115] at h
  by_cases b0:((↑(ByteArray.size x0):Int)==0)=true
  ·rw [if_pos b0] at h
   subst h
   exact AtV.ret Tryz.func115 tabOk ext115Ok mixed false [] tys115 [true,true] (a1 b0 (a1 (rfl:true=true) trivial)) (by kernel_rfl)
  ·rw [if_neg b0] at h
   replace b0:=bf_ b0
   by_cases b1:(decide ((↑(ByteArray.size x0):Int)>40))=true
   ·rw [if_pos b1] at h
    subst h
    exact AtV.ret Tryz.func115 tabOk ext115Ok mixed false [] tys115 [false,true] (a1 b0 (a1 b1 trivial)) (by kernel_rfl)
   ·rw [if_neg b1] at h
    replace b1:=bf_ b1
    obtain ⟨s0,h⟩:=h
    exact AtV.go tabOk ext115Ok mixed false [] [] [3,4] [0] [false,false] (a1 b0 (a1 b1 (a1 s0 trivial))) (ih5 _ _ _ h K q) (by kernel_rfl)
 ·intro v4 x0 ds h K q
  rw [R115_5] at h
  by_cases b0:(decide (v4<(↑(List.length (g141_0 x0 32)):Int)))=true
  ·rw [if_pos b0] at h
   obtain ⟨s0,s1,h⟩:=h
   by_cases b1:(!g142_0 (List.getD (g141_0 x0 32) (Int.toNat v4) ByteArray.empty))=true
   ·rw [if_pos b1] at h
    subst h
    exact AtV.ret Tryz.func115 tabOk ext115Ok mixed false [] tys115 [true,true] (a1 b0 (a1 s0 (a1 s1 (a1 trivial (a1 b1 trivial))))) (by kernel_rfl)
   ·rw [if_neg b1] at h
    replace b1:=bf_ b1
    obtain ⟨s2,h⟩:=h
    exact AtV.go tabOk ext115Ok mixed false [] [] [3,4] [0] [true,false] (a1 b0 (a1 s0 (a1 s1 (a1 trivial (a1 b1 (a1 s2 trivial)))))) (ih5 _ _ _ h K q) (by kernel_rfl)
  ·rw [if_neg b0] at h
   replace b0:=bf_ b0
   subst h
   exact AtV.ret Tryz.func115 tabOk ext115Ok mixed false [] tys115 [false] (a1 b0 trivial) (by kernel_rfl)
def g115_0 (x0:ByteArray):Bool := !(((x0.size:Nat):Int)==0) && !decide (((x0.size:Nat):Int)>40)&&(g141_0 x0 32).all g142_0
def P115 (x0:ByteArray):Prop:=True
theorem top115 (x0:ByteArray):∃ n,R115 n x0 [⟨.bool,g115_0 x0⟩]:=by
 unfold g115_0
 by_cases h0:(((x0.size:Nat):Int)==0)=true
 ·refine ⟨1,?_⟩
  rw [R115,if_pos h0,h0];rfl
 by_cases h1:((x0.size:Nat):Int)>40
 ·refine ⟨1,?_⟩
  rw [R115,if_neg h0,if_pos (decide_eq_true h1),bf_ h0,decide_eq_true h1];rfl
 ·have hl:(g141_0 x0 32).length=x0.data.toList.count 32+1:=by
   show (bss (splitC (32:UInt8) x0.data.toList)).length=_
   unfold bss
   rw [List.length_map,splitC_length]
  have hc:x0.data.toList.count (32:UInt8)≤x0.size:=List.count_le_length
  have hmx:1000≤maxLen:=by decide
  have key:=loop_test (g141_0 x0 32) ByteArray.empty g142_0 [(⟨.bool,false⟩:Dyn)] [⟨.bool,true⟩] (fun n i ds=>R115_5 n i x0 ds) (fun n => ?_) (fun n i hi hok ds hr => ?_) (fun n i hi hok => ?_)
  ·refine ⟨(g141_0 x0 32).length+1+1,?_⟩
   rw [R115,if_neg h0,if_neg (by simpa using h1),bf_ h0,decide_eq_false h1]
   refine ⟨⟨by omega,by omega,by omega⟩,?_⟩
   ·cases h:(g141_0 x0 32).all g142_0 <;> rw [h] at key <;> exact key
  ·rw [R115_5,if_neg (by simp)]
  ·rw [R115_5,if_pos (by simp;omega)]
   simp only [Int.toNat_natCast]
   refine ⟨by omega,by omega,?_⟩
   rw [if_neg (by rw [hok];simp)]
   exact ⟨by rw [i64_iff];omega,hr⟩
  ·rw [R115_5,if_pos (by simp;omega)]
   simp only [Int.toNat_natCast]
   refine ⟨by omega,by omega,?_⟩
   rw [if_pos (by rw [hok];rfl)] <;> trivial
def S115:Am.Spec:={ sig:=sig115,pre:=fun ⟨x0,_⟩=>P115 x0,res:=fun ⟨x0,_⟩=>[⟨.bool,g115_0 x0⟩] }
theorem con115:Contract Tryz.prog 115 S115:=contract_of Tryz.func115 hb115 (bl_ (by kernel_rfl)) (fun ⟨x0,_⟩ h hwf K q =>
 let ⟨n,hn⟩:=top115 x0
 (snd115 n).1 x0 _ hn K q)
end
noncomputable section
def ext84:Ext:=[(63,S63),(30,S30),(115,S115)]
theorem ext84Ok:ExtOk Tryz.prog ext84:=⟨⟨ca63,con63⟩,⟨ca30,con30⟩,⟨ca115,con115⟩,trivial⟩
noncomputable def b84:Code:=bodyOf Tryz.f84
theorem hb84:Tryz.f84.body=some b84:=by kernel_rfl
def sig84:List AT:=[AT.p YA6]
def tys84:List Ty:=[.bool]
def kds84:List RK:=[]
def oks84:List AT:=owns sig84
def P84 (x0:Int×Int×ByteArray×Int×Unit):Prop:=True
def g84_0 (x0:Int×Int×ByteArray×Int×Unit):Bool:=(if (g63_0 x0.1)=true then (if (g30_0 x0.2.1 0 1439)=true then (if (g115_0 x0.2.2.1)=true then g30_0 x0.2.2.2.1 0 65535 else false) else false) else false)
theorem at84 (x0:Int×Int×ByteArray×Int×Unit) (h:P84 x0) (K:Ctx) (q:Nat→Value):AtV Tryz.prog 84 (PostR kds84 oks84 [⟨.bool,g84_0 x0⟩] [] [] q K) 29 K q [] [.code b84] (entE 0 0 sig84 (x0,())) (entL sig84 (x0,())):=by
 unfold P84 at h
 unfold g84_0
 by_cases b0:(g63_0 x0.1)=true
 ·try simp only [if_pos b0] at h ⊢
  by_cases b1:(g30_0 x0.2.1 0 1439)=true
  ·try simp only [if_pos b1] at h ⊢
   by_cases b2:(g115_0 x0.2.2.1)=true
   ·try simp only [if_pos b2] at h ⊢
    exact AtV.ret Tryz.func84 tabOk ext84Ok mixed false [] tys84 [true,true,true] (a1 trivial (a1 b0 (a1 trivial (a1 b1 (a1 trivial (a1 b2 (a1 trivial trivial))))))) (by kernel_rfl)
   ·try simp only [if_neg b2] at h ⊢
    replace b2:=bf_ b2
    exact AtV.ret Tryz.func84 tabOk ext84Ok mixed false [] tys84 [true,true,false] (a1 trivial (a1 b0 (a1 trivial (a1 b1 (a1 trivial (a1 b2 trivial)))))) (by kernel_rfl)
  ·try simp only [if_neg b1] at h ⊢
   replace b1:=bf_ b1
   exact AtV.ret Tryz.func84 tabOk ext84Ok mixed false [] tys84 [true,false,false] (a1 trivial (a1 b0 (a1 trivial (a1 b1 (a1 (rfl:false=false) trivial))))) (by kernel_rfl)
 ·try simp only [if_neg b0] at h ⊢
  replace b0:=bf_ b0
  exact AtV.ret Tryz.func84 tabOk ext84Ok mixed false [] tys84 [false,false,false] (a1 trivial (a1 b0 (a1 (rfl:false=false) (a1 (rfl:false=false) trivial)))) (by kernel_rfl)
def S84:Am.Spec:={ sig:=sig84,pre:=fun ⟨x0,_⟩=>P84 x0,res:=fun ⟨x0,_⟩=>[⟨.bool,g84_0 x0⟩],kds:=kds84 }
theorem con84:Contract Tryz.prog 84 S84:=contract_of Tryz.func84 hb84 (bl_ (by kernel_rfl)) (fun ⟨x0,_⟩ h _ K q=>at84 x0 h K q)
end
noncomputable section
def ext51:Ext:=[(84,S84)]
theorem ext51Ok:ExtOk Tryz.prog ext51:=⟨⟨ca84,con84⟩,trivial⟩
noncomputable def b51:Code:=bodyOf Tryz.f51
theorem hb51:Tryz.f51.body=some b51:=by kernel_rfl
def sig51:List AT:=[AT.v (.sl YA6)]
def tys51:List Ty:=[.bool]
def kds51:List RK:=[]
def oks51:List AT:=owns sig51
def E51_2 (v3:Int) (x0:List TyB2):Env:=[(0,.a (.sl YA6 x0)),(3,.a (.val (.int .i64 v3)))]
def L51_2 (v3:Int) (x0:List TyB2):Heap:=[]
mutual
def R51:Nat→List TyB2→List Dyn→Prop
 | 0,_,_=>False
 | n+1,x0,ds=>(R51_2 n (0) (x0) ds)
def R51_2:Nat→Int→List TyB2→List Dyn→Prop
 | 0,_,_,_=>False
 | n+1,v3,x0,ds=>(if (decide (v3<(x0.length:Int)))=true then ((0≤v3)∧(v3<(x0.length:Int))∧(if (!g84_0 (List.getD x0 (Int.toNat v3) (0,0,ByteArray.empty,0,())))=true then (ds=[Dyn.mk .bool false]) else (if (decide (v3>0))=true then ((InR .i64 (v3 - 1))∧((0≤v3 - 1)∧(v3 - 1<(x0.length:Int))∧(if (decide ((List.getD x0 (Int.toNat (v3 - 1)) (0,0,ByteArray.empty,0,())).1>(List.getD x0 (Int.toNat v3) (0,0,ByteArray.empty,0,())).1))=true then (ds=[Dyn.mk .bool false]) else ((InR .i64 (v3 - 1))∧((0≤v3 - 1)∧(v3 - 1<(x0.length:Int))∧(if ((List.getD x0 (Int.toNat (v3 - 1)) (0,0,ByteArray.empty,0,())).1==(List.getD x0 (Int.toNat v3) (0,0,ByteArray.empty,0,())).1)=true then ((InR .i64 (v3 - 1))∧((0≤v3 - 1)∧(v3 - 1<(x0.length:Int))∧(if (decide ((List.getD x0 (Int.toNat (v3 - 1)) (0,0,ByteArray.empty,0,())).2.1>(List.getD x0 (Int.toNat v3) (0,0,ByteArray.empty,0,())).2.1))=true then (ds=[Dyn.mk .bool false]) else ((InR .i64 (v3+1))∧(R51_2 n (v3+1) (x0) ds))))) else ((InR .i64 (v3+1))∧(R51_2 n (v3+1) (x0) ds)))))))) else ((InR .i64 (v3+1))∧(R51_2 n (v3+1) (x0) ds))))) else (ds=[Dyn.mk .bool (decide ((x0.length:Int)≤40))]))
end
theorem snd51:∀ n,(∀ (x0:List TyB2) ds,R51 n x0 ds→∀ K q,AtV Tryz.prog 51 (PostR kds51 oks51 ds [] [] q K) 61 K q [] [.code b51] (entE 0 0 sig51 (x0,())) (entL sig51 (x0,())))∧(∀ (v3:Int) (x0:List TyB2) ds,R51_2 n v3 x0 ds→∀ K q,AtV Tryz.prog 51 (PostR kds51 oks51 ds [] [] q K) 61 K q [] (cutAt b51 2) (E51_2 v3 x0) (L51_2 v3 x0)):=by
 intro n
 induction n with
 | zero=>exact ⟨fun _ _ h=>by simp only [R51] at h,fun _ _ _ h=>by simp only [R51_2] at h⟩
 | succ n ih =>
 obtain ⟨ih,ih2⟩:=ih
 refine ⟨?_,?_⟩
 ·intro x0 ds h K q
  rw [R51] at h
  exact AtV.go tabOk ext51Ok mixed false [] [] [0,3] [] [] trivial (ih2 _ _ _ h K q) (by kernel_rfl)
 ·intro v3 x0 ds h K q
  rw [R51_2] at h
  by_cases b0:(decide (v3<(x0.length:Int)))=true
  ·rw [if_pos b0] at h
   obtain ⟨s0,s1,h⟩:=h
   by_cases b1:(!g84_0 (List.getD x0 (Int.toNat v3) (0,0,ByteArray.empty,0,())))=true
   ·rw [if_pos b1] at h
    subst h
    exact AtV.ret Tryz.func51 tabOk ext51Ok mixed false [] tys51 [true,true] (a1 b0 (a1 s0 (a1 s1 (a1 trivial (a1 b1 trivial))))) (by kernel_rfl)
   ·rw [if_neg b1] at h
    replace b1:=bf_ b1
    by_cases b2:(decide (v3>0))=true
    ·rw [if_pos b2] at h
     obtain ⟨s2,h⟩:=h
     obtain ⟨s3,s4,h⟩:=h
     by_cases b3:(decide ((List.getD x0 (Int.toNat (v3 - 1)) (0,0,ByteArray.empty,0,())).1>(List.getD x0 (Int.toNat v3) (0,0,ByteArray.empty,0,())).1))=true
     ·rw [if_pos b3] at h
      subst h
      exact AtV.ret Tryz.func51 tabOk ext51Ok mixed false [] tys51 [true,false,true,true,true] (a1 b0 (a1 s0 (a1 s1 (a1 trivial (a1 b1 (a1 b2 (a1 s2 (a1 s3 (a1 s4 (a1 b3 (a1 (rfl:true=true) trivial))))))))))) (by kernel_rfl)
     ·rw [if_neg b3] at h
      replace b3:=bf_ b3
      obtain ⟨s5,h⟩:=h
      obtain ⟨s6,s7,h⟩:=h
      by_cases b4:((List.getD x0 (Int.toNat (v3 - 1)) (0,0,ByteArray.empty,0,())).1==(List.getD x0 (Int.toNat v3) (0,0,ByteArray.empty,0,())).1)=true
      ·rw [if_pos b4] at h
       obtain ⟨s8,h⟩:=h
       obtain ⟨s9,s10,h⟩:=h
       by_cases b5:(decide ((List.getD x0 (Int.toNat (v3 - 1)) (0,0,ByteArray.empty,0,())).2.1>(List.getD x0 (Int.toNat v3) (0,0,ByteArray.empty,0,())).2.1))=true
       ·rw [if_pos b5] at h
        subst h
        exact AtV.ret Tryz.func51 tabOk ext51Ok mixed false [] tys51 [true,false,true,false,true,true] (a1 b0 (a1 s0 (a1 s1 (a1 trivial (a1 b1 (a1 b2 (a1 s2 (a1 s3 (a1 s4 (a1 b3 (a1 s5 (a1 s6 (a1 s7 (a1 b4 (a1 s8 (a1 s9 (a1 s10 (a1 b5 trivial)))))))))))))))))) (by kernel_rfl)
       ·rw [if_neg b5] at h
        replace b5:=bf_ b5
        obtain ⟨s11,h⟩:=h
        exact AtV.go tabOk ext51Ok mixed false [] [] [0,3] [] [true,false,true,false,true,false] (a1 b0 (a1 s0 (a1 s1 (a1 trivial (a1 b1 (a1 b2 (a1 s2 (a1 s3 (a1 s4 (a1 b3 (a1 s5 (a1 s6 (a1 s7 (a1 b4 (a1 s8 (a1 s9 (a1 s10 (a1 b5 (a1 s11 trivial))))))))))))))))))) (ih2 _ _ _ h K q) (by kernel_rfl)
      ·rw [if_neg b4] at h
       replace b4:=bf_ b4
       obtain ⟨s8,h⟩:=h
       exact AtV.go tabOk ext51Ok mixed false [] [] [0,3] [] [true,false,true,false,false,false] (a1 b0 (a1 s0 (a1 s1 (a1 trivial (a1 b1 (a1 b2 (a1 s2 (a1 s3 (a1 s4 (a1 b3 (a1 s5 (a1 s6 (a1 s7 (a1 b4 (a1 (rfl:false=false) (a1 s8 trivial)))))))))))))))) (ih2 _ _ _ h K q) (by kernel_rfl)
    ·rw [if_neg b2] at h
     replace b2:=bf_ b2
     obtain ⟨s2,h⟩:=h
     exact AtV.go tabOk ext51Ok mixed false [] [] [0,3] [] [true,false,false,false] (a1 b0 (a1 s0 (a1 s1 (a1 trivial (a1 b1 (a1 b2 (a1 (rfl:false=false) (a1 s2 trivial)))))))) (ih2 _ _ _ h K q) (by kernel_rfl)
  ·rw [if_neg b0] at h
   replace b0:=bf_ b0
   subst h
   exact AtV.ret Tryz.func51 tabOk ext51Ok mixed false [] tys51 [false] (a1 b0 trivial) (by kernel_rfl)
def bad51 (y x:TyB2):Bool:=if decide (y.1>x.1)=true then true else (if (y.1==x.1)=true then decide (y.2.1>x.2.1) else false)
def ok51 (x0:List TyB2) (i:Nat) (x:TyB2):Bool:=g84_0 x&&(i==0 || !bad51 (x0.getD (i - 1) ((0:Int),(0:Int),ByteArray.empty,(0:Int),())) x)
def g51_0 (x0:List TyB2):Bool:=allI (ok51 x0) 0 x0&&decide ((x0.length:Int)≤40)
def P51 (x0:List TyB2):Prop:=True
theorem step51 (n i:Nat) (x0:List TyB2) (hm:x0.length≤maxLen) (hi:i<x0.length) (ds:List Dyn)
  (h:if ok51 x0 i (x0.getD i ((0:Int),(0:Int),ByteArray.empty,(0:Int),()))=true then R51_2 n ((i:Int)+1) x0 ds else ds=[⟨.bool,false⟩]):R51_2 (n+1) (i:Int) x0 ds:=by
 have hu:=inR_up hm hi
 have hmx:maxLen≤9223372036854775807:=by decide
 rw [R51_2,if_pos (by simp only [decide_eq_true_eq];omega)]
 simp only [Int.toNat_natCast]
 refine ⟨by omega,by omega,?_⟩
 unfold ok51 at h
 by_cases hv:g84_0 (x0.getD i ((0:Int),(0:Int),ByteArray.empty,(0:Int),()))=true
 case neg=>rw [bf_ hv] at h;rw [if_pos (by rw [bf_ hv];rfl)];simpa using h
 rw [if_neg (by rw [hv];simp)]
 rw [hv] at h
 by_cases h0:(i:Int)>0
 case neg =>
  rw [if_neg (by simpa using h0)]
  have hi0:(i==0)=true:=by simp;omega
  rw [hi0] at h
  exact ⟨hu,by simpa using h⟩
 rw [if_pos (by simpa using h0)]
 have hi0:(i==0)=false:=by simp;omega
 have e:((i:Int) - 1).toNat=i - 1:=by omega
 have hd:InR .i64 ((i:Int) - 1):=by rw [i64_iff];omega
 rw [hi0] at h
 simp only [e]
 refine ⟨hd,by omega,by omega,?_⟩
 by_cases c0:(x0.getD (i - 1) ((0:Int),(0:Int),ByteArray.empty,(0:Int),())).1>(x0.getD i ((0:Int),(0:Int),ByteArray.empty,(0:Int),())).1
 ·rw [if_pos (decide_eq_true c0)]
  have:bad51 (x0.getD (i - 1) ((0:Int),(0:Int),ByteArray.empty,(0:Int),())) (x0.getD i ((0:Int),(0:Int),ByteArray.empty,(0:Int),()))=true:=by unfold bad51;rw [if_pos (decide_eq_true c0)]
  rw [this] at h
  simpa using h
 ·rw [if_neg (by simpa using c0)]
  refine ⟨hd,by omega,by omega,?_⟩
  by_cases c1:((x0.getD (i - 1) ((0:Int),(0:Int),ByteArray.empty,(0:Int),())).1==(x0.getD i ((0:Int),(0:Int),ByteArray.empty,(0:Int),())).1)=true
  ·rw [if_pos c1]
   refine ⟨hd,by omega,by omega,?_⟩
   have eb:bad51 (x0.getD (i - 1) ((0:Int),(0:Int),ByteArray.empty,(0:Int),())) (x0.getD i ((0:Int),(0:Int),ByteArray.empty,(0:Int),()))=decide ((x0.getD (i - 1) ((0:Int),(0:Int),ByteArray.empty,(0:Int),())).2.1>(x0.getD i ((0:Int),(0:Int),ByteArray.empty,(0:Int),())).2.1):=by unfold bad51;rw [if_neg (by simpa using c0),if_pos c1]
   rw [eb] at h
   by_cases c2:(x0.getD (i - 1) ((0:Int),(0:Int),ByteArray.empty,(0:Int),())).2.1>(x0.getD i ((0:Int),(0:Int),ByteArray.empty,(0:Int),())).2.1
   ·rw [if_pos (decide_eq_true c2)]
    rw [decide_eq_true c2] at h
    simpa using h
   ·rw [if_neg (by simpa using c2)]
    rw [decide_eq_false c2] at h
    exact ⟨hu,by simpa using h⟩
  ·rw [if_neg c1]
   have eb:bad51 (x0.getD (i - 1) ((0:Int),(0:Int),ByteArray.empty,(0:Int),())) (x0.getD i ((0:Int),(0:Int),ByteArray.empty,(0:Int),()))=false:=by unfold bad51;rw [if_neg (by simpa using c0),if_neg c1]
   rw [eb] at h
   exact ⟨hu,by simpa using h⟩
theorem top51 (x0:List TyB2) (hw:x0.length≤maxLen):R51 (x0.length+1+1) x0 [⟨.bool,g51_0 x0⟩]:=by
 rw [R51]
 have key:=loop_testI x0 ((0:Int),(0:Int),ByteArray.empty,(0:Int),()) (ok51 x0) [(⟨.bool,false⟩:Dyn)] [⟨.bool,decide ((x0.length:Int)≤40)⟩] (fun n i ds=>R51_2 n i x0 ds) (fun n => ?_) (fun n i hi hok ds hr => ?_) (fun n i hi hok => ?_)
 ·unfold g51_0
  cases h:allI (ok51 x0) 0 x0 with
  | true=>rw [if_pos h] at key;simpa using key
  | false=>rw [if_neg (by rw [h];simp)] at key;simpa using key
 ·rw [R51_2,if_neg (by simp)]
 ·exact step51 n i x0 hw hi ds (by rw [if_pos hok];exact hr)
 ·exact step51 n i x0 hw hi _ (by rw [if_neg (by rw [hok];simp)])
def S51:Am.Spec:={ sig:=sig51,pre:=fun ⟨x0,_⟩=>P51 x0,res:=fun ⟨x0,_⟩=>[⟨.bool,g51_0 x0⟩] }
theorem con51:Contract Tryz.prog 51 S51:=contract_of Tryz.func51 hb51 (bl_ (by kernel_rfl)) (fun ⟨x0,_⟩ h hwf K q =>
 (snd51 _).1 x0 _ (top51 x0 hwf.1.1) K q)
end
noncomputable section
def ext19:Ext:=[(24,S24),(49,S49),(50,S50),(29,S29),(38,S38),(39,S39),(26,S26),(42,S42),(51,S51)]
theorem ext19Ok:ExtOk Tryz.prog ext19:=⟨⟨ca24,con24⟩,⟨ca49,con49⟩,⟨ca50,con50⟩,⟨ca29,con29⟩,⟨ca38,con38⟩,⟨ca39,con39⟩,⟨ca26,con26⟩,⟨ca42,con42⟩,⟨ca51,con51⟩,trivial⟩
noncomputable def b19:Code:=bodyOf Tryz.f19
theorem hb19:Tryz.f19.body=some b19:=by kernel_rfl
def sig19:List AT:=[AT.p YA0]
def tys19:List Ty:=[.bool]
def kds19:List RK:=[]
def oks19:List AT:=owns sig19
def P19 (x0:TyA0):Prop:=True
def g19_0 (x0:TyA0):Bool:=(if (!g24_0 x0.1)=true then false else (if (!g49_0 x0.2.1)=true then false else (if (!g50_0 x0.2.2.1)=true then false else (if (!g29_0 x0.2.2.2.1)=true then false else (if (!g38_0 x0.2.2.2.2.1)=true then false else (if (!g39_0 x0.2.2.2.2.2.1)=true then false else (if (g26_0 x0.2.2.2.2.2.2.1 x0.2.2.2.2.2.2.2.1 x0.2.2.2.2.2.2.2.2.1 != 0)=true then false else (if (g42_0 x0.2.2.2.2.2.2.2.2.2.1 x0.2.2.2.2.2.2.2.2.2.2.1==0)=true then g51_0 x0.2.2.2.2.2.2.2.2.2.2.2.1 else false))))))))
theorem at19 (x0:TyA0) (h:P19 x0) (K:Ctx) (q:Nat→Value):AtV Tryz.prog 19 (PostR kds19 oks19 [⟨.bool,g19_0 x0⟩] [] [] q K) 76 K q [] [.code b19] (entE 0 0 sig19 (x0,())) (entL sig19 (x0,())):=by
 unfold P19 at h
 unfold g19_0
 by_cases b0:(!g24_0 x0.1)=true
 ·try simp only [if_pos b0] at h ⊢
  exact AtV.ret Tryz.func19 tabOk ext19Ok mixed false [] tys19 [true,true,true,true] (a1 trivial (a1 b0 (a1 (rfl:true=true) (a1 (rfl:true=true) (a1 (rfl:true=true) trivial))))) (by kernel_rfl)
 ·try simp only [if_neg b0] at h ⊢
  replace b0:=bf_ b0
  by_cases b1:(!g49_0 x0.2.1)=true
  ·try simp only [if_pos b1] at h ⊢
   exact AtV.ret Tryz.func19 tabOk ext19Ok mixed false [] tys19 [false,true,true,true] (a1 trivial (a1 b0 (a1 trivial (a1 b1 (a1 (rfl:true=true) (a1 (rfl:true=true) trivial)))))) (by kernel_rfl)
  ·try simp only [if_neg b1] at h ⊢
   replace b1:=bf_ b1
   by_cases b2:(!g50_0 x0.2.2.1)=true
   ·try simp only [if_pos b2] at h ⊢
    exact AtV.ret Tryz.func19 tabOk ext19Ok mixed false [] tys19 [false,false,true,true] (a1 trivial (a1 b0 (a1 trivial (a1 b1 (a1 trivial (a1 b2 (a1 (rfl:true=true) trivial))))))) (by kernel_rfl)
   ·try simp only [if_neg b2] at h ⊢
    replace b2:=bf_ b2
    by_cases b3:(!g29_0 x0.2.2.2.1)=true
    ·try simp only [if_pos b3] at h ⊢
     exact AtV.ret Tryz.func19 tabOk ext19Ok mixed false [] tys19 [false,false,false,true] (a1 trivial (a1 b0 (a1 trivial (a1 b1 (a1 trivial (a1 b2 (a1 trivial (a1 b3 trivial)))))))) (by kernel_rfl)
    ·try simp only [if_neg b3] at h ⊢
     replace b3:=bf_ b3
     by_cases b4:(!g38_0 x0.2.2.2.2.1)=true
     ·try simp only [if_pos b4] at h ⊢
      exact AtV.ret Tryz.func19 tabOk ext19Ok mixed false [] tys19 [false,false,false,false,true,true,true] (a1 trivial (a1 b0 (a1 trivial (a1 b1 (a1 trivial (a1 b2 (a1 trivial (a1 b3 (a1 trivial (a1 b4 (a1 (rfl:true=true) (a1 (rfl:true=true) trivial)))))))))))) (by kernel_rfl)
     ·try simp only [if_neg b4] at h ⊢
      replace b4:=bf_ b4
      by_cases b5:(!g39_0 x0.2.2.2.2.2.1)=true
      ·try simp only [if_pos b5] at h ⊢
       exact AtV.ret Tryz.func19 tabOk ext19Ok mixed false [] tys19 [false,false,false,false,false,true,true] (a1 trivial (a1 b0 (a1 trivial (a1 b1 (a1 trivial (a1 b2 (a1 trivial (a1 b3 (a1 trivial (a1 b4 (a1 trivial (a1 b5 (a1 (rfl:true=true) trivial))))))))))))) (by kernel_rfl)
      ·try simp only [if_neg b5] at h ⊢
       replace b5:=bf_ b5
       by_cases b6:(g26_0 x0.2.2.2.2.2.2.1 x0.2.2.2.2.2.2.2.1 x0.2.2.2.2.2.2.2.2.1 != 0)=true
       ·try simp only [if_pos b6] at h ⊢
        exact AtV.ret Tryz.func19 tabOk ext19Ok mixed false [] tys19 [false,false,false,false,false,false,true] (a1 trivial (a1 b0 (a1 trivial (a1 b1 (a1 trivial (a1 b2 (a1 trivial (a1 b3 (a1 trivial (a1 b4 (a1 trivial (a1 b5 (a1 trivial (a1 b6 trivial)))))))))))))) (by kernel_rfl)
       ·try simp only [if_neg b6] at h ⊢
        replace b6:=bf_ b6
        by_cases b7:(g42_0 x0.2.2.2.2.2.2.2.2.2.1 x0.2.2.2.2.2.2.2.2.2.2.1==0)=true
        ·try simp only [if_pos b7] at h ⊢
         exact AtV.ret Tryz.func19 tabOk ext19Ok mixed false [] tys19 [false,false,false,false,false,false,false,true] (a1 trivial (a1 b0 (a1 trivial (a1 b1 (a1 trivial (a1 b2 (a1 trivial (a1 b3 (a1 trivial (a1 b4 (a1 trivial (a1 b5 (a1 trivial (a1 b6 (a1 trivial (a1 b7 (a1 trivial trivial))))))))))))))))) (by kernel_rfl)
        ·try simp only [if_neg b7] at h ⊢
         replace b7:=bf_ b7
         exact AtV.ret Tryz.func19 tabOk ext19Ok mixed false [] tys19 [false,false,false,false,false,false,false,false] (a1 trivial (a1 b0 (a1 trivial (a1 b1 (a1 trivial (a1 b2 (a1 trivial (a1 b3 (a1 trivial (a1 b4 (a1 trivial (a1 b5 (a1 trivial (a1 b6 (a1 trivial (a1 b7 trivial)))))))))))))))) (by kernel_rfl)
def S19:Am.Spec:={ sig:=sig19,pre:=fun ⟨x0,_⟩=>P19 x0,res:=fun ⟨x0,_⟩=>[⟨.bool,g19_0 x0⟩],kds:=kds19 }
theorem con19:Contract Tryz.prog 19 S19:=contract_of Tryz.func19 hb19 (bl_ (by kernel_rfl)) (fun ⟨x0,_⟩ h _ K q=>at19 x0 h K q)
end
noncomputable section
def ext5:Ext:=[(19,S19)]
theorem ext5Ok:ExtOk Tryz.prog ext5:=⟨⟨ca19,con19⟩,trivial⟩
noncomputable def b5:Code:=bodyOf Tryz.f5
theorem hb5:Tryz.f5.body=some b5:=by kernel_rfl
def sig5:List AT:=[AT.v YA0]
def tys5:List Ty:=[.bool]
def kds5:List RK:=[]
def oks5:List AT:=owns sig5
def P5 (x0:TyA0):Prop:=True
def g5_0 (x0:TyA0):Bool:=g19_0 x0
theorem at5 (x0:TyA0) (h:P5 x0) (K:Ctx) (q:Nat→Value):AtV Tryz.prog 5 (PostR kds5 oks5 [⟨.bool,g5_0 x0⟩] [] [] q K) 4 K q [] [.code b5] (entE 0 0 sig5 (x0,())) (entL sig5 (x0,())):=by
 unfold P5 at h
 unfold g5_0
 exact AtV.ret Tryz.func5 tabOk ext5Ok mixed false [] tys5 [] (a1 trivial trivial) (by kernel_rfl)
def S5:Am.Spec:={ sig:=sig5,pre:=fun ⟨x0,_⟩=>P5 x0,res:=fun ⟨x0,_⟩=>[⟨.bool,g5_0 x0⟩],kds:=kds5 }
theorem con5:Contract Tryz.prog 5 S5:=contract_of Tryz.func5 hb5 (bl_ (by kernel_rfl)) (fun ⟨x0,_⟩ h _ K q=>at5 x0 h K q)
end
noncomputable section
def ext116:Ext:=[]
theorem ext116Ok:ExtOk Tryz.prog ext116:=trivial
noncomputable def b116:Code:=bodyOf Tryz.f116
theorem hb116:Tryz.f116.body=some b116:=by kernel_rfl
def sig116:List AT:=[AT.v (.int .i64),AT.v (.int .i64),AT.v (.int .i64)]
def tys116:List Ty:=[.bool]
def kds116:List RK:=[]
def oks116:List AT:=owns sig116
def P116 (x0:Int) (x1:Int) (x2:Int):Prop:=True
def g116_0 (x0:Int) (x1:Int) (x2:Int):Bool:=(if (decide (x0≥x1))=true then decide (x0≤x2) else false)
theorem at116 (x0:Int) (x1:Int) (x2:Int) (h:P116 x0 x1 x2) (K:Ctx) (q:Nat→Value):AtV Tryz.prog 116 (PostR kds116 oks116 [⟨.bool,g116_0 x0 x1 x2⟩] [] [] q K) 15 K q [] [.code b116] (entE 0 0 sig116 (x0,x1,x2,())) (entL sig116 (x0,x1,x2,())):=by
 unfold P116 at h
 unfold g116_0
 by_cases b0:(decide (x0≥x1))=true
 ·try simp only [if_pos b0] at h ⊢
  exact AtV.ret Tryz.func116 tabOk ext116Ok mixed false [] tys116 [true] (a1 b0 trivial) (by kernel_rfl)
 ·try simp only [if_neg b0] at h ⊢
  replace b0:=bf_ b0
  exact AtV.ret Tryz.func116 tabOk ext116Ok mixed false [] tys116 [false] (a1 b0 trivial) (by kernel_rfl)
def S116:Am.Spec:={ sig:=sig116,pre:=fun ⟨x0,x1,x2,_⟩=>P116 x0 x1 x2,res:=fun ⟨x0,x1,x2,_⟩=>[⟨.bool,g116_0 x0 x1 x2⟩],kds:=kds116 }
theorem con116:Contract Tryz.prog 116 S116:=contract_of Tryz.func116 hb116 (bl_ (by kernel_rfl)) (fun ⟨x0,x1,x2,_⟩ h _ K q=>at116 x0 x1 x2 h K q)
end
noncomputable section
def ext96:Ext:=[]
theorem ext96Ok:ExtOk Tryz.prog ext96:=trivial
noncomputable def b96:Code:=bodyOf Tryz.f96
theorem hb96:Tryz.f96.body=some b96:=by kernel_rfl
def sig96:List AT:=[AT.v YA2]
def tys96:List Ty:=[.int .i64]
def kds96:List RK:=[]
def oks96:List AT:=owns sig96
def E96_3 (v3:Int) (v9:Int) (x0:List TyB4×Int×Int×Unit):Env:=[(3,.a (.val (.int .i64 v3))),(7,.a (.sl YA11 x0.1)),(8,.a (.val (.int .i64 (x0.1.length:Int)))),(9,.a (.val (.int .i64 v9)))]
def L96_3 (v3:Int) (v9:Int) (x0:List TyB4×Int×Int×Unit):Heap:=[]
mutual
def R96:Nat→List TyB4×Int×Int×Unit→List Dyn→Prop
 | 0,_,_=>False
 | n+1,x0,ds=>(R96_3 n (0) (0) (x0) ds)
def R96_3:Nat→Int→Int→List TyB4×Int×Int×Unit→List Dyn→Prop
 | 0,_,_,_,_=>False
 | n+1,v3,v9,x0,ds=>(if (decide (v9<(x0.1.length:Int)))=true then ((0≤v9)∧(v9<(x0.1.length:Int))∧((InR .i64 (v3+(List.getD x0.1 (Int.toNat v9) (0,0,())).1))∧((InR .i64 (v9+1))∧(R96_3 n (v3+(List.getD x0.1 (Int.toNat v9) (0,0,())).1) (v9+1) (x0) ds)))) else (ds=[Dyn.mk (.int .i64) v3]))
end
theorem snd96:∀ n,(∀ (x0:List TyB4×Int×Int×Unit) ds,R96 n x0 ds→∀ K q,AtV Tryz.prog 96 (PostR kds96 oks96 ds [] [] q K) 19 K q [] [.code b96] (entE 0 0 sig96 (x0,())) (entL sig96 (x0,())))∧(∀ (v3:Int) (v9:Int) (x0:List TyB4×Int×Int×Unit) ds,R96_3 n v3 v9 x0 ds→∀ K q,AtV Tryz.prog 96 (PostR kds96 oks96 ds [] [] q K) 19 K q [] (cutAt b96 3) (E96_3 v3 v9 x0) (L96_3 v3 v9 x0)):=by
 intro n
 induction n with
 | zero=>exact ⟨fun _ _ h=>by simp only [R96] at h,fun _ _ _ _ h=>by simp only [R96_3] at h⟩
 | succ n ih =>
 obtain ⟨ih,ih3⟩:=ih
 refine ⟨?_,?_⟩
 ·intro x0 ds h K q
  rw [R96] at h
  exact AtV.go tabOk ext96Ok mixed false [] [] [3,7,8,9] [] [] trivial (ih3 _ _ _ _ h K q) (by kernel_rfl)
 ·intro v3 v9 x0 ds h K q
  rw [R96_3] at h
  by_cases b0:(decide (v9<(x0.1.length:Int)))=true
  ·rw [if_pos b0] at h
   obtain ⟨s0,s1,h⟩:=h
   obtain ⟨s2,h⟩:=h
   obtain ⟨s3,h⟩:=h
   exact AtV.go tabOk ext96Ok mixed false [] [] [3,7,8,9] [] [true] (a1 b0 (a1 s0 (a1 s1 (a1 s2 (a1 s3 trivial))))) (ih3 _ _ _ _ h K q) (by kernel_rfl)
  ·rw [if_neg b0] at h
   replace b0:=bf_ b0
   subst h
   exact AtV.ret Tryz.func96 tabOk ext96Ok mixed false [] tys96 [false] (a1 b0 trivial) (by kernel_rfl)
def sum96 (xs:List TyB4):Int:=xs.foldr (fun x n=>x.1+n) 0
def g96_0 (x0:List TyB4×Int×Int×Unit):Int:=sum96 x0.1
def P96 (x0:List TyB4×Int×Int×Unit):Prop:=x0.1.length≤1000000∧∀ x∈x0.1,0≤x.1∧x.1≤1000000000
theorem run96 (x0:List TyB4×Int×Int×Unit) (hl:x0.1.length≤1000000) (hx:∀ x∈x0.1,0≤x.1∧x.1≤1000000000):∀ (k i:Nat) (v:Int),i+k=x0.1.length→0≤v→v≤1000000000*(i:Int) →
  R96_3 (k+1) v (i:Int) x0 [⟨.int .i64,v+sum96 (x0.1.drop i)⟩]:=by
 intro k
 induction k with
 | zero =>
  intro i v hi h0 h1
  rw [R96_3,if_neg (by simp only [decide_eq_true_eq];omega),drop_end _ _ (by omega)]
  simp [sum96]
 | succ k ih =>
  intro i v hi h0 h1
  have hlt:i<x0.1.length:=by omega
  have hm:=hx _ (mem_getD x0.1 i ((0:Int),(0:Int),()) hlt)
  have h:=ih (i+1) (v+(x0.1.getD i ((0:Int),(0:Int),())).1) (by omega) (by omega) (by omega)
  rw [R96_3,if_pos (by simp only [decide_eq_true_eq];omega)]
  simp only [Int.toNat_natCast]
  refine ⟨by omega,by omega,by rw [i64_iff];omega,by rw [i64_iff];omega,?_⟩
  rw [drop_get x0.1 i ((0:Int),(0:Int),()) hlt]
  have e:∀ (y:Int×Int×Unit) l,v+sum96 (y :: l)=v+y.1+sum96 l:=fun y l=>by
   show v+(y.1+sum96 l)=_;omega
  rw [e]
  exact h
theorem top96 (x0:List TyB4×Int×Int×Unit) (h:P96 x0):R96 (x0.1.length+1+1) x0 [⟨.int .i64,g96_0 x0⟩]:=by
 rw [R96]
 have:=run96 x0 h.1 h.2 x0.1.length 0 0 (by omega) (by omega) (by omega)
 simpa [g96_0] using this
def S96:Am.Spec:={ sig:=sig96,pre:=fun ⟨x0,_⟩=>P96 x0,res:=fun ⟨x0,_⟩=>[⟨.int .i64,g96_0 x0⟩] }
theorem con96:Contract Tryz.prog 96 S96:=contract_of Tryz.func96 hb96 (bl_ (by kernel_rfl)) (fun ⟨x0,_⟩ h hwf K q =>
 (snd96 _).1 x0 _ (top96 x0 h) K q)
theorem sum96_le (xs:List TyB4) (h:∀ x∈xs,0≤x.1∧x.1≤3000000):0≤sum96 xs∧sum96 xs≤3000000*(xs.length:Int):=by
 induction xs with
 | nil=>exact ⟨Int.le_refl _,Int.le_refl _⟩
 | cons x r ih =>
  obtain ⟨i1,i2⟩:=ih fun y hy=>h y (List.mem_cons_of_mem _ hy)
  obtain ⟨x1,x2⟩:=h x (List.mem_cons_self ..)
  show 0≤x.1+sum96 r∧x.1+sum96 r≤_
  simp only [List.length_cons]
  omega
end
noncomputable section
def ext85:Ext:=[(116,S116),(96,S96)]
theorem ext85Ok:ExtOk Tryz.prog ext85:=⟨⟨ca116,con116⟩,⟨ca96,con96⟩,trivial⟩
noncomputable def b85:Code:=bodyOf Tryz.f85
theorem hb85:Tryz.f85.body=some b85:=by kernel_rfl
def sig85:List AT:=[AT.v YA2]
def tys85:List Ty:=[.bool]
def kds85:List RK:=[]
def oks85:List AT:=owns sig85
def E85_4 (v18:Int) (x0:List TyB4×Int×Int×Unit):Env:=[(1,.a (.optr 0 0 [])),(16,.a (.sl YA11 x0.1)),(17,.a (.val (.int .i64 (x0.1.length:Int)))),(18,.a (.val (.int .i64 v18)))]
def L85_4 (v18:Int) (x0:List TyB4×Int×Int×Unit):Heap:=[Option.some (Arr.mk YA2 [x0] true Option.none (Option.some false))]
mutual
def R85:Nat→List TyB4×Int×Int×Unit→List Dyn→Prop
 | 0,_,_=>False
 | n+1,x0,ds=>(if (decide ((x0.1.length:Int)<1))=true then (ds=[Dyn.mk .bool false]) else (if (decide ((x0.1.length:Int)>12))=true then (ds=[Dyn.mk .bool false]) else (R85_4 n (0) (x0) ds)))
def R85_4:Nat→Int→List TyB4×Int×Int×Unit→List Dyn→Prop
 | 0,_,_,_=>False
 | n+1,v18,x0,ds=>(if (decide (v18<(x0.1.length:Int)))=true then ((0≤v18)∧(v18<(x0.1.length:Int))∧(if (!g116_0 (List.getD x0.1 (Int.toNat v18) (0,0,())).1 1 3000000)=true then (ds=[Dyn.mk .bool false]) else (if (!g116_0 (List.getD x0.1 (Int.toNat v18) (0,0,())).2.1 0 900)=true then (ds=[Dyn.mk .bool false]) else ((InR .i64 (v18+1))∧(R85_4 n (v18+1) (x0) ds))))) else ((P96 x0)∧(if (decide (g96_0 x0≤3000000))=true then ((P96 x0)∧(if (g116_0 x0.2.1 0 (g96_0 x0))=true then ((P96 x0)∧(ds=[Dyn.mk .bool (g116_0 x0.2.2.1 x0.2.1 (g96_0 x0))])) else (ds=[Dyn.mk .bool false]))) else (ds=[Dyn.mk .bool false]))))
end
theorem snd85:∀ n,(∀ (x0:List TyB4×Int×Int×Unit) ds,R85 n x0 ds→∀ K q,AtV Tryz.prog 85 (PostR kds85 oks85 ds [] [] q K) 52 K q [] [.code b85] (entE 0 0 sig85 (x0,())) (entL sig85 (x0,())))∧(∀ (v18:Int) (x0:List TyB4×Int×Int×Unit) ds,R85_4 n v18 x0 ds→∀ K q,AtV Tryz.prog 85 (PostR kds85 oks85 ds [] [] q K) 52 K q [] (cutAt b85 4) (E85_4 v18 x0) (L85_4 v18 x0)):=by
 intro n
 induction n with
 | zero=>exact ⟨fun _ _ h=>by simp only [R85] at h,fun _ _ _ h=>by simp only [R85_4] at h⟩
 | succ n ih =>
 obtain ⟨ih,ih4⟩:=ih
 refine ⟨?_,?_⟩
 ·intro x0 ds h K q
  rw [R85] at h
  by_cases b0:(decide ((x0.1.length:Int)<1))=true
  ·rw [if_pos b0] at h
   subst h
   exact AtV.ret Tryz.func85 tabOk ext85Ok mixed false [] tys85 [true,true] (a1 b0 (a1 (rfl:true=true) trivial)) (by kernel_rfl)
  ·rw [if_neg b0] at h
   replace b0:=bf_ b0
   by_cases b1:(decide ((x0.1.length:Int)>12))=true
   ·rw [if_pos b1] at h
    subst h
    exact AtV.ret Tryz.func85 tabOk ext85Ok mixed false [] tys85 [false,true] (a1 b0 (a1 b1 trivial)) (by kernel_rfl)
   ·rw [if_neg b1] at h
    replace b1:=bf_ b1
    exact AtV.go tabOk ext85Ok mixed false [] [] [1,16,17,18] [0] [false,false] (a1 b0 (a1 b1 trivial)) (ih4 _ _ _ h K q) (by kernel_rfl)
 ·intro v18 x0 ds h K q
  rw [R85_4] at h
  by_cases b0:(decide (v18<(x0.1.length:Int)))=true
  ·rw [if_pos b0] at h
   obtain ⟨s0,s1,h⟩:=h
   by_cases b1:(!g116_0 (List.getD x0.1 (Int.toNat v18) (0,0,())).1 1 3000000)=true
   ·rw [if_pos b1] at h
    subst h
    exact AtV.ret Tryz.func85 tabOk ext85Ok mixed false [] tys85 [true,true,true] (a1 b0 (a1 s0 (a1 s1 (a1 trivial (a1 b1 (a1 (rfl:true=true) trivial)))))) (by kernel_rfl)
   ·rw [if_neg b1] at h
    replace b1:=bf_ b1
    by_cases b2:(!g116_0 (List.getD x0.1 (Int.toNat v18) (0,0,())).2.1 0 900)=true
    ·rw [if_pos b2] at h
     subst h
     exact AtV.ret Tryz.func85 tabOk ext85Ok mixed false [] tys85 [true,false,true] (a1 b0 (a1 s0 (a1 s1 (a1 trivial (a1 b1 (a1 trivial (a1 b2 trivial))))))) (by kernel_rfl)
    ·rw [if_neg b2] at h
     replace b2:=bf_ b2
     obtain ⟨s2,h⟩:=h
     exact AtV.go tabOk ext85Ok mixed false [] [] [1,16,17,18] [0] [true,false,false] (a1 b0 (a1 s0 (a1 s1 (a1 trivial (a1 b1 (a1 trivial (a1 b2 (a1 s2 trivial)))))))) (ih4 _ _ _ h K q) (by kernel_rfl)
  ·rw [if_neg b0] at h
   replace b0:=bf_ b0
   obtain ⟨s0,h⟩:=h
   by_cases b1:(decide (g96_0 x0≤3000000))=true
   ·rw [if_pos b1] at h
    obtain ⟨s1,h⟩:=h
    by_cases b2:(g116_0 x0.2.1 0 (g96_0 x0))=true
    ·rw [if_pos b2] at h
     obtain ⟨s2,h⟩:=h
     subst h
     exact AtV.ret Tryz.func85 tabOk ext85Ok mixed false [] tys85 [false,true,true] (a1 b0 (a1 s0 (a1 b1 (a1 s1 (a1 trivial (a1 b2 (a1 s2 (a1 trivial trivial)))))))) (by kernel_rfl)
    ·rw [if_neg b2] at h
     replace b2:=bf_ b2
     subst h
     exact AtV.ret Tryz.func85 tabOk ext85Ok mixed false [] tys85 [false,true,false] (a1 b0 (a1 s0 (a1 b1 (a1 s1 (a1 trivial (a1 b2 trivial)))))) (by kernel_rfl)
   ·rw [if_neg b1] at h
    replace b1:=bf_ b1
    subst h
    exact AtV.ret Tryz.func85 tabOk ext85Ok mixed false [] tys85 [false,false,false] (a1 b0 (a1 s0 (a1 b1 (a1 (rfl:false=false) trivial)))) (by kernel_rfl)
def ok85 (x:TyB4):Bool:=g116_0 x.1 1 3000000&&g116_0 x.2.1 0 900
def fine85 (x0:(List TyB4×Int×Int×Unit)):Bool:=if decide (g96_0 x0≤3000000)=true then (if g116_0 x0.2.1 0 (g96_0 x0)=true then g116_0 x0.2.2.1 x0.2.1 (g96_0 x0) else false) else false
def g85_0 (x0:(List TyB4×Int×Int×Unit)):Bool:=x0.1.all ok85&&(decide (1≤x0.1.length)&&decide (x0.1.length≤12))&&fine85 x0
def P85 (x0:(List TyB4×Int×Int×Unit)):Prop:=True
theorem in85 {x a b:Int}:g116_0 x a b=true↔a≤x∧x≤b:=by
 unfold g116_0
 by_cases c1:x≥a
 ·by_cases c2:x≤b
  ·simp [c1,c2]
  ·simp [c1,c2]
 ·have:¬ a≤x:=c1
  simp [c1,this]
theorem lenp85 {x0:(List TyB4×Int×Int×Unit)} (h:x0.1.all ok85=true) (hl:x0.1.length≤12):P96 x0∧0≤g96_0 x0∧g96_0 x0≤36000000:=by
 have hx:∀ x∈x0.1,0≤x.1∧x.1≤3000000:=fun x hx=>by
  have:=List.all_eq_true.1 h x hx
  unfold ok85 at this
  rw [Bool.and_eq_true] at this
  have:=in85.1 this.1
  omega
 obtain ⟨s1,s2⟩:=sum96_le x0.1 hx
 refine ⟨⟨by omega,fun x h=>by have:=hx x h;omega⟩,s1,?_⟩
 show sum96 x0.1≤_
 omega
theorem run85 (x0:(List TyB4×Int×Int×Unit)) (hm:x0.1.length≤maxLen) (yes:List Dyn) (hend:∀ n,x0.1.all ok85=true→R85_4 (n+1) (x0.1.length:Int) x0 yes):∀ (k i:Nat) (B:Bool),i+k=x0.1.length→(x0.1.drop i).all ok85=B→(∀ j,j<i→ok85 (x0.1.getD j ((0:Int),(0:Int),()))=true) →
  R85_4 (k+1) (i:Int) x0 (if B=true then yes else [⟨.bool,false⟩]):=by
 intro k
 induction k with
 | zero =>
  intro i B hi hB hp
  have:i=x0.1.length:=by omega
  subst this
  rw [drop_end _ _ (by omega)] at hB
  subst hB
  refine hend 0 (List.all_eq_true.2 fun x hx => ?_)
  obtain ⟨j,hj,rfl⟩:=List.getElem_of_mem hx
  have:=hp j (by omega)
  rwa [getD_lt _ _ _ hj] at this
 | succ k ih =>
  intro i B hi hB hp
  have hlt:i<x0.1.length:=by omega
  have hu:=inR_up hm hlt
  rw [R85_4,if_pos (by simp only [decide_eq_true_eq];omega)]
  rw [drop_get x0.1 i ((0:Int),(0:Int),()) hlt,List.all_cons] at hB
  simp only [Int.toNat_natCast]
  refine ⟨by omega,by omega,?_⟩
  by_cases h1:ok85 (x0.1.getD i ((0:Int),(0:Int),()))=true
  case neg =>
   have h1:=bf_ h1
   rw [h1,Bool.false_and] at hB
   subst hB
   by_cases c1:g116_0 (x0.1.getD i ((0:Int),(0:Int),())).1 1 3000000=true
   ·rw [if_neg (by rw [c1];simp)]
    have c2:g116_0 (x0.1.getD i ((0:Int),(0:Int),())).2.1 0 900=false:=by
     unfold ok85 at h1;rw [c1] at h1;simpa using h1
    rw [if_pos (by rw [c2];rfl)] <;> rfl
   ·rw [if_pos (by rw [bf_ c1];rfl)] <;> rfl
  case pos =>
   have hb:=h1
   rw [h1,Bool.true_and] at hB
   unfold ok85 at hb
   rw [Bool.and_eq_true] at hb
   rw [if_neg (by rw [hb.1];simp)]
   have e1:(((i+1:Nat)):Int)=(i:Int)+1:=by omega
   have hnext:=ih (i+1) B (by omega) hB (fun j hj=>by
    rcases Nat.lt_or_ge j i with h | h
    ·exact hp j h
    ·have:j=i:=by omega
     subst this;exact h1)
   rw [e1] at hnext
   rw [if_neg (by rw [hb.2];simp)]
   exact ⟨hu,hnext⟩
theorem end85 (x0:(List TyB4×Int×Int×Unit)) (d1:1≤x0.1.length) (d2:x0.1.length≤12) (n:Nat) (h:x0.1.all ok85=true):R85_4 (n+1) (x0.1.length:Int) x0 [⟨.bool,(decide (1≤x0.1.length)&&decide (x0.1.length≤12))&&fine85 x0⟩]:=by
 have hp:=(lenp85 h d2).1
 rw [R85_4,if_neg (by simp),decide_eq_true d1,decide_eq_true d2]
 refine ⟨hp,?_⟩
 unfold fine85
 split
 ·refine ⟨hp,?_⟩
  split
  ·exact ⟨hp,rfl⟩
  ·rfl
 ·rfl
theorem top85 (x0:(List TyB4×Int×Int×Unit)) (hm:x0.1.length≤maxLen):∃ n,R85 n x0 [⟨.bool,g85_0 x0⟩]:=by
 refine ⟨x0.1.length+1+1,?_⟩
 rw [R85]
 unfold g85_0
 by_cases c1:(x0.1.length:Int)<1
 ·rw [if_pos (decide_eq_true c1)]
  have:¬ 1≤x0.1.length:=by omega
  rw [decide_eq_false this,Bool.false_and,Bool.and_false,Bool.false_and]
 rw [if_neg (by simpa using c1)]
 by_cases c2:(x0.1.length:Int)>12
 ·rw [if_pos (decide_eq_true c2)]
  have:¬ x0.1.length≤12:=by omega
  rw [decide_eq_false this,Bool.and_false,Bool.and_false,Bool.false_and]
 rw [if_neg (by simpa using c2)]
 have key:=run85 x0 hm _ (end85 x0 (by omega) (by omega)) x0.1.length 0 _ (by omega) rfl (fun j hj=>by omega)
 rw [List.drop_zero] at key
 cases h:x0.1.all ok85 with
 | true=>rw [if_pos h] at key;rw [Bool.true_and];exact key
 | false=>rw [if_neg (by rw [h];simp)] at key;exact key
def S85:Am.Spec:={ sig:=sig85,pre:=fun ⟨x0,_⟩=>P85 x0,res:=fun ⟨x0,_⟩=>[⟨.bool,g85_0 x0⟩] }
theorem con85:Contract Tryz.prog 85 S85:=contract_of Tryz.func85 hb85 (bl_ (by kernel_rfl)) (fun ⟨x0,_⟩ h hwf K q =>
 let ⟨n,hn⟩:=top85 x0 hwf.1.1.1
 (snd85 n).1 x0 _ hn K q)
end
noncomputable section
def ext86:Ext:=[(116,S116)]
theorem ext86Ok:ExtOk Tryz.prog ext86:=⟨⟨ca116,con116⟩,trivial⟩
noncomputable def b86:Code:=bodyOf Tryz.f86
theorem hb86:Tryz.f86.body=some b86:=by kernel_rfl
def sig86:List AT:=[AT.v (.int .i64)]
def tys86:List Ty:=[.bool]
def kds86:List RK:=[]
def oks86:List AT:=owns sig86
def P86 (x0:Int):Prop:=True
def g86_0 (x0:Int):Bool:=g116_0 x0 0 3000000
theorem at86 (x0:Int) (h:P86 x0) (K:Ctx) (q:Nat→Value):AtV Tryz.prog 86 (PostR kds86 oks86 [⟨.bool,g86_0 x0⟩] [] [] q K) 5 K q [] [.code b86] (entE 0 0 sig86 (x0,())) (entL sig86 (x0,())):=by
 unfold P86 at h
 unfold g86_0
 exact AtV.ret Tryz.func86 tabOk ext86Ok mixed false [] tys86 [] (a1 trivial trivial) (by kernel_rfl)
def S86:Am.Spec:={ sig:=sig86,pre:=fun ⟨x0,_⟩=>P86 x0,res:=fun ⟨x0,_⟩=>[⟨.bool,g86_0 x0⟩],kds:=kds86 }
theorem con86:Contract Tryz.prog 86 S86:=contract_of Tryz.func86 hb86 (bl_ (by kernel_rfl)) (fun ⟨x0,_⟩ h _ K q=>at86 x0 h K q)
end
noncomputable section
def ext87:Ext:=[(116,S116)]
theorem ext87Ok:ExtOk Tryz.prog ext87:=⟨⟨ca116,con116⟩,trivial⟩
noncomputable def b87:Code:=bodyOf Tryz.f87
theorem hb87:Tryz.f87.body=some b87:=by kernel_rfl
def sig87:List AT:=[AT.v YA11]
def tys87:List Ty:=[.bool]
def kds87:List RK:=[]
def oks87:List AT:=owns sig87
def P87 (x0:Int×Int×Unit):Prop:=True
def g87_0 (x0:Int×Int×Unit):Bool:=(if (g116_0 x0.1 0 100)=true then g116_0 x0.2.1 1 10000 else false)
theorem at87 (x0:Int×Int×Unit) (h:P87 x0) (K:Ctx) (q:Nat→Value):AtV Tryz.prog 87 (PostR kds87 oks87 [⟨.bool,g87_0 x0⟩] [] [] q K) 11 K q [] [.code b87] (entE 0 0 sig87 (x0,())) (entL sig87 (x0,())):=by
 unfold P87 at h
 unfold g87_0
 by_cases b0:(g116_0 x0.1 0 100)=true
 ·try simp only [if_pos b0] at h ⊢
  exact AtV.ret Tryz.func87 tabOk ext87Ok mixed false [] tys87 [true] (a1 trivial (a1 b0 (a1 trivial trivial))) (by kernel_rfl)
 ·try simp only [if_neg b0] at h ⊢
  replace b0:=bf_ b0
  exact AtV.ret Tryz.func87 tabOk ext87Ok mixed false [] tys87 [false] (a1 trivial (a1 b0 trivial)) (by kernel_rfl)
def S87:Am.Spec:={ sig:=sig87,pre:=fun ⟨x0,_⟩=>P87 x0,res:=fun ⟨x0,_⟩=>[⟨.bool,g87_0 x0⟩],kds:=kds87 }
theorem con87:Contract Tryz.prog 87 S87:=contract_of Tryz.func87 hb87 (bl_ (by kernel_rfl)) (fun ⟨x0,_⟩ h _ K q=>at87 x0 h K q)
end
noncomputable section
def ext88:Ext:=[(116,S116),(86,S86)]
theorem ext88Ok:ExtOk Tryz.prog ext88:=⟨⟨ca116,con116⟩,⟨ca86,con86⟩,trivial⟩
noncomputable def b88:Code:=bodyOf Tryz.f88
theorem hb88:Tryz.f88.body=some b88:=by kernel_rfl
def sig88:List AT:=[AT.v YA4]
def tys88:List Ty:=[.bool]
def kds88:List RK:=[]
def oks88:List AT:=owns sig88
def P88 (x0:Int×Int×Int×Int×Unit):Prop:=True
def g88_0 (x0:Int×Int×Int×Int×Unit):Bool:=(if (g116_0 x0.1 1 2000)=true then (if (g116_0 x0.2.1 100 15000)=true then (if (g116_0 x0.2.2.1 100 x0.2.1)=true then g86_0 x0.2.2.2.1 else false) else false) else false)
theorem at88 (x0:Int×Int×Int×Int×Unit) (h:P88 x0) (K:Ctx) (q:Nat→Value):AtV Tryz.prog 88 (PostR kds88 oks88 [⟨.bool,g88_0 x0⟩] [] [] q K) 23 K q [] [.code b88] (entE 0 0 sig88 (x0,())) (entL sig88 (x0,())):=by
 unfold P88 at h
 unfold g88_0
 by_cases b0:(g116_0 x0.1 1 2000)=true
 ·try simp only [if_pos b0] at h ⊢
  by_cases b1:(g116_0 x0.2.1 100 15000)=true
  ·try simp only [if_pos b1] at h ⊢
   by_cases b2:(g116_0 x0.2.2.1 100 x0.2.1)=true
   ·try simp only [if_pos b2] at h ⊢
    exact AtV.ret Tryz.func88 tabOk ext88Ok mixed false [] tys88 [true,true,true] (a1 trivial (a1 b0 (a1 trivial (a1 b1 (a1 trivial (a1 b2 (a1 trivial trivial))))))) (by kernel_rfl)
   ·try simp only [if_neg b2] at h ⊢
    replace b2:=bf_ b2
    exact AtV.ret Tryz.func88 tabOk ext88Ok mixed false [] tys88 [true,true,false] (a1 trivial (a1 b0 (a1 trivial (a1 b1 (a1 trivial (a1 b2 trivial)))))) (by kernel_rfl)
  ·try simp only [if_neg b1] at h ⊢
   replace b1:=bf_ b1
   exact AtV.ret Tryz.func88 tabOk ext88Ok mixed false [] tys88 [true,false,false] (a1 trivial (a1 b0 (a1 trivial (a1 b1 (a1 (rfl:false=false) trivial))))) (by kernel_rfl)
 ·try simp only [if_neg b0] at h ⊢
  replace b0:=bf_ b0
  exact AtV.ret Tryz.func88 tabOk ext88Ok mixed false [] tys88 [false,false,false] (a1 trivial (a1 b0 (a1 (rfl:false=false) (a1 (rfl:false=false) trivial)))) (by kernel_rfl)
def S88:Am.Spec:={ sig:=sig88,pre:=fun ⟨x0,_⟩=>P88 x0,res:=fun ⟨x0,_⟩=>[⟨.bool,g88_0 x0⟩],kds:=kds88 }
theorem con88:Contract Tryz.prog 88 S88:=contract_of Tryz.func88 hb88 (bl_ (by kernel_rfl)) (fun ⟨x0,_⟩ h _ K q=>at88 x0 h K q)
end
noncomputable section
def ext143:Ext:=[]
theorem ext143Ok:ExtOk Tryz.prog ext143:=trivial
noncomputable def b143:Code:=bodyOf Tryz.f143
theorem hb143:Tryz.f143.body=some b143:=by kernel_rfl
def sig143:List AT:=[AT.v (.str)]
def tys143:List Ty:=[.bool]
def kds143:List RK:=[]
def oks143:List AT:=owns sig143
def E143_4 (v18:Int) (x0:ByteArray):Env:=[(16,.a (.osl 0 Option.none)),(17,.a (.val (.int .i64 (↑(List.length (bytesOf x0)):Int)))),(18,.a (.val (.int .i64 v18)))]
def L143_4 (v18:Int) (x0:ByteArray):Heap:=[Option.some (Arr.mk (.int .u8) (bytesOf x0) false Option.none Option.none)]
mutual
def R143:Nat→ByteArray→List Dyn→Prop
 | 0,_,_=>False
 | n+1,x0,ds=>(if (decide ((↑(ByteArray.size x0):Int)<1))=true then (ds=[Dyn.mk .bool false]) else (if (decide ((↑(ByteArray.size x0):Int)>10))=true then (ds=[Dyn.mk .bool false]) else (R143_4 n (0) (x0) ds)))
def R143_4:Nat→Int→ByteArray→List Dyn→Prop
 | 0,_,_,_=>False
 | n+1,v18,x0,ds=>(if (decide (v18<(↑(List.length (bytesOf x0)):Int)))=true then ((0≤v18)∧(v18<(↑(List.length (bytesOf x0)):Int))∧(if (decide (List.getD (bytesOf x0) (Int.toNat v18) 0≥97))=true then (if (decide (List.getD (bytesOf x0) (Int.toNat v18) 0≥48))=true then (if (!decide (List.getD (bytesOf x0) (Int.toNat v18) 0≤122))=true then (if (v18==0)=true then (ds=[Dyn.mk .bool false]) else (if (!decide (List.getD (bytesOf x0) (Int.toNat v18) 0≤57))=true then (ds=[Dyn.mk .bool false]) else ((InR .i64 (v18+1))∧(R143_4 n (v18+1) (x0) ds)))) else ((InR .i64 (v18+1))∧(R143_4 n (v18+1) (x0) ds))) else (if (!decide (List.getD (bytesOf x0) (Int.toNat v18) 0≤122))=true then (if (v18==0)=true then (ds=[Dyn.mk .bool false]) else (ds=[Dyn.mk .bool false])) else ((InR .i64 (v18+1))∧(R143_4 n (v18+1) (x0) ds)))) else (if (decide (List.getD (bytesOf x0) (Int.toNat v18) 0≥48))=true then (if (v18==0)=true then (ds=[Dyn.mk .bool false]) else (if (!decide (List.getD (bytesOf x0) (Int.toNat v18) 0≤57))=true then (ds=[Dyn.mk .bool false]) else ((InR .i64 (v18+1))∧(R143_4 n (v18+1) (x0) ds)))) else (if (v18==0)=true then (ds=[Dyn.mk .bool false]) else (ds=[Dyn.mk .bool false]))))) else (ds=[Dyn.mk .bool true]))
end
theorem snd143:∀ n,(∀ (x0:ByteArray) ds,R143 n x0 ds→∀ K q,AtV Tryz.prog 143 (PostR kds143 oks143 ds [] [] q K) 46 K q [] [.code b143] (entE 0 0 sig143 (x0,())) (entL sig143 (x0,())))∧(∀ (v18:Int) (x0:ByteArray) ds,R143_4 n v18 x0 ds→∀ K q,AtV Tryz.prog 143 (PostR kds143 oks143 ds [] [] q K) 46 K q [] (cutAt b143 4) (E143_4 v18 x0) (L143_4 v18 x0)):=by
 intro n
 induction n with
 | zero=>exact ⟨fun _ _ h=>by simp only [R143] at h,fun _ _ _ h=>by simp only [R143_4] at h⟩
 | succ n ih =>
 obtain ⟨ih,ih4⟩:=ih
 refine ⟨?_,?_⟩
 ·intro x0 ds h K q
  rw [R143] at h
  by_cases b0:(decide ((↑(ByteArray.size x0):Int)<1))=true
  ·rw [if_pos b0] at h
   subst h
   exact AtV.ret Tryz.func143 tabOk ext143Ok mixed false [] tys143 [true,true] (a1 b0 (a1 (rfl:true=true) trivial)) (by kernel_rfl)
  ·rw [if_neg b0] at h
   replace b0:=bf_ b0
   by_cases b1:(decide ((↑(ByteArray.size x0):Int)>10))=true
   ·rw [if_pos b1] at h
    subst h
    exact AtV.ret Tryz.func143 tabOk ext143Ok mixed false [] tys143 [false,true] (a1 b0 (a1 b1 trivial)) (by kernel_rfl)
   ·rw [if_neg b1] at h
    replace b1:=bf_ b1
    exact AtV.go tabOk ext143Ok mixed false [] [] [16,17,18] [0] [false,false] (a1 b0 (a1 b1 trivial)) (ih4 _ _ _ h K q) (by kernel_rfl)
 ·intro v18 x0 ds h K q
  rw [R143_4] at h
  by_cases b0:(decide (v18<(↑(List.length (bytesOf x0)):Int)))=true
  ·rw [if_pos b0] at h
   obtain ⟨s0,s1,h⟩:=h
   by_cases b1:(decide (List.getD (bytesOf x0) (Int.toNat v18) 0≥97))=true
   ·rw [if_pos b1] at h
    by_cases b2:(decide (List.getD (bytesOf x0) (Int.toNat v18) 0≥48))=true
    ·rw [if_pos b2] at h
     by_cases b3:(!decide (List.getD (bytesOf x0) (Int.toNat v18) 0≤122))=true
     ·rw [if_pos b3] at h
      by_cases b4:(v18==0)=true
      ·rw [if_pos b4] at h
       subst h
       exact AtV.ret Tryz.func143 tabOk ext143Ok mixed false [] tys143 [true,true,true,true,true,true] (a1 b0 (a1 s0 (a1 s1 (a1 b1 (a1 b2 (a1 b3 (a1 b4 (a1 (rfl:true=true) trivial)))))))) (by kernel_rfl)
      ·rw [if_neg b4] at h
       replace b4:=bf_ b4
       by_cases b5:(!decide (List.getD (bytesOf x0) (Int.toNat v18) 0≤57))=true
       ·rw [if_pos b5] at h
        subst h
        exact AtV.ret Tryz.func143 tabOk ext143Ok mixed false [] tys143 [true,true,true,true,false,true] (a1 b0 (a1 s0 (a1 s1 (a1 b1 (a1 b2 (a1 b3 (a1 b4 (a1 b5 trivial)))))))) (by kernel_rfl)
       ·rw [if_neg b5] at h
        replace b5:=bf_ b5
        obtain ⟨s2,h⟩:=h
        exact AtV.go tabOk ext143Ok mixed false [] [] [16,17,18] [0] [true,true,true,true,false,false] (a1 b0 (a1 s0 (a1 s1 (a1 b1 (a1 b2 (a1 b3 (a1 b4 (a1 b5 (a1 s2 trivial))))))))) (ih4 _ _ _ h K q) (by kernel_rfl)
     ·rw [if_neg b3] at h
      replace b3:=bf_ b3
      obtain ⟨s2,h⟩:=h
      exact AtV.go tabOk ext143Ok mixed false [] [] [16,17,18] [0] [true,true,true,false,false] (a1 b0 (a1 s0 (a1 s1 (a1 b1 (a1 b2 (a1 b3 (a1 (rfl:false=false) (a1 s2 trivial)))))))) (ih4 _ _ _ h K q) (by kernel_rfl)
    ·rw [if_neg b2] at h
     replace b2:=bf_ b2
     by_cases b3:(!decide (List.getD (bytesOf x0) (Int.toNat v18) 0≤122))=true
     ·rw [if_pos b3] at h
      by_cases b4:(v18==0)=true
      ·rw [if_pos b4] at h
       subst h
       exact AtV.ret Tryz.func143 tabOk ext143Ok mixed false [] tys143 [true,true,false,true,true,true] (a1 b0 (a1 s0 (a1 s1 (a1 b1 (a1 b2 (a1 b3 (a1 b4 (a1 (rfl:true=true) trivial)))))))) (by kernel_rfl)
      ·rw [if_neg b4] at h
       replace b4:=bf_ b4
       subst h
       exact AtV.ret Tryz.func143 tabOk ext143Ok mixed false [] tys143 [true,true,false,true,false,true] (a1 b0 (a1 s0 (a1 s1 (a1 b1 (a1 b2 (a1 b3 (a1 b4 (a1 (rfl:true=true) trivial)))))))) (by kernel_rfl)
     ·rw [if_neg b3] at h
      replace b3:=bf_ b3
      obtain ⟨s2,h⟩:=h
      exact AtV.go tabOk ext143Ok mixed false [] [] [16,17,18] [0] [true,true,false,false,false] (a1 b0 (a1 s0 (a1 s1 (a1 b1 (a1 b2 (a1 b3 (a1 (rfl:false=false) (a1 s2 trivial)))))))) (ih4 _ _ _ h K q) (by kernel_rfl)
   ·rw [if_neg b1] at h
    replace b1:=bf_ b1
    by_cases b2:(decide (List.getD (bytesOf x0) (Int.toNat v18) 0≥48))=true
    ·rw [if_pos b2] at h
     by_cases b3:(v18==0)=true
     ·rw [if_pos b3] at h
      subst h
      exact AtV.ret Tryz.func143 tabOk ext143Ok mixed false [] tys143 [true,false,true,true,true,true] (a1 b0 (a1 s0 (a1 s1 (a1 b1 (a1 b2 (a1 (rfl:true=true) (a1 b3 (a1 (rfl:true=true) trivial)))))))) (by kernel_rfl)
     ·rw [if_neg b3] at h
      replace b3:=bf_ b3
      by_cases b4:(!decide (List.getD (bytesOf x0) (Int.toNat v18) 0≤57))=true
      ·rw [if_pos b4] at h
       subst h
       exact AtV.ret Tryz.func143 tabOk ext143Ok mixed false [] tys143 [true,false,true,true,false,true] (a1 b0 (a1 s0 (a1 s1 (a1 b1 (a1 b2 (a1 (rfl:true=true) (a1 b3 (a1 b4 trivial)))))))) (by kernel_rfl)
      ·rw [if_neg b4] at h
       replace b4:=bf_ b4
       obtain ⟨s2,h⟩:=h
       exact AtV.go tabOk ext143Ok mixed false [] [] [16,17,18] [0] [true,false,true,true,false,false] (a1 b0 (a1 s0 (a1 s1 (a1 b1 (a1 b2 (a1 (rfl:true=true) (a1 b3 (a1 b4 (a1 s2 trivial))))))))) (ih4 _ _ _ h K q) (by kernel_rfl)
    ·rw [if_neg b2] at h
     replace b2:=bf_ b2
     by_cases b3:(v18==0)=true
     ·rw [if_pos b3] at h
      subst h
      exact AtV.ret Tryz.func143 tabOk ext143Ok mixed false [] tys143 [true,false,false,true,true,true] (a1 b0 (a1 s0 (a1 s1 (a1 b1 (a1 b2 (a1 (rfl:true=true) (a1 b3 (a1 (rfl:true=true) trivial)))))))) (by kernel_rfl)
     ·rw [if_neg b3] at h
      replace b3:=bf_ b3
      subst h
      exact AtV.ret Tryz.func143 tabOk ext143Ok mixed false [] tys143 [true,false,false,true,false,true] (a1 b0 (a1 s0 (a1 s1 (a1 b1 (a1 b2 (a1 (rfl:true=true) (a1 b3 (a1 (rfl:true=true) trivial)))))))) (by kernel_rfl)
  ·rw [if_neg b0] at h
   replace b0:=bf_ b0
   subst h
   exact AtV.ret Tryz.func143 tabOk ext143Ok mixed false [] tys143 [false] (a1 b0 trivial) (by kernel_rfl)
def ok143 (i:Nat) (b:Int):Bool:=(decide (97≤b)&&decide (b≤122))||(!(i==0)&&(decide (48≤b)&&decide (b≤57)))
def g143_0 (x0:ByteArray):Bool:=decide (1≤x0.size)&&decide (x0.size≤10)&&allI ok143 0 (bytesOf x0)
def P143 (x0:ByteArray):Prop:=True
theorem step143 (n i:Nat) (x0:ByteArray) (hw:Wf .str x0) (hi:i<(bytesOf x0).length) (ds:List Dyn) :
  R143_4 (n+1) (i:Int) x0 ds↔(if ok143 i ((bytesOf x0).getD i 0)=true then R143_4 n ((i:Int)+1) x0 ds else ds=[⟨.bool,false⟩]):=by
 have hu:=inR_up (xs:=bytesOf x0) (by rw [bytesOf_length];exact hw) hi
 rw [R143_4,if_pos (by simp;omega)]
 simp only [Int.toNat_natCast]
 have hb:(0:Int)≤(i:Int)∧(i:Int)<((bytesOf x0).length:Int):=by omega
 have hz:((i:Int)==0)=(i==0):=by
  cases i with
  | zero=>rfl
  | succ k=>simp;omega
 simp only [hz,ok143,hu,true_and,hb.1,hb.2,ge_iff_le]
 by_cases h1:(97:Int)≤(bytesOf x0).getD i 0 <;> by_cases h2:(bytesOf x0).getD i 0≤122 <;> by_cases h3:(48:Int)≤(bytesOf x0).getD i 0 <;> by_cases h4:(bytesOf x0).getD i 0≤57 <;> rcases Bool.eq_false_or_eq_true (i==0) with e0 | e0 <;> first | (exfalso;omega) | simp only [h1,h2,h3,h4,e0,decide_true,decide_false,Bool.not_true,Bool.not_false,Bool.true_and,Bool.false_and,Bool.and_true,Bool.and_false,Bool.true_or,Bool.or_true,Bool.or_false,Bool.false_or,if_true,if_false,Bool.false_eq_true]
theorem top143 (x0:ByteArray) (hw:Wf .str x0):R143 (x0.size+1+1) x0 [⟨.bool,g143_0 x0⟩]:=by
 have hl:=bytesOf_length x0
 rw [R143]
 by_cases h0:(x0.size:Int)<1
 ·rw [if_pos (by simpa using h0)]
  have:¬ 1≤x0.size:=by omega
  simp [g143_0,this]
 ·rw [if_neg (by simpa using h0)]
  by_cases h1:(x0.size:Int)>10
  ·rw [if_pos (by simpa using h1)]
   have:¬ x0.size≤10:=by omega
   simp [g143_0,this]
  ·rw [if_neg (by simpa using h1)]
   have key:=loop_testI (bytesOf x0) 0 ok143 [(⟨.bool,false⟩:Dyn)] [⟨.bool,true⟩] (fun n i ds=>R143_4 n i x0 ds) (fun n => ?_) (fun n i hi hok ds hr => ?_) (fun n i hi hok => ?_)
   ·rw [hl] at key
    have e:g143_0 x0=allI ok143 0 (bytesOf x0):=by
     have a:1≤x0.size:=by omega
     have b:x0.size≤10:=by omega
     simp [g143_0,a,b]
    rw [e]
    cases h:allI ok143 0 (bytesOf x0) with
    | true=>rw [if_pos h] at key;exact key
    | false=>rw [if_neg (by rw [h];simp)] at key;exact key
   ·show R143_4 (n+1) ((bytesOf x0).length:Int) x0 _
    rw [R143_4,if_neg (by simp)]
   ·exact (step143 n i x0 hw hi ds).2 (by rw [if_pos hok];exact hr)
   ·exact (step143 n i x0 hw hi _).2 (by rw [if_neg (by rw [hok];simp)])
def S143:Am.Spec:={ sig:=sig143,pre:=fun ⟨x0,_⟩=>P143 x0,res:=fun ⟨x0,_⟩=>[⟨.bool,g143_0 x0⟩] }
theorem con143:Contract Tryz.prog 143 S143:=contract_of Tryz.func143 hb143 (bl_ (by kernel_rfl)) (fun ⟨x0,_⟩ h hwf K q =>
 (snd143 _).1 x0 _ (top143 x0 hwf.1) K q)
end
noncomputable section
def ext118:Ext:=[(116,S116)]
theorem ext118Ok:ExtOk Tryz.prog ext118:=⟨⟨ca116,con116⟩,trivial⟩
noncomputable def b118:Code:=bodyOf Tryz.f118
theorem hb118:Tryz.f118.body=some b118:=by kernel_rfl
def sig118:List AT:=[AT.v (.int .i64)]
def tys118:List Ty:=[.bool]
def kds118:List RK:=[]
def oks118:List AT:=owns sig118
def P118 (x0:Int):Prop:=True
def g118_0 (x0:Int):Bool:=g116_0 x0 0 100000
theorem at118 (x0:Int) (h:P118 x0) (K:Ctx) (q:Nat→Value):AtV Tryz.prog 118 (PostR kds118 oks118 [⟨.bool,g118_0 x0⟩] [] [] q K) 5 K q [] [.code b118] (entE 0 0 sig118 (x0,())) (entL sig118 (x0,())):=by
 unfold P118 at h
 unfold g118_0
 exact AtV.ret Tryz.func118 tabOk ext118Ok mixed false [] tys118 [] (a1 trivial trivial) (by kernel_rfl)
def S118:Am.Spec:={ sig:=sig118,pre:=fun ⟨x0,_⟩=>P118 x0,res:=fun ⟨x0,_⟩=>[⟨.bool,g118_0 x0⟩],kds:=kds118 }
theorem con118:Contract Tryz.prog 118 S118:=contract_of Tryz.func118 hb118 (bl_ (by kernel_rfl)) (fun ⟨x0,_⟩ h _ K q=>at118 x0 h K q)
end
noncomputable section
def ext117:Ext:=[(143,S143),(116,S116),(118,S118)]
theorem ext117Ok:ExtOk Tryz.prog ext117:=⟨⟨ca143,con143⟩,⟨ca116,con116⟩,⟨ca118,con118⟩,trivial⟩
noncomputable def b117:Code:=bodyOf Tryz.f117
theorem hb117:Tryz.f117.body=some b117:=by kernel_rfl
def sig117:List AT:=[AT.v YA5]
def tys117:List Ty:=[.bool]
def kds117:List RK:=[]
def oks117:List AT:=owns sig117
def P117 (x0:ByteArray×Int×Int×Int×Unit):Prop:=True
def g117_0 (x0:ByteArray×Int×Int×Int×Unit):Bool:=(if (g143_0 x0.1)=true then (if (g116_0 x0.2.1 1 200)=true then (if (g116_0 x0.2.2.1 0 40)=true then g118_0 x0.2.2.2.1 else false) else false) else false)
theorem at117 (x0:ByteArray×Int×Int×Int×Unit) (h:P117 x0) (K:Ctx) (q:Nat→Value):AtV Tryz.prog 117 (PostR kds117 oks117 [⟨.bool,g117_0 x0⟩] [] [] q K) 21 K q [] [.code b117] (entE 0 0 sig117 (x0,())) (entL sig117 (x0,())):=by
 unfold P117 at h
 unfold g117_0
 by_cases b0:(g143_0 x0.1)=true
 ·try simp only [if_pos b0] at h ⊢
  by_cases b1:(g116_0 x0.2.1 1 200)=true
  ·try simp only [if_pos b1] at h ⊢
   by_cases b2:(g116_0 x0.2.2.1 0 40)=true
   ·try simp only [if_pos b2] at h ⊢
    exact AtV.ret Tryz.func117 tabOk ext117Ok mixed false [] tys117 [true,true,true] (a1 trivial (a1 b0 (a1 trivial (a1 b1 (a1 trivial (a1 b2 (a1 trivial trivial))))))) (by kernel_rfl)
   ·try simp only [if_neg b2] at h ⊢
    replace b2:=bf_ b2
    exact AtV.ret Tryz.func117 tabOk ext117Ok mixed false [] tys117 [true,true,false] (a1 trivial (a1 b0 (a1 trivial (a1 b1 (a1 trivial (a1 b2 trivial)))))) (by kernel_rfl)
  ·try simp only [if_neg b1] at h ⊢
   replace b1:=bf_ b1
   exact AtV.ret Tryz.func117 tabOk ext117Ok mixed false [] tys117 [true,false,false] (a1 trivial (a1 b0 (a1 trivial (a1 b1 (a1 (rfl:false=false) trivial))))) (by kernel_rfl)
 ·try simp only [if_neg b0] at h ⊢
  replace b0:=bf_ b0
  exact AtV.ret Tryz.func117 tabOk ext117Ok mixed false [] tys117 [false,false,false] (a1 trivial (a1 b0 (a1 (rfl:false=false) (a1 (rfl:false=false) trivial)))) (by kernel_rfl)
def S117:Am.Spec:={ sig:=sig117,pre:=fun ⟨x0,_⟩=>P117 x0,res:=fun ⟨x0,_⟩=>[⟨.bool,g117_0 x0⟩],kds:=kds117 }
theorem con117:Contract Tryz.prog 117 S117:=contract_of Tryz.func117 hb117 (bl_ (by kernel_rfl)) (fun ⟨x0,_⟩ h _ K q=>at117 x0 h K q)
end
noncomputable section
def ext89:Ext:=[(117,S117)]
theorem ext89Ok:ExtOk Tryz.prog ext89:=⟨⟨ca117,con117⟩,trivial⟩
noncomputable def b89:Code:=bodyOf Tryz.f89
theorem hb89:Tryz.f89.body=some b89:=by kernel_rfl
def sig89:List AT:=[AT.v (.sl YA5)]
def tys89:List Ty:=[.bool]
def kds89:List RK:=[]
def oks89:List AT:=owns sig89
def E89_2 (v7:Int) (x0:List TyB1):Env:=[(0,.a (.sl YA5 x0)),(5,.a (.sl YA5 x0)),(6,.a (.val (.int .i64 (x0.length:Int)))),(7,.a (.val (.int .i64 v7)))]
def L89_2 (v7:Int) (x0:List TyB1):Heap:=[]
mutual
def R89:Nat→List TyB1→List Dyn→Prop
 | 0,_,_=>False
 | n+1,x0,ds=>(R89_2 n (0) (x0) ds)
def R89_2:Nat→Int→List TyB1→List Dyn→Prop
 | 0,_,_,_=>False
 | n+1,v7,x0,ds=>(if (decide (v7<(x0.length:Int)))=true then ((0≤v7)∧(v7<(x0.length:Int))∧(if (!g117_0 (List.getD x0 (Int.toNat v7) (ByteArray.empty,0,0,0,())))=true then (ds=[Dyn.mk .bool false]) else (if (decide (v7>0))=true then ((InR .i64 (v7 - 1))∧((0≤v7 - 1)∧(v7 - 1<(x0.length:Int))∧(if (Op.bytesLess (ByteArray.toList (List.getD x0 (Int.toNat v7) (ByteArray.empty,0,0,0,())).1) (ByteArray.toList (List.getD x0 (Int.toNat (v7 - 1)) (ByteArray.empty,0,0,0,())).1)||ByteArray.toList (List.getD x0 (Int.toNat v7) (ByteArray.empty,0,0,0,())).1==ByteArray.toList (List.getD x0 (Int.toNat (v7 - 1)) (ByteArray.empty,0,0,0,())).1)=true then (ds=[Dyn.mk .bool false]) else ((InR .i64 (v7+1))∧(R89_2 n (v7+1) (x0) ds))))) else ((InR .i64 (v7+1))∧(R89_2 n (v7+1) (x0) ds))))) else (ds=[Dyn.mk .bool (decide ((x0.length:Int)≤12))]))
end
theorem snd89:∀ n,(∀ (x0:List TyB1) ds,R89 n x0 ds→∀ K q,AtV Tryz.prog 89 (PostR kds89 oks89 ds [] [] q K) 34 K q [] [.code b89] (entE 0 0 sig89 (x0,())) (entL sig89 (x0,())))∧(∀ (v7:Int) (x0:List TyB1) ds,R89_2 n v7 x0 ds→∀ K q,AtV Tryz.prog 89 (PostR kds89 oks89 ds [] [] q K) 34 K q [] (cutAt b89 2) (E89_2 v7 x0) (L89_2 v7 x0)):=by
 intro n
 induction n with
 | zero=>exact ⟨fun _ _ h=>by simp only [R89] at h,fun _ _ _ h=>by simp only [R89_2] at h⟩
 | succ n ih =>
 obtain ⟨ih,ih2⟩:=ih
 refine ⟨?_,?_⟩
 ·intro x0 ds h K q
  rw [R89] at h
  exact AtV.go tabOk ext89Ok mixed false [] [] [0,5,6,7] [] [] trivial (ih2 _ _ _ h K q) (by kernel_rfl)
 ·intro v7 x0 ds h K q
  rw [R89_2] at h
  by_cases b0:(decide (v7<(x0.length:Int)))=true
  ·rw [if_pos b0] at h
   obtain ⟨s0,s1,h⟩:=h
   by_cases b1:(!g117_0 (List.getD x0 (Int.toNat v7) (ByteArray.empty,0,0,0,())))=true
   ·rw [if_pos b1] at h
    subst h
    exact AtV.ret Tryz.func89 tabOk ext89Ok mixed false [] tys89 [true,true,true] (a1 b0 (a1 s0 (a1 s1 (a1 trivial (a1 b1 (a1 (rfl:true=true) trivial)))))) (by kernel_rfl)
   ·rw [if_neg b1] at h
    replace b1:=bf_ b1
    by_cases b2:(decide (v7>0))=true
    ·rw [if_pos b2] at h
     obtain ⟨s2,h⟩:=h
     obtain ⟨s3,s4,h⟩:=h
     by_cases b3:(Op.bytesLess (ByteArray.toList (List.getD x0 (Int.toNat v7) (ByteArray.empty,0,0,0,())).1) (ByteArray.toList (List.getD x0 (Int.toNat (v7 - 1)) (ByteArray.empty,0,0,0,())).1)||ByteArray.toList (List.getD x0 (Int.toNat v7) (ByteArray.empty,0,0,0,())).1==ByteArray.toList (List.getD x0 (Int.toNat (v7 - 1)) (ByteArray.empty,0,0,0,())).1)=true
     ·rw [if_pos b3] at h
      subst h
      exact AtV.ret Tryz.func89 tabOk ext89Ok mixed false [] tys89 [true,false,true,true] (a1 b0 (a1 s0 (a1 s1 (a1 trivial (a1 b1 (a1 b2 (a1 s2 (a1 s3 (a1 s4 (a1 b3 trivial)))))))))) (by kernel_rfl)
     ·rw [if_neg b3] at h
      replace b3:=bf_ b3
      obtain ⟨s5,h⟩:=h
      exact AtV.go tabOk ext89Ok mixed false [] [] [0,5,6,7] [] [true,false,true,false] (a1 b0 (a1 s0 (a1 s1 (a1 trivial (a1 b1 (a1 b2 (a1 s2 (a1 s3 (a1 s4 (a1 b3 (a1 s5 trivial))))))))))) (ih2 _ _ _ h K q) (by kernel_rfl)
    ·rw [if_neg b2] at h
     replace b2:=bf_ b2
     obtain ⟨s2,h⟩:=h
     exact AtV.go tabOk ext89Ok mixed false [] [] [0,5,6,7] [] [true,false,false,false] (a1 b0 (a1 s0 (a1 s1 (a1 trivial (a1 b1 (a1 b2 (a1 (rfl:false=false) (a1 s2 trivial)))))))) (ih2 _ _ _ h K q) (by kernel_rfl)
  ·rw [if_neg b0] at h
   replace b0:=bf_ b0
   subst h
   exact AtV.ret Tryz.func89 tabOk ext89Ok mixed false [] tys89 [false] (a1 b0 trivial) (by kernel_rfl)
def ok89 (x0:List TyB1) (i:Nat) (x:TyB1):Bool :=
 g117_0 x&&(i==0 || !(Op.bytesLess (ByteArray.toList x.1) (ByteArray.toList (x0.getD (i - 1) (ByteArray.empty,(0:Int),(0:Int),(0:Int),())).1)||ByteArray.toList x.1==ByteArray.toList (x0.getD (i - 1) (ByteArray.empty,(0:Int),(0:Int),(0:Int),())).1))
def g89_0 (x0:List TyB1):Bool:=allI (ok89 x0) 0 x0&&decide (x0.length≤12)
def P89 (x0:List TyB1):Prop:=True
theorem step89 (n i : Nat) (x0 : List TyB1) (hm : x0.length ≤ maxLen) (hi : i < x0.length) (ds : List Dyn) :
    (if ok89 x0 i (x0.getD i (ByteArray.empty, (0 : Int), (0 : Int), (0 : Int), ())) = true then R89_2 n ((i : Int) + 1) x0 ds else ds = [⟨.bool, false⟩]) → R89_2 (n + 1) (i : Int) x0 ds := by
  intro h
  have hu := inR_up hm hi
  rw [R89_2, if_pos (by simp; omega)]
  refine ⟨by omega, by omega, ?_⟩
  simp only [Int.toNat_natCast]
  unfold ok89 at h
  by_cases h1 : g117_0 (x0.getD i (ByteArray.empty, (0 : Int), (0 : Int), (0 : Int), ())) = true
  case neg =>
    have h1 := bf_ h1
    rw [h1] at h
    rw [if_pos (by rw [h1]; rfl)]
    simpa using h
  case pos =>
    rw [h1] at h
    rw [if_neg (by rw [h1]; simp)]
    by_cases h0 : (i : Int) > 0
    · rw [if_pos (by simpa using h0)]
      have hi0 : (i == 0) = false := by simp; omega
      have e : ((i : Int) - 1).toNat = i - 1 := by omega
      refine ⟨by rw [i64_iff]; have : maxLen ≤ 9223372036854775807 := by decide
                 omega, by omega, by omega, ?_⟩
      rw [e]
      by_cases h2 : (Op.bytesLess (ByteArray.toList (x0.getD i (ByteArray.empty, (0 : Int), (0 : Int), (0 : Int), ())).1) (ByteArray.toList (x0.getD (i - 1) (ByteArray.empty, (0 : Int), (0 : Int), (0 : Int), ())).1) || ByteArray.toList (x0.getD i (ByteArray.empty, (0 : Int), (0 : Int), (0 : Int), ())).1 == ByteArray.toList (x0.getD (i - 1) (ByteArray.empty, (0 : Int), (0 : Int), (0 : Int), ())).1) = true
      · rw [if_pos h2]
        rw [hi0, h2] at h
        simpa using h
      · rw [if_neg h2]
        rw [hi0, bf_ h2] at h
        exact ⟨hu, by simpa using h⟩
    · rw [if_neg (by simpa using h0)]
      have hi0 : (i == 0) = true := by simp; omega
      rw [hi0] at h
      exact ⟨hu, by simpa using h⟩
theorem top89 (x0:List TyB1) (hw:x0.length≤maxLen):R89 (x0.length+1+1) x0 [⟨.bool,g89_0 x0⟩]:=by
 rw [R89]
 have key:=loop_testI x0 (ByteArray.empty,(0:Int),(0:Int),(0:Int),()) (ok89 x0) [(⟨.bool,false⟩:Dyn)] [⟨.bool,decide (x0.length≤12)⟩] (fun n i ds=>R89_2 n i x0 ds) (fun n => ?_) (fun n i hi hok ds hr => ?_) (fun n i hi hok => ?_)
 ·unfold g89_0
  cases h:allI (ok89 x0) 0 x0 with
  | true=>rw [if_pos h] at key;simpa using key
  | false=>rw [if_neg (by rw [h];simp)] at key;simpa using key
 ·rw [R89_2,if_neg (by simp)]
  have hc:decide ((x0.length:Int)≤12)=decide (x0.length≤12):=by
   congr 1;exact propext ⟨fun h=>by omega,fun h=>by omega⟩
  rw [hc]
 ·exact step89 n i x0 hw hi ds (by rw [if_pos hok];exact hr)
 ·exact step89 n i x0 hw hi _ (by rw [if_neg (by rw [hok];simp)])
def S89:Am.Spec:={ sig:=sig89,pre:=fun ⟨x0,_⟩=>P89 x0,res:=fun ⟨x0,_⟩=>[⟨.bool,g89_0 x0⟩] }
theorem con89:Contract Tryz.prog 89 S89:=contract_of Tryz.func89 hb89 (bl_ (by kernel_rfl)) (fun ⟨x0,_⟩ h hwf K q =>
 (snd89 _).1 x0 _ (top89 x0 hwf.1.1) K q)
end
noncomputable section
def ext90:Ext:=[(116,S116),(118,S118)]
theorem ext90Ok:ExtOk Tryz.prog ext90:=⟨⟨ca116,con116⟩,⟨ca118,con118⟩,trivial⟩
noncomputable def b90:Code:=bodyOf Tryz.f90
theorem hb90:Tryz.f90.body=some b90:=by kernel_rfl
def sig90:List AT:=[AT.v YA8]
def tys90:List Ty:=[.bool]
def kds90:List RK:=[]
def oks90:List AT:=owns sig90
def P90 (x0:Int×Int×Int×Unit):Prop:=True
def g90_0 (x0:Int×Int×Int×Unit):Bool:=(if (g116_0 x0.1 0 200)=true then (if (g116_0 x0.2.1 0 40)=true then g118_0 x0.2.2.1 else false) else false)
theorem at90 (x0:Int×Int×Int×Unit) (h:P90 x0) (K:Ctx) (q:Nat→Value):AtV Tryz.prog 90 (PostR kds90 oks90 [⟨.bool,g90_0 x0⟩] [] [] q K) 16 K q [] [.code b90] (entE 0 0 sig90 (x0,())) (entL sig90 (x0,())):=by
 unfold P90 at h
 unfold g90_0
 by_cases b0:(g116_0 x0.1 0 200)=true
 ·try simp only [if_pos b0] at h ⊢
  by_cases b1:(g116_0 x0.2.1 0 40)=true
  ·try simp only [if_pos b1] at h ⊢
   exact AtV.ret Tryz.func90 tabOk ext90Ok mixed false [] tys90 [true,true] (a1 trivial (a1 b0 (a1 trivial (a1 b1 (a1 trivial trivial))))) (by kernel_rfl)
  ·try simp only [if_neg b1] at h ⊢
   replace b1:=bf_ b1
   exact AtV.ret Tryz.func90 tabOk ext90Ok mixed false [] tys90 [true,false] (a1 trivial (a1 b0 (a1 trivial (a1 b1 trivial)))) (by kernel_rfl)
 ·try simp only [if_neg b0] at h ⊢
  replace b0:=bf_ b0
  exact AtV.ret Tryz.func90 tabOk ext90Ok mixed false [] tys90 [false,false] (a1 trivial (a1 b0 (a1 (rfl:false=false) trivial))) (by kernel_rfl)
def S90:Am.Spec:={ sig:=sig90,pre:=fun ⟨x0,_⟩=>P90 x0,res:=fun ⟨x0,_⟩=>[⟨.bool,g90_0 x0⟩],kds:=kds90 }
theorem con90:Contract Tryz.prog 90 S90:=contract_of Tryz.func90 hb90 (bl_ (by kernel_rfl)) (fun ⟨x0,_⟩ h _ K q=>at90 x0 h K q)
end
noncomputable section
def ext121:Ext:=[(116,S116)]
theorem ext121Ok:ExtOk Tryz.prog ext121:=⟨⟨ca116,con116⟩,trivial⟩
noncomputable def b121:Code:=bodyOf Tryz.f121
theorem hb121:Tryz.f121.body=some b121:=by kernel_rfl
def sig121:List AT:=[AT.v (.int .i64)]
def tys121:List Ty:=[.bool]
def kds121:List RK:=[]
def oks121:List AT:=owns sig121
def P121 (x0:Int):Prop:=True
def g121_0 (x0:Int):Bool:=g116_0 x0 0 100000
theorem at121 (x0:Int) (h:P121 x0) (K:Ctx) (q:Nat→Value):AtV Tryz.prog 121 (PostR kds121 oks121 [⟨.bool,g121_0 x0⟩] [] [] q K) 5 K q [] [.code b121] (entE 0 0 sig121 (x0,())) (entL sig121 (x0,())):=by
 unfold P121 at h
 unfold g121_0
 exact AtV.ret Tryz.func121 tabOk ext121Ok mixed false [] tys121 [] (a1 trivial trivial) (by kernel_rfl)
def S121:Am.Spec:={ sig:=sig121,pre:=fun ⟨x0,_⟩=>P121 x0,res:=fun ⟨x0,_⟩=>[⟨.bool,g121_0 x0⟩],kds:=kds121 }
theorem con121:Contract Tryz.prog 121 S121:=contract_of Tryz.func121 hb121 (bl_ (by kernel_rfl)) (fun ⟨x0,_⟩ h _ K q=>at121 x0 h K q)
end
noncomputable section
def ext120:Ext:=[(116,S116)]
theorem ext120Ok:ExtOk Tryz.prog ext120:=⟨⟨ca116,con116⟩,trivial⟩
noncomputable def b120:Code:=bodyOf Tryz.f120
theorem hb120:Tryz.f120.body=some b120:=by kernel_rfl
def sig120:List AT:=[AT.v (.int .i64)]
def tys120:List Ty:=[.bool]
def kds120:List RK:=[]
def oks120:List AT:=owns sig120
def P120 (x0:Int):Prop:=True
def g120_0 (x0:Int):Bool:=g116_0 x0 0 1000000
theorem at120 (x0:Int) (h:P120 x0) (K:Ctx) (q:Nat→Value):AtV Tryz.prog 120 (PostR kds120 oks120 [⟨.bool,g120_0 x0⟩] [] [] q K) 5 K q [] [.code b120] (entE 0 0 sig120 (x0,())) (entL sig120 (x0,())):=by
 unfold P120 at h
 unfold g120_0
 exact AtV.ret Tryz.func120 tabOk ext120Ok mixed false [] tys120 [] (a1 trivial trivial) (by kernel_rfl)
def S120:Am.Spec:={ sig:=sig120,pre:=fun ⟨x0,_⟩=>P120 x0,res:=fun ⟨x0,_⟩=>[⟨.bool,g120_0 x0⟩],kds:=kds120 }
theorem con120:Contract Tryz.prog 120 S120:=contract_of Tryz.func120 hb120 (bl_ (by kernel_rfl)) (fun ⟨x0,_⟩ h _ K q=>at120 x0 h K q)
end
noncomputable section
def ext144:Ext:=[(143,S143),(116,S116),(121,S121),(120,S120)]
theorem ext144Ok:ExtOk Tryz.prog ext144:=⟨⟨ca143,con143⟩,⟨ca116,con116⟩,⟨ca121,con121⟩,⟨ca120,con120⟩,trivial⟩
noncomputable def b144:Code:=bodyOf Tryz.f144
theorem hb144:Tryz.f144.body=some b144:=by kernel_rfl
def sig144:List AT:=[AT.v YA3]
def tys144:List Ty:=[.bool]
def kds144:List RK:=[]
def oks144:List AT:=owns sig144
def P144 (x0:ByteArray×Int×Int×Int×Int×Unit):Prop:=True
def g144_0 (x0:ByteArray×Int×Int×Int×Int×Unit):Bool:=(if (g143_0 x0.1)=true then (if (g116_0 x0.2.1 1 100000)=true then (if (g116_0 x0.2.2.1 1 1000000)=true then (if (g121_0 x0.2.2.2.1)=true then g120_0 x0.2.2.2.2.1 else false) else false) else false) else false)
theorem at144 (x0:ByteArray×Int×Int×Int×Int×Unit) (h:P144 x0) (K:Ctx) (q:Nat→Value):AtV Tryz.prog 144 (PostR kds144 oks144 [⟨.bool,g144_0 x0⟩] [] [] q K) 26 K q [] [.code b144] (entE 0 0 sig144 (x0,())) (entL sig144 (x0,())):=by
 unfold P144 at h
 unfold g144_0
 by_cases b0:(g143_0 x0.1)=true
 ·try simp only [if_pos b0] at h ⊢
  by_cases b1:(g116_0 x0.2.1 1 100000)=true
  ·try simp only [if_pos b1] at h ⊢
   by_cases b2:(g116_0 x0.2.2.1 1 1000000)=true
   ·try simp only [if_pos b2] at h ⊢
    by_cases b3:(g121_0 x0.2.2.2.1)=true
    ·try simp only [if_pos b3] at h ⊢
     exact AtV.ret Tryz.func144 tabOk ext144Ok mixed false [] tys144 [true,true,true,true] (a1 trivial (a1 b0 (a1 trivial (a1 b1 (a1 trivial (a1 b2 (a1 trivial (a1 b3 (a1 trivial trivial))))))))) (by kernel_rfl)
    ·try simp only [if_neg b3] at h ⊢
     replace b3:=bf_ b3
     exact AtV.ret Tryz.func144 tabOk ext144Ok mixed false [] tys144 [true,true,true,false] (a1 trivial (a1 b0 (a1 trivial (a1 b1 (a1 trivial (a1 b2 (a1 trivial (a1 b3 trivial)))))))) (by kernel_rfl)
   ·try simp only [if_neg b2] at h ⊢
    replace b2:=bf_ b2
    exact AtV.ret Tryz.func144 tabOk ext144Ok mixed false [] tys144 [true,true,false,false] (a1 trivial (a1 b0 (a1 trivial (a1 b1 (a1 trivial (a1 b2 (a1 (rfl:false=false) trivial))))))) (by kernel_rfl)
  ·try simp only [if_neg b1] at h ⊢
   replace b1:=bf_ b1
   exact AtV.ret Tryz.func144 tabOk ext144Ok mixed false [] tys144 [true,false,false,false] (a1 trivial (a1 b0 (a1 trivial (a1 b1 (a1 (rfl:false=false) (a1 (rfl:false=false) trivial)))))) (by kernel_rfl)
 ·try simp only [if_neg b0] at h ⊢
  replace b0:=bf_ b0
  exact AtV.ret Tryz.func144 tabOk ext144Ok mixed false [] tys144 [false,false,false,false] (a1 trivial (a1 b0 (a1 (rfl:false=false) (a1 (rfl:false=false) (a1 (rfl:false=false) trivial))))) (by kernel_rfl)
def S144:Am.Spec:={ sig:=sig144,pre:=fun ⟨x0,_⟩=>P144 x0,res:=fun ⟨x0,_⟩=>[⟨.bool,g144_0 x0⟩],kds:=kds144 }
theorem con144:Contract Tryz.prog 144 S144:=contract_of Tryz.func144 hb144 (bl_ (by kernel_rfl)) (fun ⟨x0,_⟩ h _ K q=>at144 x0 h K q)
end
noncomputable section
def ext119:Ext:=[(144,S144)]
theorem ext119Ok:ExtOk Tryz.prog ext119:=⟨⟨ca144,con144⟩,trivial⟩
noncomputable def b119:Code:=bodyOf Tryz.f119
theorem hb119:Tryz.f119.body=some b119:=by kernel_rfl
def sig119:List AT:=[AT.v (.sl YA3)]
def tys119:List Ty:=[.bool]
def kds119:List RK:=[]
def oks119:List AT:=owns sig119
def E119_2 (v7:Int) (x0:List TyB0):Env:=[(0,.a (.sl YA3 x0)),(5,.a (.sl YA3 x0)),(6,.a (.val (.int .i64 (x0.length:Int)))),(7,.a (.val (.int .i64 v7)))]
def L119_2 (v7:Int) (x0:List TyB0):Heap:=[]
mutual
def R119:Nat→List TyB0→List Dyn→Prop
 | 0,_,_=>False
 | n+1,x0,ds=>(R119_2 n (0) (x0) ds)
def R119_2:Nat→Int→List TyB0→List Dyn→Prop
 | 0,_,_,_=>False
 | n+1,v7,x0,ds=>(if (decide (v7<(x0.length:Int)))=true then ((0≤v7)∧(v7<(x0.length:Int))∧(if (!g144_0 (List.getD x0 (Int.toNat v7) (ByteArray.empty,0,0,0,0,())))=true then (ds=[Dyn.mk .bool false]) else (if (decide (v7>0))=true then ((InR .i64 (v7 - 1))∧((0≤v7 - 1)∧(v7 - 1<(x0.length:Int))∧(if (Op.bytesLess (ByteArray.toList (List.getD x0 (Int.toNat v7) (ByteArray.empty,0,0,0,0,())).1) (ByteArray.toList (List.getD x0 (Int.toNat (v7 - 1)) (ByteArray.empty,0,0,0,0,())).1)||ByteArray.toList (List.getD x0 (Int.toNat v7) (ByteArray.empty,0,0,0,0,())).1==ByteArray.toList (List.getD x0 (Int.toNat (v7 - 1)) (ByteArray.empty,0,0,0,0,())).1)=true then (ds=[Dyn.mk .bool false]) else ((InR .i64 (v7+1))∧(R119_2 n (v7+1) (x0) ds))))) else ((InR .i64 (v7+1))∧(R119_2 n (v7+1) (x0) ds))))) else (ds=[Dyn.mk .bool (decide ((x0.length:Int)≤16))]))
end
theorem snd119:∀ n,(∀ (x0:List TyB0) ds,R119 n x0 ds→∀ K q,AtV Tryz.prog 119 (PostR kds119 oks119 ds [] [] q K) 34 K q [] [.code b119] (entE 0 0 sig119 (x0,())) (entL sig119 (x0,())))∧(∀ (v7:Int) (x0:List TyB0) ds,R119_2 n v7 x0 ds→∀ K q,AtV Tryz.prog 119 (PostR kds119 oks119 ds [] [] q K) 34 K q [] (cutAt b119 2) (E119_2 v7 x0) (L119_2 v7 x0)):=by
 intro n
 induction n with
 | zero=>exact ⟨fun _ _ h=>by simp only [R119] at h,fun _ _ _ h=>by simp only [R119_2] at h⟩
 | succ n ih =>
 obtain ⟨ih,ih2⟩:=ih
 refine ⟨?_,?_⟩
 ·intro x0 ds h K q
  rw [R119] at h
  exact AtV.go tabOk ext119Ok mixed false [] [] [0,5,6,7] [] [] trivial (ih2 _ _ _ h K q) (by kernel_rfl)
 ·intro v7 x0 ds h K q
  rw [R119_2] at h
  by_cases b0:(decide (v7<(x0.length:Int)))=true
  ·rw [if_pos b0] at h
   obtain ⟨s0,s1,h⟩:=h
   by_cases b1:(!g144_0 (List.getD x0 (Int.toNat v7) (ByteArray.empty,0,0,0,0,())))=true
   ·rw [if_pos b1] at h
    subst h
    exact AtV.ret Tryz.func119 tabOk ext119Ok mixed false [] tys119 [true,true,true] (a1 b0 (a1 s0 (a1 s1 (a1 trivial (a1 b1 (a1 (rfl:true=true) trivial)))))) (by kernel_rfl)
   ·rw [if_neg b1] at h
    replace b1:=bf_ b1
    by_cases b2:(decide (v7>0))=true
    ·rw [if_pos b2] at h
     obtain ⟨s2,h⟩:=h
     obtain ⟨s3,s4,h⟩:=h
     by_cases b3:(Op.bytesLess (ByteArray.toList (List.getD x0 (Int.toNat v7) (ByteArray.empty,0,0,0,0,())).1) (ByteArray.toList (List.getD x0 (Int.toNat (v7 - 1)) (ByteArray.empty,0,0,0,0,())).1)||ByteArray.toList (List.getD x0 (Int.toNat v7) (ByteArray.empty,0,0,0,0,())).1==ByteArray.toList (List.getD x0 (Int.toNat (v7 - 1)) (ByteArray.empty,0,0,0,0,())).1)=true
     ·rw [if_pos b3] at h
      subst h
      exact AtV.ret Tryz.func119 tabOk ext119Ok mixed false [] tys119 [true,false,true,true] (a1 b0 (a1 s0 (a1 s1 (a1 trivial (a1 b1 (a1 b2 (a1 s2 (a1 s3 (a1 s4 (a1 b3 trivial)))))))))) (by kernel_rfl)
     ·rw [if_neg b3] at h
      replace b3:=bf_ b3
      obtain ⟨s5,h⟩:=h
      exact AtV.go tabOk ext119Ok mixed false [] [] [0,5,6,7] [] [true,false,true,false] (a1 b0 (a1 s0 (a1 s1 (a1 trivial (a1 b1 (a1 b2 (a1 s2 (a1 s3 (a1 s4 (a1 b3 (a1 s5 trivial))))))))))) (ih2 _ _ _ h K q) (by kernel_rfl)
    ·rw [if_neg b2] at h
     replace b2:=bf_ b2
     obtain ⟨s2,h⟩:=h
     exact AtV.go tabOk ext119Ok mixed false [] [] [0,5,6,7] [] [true,false,false,false] (a1 b0 (a1 s0 (a1 s1 (a1 trivial (a1 b1 (a1 b2 (a1 (rfl:false=false) (a1 s2 trivial)))))))) (ih2 _ _ _ h K q) (by kernel_rfl)
  ·rw [if_neg b0] at h
   replace b0:=bf_ b0
   subst h
   exact AtV.ret Tryz.func119 tabOk ext119Ok mixed false [] tys119 [false] (a1 b0 trivial) (by kernel_rfl)
def ok119 (x0:List TyB0) (i:Nat) (x:TyB0):Bool :=
 g144_0 x&&(i==0 || !(Op.bytesLess (ByteArray.toList x.1) (ByteArray.toList (x0.getD (i - 1) (ByteArray.empty,(0:Int),(0:Int),(0:Int),(0:Int),())).1)||ByteArray.toList x.1==ByteArray.toList (x0.getD (i - 1) (ByteArray.empty,(0:Int),(0:Int),(0:Int),(0:Int),())).1))
def g119_0 (x0:List TyB0):Bool:=allI (ok119 x0) 0 x0&&decide (x0.length≤16)
def P119 (x0:List TyB0):Prop:=True
theorem step119 (n i : Nat) (x0 : List TyB0) (hm : x0.length ≤ maxLen) (hi : i < x0.length) (ds : List Dyn) :
    (if ok119 x0 i (x0.getD i (ByteArray.empty, (0 : Int), (0 : Int), (0 : Int), (0 : Int), ())) = true then R119_2 n ((i : Int) + 1) x0 ds else ds = [⟨.bool, false⟩]) → R119_2 (n + 1) (i : Int) x0 ds := by
  intro h
  have hu := inR_up hm hi
  rw [R119_2, if_pos (by simp; omega)]
  refine ⟨by omega, by omega, ?_⟩
  simp only [Int.toNat_natCast]
  unfold ok119 at h
  by_cases h1 : g144_0 (x0.getD i (ByteArray.empty, (0 : Int), (0 : Int), (0 : Int), (0 : Int), ())) = true
  case neg =>
    have h1 := bf_ h1
    rw [h1] at h
    rw [if_pos (by rw [h1]; rfl)]
    simpa using h
  case pos =>
    rw [h1] at h
    rw [if_neg (by rw [h1]; simp)]
    by_cases h0 : (i : Int) > 0
    · rw [if_pos (by simpa using h0)]
      have hi0 : (i == 0) = false := by simp; omega
      have e : ((i : Int) - 1).toNat = i - 1 := by omega
      refine ⟨by rw [i64_iff]; have : maxLen ≤ 9223372036854775807 := by decide
                 omega, by omega, by omega, ?_⟩
      rw [e]
      by_cases h2 : (Op.bytesLess (ByteArray.toList (x0.getD i (ByteArray.empty, (0 : Int), (0 : Int), (0 : Int), (0 : Int), ())).1) (ByteArray.toList (x0.getD (i - 1) (ByteArray.empty, (0 : Int), (0 : Int), (0 : Int), (0 : Int), ())).1) || ByteArray.toList (x0.getD i (ByteArray.empty, (0 : Int), (0 : Int), (0 : Int), (0 : Int), ())).1 == ByteArray.toList (x0.getD (i - 1) (ByteArray.empty, (0 : Int), (0 : Int), (0 : Int), (0 : Int), ())).1) = true
      · rw [if_pos h2]
        rw [hi0, h2] at h
        simpa using h
      · rw [if_neg h2]
        rw [hi0, bf_ h2] at h
        exact ⟨hu, by simpa using h⟩
    · rw [if_neg (by simpa using h0)]
      have hi0 : (i == 0) = true := by simp; omega
      rw [hi0] at h
      exact ⟨hu, by simpa using h⟩
theorem top119 (x0:List TyB0) (hw:x0.length≤maxLen):R119 (x0.length+1+1) x0 [⟨.bool,g119_0 x0⟩]:=by
 rw [R119]
 have key:=loop_testI x0 (ByteArray.empty,(0:Int),(0:Int),(0:Int),(0:Int),()) (ok119 x0) [(⟨.bool,false⟩:Dyn)] [⟨.bool,decide (x0.length≤16)⟩] (fun n i ds=>R119_2 n i x0 ds) (fun n => ?_) (fun n i hi hok ds hr => ?_) (fun n i hi hok => ?_)
 ·unfold g119_0
  cases h:allI (ok119 x0) 0 x0 with
  | true=>rw [if_pos h] at key;simpa using key
  | false=>rw [if_neg (by rw [h];simp)] at key;simpa using key
 ·rw [R119_2,if_neg (by simp)]
  have hc:decide ((x0.length:Int)≤16)=decide (x0.length≤16):=by
   congr 1;exact propext ⟨fun h=>by omega,fun h=>by omega⟩
  rw [hc]
 ·exact step119 n i x0 hw hi ds (by rw [if_pos hok];exact hr)
 ·exact step119 n i x0 hw hi _ (by rw [if_neg (by rw [hok];simp)])
def S119:Am.Spec:={ sig:=sig119,pre:=fun ⟨x0,_⟩=>P119 x0,res:=fun ⟨x0,_⟩=>[⟨.bool,g119_0 x0⟩] }
theorem con119:Contract Tryz.prog 119 S119:=contract_of Tryz.func119 hb119 (bl_ (by kernel_rfl)) (fun ⟨x0,_⟩ h hwf K q =>
 (snd119 _).1 x0 _ (top119 x0 hwf.1.1) K q)
end
noncomputable section
def ext123:Ext:=[]
theorem ext123Ok:ExtOk Tryz.prog ext123:=trivial
noncomputable def b123:Code:=bodyOf Tryz.f123
theorem hb123:Tryz.f123.body=some b123:=by kernel_rfl
def sig123:List AT:=[AT.v YA3,AT.p (.int .i64),AT.p (.int .i64)]
def tys123:List Ty:=[.bool]
def kds123:List RK:=[]
def oks123:List AT:=owns sig123
def P123 (x0:ByteArray×Int×Int×Int×Int×Unit) (x1:Int) (x2:Int):Prop:=True
def g123_0 (x0:ByteArray×Int×Int×Int×Int×Unit) (x1:Int) (x2:Int):Bool:=(if (decide (x0.2.2.2.1>x1))=true then true else decide (x0.2.2.2.2.1>x2))
theorem at123 (x0:ByteArray×Int×Int×Int×Int×Unit) (x1:Int) (x2:Int) (h:P123 x0 x1 x2) (K:Ctx) (q:Nat→Value):AtV Tryz.prog 123 (PostR kds123 oks123 [⟨.bool,g123_0 x0 x1 x2⟩] [] [] q K) 15 K q [] [.code b123] (entE 0 0 sig123 (x0,x1,x2,())) (entL sig123 (x0,x1,x2,())):=by
 unfold P123 at h
 unfold g123_0
 by_cases b0:(decide (x0.2.2.2.1>x1))=true
 ·try simp only [if_pos b0] at h ⊢
  exact AtV.ret Tryz.func123 tabOk ext123Ok mixed false [] tys123 [true] (a1 b0 trivial) (by kernel_rfl)
 ·try simp only [if_neg b0] at h ⊢
  replace b0:=bf_ b0
  exact AtV.ret Tryz.func123 tabOk ext123Ok mixed false [] tys123 [false] (a1 b0 trivial) (by kernel_rfl)
def S123:Am.Spec:={ sig:=sig123,pre:=fun ⟨x0,x1,x2,_⟩=>P123 x0 x1 x2,res:=fun ⟨x0,x1,x2,_⟩=>[⟨.bool,g123_0 x0 x1 x2⟩],kds:=kds123 }
theorem con123:Contract Tryz.prog 123 S123:=contract_of Tryz.func123 hb123 (bl_ (by kernel_rfl)) (fun ⟨x0,x1,x2,_⟩ h _ K q=>at123 x0 x1 x2 h K q)
end
noncomputable section
def ext145c123:Ext:=[(123,S123)]
theorem ext145c123Ok:ExtOk Tryz.prog ext145c123:=⟨⟨ca123,con123⟩,trivial⟩
noncomputable def b145c123:Code:=bodyOf Tryz.f145
theorem hb145c123:Tryz.f145.body=some b145c123:=by kernel_rfl
def sig145c123:List AT:=[AT.v (.sl YA3),AT.fn 123 [(true,(.int .i64)),(true,(.int .i64))]]
def tys145c123:List Ty:=[.int .i64]
def kds145c123:List RK:=[]
def oks145c123:List AT:=owns sig145c123
def E145c123_2 (v8:Int) (x0:List TyB0) (x1:Int) (x1c:Int):Env:=[(0,.a (.sl YA3 x0)),(1,PV.fn 123 [Atom.ptr (.int .i64) x1,Atom.ptr (.int .i64) x1c]),(7,.a (.val (.int .i64 (x0.length:Int)))),(8,.a (.val (.int .i64 v8)))]
def L145c123_2 (v8:Int) (x0:List TyB0) (x1:Int) (x1c:Int):Heap:=[]
mutual
def R145c123:Nat→List TyB0→Int→Int→List Dyn→Prop
 | 0,_,_,_,_=>False
 | n+1,x0,x1,x1c,ds=>(R145c123_2 n (0) (x0) (x1) (x1c) ds)
def R145c123_2:Nat→Int→List TyB0→Int→Int→List Dyn→Prop
 | 0,_,_,_,_,_=>False
 | n+1,v8,x0,x1,x1c,ds=>(if (decide (v8<(x0.length:Int)))=true then ((0≤v8)∧(v8<(x0.length:Int))∧(if (g123_0 (List.getD x0 (Int.toNat v8) (ByteArray.empty,0,0,0,0,())) x1 x1c)=true then (ds=[Dyn.mk (.int .i64) v8]) else ((InR .i64 (v8+1))∧(R145c123_2 n (v8+1) (x0) (x1) (x1c) ds)))) else (ds=[Dyn.mk (.int .i64) (-1)]))
end
theorem snd145c123:∀ n,(∀ (x0:List TyB0) (x1:Int) (x1c:Int) ds,R145c123 n x0 x1 x1c ds→∀ K q,AtV Tryz.prog 145 (PostR kds145c123 oks145c123 ds [] [] q K) 19 K q [] [.code b145c123] (entE 0 0 sig145c123 (x0,(x1,x1c,()),())) (entL sig145c123 (x0,(x1,x1c,()),())))∧(∀ (v8:Int) (x0:List TyB0) (x1:Int) (x1c:Int) ds,R145c123_2 n v8 x0 x1 x1c ds→∀ K q,AtV Tryz.prog 145 (PostR kds145c123 oks145c123 ds [] [] q K) 19 K q [] (cutAt b145c123 2) (E145c123_2 v8 x0 x1 x1c) (L145c123_2 v8 x0 x1 x1c)):=by
 intro n
 induction n with
 | zero=>exact ⟨fun _ _ _ _ h=>by simp only [R145c123] at h,fun _ _ _ _ _ h=>by simp only [R145c123_2] at h⟩
 | succ n ih =>
 obtain ⟨ih,ih2⟩:=ih
 refine ⟨?_,?_⟩
 ·intro x0 x1 x1c ds h K q
  rw [R145c123] at h
  exact AtV.go tabOk ext145c123Ok mixed false [] [] [0,1,7,8] [] [] trivial (ih2 _ _ _ _ _ h K q) (by kernel_rfl)
 ·intro v8 x0 x1 x1c ds h K q
  rw [R145c123_2] at h
  by_cases b0:(decide (v8<(x0.length:Int)))=true
  ·rw [if_pos b0] at h
   obtain ⟨s0,s1,h⟩:=h
   by_cases b1:(g123_0 (List.getD x0 (Int.toNat v8) (ByteArray.empty,0,0,0,0,())) x1 x1c)=true
   ·rw [if_pos b1] at h
    subst h
    exact AtV.ret Tryz.func145 tabOk ext145c123Ok mixed false [] tys145c123 [true,true] (a1 b0 (a1 s0 (a1 s1 (a1 trivial (a1 b1 trivial))))) (by kernel_rfl)
   ·rw [if_neg b1] at h
    replace b1:=bf_ b1
    obtain ⟨s2,h⟩:=h
    exact AtV.go tabOk ext145c123Ok mixed false [] [] [0,1,7,8] [] [true,false] (a1 b0 (a1 s0 (a1 s1 (a1 trivial (a1 b1 (a1 s2 trivial)))))) (ih2 _ _ _ _ _ h K q) (by kernel_rfl)
  ·rw [if_neg b0] at h
   replace b0:=bf_ b0
   subst h
   exact AtV.ret Tryz.func145 tabOk ext145c123Ok mixed false [] tys145c123 [false] (a1 b0 trivial) (by kernel_rfl)
def g145c123_0 (x0:List TyB0) (y0:Int) (y1:Int):Int:=idx (x0.findIdx? (fun x=>g123_0 x y0 y1))
def P145c123 (x0:List TyB0) (y0:Int) (y1:Int):Prop:=True
theorem top145c123 (x0:List TyB0) (y0:Int) (y1:Int) (hm:x0.length≤maxLen):R145c123 (x0.length+1+1) x0 y0 y1 [⟨.int .i64,g145c123_0 x0 y0 y1⟩]:=by
 rw [R145c123]
 have key:=loop_find x0 (ByteArray.empty,(0:Int),(0:Int),(0:Int),(0:Int),()) (fun x=>g123_0 x y0 y1) [(⟨.int .i64, -1⟩:Dyn)] (fun k=>[⟨.int .i64,k⟩]) (fun n i ds=>R145c123_2 n i x0 y0 y1 ds) (fun n => ?_) (fun n i hi hok ds hr => ?_) (fun n i hi hok => ?_)
 ·unfold g145c123_0
  cases h:x0.findIdx? (fun x=>g123_0 x y0 y1) <;> rw [h] at key <;> exact key
 ·rw [R145c123_2,if_neg (by simp)]
 ·rw [R145c123_2,if_pos (by simp;omega)]
  simp only [Int.toNat_natCast]
  refine ⟨by omega,by omega,?_⟩
  rw [if_neg (by rw [hok];simp)]
  exact ⟨inR_up hm hi,hr⟩
 ·rw [R145c123_2,if_pos (by simp;omega)]
  simp only [Int.toNat_natCast]
  refine ⟨by omega,by omega,?_⟩
  rw [if_pos hok] <;> trivial
def S145c123:Am.Spec:={ sig:=sig145c123,pre:=fun ⟨x0,⟨y0,y1,_⟩,_⟩=>P145c123 x0 y0 y1,res:=fun ⟨x0,⟨y0,y1,_⟩,_⟩=>[⟨.int .i64,g145c123_0 x0 y0 y1⟩] }
theorem con145c123:Contract Tryz.prog 145 S145c123:=contract_of Tryz.func145 hb145c123 (bl_ (by kernel_rfl)) (fun ⟨x0,⟨y0,y1,_⟩,_⟩ h hwf K q =>
 (snd145c123 _).1 x0 y0 y1 _ (top145c123 x0 y0 y1 hwf.1.1) K q)
theorem any145c123 (x0:List TyB0) (y0:Int) (y1:Int):decide (g145c123_0 x0 y0 y1≥0)=x0.any (fun x=>g123_0 x y0 y1):=by
 have:=findIdx_any (fun x=>g123_0 x y0 y1) x0
 unfold g145c123_0
 cases h:x0.any (fun x=>g123_0 x y0 y1) with
 | true=>rw [h] at this;simpa using this
 | false=>rw [h] at this;simpa using this
end
noncomputable section
def ext122c123:Ext:=[(145,S145c123),(123,S123)]
theorem ext122c123Ok:ExtOk Tryz.prog ext122c123:=⟨⟨ca145,con145c123⟩,⟨ca123,con123⟩,trivial⟩
noncomputable def b122c123:Code:=bodyOf Tryz.f122
theorem hb122c123:Tryz.f122.body=some b122c123:=by kernel_rfl
def sig122c123:List AT:=[AT.v (.sl YA3),AT.fn 123 [(true,(.int .i64)),(true,(.int .i64))]]
def tys122c123:List Ty:=[.bool]
def kds122c123:List RK:=[]
def oks122c123:List AT:=owns sig122c123
def P122c123 (x0:List TyB0) (x1:Int) (x1c:Int):Prop:=True
def g122c123_0 (x0:List TyB0) (x1:Int) (x1c:Int):Bool:=decide (g145c123_0 x0 x1 x1c≥0)
theorem at122c123 (x0:List TyB0) (x1:Int) (x1c:Int) (h:P122c123 x0 x1 x1c) (K:Ctx) (q:Nat→Value):AtV Tryz.prog 122 (PostR kds122c123 oks122c123 [⟨.bool,g122c123_0 x0 x1 x1c⟩] [] [] q K) 9 K q [] [.code b122c123] (entE 0 0 sig122c123 (x0,(x1,x1c,()),())) (entL sig122c123 (x0,(x1,x1c,()),())):=by
 unfold P122c123 at h
 unfold g122c123_0
 exact AtV.ret Tryz.func122 tabOk ext122c123Ok mixed false [] tys122c123 [] (a1 trivial trivial) (by kernel_rfl)
def S122c123:Am.Spec:={ sig:=sig122c123,pre:=fun ⟨x0,⟨x1,x1c,_⟩,_⟩=>P122c123 x0 x1 x1c,res:=fun ⟨x0,⟨x1,x1c,_⟩,_⟩=>[⟨.bool,g122c123_0 x0 x1 x1c⟩],kds:=kds122c123 }
theorem con122c123:Contract Tryz.prog 122 S122c123:=contract_of Tryz.func122 hb122c123 (bl_ (by kernel_rfl)) (fun ⟨x0,⟨x1,x1c,_⟩,_⟩ h _ K q=>at122c123 x0 x1 x1c h K q)
end
noncomputable section
def ext91:Ext:=[(119,S119),(120,S120),(121,S121),(122,S122c123)]
theorem ext91Ok:ExtOk Tryz.prog ext91:=⟨⟨ca119,con119⟩,⟨ca120,con120⟩,⟨ca121,con121⟩,⟨ca122,con122c123⟩,trivial⟩
noncomputable def b91:Code:=bodyOf Tryz.f91
theorem hb91:Tryz.f91.body=some b91:=by kernel_rfl
def sig91:List AT:=[AT.v (.sl YA3),AT.v (.int .i64),AT.v (.int .i64),AT.v (.int .i64)]
def tys91:List Ty:=[.int .i64]
def kds91:List RK:=[]
def oks91:List AT:=owns sig91
def P91 (x0:List TyB0) (x1:Int) (x2:Int) (x3:Int):Prop:=True
def g91_0 (x0:List TyB0) (x1:Int) (x2:Int) (x3:Int):Int:=(if (!g119_0 x0)=true then 1 else (if (!g120_0 x3)=true then 2 else (if (!g121_0 x1)=true then 2 else (if (!g120_0 x2)=true then 2 else (if (g122c123_0 x0 x1 x2)=true then 6 else 0)))))
theorem at91 (x0:List TyB0) (x1:Int) (x2:Int) (x3:Int) (h:P91 x0 x1 x2 x3) (K:Ctx) (q:Nat→Value):AtV Tryz.prog 91 (PostR kds91 oks91 [⟨.int .i64,g91_0 x0 x1 x2 x3⟩] [] [] q K) 31 K q [] [.code b91] (entE 0 0 sig91 (x0,x1,x2,x3,())) (entL sig91 (x0,x1,x2,x3,())):=by
 unfold P91 at h
 unfold g91_0
 by_cases b0:(!g119_0 x0)=true
 ·try simp only [if_pos b0] at h ⊢
  exact AtV.ret Tryz.func91 tabOk ext91Ok mixed false [] tys91 [true] (a1 trivial (a1 b0 trivial)) (by kernel_rfl)
 ·try simp only [if_neg b0] at h ⊢
  replace b0:=bf_ b0
  by_cases b1:(!g120_0 x3)=true
  ·try simp only [if_pos b1] at h ⊢
   exact AtV.ret Tryz.func91 tabOk ext91Ok mixed false [] tys91 [false,true,true,true] (a1 trivial (a1 b0 (a1 trivial (a1 b1 (a1 (rfl:true=true) (a1 (rfl:true=true) trivial)))))) (by kernel_rfl)
  ·try simp only [if_neg b1] at h ⊢
   replace b1:=bf_ b1
   by_cases b2:(!g121_0 x1)=true
   ·try simp only [if_pos b2] at h ⊢
    exact AtV.ret Tryz.func91 tabOk ext91Ok mixed false [] tys91 [false,false,true,true] (a1 trivial (a1 b0 (a1 trivial (a1 b1 (a1 trivial (a1 b2 (a1 (rfl:true=true) trivial))))))) (by kernel_rfl)
   ·try simp only [if_neg b2] at h ⊢
    replace b2:=bf_ b2
    by_cases b3:(!g120_0 x2)=true
    ·try simp only [if_pos b3] at h ⊢
     exact AtV.ret Tryz.func91 tabOk ext91Ok mixed false [] tys91 [false,false,false,true] (a1 trivial (a1 b0 (a1 trivial (a1 b1 (a1 trivial (a1 b2 (a1 trivial (a1 b3 trivial)))))))) (by kernel_rfl)
    ·try simp only [if_neg b3] at h ⊢
     replace b3:=bf_ b3
     by_cases b4:(g122c123_0 x0 x1 x2)=true
     ·try simp only [if_pos b4] at h ⊢
      exact AtV.ret Tryz.func91 tabOk ext91Ok mixed false [] tys91 [false,false,false,false,true] (a1 trivial (a1 b0 (a1 trivial (a1 b1 (a1 trivial (a1 b2 (a1 trivial (a1 b3 (a1 trivial (a1 b4 trivial)))))))))) (by kernel_rfl)
     ·try simp only [if_neg b4] at h ⊢
      replace b4:=bf_ b4
      exact AtV.ret Tryz.func91 tabOk ext91Ok mixed false [] tys91 [false,false,false,false,false] (a1 trivial (a1 b0 (a1 trivial (a1 b1 (a1 trivial (a1 b2 (a1 trivial (a1 b3 (a1 trivial (a1 b4 trivial)))))))))) (by kernel_rfl)
def S91:Am.Spec:={ sig:=sig91,pre:=fun ⟨x0,x1,x2,x3,_⟩=>P91 x0 x1 x2 x3,res:=fun ⟨x0,x1,x2,x3,_⟩=>[⟨.int .i64,g91_0 x0 x1 x2 x3⟩],kds:=kds91 }
theorem con91:Contract Tryz.prog 91 S91:=contract_of Tryz.func91 hb91 (bl_ (by kernel_rfl)) (fun ⟨x0,x1,x2,x3,_⟩ h _ K q=>at91 x0 x1 x2 x3 h K q)
end
noncomputable section
def ext93:Ext:=[(116,S116)]
theorem ext93Ok:ExtOk Tryz.prog ext93:=⟨⟨ca116,con116⟩,trivial⟩
noncomputable def b93:Code:=bodyOf Tryz.f93
theorem hb93:Tryz.f93.body=some b93:=by kernel_rfl
def sig93:List AT:=[AT.v (.int .i64)]
def tys93:List Ty:=[.bool]
def kds93:List RK:=[]
def oks93:List AT:=owns sig93
def P93 (x0:Int):Prop:=True
def g93_0 (x0:Int):Bool:=g116_0 x0 0 1440
theorem at93 (x0:Int) (h:P93 x0) (K:Ctx) (q:Nat→Value):AtV Tryz.prog 93 (PostR kds93 oks93 [⟨.bool,g93_0 x0⟩] [] [] q K) 5 K q [] [.code b93] (entE 0 0 sig93 (x0,())) (entL sig93 (x0,())):=by
 unfold P93 at h
 unfold g93_0
 exact AtV.ret Tryz.func93 tabOk ext93Ok mixed false [] tys93 [] (a1 trivial trivial) (by kernel_rfl)
def S93:Am.Spec:={ sig:=sig93,pre:=fun ⟨x0,_⟩=>P93 x0,res:=fun ⟨x0,_⟩=>[⟨.bool,g93_0 x0⟩],kds:=kds93 }
theorem con93:Contract Tryz.prog 93 S93:=contract_of Tryz.func93 hb93 (bl_ (by kernel_rfl)) (fun ⟨x0,_⟩ h _ K q=>at93 x0 h K q)
end
noncomputable section
def ext124:Ext:=[(93,S93),(116,S116)]
theorem ext124Ok:ExtOk Tryz.prog ext124:=⟨⟨ca93,con93⟩,⟨ca116,con116⟩,trivial⟩
noncomputable def b124:Code:=bodyOf Tryz.f124
theorem hb124:Tryz.f124.body=some b124:=by kernel_rfl
def sig124:List AT:=[AT.v YA11]
def tys124:List Ty:=[.bool]
def kds124:List RK:=[]
def oks124:List AT:=owns sig124
def P124 (x0:Int×Int×Unit):Prop:=(if (g93_0 x0.1)=true then (if (g116_0 x0.2.1 1 1440)=true then ((InR .i64 (x0.1+x0.2.1))∧True) else True) else True)
def g124_0 (x0:Int×Int×Unit):Bool:=(if (g93_0 x0.1)=true then (if (g116_0 x0.2.1 1 1440)=true then decide (x0.1+x0.2.1≤1440) else false) else false)
theorem at124 (x0:Int×Int×Unit) (h:P124 x0) (K:Ctx) (q:Nat→Value):AtV Tryz.prog 124 (PostR kds124 oks124 [⟨.bool,g124_0 x0⟩] [] [] q K) 19 K q [] [.code b124] (entE 0 0 sig124 (x0,())) (entL sig124 (x0,())):=by
 unfold P124 at h
 unfold g124_0
 by_cases b0:(g93_0 x0.1)=true
 ·try simp only [if_pos b0] at h ⊢
  by_cases b1:(g116_0 x0.2.1 1 1440)=true
  ·try simp only [if_pos b1] at h ⊢
   obtain ⟨s0,h⟩:=h
   exact AtV.ret Tryz.func124 tabOk ext124Ok mixed false [] tys124 [true,true] (a1 trivial (a1 b0 (a1 trivial (a1 b1 (a1 s0 trivial))))) (by kernel_rfl)
  ·try simp only [if_neg b1] at h ⊢
   replace b1:=bf_ b1
   exact AtV.ret Tryz.func124 tabOk ext124Ok mixed false [] tys124 [true,false] (a1 trivial (a1 b0 (a1 trivial (a1 b1 trivial)))) (by kernel_rfl)
 ·try simp only [if_neg b0] at h ⊢
  replace b0:=bf_ b0
  exact AtV.ret Tryz.func124 tabOk ext124Ok mixed false [] tys124 [false,false] (a1 trivial (a1 b0 (a1 (rfl:false=false) trivial))) (by kernel_rfl)
def S124:Am.Spec:={ sig:=sig124,pre:=fun ⟨x0,_⟩=>P124 x0,res:=fun ⟨x0,_⟩=>[⟨.bool,g124_0 x0⟩],kds:=kds124 }
theorem con124:Contract Tryz.prog 124 S124:=contract_of Tryz.func124 hb124 (bl_ (by kernel_rfl)) (fun ⟨x0,_⟩ h _ K q=>at124 x0 h K q)
end
noncomputable section
def ext104:Ext:=[]
theorem ext104Ok:ExtOk Tryz.prog ext104:=trivial
noncomputable def b104:Code:=bodyOf Tryz.f104
theorem hb104:Tryz.f104.body=some b104:=by kernel_rfl
def sig104:List AT:=[AT.v YA11]
def tys104:List Ty:=[.int .i64]
def kds104:List RK:=[]
def oks104:List AT:=owns sig104
def P104 (x0:Int×Int×Unit):Prop:=((InR .i64 (x0.1+x0.2.1))∧True)
def g104_0 (x0:Int×Int×Unit):Int:=x0.1+x0.2.1
theorem at104 (x0:Int×Int×Unit) (h:P104 x0) (K:Ctx) (q:Nat→Value):AtV Tryz.prog 104 (PostR kds104 oks104 [⟨.int .i64,g104_0 x0⟩] [] [] q K) 8 K q [] [.code b104] (entE 0 0 sig104 (x0,())) (entL sig104 (x0,())):=by
 unfold P104 at h
 unfold g104_0
 obtain ⟨s0,h⟩:=h
 exact AtV.ret Tryz.func104 tabOk ext104Ok mixed false [] tys104 [] (a1 s0 trivial) (by kernel_rfl)
def S104:Am.Spec:={ sig:=sig104,pre:=fun ⟨x0,_⟩=>P104 x0,res:=fun ⟨x0,_⟩=>[⟨.int .i64,g104_0 x0⟩],kds:=kds104 }
theorem con104:Contract Tryz.prog 104 S104:=contract_of Tryz.func104 hb104 (bl_ (by kernel_rfl)) (fun ⟨x0,_⟩ h _ K q=>at104 x0 h K q)
end
noncomputable section
def ext92:Ext:=[(124,S124),(104,S104)]
theorem ext92Ok:ExtOk Tryz.prog ext92:=⟨⟨ca124,con124⟩,⟨ca104,con104⟩,trivial⟩
noncomputable def b92:Code:=bodyOf Tryz.f92
theorem hb92:Tryz.f92.body=some b92:=by kernel_rfl
def sig92:List AT:=[AT.v (.sl YA11)]
def tys92:List Ty:=[.bool]
def kds92:List RK:=[]
def oks92:List AT:=owns sig92
def E92_2 (v7:Int) (x0:List TyB4):Env:=[(0,.a (.sl YA11 x0)),(5,.a (.sl YA11 x0)),(6,.a (.val (.int .i64 (x0.length:Int)))),(7,.a (.val (.int .i64 v7)))]
def L92_2 (v7:Int) (x0:List TyB4):Heap:=[]
mutual
def R92:Nat→List TyB4→List Dyn→Prop
 | 0,_,_=>False
 | n+1,x0,ds=>(R92_2 n (0) (x0) ds)
def R92_2:Nat→Int→List TyB4→List Dyn→Prop
 | 0,_,_,_=>False
 | n+1,v7,x0,ds=>(if (decide (v7<(x0.length:Int)))=true then ((0≤v7)∧(v7<(x0.length:Int))∧((P124 (List.getD x0 (Int.toNat v7) (0,0,())))∧(if (!g124_0 (List.getD x0 (Int.toNat v7) (0,0,())))=true then (ds=[Dyn.mk .bool false]) else (if (decide (v7>0))=true then ((InR .i64 (v7 - 1))∧((0≤v7 - 1)∧(v7 - 1<(x0.length:Int))∧((P104 (List.getD x0 (Int.toNat (v7 - 1)) (0,0,())))∧(if (decide ((List.getD x0 (Int.toNat v7) (0,0,())).1<g104_0 (List.getD x0 (Int.toNat (v7 - 1)) (0,0,()))))=true then (ds=[Dyn.mk .bool false]) else ((InR .i64 (v7+1))∧(R92_2 n (v7+1) (x0) ds)))))) else ((InR .i64 (v7+1))∧(R92_2 n (v7+1) (x0) ds)))))) else (ds=[Dyn.mk .bool (decide ((x0.length:Int)≤24))]))
end
theorem snd92:∀ n,(∀ (x0:List TyB4) ds,R92 n x0 ds→∀ K q,AtV Tryz.prog 92 (PostR kds92 oks92 ds [] [] q K) 34 K q [] [.code b92] (entE 0 0 sig92 (x0,())) (entL sig92 (x0,())))∧(∀ (v7:Int) (x0:List TyB4) ds,R92_2 n v7 x0 ds→∀ K q,AtV Tryz.prog 92 (PostR kds92 oks92 ds [] [] q K) 34 K q [] (cutAt b92 2) (E92_2 v7 x0) (L92_2 v7 x0)):=by
 intro n
 induction n with
 | zero=>exact ⟨fun _ _ h=>by simp only [R92] at h,fun _ _ _ h=>by simp only [R92_2] at h⟩
 | succ n ih =>
 obtain ⟨ih,ih2⟩:=ih
 refine ⟨?_,?_⟩
 ·intro x0 ds h K q
  rw [R92] at h
  exact AtV.go tabOk ext92Ok mixed false [] [] [0,5,6,7] [] [] trivial (ih2 _ _ _ h K q) (by kernel_rfl)
 ·intro v7 x0 ds h K q
  rw [R92_2] at h
  by_cases b0:(decide (v7<(x0.length:Int)))=true
  ·rw [if_pos b0] at h
   obtain ⟨s0,s1,h⟩:=h
   obtain ⟨s2,h⟩:=h
   by_cases b1:(!g124_0 (List.getD x0 (Int.toNat v7) (0,0,())))=true
   ·rw [if_pos b1] at h
    subst h
    exact AtV.ret Tryz.func92 tabOk ext92Ok mixed false [] tys92 [true,true,true] (a1 b0 (a1 s0 (a1 s1 (a1 s2 (a1 b1 (a1 (rfl:true=true) trivial)))))) (by kernel_rfl)
   ·rw [if_neg b1] at h
    replace b1:=bf_ b1
    by_cases b2:(decide (v7>0))=true
    ·rw [if_pos b2] at h
     obtain ⟨s3,h⟩:=h
     obtain ⟨s4,s5,h⟩:=h
     obtain ⟨s6,h⟩:=h
     by_cases b3:(decide ((List.getD x0 (Int.toNat v7) (0,0,())).1<g104_0 (List.getD x0 (Int.toNat (v7 - 1)) (0,0,()))))=true
     ·rw [if_pos b3] at h
      subst h
      exact AtV.ret Tryz.func92 tabOk ext92Ok mixed false [] tys92 [true,false,true,true] (a1 b0 (a1 s0 (a1 s1 (a1 s2 (a1 b1 (a1 b2 (a1 s3 (a1 s4 (a1 s5 (a1 s6 (a1 b3 trivial))))))))))) (by kernel_rfl)
     ·rw [if_neg b3] at h
      replace b3:=bf_ b3
      obtain ⟨s7,h⟩:=h
      exact AtV.go tabOk ext92Ok mixed false [] [] [0,5,6,7] [] [true,false,true,false] (a1 b0 (a1 s0 (a1 s1 (a1 s2 (a1 b1 (a1 b2 (a1 s3 (a1 s4 (a1 s5 (a1 s6 (a1 b3 (a1 s7 trivial)))))))))))) (ih2 _ _ _ h K q) (by kernel_rfl)
    ·rw [if_neg b2] at h
     replace b2:=bf_ b2
     obtain ⟨s3,h⟩:=h
     exact AtV.go tabOk ext92Ok mixed false [] [] [0,5,6,7] [] [true,false,false,false] (a1 b0 (a1 s0 (a1 s1 (a1 s2 (a1 b1 (a1 b2 (a1 (rfl:false=false) (a1 s3 trivial)))))))) (ih2 _ _ _ h K q) (by kernel_rfl)
  ·rw [if_neg b0] at h
   replace b0:=bf_ b0
   subst h
   exact AtV.ret Tryz.func92 tabOk ext92Ok mixed false [] tys92 [false] (a1 b0 trivial) (by kernel_rfl)
def one92 (x:TyB4):Bool:=g124_0 x
def ok92 (x0:List TyB4) (i:Nat) (x:TyB4):Bool:=one92 x&&(i==0||decide ((x0.getD (i - 1) ((0:Int),(0:Int),())).1+(x0.getD (i - 1) ((0:Int),(0:Int),())).2.1≤x.1))
def g92_0 (x0:List TyB4):Bool:=allI (ok92 x0) 0 x0&&decide ((x0.length:Int)≤24)
def P92 (x0:List TyB4):Prop:=True
theorem in92 {x a b:Int}:g116_0 x a b=true↔a≤x∧x≤b:=by
 unfold g116_0
 by_cases c1:x≥a
 ·by_cases c2:x≤b
  ·simp [c1,c2]
  ·simp [c1,c2]
 ·have:¬ a≤x:=c1
  simp [c1,this]
theorem one92_pre (x:TyB4):P124 x:=by
 unfold P124
 split
 ·rename_i h1
  split
  ·rename_i h2
   have h1:=in92.1 (show g116_0 x.1 0 1440=true from h1)
   have h2:=in92.1 (show g116_0 x.2.1 1 1440=true from h2)
   exact ⟨by rw [i64_iff];omega,trivial⟩
  ·trivial
 ·trivial
theorem one92_b {x:TyB4} (h:one92 x=true):(0≤x.1∧x.1≤1440)∧(1≤x.2.1∧x.2.1≤1440):=by
 unfold one92 g124_0 at h
 split at h
 ·rename_i h0
  split at h
  ·rename_i h1
   exact ⟨in92.1 h0,in92.1 h1⟩
  ·cases h
 ·cases h
theorem run92 (x0:List TyB4) (hm:x0.length≤maxLen):∀ (k i:Nat),i+k=x0.length→(∀ j,j<i→one92 (x0.getD j ((0:Int),(0:Int),()))=true) →
  R92_2 (k+1) (i:Int) x0 [⟨.bool,allI (ok92 x0) i (x0.drop i)&&decide ((x0.length:Int)≤24)⟩]:=by
 intro k
 induction k with
 | zero =>
  intro i hi _
  rw [R92_2,if_neg (by simp only [decide_eq_true_eq];omega),drop_end _ _ (by omega)]
  rfl
 | succ k ih =>
  intro i hi hp
  have hlt:i<x0.length:=by omega
  have hu:=inR_up hm hlt
  have hmx:maxLen≤9223372036854775807:=by decide
  rw [R92_2,if_pos (by simp only [decide_eq_true_eq];omega),drop_get x0 i ((0:Int),(0:Int),()) hlt]
  simp only [Int.toNat_natCast,allI]
  refine ⟨by omega,by omega,one92_pre _,?_⟩
  cases h1:one92 (x0.getD i ((0:Int),(0:Int),())) with
  | false =>
   unfold one92 at h1
   rw [if_pos (by rw [h1];rfl)]
   have:ok92 x0 i (x0.getD i ((0:Int),(0:Int),()))=false:=by unfold ok92 one92;rw [h1];rfl
   rw [this];rfl
  | true =>
   have h1':=h1
   unfold one92 at h1
   rw [if_neg (by rw [h1];simp)]
   have hnext:=ih (i+1) (by omega) (fun j hj=>by
    rcases Nat.lt_or_ge j i with h | h
    ·exact hp j h
    ·have:j=i:=by omega
     subst this;exact h1')
   have e1:(((i+1:Nat)):Int)=(i:Int)+1:=by omega
   rw [e1] at hnext
   by_cases h0:(i:Int)>0
   ·rw [if_pos (by simpa using h0)]
    have hi0:(i==0)=false:=by simp;omega
    have e:((i:Int) - 1).toNat=i - 1:=by omega
    obtain ⟨b1,b2⟩:=one92_b (hp (i - 1) (by omega))
    have hd:InR .i64 ((i:Int) - 1):=by rw [i64_iff];omega
    simp only [e]
    refine ⟨hd,by omega,by omega,⟨by rw [i64_iff];show _≤(x0.getD (i - 1) ((0:Int),(0:Int),())).1+(x0.getD (i - 1) ((0:Int),(0:Int),())).2.1∧_;omega,trivial⟩,?_⟩
    by_cases hc:(x0.getD (i - 1) ((0:Int),(0:Int),())).1+(x0.getD (i - 1) ((0:Int),(0:Int),())).2.1≤(x0.getD i ((0:Int),(0:Int),())).1
    ·rw [if_neg (by show ¬ decide ((x0.getD i ((0:Int),(0:Int),())).1<(x0.getD (i - 1) ((0:Int),(0:Int),())).1+(x0.getD (i - 1) ((0:Int),(0:Int),())).2.1)=true;rw [decide_eq_true_eq];omega)]
     have:ok92 x0 i (x0.getD i ((0:Int),(0:Int),()))=true:=by unfold ok92;rw [h1',hi0,decide_eq_true hc];rfl
     rw [this,Bool.true_and]
     exact ⟨hu,hnext⟩
    ·rw [if_pos (by show decide ((x0.getD i ((0:Int),(0:Int),())).1<(x0.getD (i - 1) ((0:Int),(0:Int),())).1+(x0.getD (i - 1) ((0:Int),(0:Int),())).2.1)=true;rw [decide_eq_true_eq];omega)]
     have:ok92 x0 i (x0.getD i ((0:Int),(0:Int),()))=false:=by unfold ok92;rw [hi0,decide_eq_false hc,Bool.or_false,Bool.and_false]
     rw [this,Bool.false_and,Bool.false_and]
   ·rw [if_neg (by simpa using h0)]
    have hi0:(i==0)=true:=by simp;omega
    have:ok92 x0 i (x0.getD i ((0:Int),(0:Int),()))=true:=by unfold ok92;rw [h1',hi0];rfl
    rw [this,Bool.true_and]
    exact ⟨hu,hnext⟩
theorem top92 (x0:List TyB4) (hw:x0.length≤maxLen):R92 (x0.length+1+1) x0 [⟨.bool,g92_0 x0⟩]:=by
 rw [R92]
 exact run92 x0 hw x0.length 0 (by omega) (fun j hj=>by omega)
def S92:Am.Spec:={ sig:=sig92,pre:=fun ⟨x0,_⟩=>P92 x0,res:=fun ⟨x0,_⟩=>[⟨.bool,g92_0 x0⟩] }
theorem con92:Contract Tryz.prog 92 S92:=contract_of Tryz.func92 hb92 (bl_ (by kernel_rfl)) (fun ⟨x0,_⟩ h hwf K q =>
 (snd92 _).1 x0 _ (top92 x0 hwf.1.1) K q)
end
noncomputable section
def ext146:Ext:=[(116,S116)]
theorem ext146Ok:ExtOk Tryz.prog ext146:=⟨⟨ca116,con116⟩,trivial⟩
noncomputable def b146:Code:=bodyOf Tryz.f146
theorem hb146:Tryz.f146.body=some b146:=by kernel_rfl
def sig146:List AT:=[AT.v (.int .i64)]
def tys146:List Ty:=[.bool]
def kds146:List RK:=[]
def oks146:List AT:=owns sig146
def P146 (x0:Int):Prop:=True
def g146_0 (x0:Int):Bool:=g116_0 x0 0 1439
theorem at146 (x0:Int) (h:P146 x0) (K:Ctx) (q:Nat→Value):AtV Tryz.prog 146 (PostR kds146 oks146 [⟨.bool,g146_0 x0⟩] [] [] q K) 5 K q [] [.code b146] (entE 0 0 sig146 (x0,())) (entL sig146 (x0,())):=by
 unfold P146 at h
 unfold g146_0
 exact AtV.ret Tryz.func146 tabOk ext146Ok mixed false [] tys146 [] (a1 trivial trivial) (by kernel_rfl)
def S146:Am.Spec:={ sig:=sig146,pre:=fun ⟨x0,_⟩=>P146 x0,res:=fun ⟨x0,_⟩=>[⟨.bool,g146_0 x0⟩],kds:=kds146 }
theorem con146:Contract Tryz.prog 146 S146:=contract_of Tryz.func146 hb146 (bl_ (by kernel_rfl)) (fun ⟨x0,_⟩ h _ K q=>at146 x0 h K q)
end
end Go.Proofs.YtfpmclmpbjbmcaaGreatDoor
set_option linter.unusedVariables false
set_option maxRecDepth 100000
namespace Go.Proofs
open Go.Shelf
def Tryz.laysM173_ren:Go.Shelf.Ren:=⟨fun | 173=>98 | 246=>128 | 283=>149 | 284=>150 | 285=>151 | 286=>152 | 129=>165 | 317=>164 | 318=>166 | 319=>167 | 320=>168 | 337=>175 | 338=>176 | n=>n,fun | 2=>2 | 3=>3 | 9=>9 | 4=>4 | 171=>177 | 0=>0 | 53=>87 | 37=>22 | 5=>5 | 173=>180 | 212=>189 | 51=>190 | 20=>20 | 213=>191 | 46=>156 | 232=>202 | 233=>203 | n=>n,fun | 17=>0 | 18=>1 | 19=>2 | n=>n⟩
theorem Tryz.laysM173:Go.Proofs.LaysM.n173 Tryz.prog Tryz.laysM173_ren:={
 mixed:=by kernel_rfl
 f129:=Tryz.func165.trans (congrArg some (by kernel_rfl))
 f173:=Tryz.func98.trans (congrArg some (by kernel_rfl))
 f246:=Tryz.func128.trans (congrArg some (by kernel_rfl))
 f283:=Tryz.func149.trans (congrArg some (by kernel_rfl))
 f284:=Tryz.func150.trans (congrArg some (by kernel_rfl))
 f285:=Tryz.func151.trans (congrArg some (by kernel_rfl))
 f286:=Tryz.func152.trans (congrArg some (by kernel_rfl))
 f317:=Tryz.func164.trans (congrArg some (by kernel_rfl))
 f318:=Tryz.func166.trans (congrArg some (by kernel_rfl))
 f319:=Tryz.func167.trans (congrArg some (by kernel_rfl))
 f320:=Tryz.func168.trans (congrArg some (by kernel_rfl))
 f337:=Tryz.func175.trans (congrArg some (by kernel_rfl))
 f338:=Tryz.func176.trans (congrArg some (by kernel_rfl))
 t0:=Tryz.underlying0
 a0:=Tryz.isAgg0
 z0:=Tryz.sizeOf0
 v0:=Tryz.zeroValue0
 t2:=Tryz.underlying2
 a2:=Tryz.isAgg2
 z2:=Tryz.sizeOf2
 v2:=Tryz.zeroValue2
 t3:=Tryz.underlying3
 a3:=Tryz.isAgg3
 z3:=Tryz.sizeOf3
 v3:=Tryz.zeroValue3
 t4:=Tryz.underlying4
 a4:=Tryz.isAgg4
 z4:=Tryz.sizeOf4
 v4:=Tryz.zeroValue4
 t5:=Tryz.underlying5
 a5:=Tryz.isAgg5
 z5:=Tryz.sizeOf5
 v5:=Tryz.zeroValue5
 t9:=Tryz.underlying9
 a9:=Tryz.isAgg9
 z9:=Tryz.sizeOf9
 v9:=Tryz.zeroValue9
 t20:=Tryz.underlying20
 a20:=Tryz.isAgg20
 z20:=Tryz.sizeOf20
 v20:=Tryz.zeroValue20
 t37:=Tryz.underlying22
 a37:=Tryz.isAgg22
 z37:=Tryz.sizeOf22
 v37:=Tryz.zeroValue22
 t46:=Tryz.underlying156
 a46:=Tryz.isAgg156
 z46:=Tryz.sizeOf156
 v46:=Tryz.zeroValue156
 t51:=Tryz.underlying190
 a51:=Tryz.isAgg190
 z51:=Tryz.sizeOf190
 v51:=Tryz.zeroValue190
 t53:=Tryz.underlying87
 a53:=Tryz.isAgg87
 z53:=Tryz.sizeOf87
 v53:=Tryz.zeroValue87
 t171:=Tryz.underlying177
 a171:=Tryz.isAgg177
 z171:=Tryz.sizeOf177
 v171:=Tryz.zeroValue177
 t173:=Tryz.underlying180
 a173:=Tryz.isAgg180
 z173:=Tryz.sizeOf180
 v173:=Tryz.zeroValue180
 t212:=Tryz.underlying189
 a212:=Tryz.isAgg189
 z212:=Tryz.sizeOf189
 v212:=Tryz.zeroValue189
 t213:=Tryz.underlying191
 a213:=Tryz.isAgg191
 z213:=Tryz.sizeOf191
 t232:=Tryz.underlying202
 a232:=Tryz.isAgg202
 z232:=Tryz.sizeOf202
 v232:=Tryz.zeroValue202
 t233:=Tryz.underlying203
 a233:=Tryz.isAgg203
 z233:=Tryz.sizeOf203
 v233:=Tryz.zeroValue203
 g17:=by kernel_rfl
 g18:=by kernel_rfl
 g19:=by kernel_rfl
 i0:=by kernel_rfl
 i2:=by kernel_rfl
 i3:=by kernel_rfl
 i4:=by kernel_rfl
 i5:=by kernel_rfl
 i9:=by kernel_rfl
 i20:=by kernel_rfl
 i37:=by kernel_rfl
 i46:=by kernel_rfl
 i51:=by kernel_rfl
 i53:=by kernel_rfl
 i171:=by kernel_rfl
 i173:=by kernel_rfl
 i212:=by kernel_rfl
 i232:=by kernel_rfl
 i233:=by kernel_rfl
 m17:=by kernel_rfl
 m18:=by kernel_rfl
 m19:=by kernel_rfl }
open Go.RowKit Go.Sort Go.Lib in theorem Tryz.strconv_FormatInt_10 (n : Int) (h0 : -9223372036854775808 ≤ n) (h1 : n ≤ 9223372036854775807) (w : World) (htab : Lib.TabIs Tryz.prog w "internal/strconv.uint64pow10" .u64 Lib.pow10Tab) :
    Calls Tryz.prog 98 #[.int .i64 n, .int .i64 10] w fun e w' => e = .returned (.string ⟨(Lib.itoa n).toArray⟩) ∧ ∃ k os, w' = grow (w.drewN k) os := Any.strconv_FormatInt_10 Tryz.laysM173 n h0 h1 w htab
def Tryz.lays146_ren:Go.Shelf.Ren:=⟨fun | 146=>161 | 221=>172 | 268=>178 | 138=>179 | 143=>180 | 195=>182 | 197=>183 | 218=>184 | 219=>185 | 260=>186 | 217=>187 | 225=>188 | 224=>189 | 267=>190 | 266=>191 | 314=>192 | n=>n,fun | 9=>9 | 31=>67 | 3=>3 | 4=>4 | 0=>0 | 105=>205 | 21=>21 | 5=>5 | 46=>156 | 119=>208 | 139=>211 | 138=>210 | 146=>212 | 51=>190 | n=>n,fun | 1=>3 | 3=>4 | 4=>5 | n=>n⟩
theorem Tryz.lays146:Go.Proofs.Lays.n146 Tryz.prog Tryz.lays146_ren:={
 mixed:=by kernel_rfl
 f138:=Tryz.func179.trans (congrArg some (by kernel_rfl))
 f143:=Tryz.func180.trans (congrArg some (by kernel_rfl))
 f146:=Tryz.func161.trans (congrArg some (by kernel_rfl))
 f195:=Tryz.func182.trans (congrArg some (by kernel_rfl))
 f197:=Tryz.func183.trans (congrArg some (by kernel_rfl))
 f217:=Tryz.func187.trans (congrArg some (by kernel_rfl))
 f218:=Tryz.func184.trans (congrArg some (by kernel_rfl))
 f219:=Tryz.func185.trans (congrArg some (by kernel_rfl))
 f221:=Tryz.func172.trans (congrArg some (by kernel_rfl))
 f224:=Tryz.func189.trans (congrArg some (by kernel_rfl))
 f225:=Tryz.func188.trans (congrArg some (by kernel_rfl))
 f260:=Tryz.func186.trans (congrArg some (by kernel_rfl))
 f266:=Tryz.func191.trans (congrArg some (by kernel_rfl))
 f267:=Tryz.func190.trans (congrArg some (by kernel_rfl))
 f268:=Tryz.func178.trans (congrArg some (by kernel_rfl))
 f314:=Tryz.func192.trans (congrArg some (by kernel_rfl))
 t0:=Tryz.underlying0
 a0:=Tryz.isAgg0
 z0:=Tryz.sizeOf0
 v0:=Tryz.zeroValue0
 t3:=Tryz.underlying3
 a3:=Tryz.isAgg3
 z3:=Tryz.sizeOf3
 v3:=Tryz.zeroValue3
 t4:=Tryz.underlying4
 a4:=Tryz.isAgg4
 z4:=Tryz.sizeOf4
 v4:=Tryz.zeroValue4
 t5:=Tryz.underlying5
 a5:=Tryz.isAgg5
 z5:=Tryz.sizeOf5
 v5:=Tryz.zeroValue5
 t9:=Tryz.underlying9
 a9:=Tryz.isAgg9
 z9:=Tryz.sizeOf9
 v9:=Tryz.zeroValue9
 t21:=Tryz.underlying21
 a21:=Tryz.isAgg21
 z21:=Tryz.sizeOf21
 v21:=Tryz.zeroValue21
 t31:=Tryz.underlying67
 a31:=Tryz.isAgg67
 z31:=Tryz.sizeOf67
 v31:=Tryz.zeroValue67
 t46:=Tryz.underlying156
 a46:=Tryz.isAgg156
 z46:=Tryz.sizeOf156
 v46:=Tryz.zeroValue156
 t51:=Tryz.underlying190
 a51:=Tryz.isAgg190
 z51:=Tryz.sizeOf190
 v51:=Tryz.zeroValue190
 t105:=Tryz.underlying205
 a105:=Tryz.isAgg205
 z105:=Tryz.sizeOf205
 v105:=Tryz.zeroValue205
 t119:=Tryz.underlying208
 a119:=Tryz.isAgg208
 z119:=Tryz.sizeOf208
 t138:=Tryz.underlying210
 a138:=Tryz.isAgg210
 z138:=Tryz.sizeOf210
 v138:=Tryz.zeroValue210
 t139:=Tryz.underlying211
 a139:=Tryz.isAgg211
 z139:=Tryz.sizeOf211
 v139:=Tryz.zeroValue211
 t146:=Tryz.underlying212
 a146:=Tryz.isAgg212
 z146:=Tryz.sizeOf212
 v146:=Tryz.zeroValue212
 g1:=by kernel_rfl
 g3:=by kernel_rfl
 g4:=by kernel_rfl }
open Go.RowKit Go.Lib in theorem Tryz.strings_Split (s sep : ByteArray) (m : Int) (w : World) (hs : s.size < 4294967281) (hm : w.cell? ⟨3, 0, none⟩ = some (.int .i64 m)) (h1 : 1 ≤ sep.size) :
    Calls Tryz.prog 161 #[.string s, .string sep] w fun e w' =>
      e = .returned (.slice (some ⟨w.heap.size, 0, none⟩) (Lib.countB s sep + 1) (Lib.countB s sep + 1)) ∧ w' = w.alloc (.cells ((Lib.splitB sep 0 (Lib.countB s sep) s).map Value.string).toArray 9) := Any.strings_Split Tryz.lays146 (by kernel_rfl) s sep m w hs hm h1
end Go.Proofs
set_option linter.unusedVariables false
set_option linter.unusedSimpArgs false
set_option maxRecDepth 100000
namespace Go.Proofs.YtfpmclmpbjbmcaaGreatDoor
open Go Go.Am Go.Proofs
def sig161:List AT:=[AT.v Ty.str,AT.v Ty.str]
def g161_0 (x0 x1:ByteArray):List ByteArray:=Lib.splitB x1 0 (Lib.countB x0 x1) x0
def P161 (x0 x1:ByteArray):Prop:=x0.size<4294967281∧1≤x1.size
def S161:Am.Spec:={ sig:=sig161,pre:=fun ⟨x0,x1,_⟩=>P161 x0 x1,res:=fun ⟨x0,x1,_⟩=>[⟨Ty.sl Ty.str,g161_0 x0 x1⟩] }
theorem con161:Contract Tryz.prog 161 S161:=by
 refine Contract0.up rfl rfl ?_
 rintro w ⟨x0,x1,u⟩ vs bss hgo hp ⟨v0,s0,b0,bs0,rfl,rfl,⟨rfl,rfl,_⟩,v1,s1,b1,bs1,rfl,rfl,⟨rfl,rfl,_⟩,rfl,rfl⟩ hn
 obtain ⟨hs,h1⟩:x0.size<4294967281∧1≤x1.size:=hp
 obtain ⟨m,hm⟩:=maxLenG hgo.inv
 refine (Tryz.strings_Split x0 x1 m w hs hm h1).mono ?_
 rintro e w' ⟨rfl,rfl⟩
 have hlen:(g161_0 x0 x1).length=Lib.countB x0 x1+1:=Lib.splitB_all x1 h1 0 _ _ rfl
 have hle:=Lib.countB_le x1 h1 x0.size x0 (Nat.le_refl _)
 have hparts:∀ y∈g161_0 x0 x1,y.size≤maxLen:=fun y hy=>by
  have:=splitB_part x1 0 _ _ y hy
  unfold maxLen;omega
 have e1:∀ xs:List ByteArray,fcs .str xs=xs.map Value.string:=by
  intro xs
  induction xs with
  | nil=>rfl
  | cons a r ih=>unfold fcs at ih ⊢;rw [List.map_cons,List.flatten_cons,ih];rfl
 have ho:OwnC (w.alloc (.cells ((g161_0 x0 x1).map Value.string).toArray 9)) (.sl .str) (g161_0 x0 x1) [.slice (some ⟨w.heap.size,0,none⟩) (Lib.countB x0 x1+1) (Lib.countB x0 x1+1)] [w.heap.size] :=
  own_flat_mk rfl hparts hlen.symm (Nat.le_of_eq hlen) (by unfold maxLen;omega) (by rw [List.size_toArray,List.length_map,hlen];simp [Ty.size]) (heap_new w _) (freeS_zero _ _) (fun j u hj=>by
   rw [e1] at hj
   rw [Nat.zero_add, ← Array.getElem?_toList]
   exact hj)
 refine ⟨[_],[],[[w.heap.size]],rfl,(Kept.refl _ _).alloc _,⟨_,_,_,_,_,rfl,rfl,ho,rfl,rfl,rfl⟩,⟨rfl,rfl⟩,by simp,fun b hb hg => ?_⟩
 simp at hb
 have:=hg.1
 omega
noncomputable section
def ext174:Ext:=[]
theorem ext174Ok:ExtOk Tryz.prog ext174:=trivial
noncomputable def b174:Code:=bodyOf Tryz.f174
theorem hb174:Tryz.f174.body=some b174:=by kernel_rfl
def sig174:List AT:=[AT.v (.int .u8)]
def tys174:List Ty:=[.bool]
def kds174:List RK:=[]
def oks174:List AT:=owns sig174
def P174 (x0:Int):Prop:=True
def g174_0 (x0:Int):Bool:=(if (decide (x0<97))=true then (if (decide (x0<48))=true then true else decide (x0>57)) else (if (decide (x0>122))=true then (if (decide (x0<48))=true then true else decide (x0>57)) else false))
theorem at174 (x0:Int) (h:P174 x0) (K:Ctx) (q:Nat→Value):AtV Tryz.prog 174 (PostR kds174 oks174 [⟨.bool,g174_0 x0⟩] [] [] q K) 17 K q [] [.code b174] (entE 0 0 sig174 (x0,())) (entL sig174 (x0,())):=by
 unfold P174 at h
 unfold g174_0
 by_cases b0:(decide (x0<97))=true
 ·try simp only [if_pos b0] at h ⊢
  by_cases b1:(decide (x0<48))=true
  ·try simp only [if_pos b1] at h ⊢
   exact AtV.ret Tryz.func174 tabOk ext174Ok mixed false [] tys174 [true,true,true] (a1 b0 (a1 (rfl:true=true) (a1 b1 trivial))) (by kernel_rfl)
  ·try simp only [if_neg b1] at h ⊢
   replace b1:=bf_ b1
   exact AtV.ret Tryz.func174 tabOk ext174Ok mixed false [] tys174 [true,true,false] (a1 b0 (a1 (rfl:true=true) (a1 b1 trivial))) (by kernel_rfl)
 ·try simp only [if_neg b0] at h ⊢
  replace b0:=bf_ b0
  by_cases b1:(decide (x0>122))=true
  ·try simp only [if_pos b1] at h ⊢
   by_cases b2:(decide (x0<48))=true
   ·try simp only [if_pos b2] at h ⊢
    exact AtV.ret Tryz.func174 tabOk ext174Ok mixed false [] tys174 [false,true,true] (a1 b0 (a1 b1 (a1 b2 trivial))) (by kernel_rfl)
   ·try simp only [if_neg b2] at h ⊢
    replace b2:=bf_ b2
    exact AtV.ret Tryz.func174 tabOk ext174Ok mixed false [] tys174 [false,true,false] (a1 b0 (a1 b1 (a1 b2 trivial))) (by kernel_rfl)
  ·try simp only [if_neg b1] at h ⊢
   replace b1:=bf_ b1
   exact AtV.ret Tryz.func174 tabOk ext174Ok mixed false [] tys174 [false,false] (a1 b0 (a1 b1 trivial)) (by kernel_rfl)
def S174:Am.Spec:={ sig:=sig174,pre:=fun ⟨x0,_⟩=>P174 x0,res:=fun ⟨x0,_⟩=>[⟨.bool,g174_0 x0⟩],kds:=kds174 }
theorem con174:Contract Tryz.prog 174 S174:=contract_of Tryz.func174 hb174 (bl_ (by kernel_rfl)) (fun ⟨x0,_⟩ h _ K q=>at174 x0 h K q)
end
noncomputable section
def ext181c174:Ext:=[(174,S174)]
theorem ext181c174Ok:ExtOk Tryz.prog ext181c174:=⟨⟨ca174,con174⟩,trivial⟩
noncomputable def b181c174:Code:=bodyOf Tryz.f181
theorem hb181c174:Tryz.f181.body=some b181c174:=by kernel_rfl
def sig181c174:List AT:=[AT.v (.sl (.int .u8)),AT.fn 174 []]
def tys181c174:List Ty:=[.int .i64]
def kds181c174:List RK:=[]
def oks181c174:List AT:=owns sig181c174
def E181c174_2 (v8:Int) (x0:List Int):Env:=[(0,.a (.sl (.int .u8) x0)),(1,PV.fn 174 []),(7,.a (.val (.int .i64 (x0.length:Int)))),(8,.a (.val (.int .i64 v8)))]
def L181c174_2 (v8:Int) (x0:List Int):Heap:=[]
mutual
def R181c174:Nat→List Int→List Dyn→Prop
 | 0,_,_=>False
 | n+1,x0,ds=>(R181c174_2 n (0) (x0) ds)
def R181c174_2:Nat→Int→List Int→List Dyn→Prop
 | 0,_,_,_=>False
 | n+1,v8,x0,ds=>(if (decide (v8<(x0.length:Int)))=true then ((0≤v8)∧(v8<(x0.length:Int))∧(if (g174_0 (List.getD x0 (Int.toNat v8) 0))=true then (ds=[Dyn.mk (.int .i64) v8]) else ((InR .i64 (v8+1))∧(R181c174_2 n (v8+1) (x0) ds)))) else (ds=[Dyn.mk (.int .i64) (-1)]))
end
theorem snd181c174:∀ n,(∀ (x0:List Int) ds,R181c174 n x0 ds→∀ K q,AtV Tryz.prog 181 (PostR kds181c174 oks181c174 ds [] [] q K) 19 K q [] [.code b181c174] (entE 0 0 sig181c174 (x0,(),())) (entL sig181c174 (x0,(),())))∧(∀ (v8:Int) (x0:List Int) ds,R181c174_2 n v8 x0 ds→∀ K q,AtV Tryz.prog 181 (PostR kds181c174 oks181c174 ds [] [] q K) 19 K q [] (cutAt b181c174 2) (E181c174_2 v8 x0) (L181c174_2 v8 x0)):=by
 intro n
 induction n with
 | zero=>exact ⟨fun _ _ h=>by simp only [R181c174] at h,fun _ _ _ h=>by simp only [R181c174_2] at h⟩
 | succ n ih =>
 obtain ⟨ih,ih2⟩:=ih
 refine ⟨?_,?_⟩
 ·intro x0 ds h K q
  rw [R181c174] at h
  exact AtV.go tabOk ext181c174Ok mixed false [] [] [0,1,7,8] [] [] trivial (ih2 _ _ _ h K q) (by kernel_rfl)
 ·intro v8 x0 ds h K q
  rw [R181c174_2] at h
  by_cases b0:(decide (v8<(x0.length:Int)))=true
  ·rw [if_pos b0] at h
   obtain ⟨s0,s1,h⟩:=h
   by_cases b1:(g174_0 (List.getD x0 (Int.toNat v8) 0))=true
   ·rw [if_pos b1] at h
    subst h
    exact AtV.ret Tryz.func181 tabOk ext181c174Ok mixed false [] tys181c174 [true,true] (a1 b0 (a1 s0 (a1 s1 (a1 trivial (a1 b1 trivial))))) (by kernel_rfl)
   ·rw [if_neg b1] at h
    replace b1:=bf_ b1
    obtain ⟨s2,h⟩:=h
    exact AtV.go tabOk ext181c174Ok mixed false [] [] [0,1,7,8] [] [true,false] (a1 b0 (a1 s0 (a1 s1 (a1 trivial (a1 b1 (a1 s2 trivial)))))) (ih2 _ _ _ h K q) (by kernel_rfl)
  ·rw [if_neg b0] at h
   replace b0:=bf_ b0
   subst h
   exact AtV.ret Tryz.func181 tabOk ext181c174Ok mixed false [] tys181c174 [false] (a1 b0 trivial) (by kernel_rfl)
def g181c174_0 (x0:List (Int)):Int:=idx (x0.findIdx? g174_0)
def P181c174 (x0:List (Int)):Prop:=True
theorem top181c174 (x0:List (Int)) (hm:x0.length≤maxLen):R181c174 (x0.length+1+1) x0 [⟨.int .i64,g181c174_0 x0⟩]:=by
 rw [R181c174]
 have key:=loop_find x0 (0:Int) g174_0 [(⟨.int .i64, -1⟩:Dyn)] (fun k=>[⟨.int .i64,k⟩]) (fun n i ds=>R181c174_2 n i x0 ds) (fun n => ?_) (fun n i hi hok ds hr => ?_) (fun n i hi hok => ?_)
 ·unfold g181c174_0
  cases h:x0.findIdx? g174_0 <;> rw [h] at key <;> exact key
 ·rw [R181c174_2,if_neg (by simp)]
 ·rw [R181c174_2,if_pos (by simp;omega)]
  simp only [Int.toNat_natCast]
  refine ⟨by omega,by omega,?_⟩
  rw [if_neg (by rw [hok];simp)]
  exact ⟨inR_up hm hi,hr⟩
 ·rw [R181c174_2,if_pos (by simp;omega)]
  simp only [Int.toNat_natCast]
  refine ⟨by omega,by omega,?_⟩
  rw [if_pos hok] <;> trivial
def S181c174:Am.Spec:={ sig:=sig181c174,pre:=fun ⟨x0,_⟩=>P181c174 x0,res:=fun ⟨x0,_⟩=>[⟨.int .i64,g181c174_0 x0⟩] }
theorem con181c174:Contract Tryz.prog 181 S181c174:=contract_of Tryz.func181 hb181c174 (bl_ (by kernel_rfl)) (fun ⟨x0,_⟩ h hwf K q =>
 (snd181c174 _).1 x0 _ (top181c174 x0 hwf.1.1) K q)
theorem any181c174 (x0:List (Int)):decide (g181c174_0 x0≥0)=x0.any g174_0:=by
 have:=findIdx_any g174_0 x0
 unfold g181c174_0
 cases h:x0.any g174_0 with
 | true=>rw [h] at this;simpa using this
 | false=>rw [h] at this;simpa using this
end
noncomputable section
def ext173c174:Ext:=[(181,S181c174),(174,S174)]
theorem ext173c174Ok:ExtOk Tryz.prog ext173c174:=⟨⟨ca181,con181c174⟩,⟨ca174,con174⟩,trivial⟩
noncomputable def b173c174:Code:=bodyOf Tryz.f173
theorem hb173c174:Tryz.f173.body=some b173c174:=by kernel_rfl
def sig173c174:List AT:=[AT.v (.sl (.int .u8)),AT.fn 174 []]
def tys173c174:List Ty:=[.bool]
def kds173c174:List RK:=[]
def oks173c174:List AT:=owns sig173c174
def P173c174 (x0:List Int):Prop:=True
def g173c174_0 (x0:List Int):Bool:=decide (g181c174_0 x0≥0)
theorem at173c174 (x0:List Int) (h:P173c174 x0) (K:Ctx) (q:Nat→Value):AtV Tryz.prog 173 (PostR kds173c174 oks173c174 [⟨.bool,g173c174_0 x0⟩] [] [] q K) 9 K q [] [.code b173c174] (entE 0 0 sig173c174 (x0,(),())) (entL sig173c174 (x0,(),())):=by
 unfold P173c174 at h
 unfold g173c174_0
 exact AtV.ret Tryz.func173 tabOk ext173c174Ok mixed false [] tys173c174 [] (a1 trivial trivial) (by kernel_rfl)
def S173c174:Am.Spec:={ sig:=sig173c174,pre:=fun ⟨x0,_⟩=>P173c174 x0,res:=fun ⟨x0,_⟩=>[⟨.bool,g173c174_0 x0⟩],kds:=kds173c174 }
theorem con173c174:Contract Tryz.prog 173 S173c174:=contract_of Tryz.func173 hb173c174 (bl_ (by kernel_rfl)) (fun ⟨x0,_⟩ h _ K q=>at173c174 x0 h K q)
end
noncomputable section
def ext163:Ext:=[(173,S173c174)]
theorem ext163Ok:ExtOk Tryz.prog ext163:=⟨⟨ca173,con173c174⟩,trivial⟩
noncomputable def b163:Code:=bodyOf Tryz.f163
theorem hb163:Tryz.f163.body=some b163:=by kernel_rfl
def sig163:List AT:=[AT.v (.str)]
def tys163:List Ty:=[.bool]
def kds163:List RK:=[]
def oks163:List AT:=owns sig163
def P163 (x0:ByteArray):Prop:=True
def g163_0 (x0:ByteArray):Bool:=(if (!ByteArray.toList x0==ByteArray.toList (ByteArray.mk #[]))=true then !g173c174_0 (bytesOf x0) else false)
theorem at163 (x0:ByteArray) (h:P163 x0) (K:Ctx) (q:Nat→Value):AtV Tryz.prog 163 (PostR kds163 oks163 [⟨.bool,g163_0 x0⟩] [] [] q K) 11 K q [] [.code b163] (entE 0 0 sig163 (x0,())) (entL sig163 (x0,())):=by
 unfold P163 at h
 unfold g163_0
 by_cases b0:(!ByteArray.toList x0==ByteArray.toList (ByteArray.mk #[]))=true
 ·try simp only [if_pos b0] at h ⊢
  exact AtV.ret Tryz.func163 tabOk ext163Ok mixed false [] tys163 [true] (a1 b0 (a1 trivial trivial)) (by kernel_rfl)
 ·try simp only [if_neg b0] at h ⊢
  replace b0:=bf_ b0
  exact AtV.ret Tryz.func163 tabOk ext163Ok mixed false [] tys163 [false] (a1 b0 trivial) (by kernel_rfl)
def S163:Am.Spec:={ sig:=sig163,pre:=fun ⟨x0,_⟩=>P163 x0,res:=fun ⟨x0,_⟩=>[⟨.bool,g163_0 x0⟩],kds:=kds163 }
theorem con163:Contract Tryz.prog 163 S163:=contract_of Tryz.func163 hb163 (bl_ (by kernel_rfl)) (fun ⟨x0,_⟩ h _ K q=>at163 x0 h K q)
end
noncomputable section
def ext162:Ext:=[(163,S163)]
theorem ext162Ok:ExtOk Tryz.prog ext162:=⟨⟨ca163,con163⟩,trivial⟩
noncomputable def b162:Code:=bodyOf Tryz.f162
theorem hb162:Tryz.f162.body=some b162:=by kernel_rfl
def sig162:List AT:=[AT.v (.str)]
def tys162:List Ty:=[.bool]
def kds162:List RK:=[]
def oks162:List AT:=owns sig162
def P162 (x0:ByteArray):Prop:=True
def g162_0 (x0:ByteArray):Bool := !g163_0 x0
theorem at162 (x0:ByteArray) (h:P162 x0) (K:Ctx) (q:Nat→Value):AtV Tryz.prog 162 (PostR kds162 oks162 [⟨.bool,g162_0 x0⟩] [] [] q K) 6 K q [] [.code b162] (entE 0 0 sig162 (x0,())) (entL sig162 (x0,())):=by
 unfold P162 at h
 unfold g162_0
 exact AtV.ret Tryz.func162 tabOk ext162Ok mixed false [] tys162 [] (a1 trivial trivial) (by kernel_rfl)
def S162:Am.Spec:={ sig:=sig162,pre:=fun ⟨x0,_⟩=>P162 x0,res:=fun ⟨x0,_⟩=>[⟨.bool,g162_0 x0⟩],kds:=kds162 }
theorem con162:Contract Tryz.prog 162 S162:=contract_of Tryz.func162 hb162 (bl_ (by kernel_rfl)) (fun ⟨x0,_⟩ h _ K q=>at162 x0 h K q)
end
end Go.Proofs.YtfpmclmpbjbmcaaGreatDoor
