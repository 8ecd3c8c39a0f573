/- Several texts in one: the functions that this law reaches, and their laws. -/
import Derived.Test.YtpojfdgfpamapaaGreatDoorZ3A
import Derived.Test.YtpojfdgfpamapaaGreatDoorZ3B
import Derived.Test.YtpojfdgfpamapaaGreatDoorZ3C
import Derived.Test.YtpojfdgfpamapaaGreatDoorZ3D
import Derived.Test.YtpojfdgfpamapaaGreatDoorZ3E
set_option linter.unusedVariables false
set_option linter.unusedSimpArgs false
set_option maxRecDepth 100000
namespace Go.Proofs.YtpojfdgfpamapaaGreatDoor
open Go Go.Am Go.Proofs
theorem in_range' (n a b:Int) (h:g60_0 n a b=true):a≤n∧n≤b:=by
 unfold g60_0 at h
 split at h
 ·rename_i h1
  exact ⟨by simpa using h1,by simpa using h⟩
 ·cases h
theorem thenT {b y:Bool} (h:(if b=true then y else false)=true):b=true∧y=true:=by cases b <;> simp_all
theorem group_range (x:ByteArray×Int×Int×Int×Unit) (h:g61_0 x=true):1≤x.2.1∧x.2.1≤200∧0≤x.2.2.1∧x.2.2.1≤40∧0≤x.2.2.2.1∧x.2.2.2.1≤100000:=by
 unfold g61_0 at h
 obtain ⟨_,h⟩:=thenT h
 obtain ⟨h1,h⟩:=thenT h
 obtain ⟨h2,h3⟩:=thenT h
 have a1:=in_range' _ _ _ h1
 have a2:=in_range' _ _ _ h2
 have a3:=in_range' _ _ _ h3
 omega
theorem ride_range (x:Int×Int×Unit) (h:g95_0 x=true):0≤x.1∧x.1≤1440∧0≤x.2.1∧x.2.1≤1440:=by
 unfold g95_0 g67_0 at h
 obtain ⟨h1,h⟩:=thenT h
 obtain ⟨h2,h⟩:=thenT h
 have a1:=in_range' _ _ _ h1
 have a2:=in_range' _ _ _ h2
 omega
theorem check_range (x:TyB0) (h:g94_0 x=true):1≤x.2.1∧x.2.1≤100000∧1≤x.2.2.1∧x.2.2.1≤1000000∧0≤x.2.2.2.1∧x.2.2.2.1≤100000∧0≤x.2.2.2.2.1∧x.2.2.2.2.1≤1000000:=by
 unfold g94_0 g63_0 g64_0 at h
 obtain ⟨_,h⟩:=thenT h
 obtain ⟨h1,h⟩:=thenT h
 obtain ⟨h2,h⟩:=thenT h
 obtain ⟨h3,h4⟩:=thenT h
 have a1:=in_range' _ _ _ h1
 have a2:=in_range' _ _ _ h2
 have a3:=in_range' _ _ _ h3
 have a4:=in_range' _ _ _ h4
 omega
theorem groups_ok (l:List TyB1) (h:g36_0 l=true):(∀ x∈l,g61_0 x=true)∧l.length≤12:=by
 unfold g36_0 at h
 simp only [Bool.and_eq_true,decide_eq_true_eq] at h
 refine ⟨fun x hx => ?_,by omega⟩
 obtain ⟨j,hj⟩:=allI_mem _ _ h.1 x hx
 unfold ok36 at hj
 simp only [Bool.and_eq_true] at hj
 exact hj.1
theorem checks_ok (l:List TyB0) (h:g62_0 l=true):(∀ x∈l,g94_0 x=true)∧l.length≤16:=by
 unfold g62_0 at h
 simp only [Bool.and_eq_true,decide_eq_true_eq] at h
 refine ⟨fun x hx => ?_,by omega⟩
 obtain ⟨j,hj⟩:=allI_mem _ _ h.1 x hx
 unfold ok62 at hj
 simp only [Bool.and_eq_true] at hj
 exact hj.1
theorem rides_ok (l:List TyB4) (h:g66_0 l=true):(∀ x∈l,g95_0 x=true)∧l.length≤24:=by
 unfold g66_0 at h
 simp only [Bool.and_eq_true,decide_eq_true_eq] at h
 refine ⟨fun x hx => ?_,by omega⟩
 obtain ⟨j,hj⟩:=allI_mem _ _ h.1 x hx
 unfold ok66 one66 at hj
 simp only [Bool.and_eq_true] at hj
 exact hj.1
theorem ask_check {l:List TyB0} {d r:Int} (h:g38_0 l d r=0):g62_0 l=true∧0≤d∧d≤100000∧0≤r∧r≤1000000:=by
 unfold g38_0 at h
 by_cases h1:g62_0 l=true
 case neg=>rw [if_neg h1] at h;cases h
 by_cases h2:g63_0 d=true
 case neg=>rw [if_pos h1,if_neg h2] at h;cases h
 by_cases h3:g64_0 r=true
 case neg=>rw [if_pos h1,if_pos h2,if_neg h3] at h;cases h
 have a1:=in_range' _ _ _ (show g60_0 d 0 100000=true from h2)
 have a2:=in_range' _ _ _ (show g60_0 r 0 1000000=true from h3)
 exact ⟨h1,a1.1,a1.2,a2.1,a2.2⟩
theorem ask_rides {l:List TyB4} {t:Int} (h:g39_0 l t=0):g66_0 l=true∧g67_0 t=true∧0≤t∧t≤1440:=by
 unfold g39_0 at h
 by_cases h1:g66_0 l=true
 case neg=>rw [if_pos (by rw [Bool.eq_false_iff.2 h1];rfl)] at h;cases h
 by_cases h2:g67_0 t=true
 case neg=>rw [if_neg (by rw [h1];simp),if_pos (by rw [Bool.eq_false_iff.2 h2];rfl)] at h;cases h
 have a1:=in_range' _ _ _ (show g60_0 t 0 1440=true from h2)
 exact ⟨h1,h2,a1.1,a1.2⟩
theorem in_range (n a b:Int) (h:g60_0 n a b=true):a≤n∧n≤b:=by
 unfold g60_0 at h
 split at h
 ·rename_i h1
  exact ⟨by simpa using h1,by simpa using h⟩
 ·cases h
theorem line_sizes (x:Int×Int×ByteArray×Int×Unit) (h:g68_0 x=true):(numB x.1).size≤21∧(numB x.2.1).size≤21∧x.2.2.1.size≤40∧InR .i64 x.2.2.2.1:=by
 unfold g68_0 g63_0 at h
 by_cases h1:g60_0 x.1 0 100000=true
 case neg=>rw [if_neg h1] at h;cases h
 by_cases h2:g60_0 x.2.1 0 1439=true
 case neg=>rw [if_pos h1,if_neg h2] at h;cases h
 by_cases h3:g96_0 x.2.2.1=true
 case neg=>rw [if_pos h1,if_pos h2,if_neg h3] at h;cases h
 rw [if_pos h1,if_pos h2,if_pos h3] at h
 have a1:=in_range _ _ _ h1
 have a2:=in_range _ _ _ h2
 have a4:=in_range _ _ _ h
 refine ⟨numB_size _ (by omega) (by omega),numB_size _ (by omega) (by omega),?_,by rw [i64_iff];omega⟩
 unfold g96_0 at h3
 simp only [Bool.and_eq_true,Bool.not_eq_true',decide_eq_false_iff_not] at h3
 omega
theorem seal_pre (x:Int×Int×ByteArray×Int×Unit) (h:g68_0 x=true) (c:Int):P91 c x.1 x.2.1 x.2.2.1∧P113 c x:=by
 obtain ⟨a1,a2,a3,_⟩:=line_sizes x h
 have e1:g135_0=numB:=rfl
 have e2:g44_0=numB:=rfl
 have p1:∀ n,P44 n:=fun n=>⟨rfl,trivial⟩
 have e3:(ByteArray.mk #[32]).size=1:=rfl
 unfold P91 P113 P115 P134
 rw [e1,e2]
 simp only [ByteArray.size_append,e3,p1,true_and,and_true]
 omega
theorem fb_range:∀ (l m:List TyB2) (i k:Int),fb50 i l m=some k→i≤k∧k<i+l.length
 | [],_,_,_,h=>by cases h
 | _ :: _,[],_,_,h=>by cases h
 | x :: r,y :: s,i,k,h=>by
  simp only [fb50] at h
  simp only [List.length_cons]
  split at h
  ·cases h;omega
  ·have:=fb_range r s (i+1) k h
   omega
theorem lines_ok (l:List TyB2) (h:g40_0 l=true):(∀ x∈l,g68_0 x=true)∧l.length≤40:=by
 unfold g40_0 at h
 simp only [Bool.and_eq_true,decide_eq_true_eq] at h
 refine ⟨fun x hx => ?_,by omega⟩
 obtain ⟨j,hj⟩:=allI_mem _ _ h.1 x hx
 unfold ok40 at hj
 simp only [Bool.and_eq_true] at hj
 exact hj.1
theorem safe_I {t:List TyB4×Int×Int×Unit} (ht:g69_0 t=true) (c:Int) :
  P42 t c∧P43 t∧(g42_0 t c=true→g79_0 t≤g79_1 t∧(g79_0 t=0∨c≤g80_0 t - 2*(g79_0 t - 1)))∧(0≤g79_0 t∧g79_0 t+g79_1 t=g80_0 t):=by
 obtain ⟨t1,t2,t3,t4,t5⟩:=track_ok ht
 have pl:P80 t:=⟨by omega,fun y hy=>by have:=t2 y hy;omega⟩
 have pp:P79 t:=⟨pl,by rw [i64_iff];omega,pl,by rw [i64_iff];omega,trivial⟩
 have e2:g79_2 t=decide (g79_0 t≤g79_1 t):=rfl
 have hb:(0≤g79_0 t∧g79_0 t≤g80_0 t)∧g79_0 t+g79_1 t=g80_0 t:=by
  unfold g79_0 g79_1
  split <;> split <;> omega
 have hm:Int.tmod (g80_0 t) 2=g80_0 t % 2:=Int.tmod_eq_emod_of_nonneg t3.1
 unfold P42 P43 g42_0 g43_0 g43_1 P81 g81_0 P107 g107_0
 rw [e2,hm]
 generalize g79_0 t=lo at *
 generalize g79_1 t=hi at *
 generalize g80_0 t=n at *
 by_cases hc:lo≤hi
 ·have d1:decide (lo≤hi)=true:=decide_eq_true hc
  by_cases hz:lo=0
  ·have d3:(lo==0)=true:=by simpa using hz
   simp only [d1,d3,Bool.not_true,Bool.false_eq_true,if_false,if_true,Bool.not_false,pp,pl,true_and,and_true]
   omega
  ·have d3:(lo==0)=false:=by simpa using hz
   have d4:decide (n - 2*(lo - 1)<0)=false:=decide_eq_false (by omega)
   have i1:InR .i64 (lo - 1):=by rw [i64_iff];omega
   have i2:InR .i64 (2*(lo - 1)):=by rw [i64_iff];omega
   have i3:InR .i64 (n - 2*(lo - 1)):=by rw [i64_iff];omega
   simp only [d1,d3,d4,i1,i2,i3,Bool.not_true,Bool.false_eq_true,if_false,if_true,Bool.not_false,pp,pl,true_and,and_true,decide_eq_true_eq]
   omega
 ·have d1:decide (lo≤hi)=false:=decide_eq_false hc
  have i1:InR .i64 (n % 2):=by rw [i64_iff];omega
  simp only [d1,i1,Bool.not_true,Bool.false_eq_true,if_false,if_true,Bool.not_false,pp,pl,true_and,and_true,false_implies]
  omega
theorem motion_I (x:(TyA0)) (h:g16_0 x=true) (hu:∀ d,P45 x.1 x.2.2.1 x.2.2.2.1 d):P18 x∧(g18_0 x).length≤3∧(g18_0 x=[]→g42_0 x.1 x.2.1=true∧∀ d,g45_1 x.1 x.2.2.1 x.2.2.2.1 d≠0):=by
 obtain ⟨h1,_⟩:=works_ok x h
 obtain ⟨s1,s2,_⟩:=safe_I (show g69_0 x.1=true from h1) x.2.1
 have pd:∀ n,P44 n:=fun n=>⟨rfl,trivial⟩
 refine ⟨⟨s1,fun _=>⟨s2,pd _⟩,⟨hu false,fun _=>pd _⟩,hu true,fun _=>pd _⟩,?_,?_⟩
 ·unfold g18_0 trk018 one18
  simp only [List.length_append]
  split <;> split <;> split <;> simp
 ·intro he
  unfold g18_0 at he
  simp only [List.append_eq_nil_iff] at he
  obtain ⟨⟨e1,e2⟩,e3⟩:=he
  refine ⟨?_,fun d hd => ?_⟩
  ·unfold trk018 at e1
   by_cases c:g42_0 x.1 x.2.1=true
   ·exact c
   ·rw [if_pos (by rw [Bool.eq_false_iff.2 c];rfl)] at e1
    cases e1
  ·unfold one18 at e2 e3
   cases d with
   | false=>rw [if_pos (by rw [hd];rfl)] at e2;cases e2
   | true=>rw [if_pos (by rw [hd];rfl)] at e3;cases e3
theorem skI_len (t:Int):∀ l:List TyB4,(sk49 t l).length=l.length - 1
 | []=>rfl
 | [_]=>rfl
 | x :: y :: r=>by
  simp only [sk49,List.length_cons,skI_len t (y :: r)]
  omega
theorem slackI (x:(TyA0)) (h:g16_0 x=true):g49_0 x.2.2.2.2.2.2.2.2.2.1 x.2.2.2.2.2.2.2.2.2.2.1=sk49 x.2.2.2.2.2.2.2.2.2.2.1 x.2.2.2.2.2.2.2.2.2.1:=by
 obtain ⟨_,_,_,_,_,_,_,h3,_⟩:=works_ok x h
 obtain ⟨h3,t0,_⟩:=ask_rides h3
 unfold g49_0 g87_0
 have e1:g77_0 x.2.2.2.2.2.2.2.2.2.2.1=true:=t0
 have e2:g76_0 x.2.2.2.2.2.2.2.2.2.1=true:=h3
 rw [e1,e2,if_neg (by decide)]
theorem service_I (x:(TyA0)) (h:g16_0 x=true):P19 x∧(g19_0 x).length≤60∧(g19_0 x=[]→(∀ y∈x.2.2.2.2.1,g46_0 (y.2.1,y.2.2.1,75*y.2.1+15*y.2.2.1+y.2.2.2.1,()) x.2.2.2.2.2.1=true)∧(∀ y∈x.2.2.2.2.2.2.1,g48_0 y x.2.2.2.2.2.2.2.1 x.2.2.2.2.2.2.2.2.1=false)∧∀ n∈sk49 x.2.2.2.2.2.2.2.2.2.2.1 x.2.2.2.2.2.2.2.2.2.1,0≤n):=by
 obtain ⟨_,_,_,_,h1,_,h2,h3,_⟩:=works_ok x h
 obtain ⟨g1,g2⟩:=groups_ok _ h1
 obtain ⟨h2,d1,d2,d3,d4⟩:=ask_check h2
 obtain ⟨c1,c2⟩:=checks_ok _ h2
 obtain ⟨h3,t0,t1,t2⟩:=ask_rides h3
 obtain ⟨r1,r2⟩:=rides_ok _ h3
 have es:=slackI x h
 have hl:=skI_len x.2.2.2.2.2.2.2.2.2.2.1 x.2.2.2.2.2.2.2.2.2.1
 have q1:∀ y∈x.2.2.2.2.1,P47 y:=fun y hy=>by
  have:=group_range y (g1 y hy)
  unfold P47
  simp only [i64_iff,and_true]
  omega
 have q2:∀ y∈x.2.2.2.2.2.2.1,P48 y x.2.2.2.2.2.2.2.1 x.2.2.2.2.2.2.2.2.1:=fun y hy=>by
  have:=check_range y (c1 y hy)
  unfold P48 P86
  simp only [i64_iff,and_true]
  omega
 have q3:P49 x.2.2.2.2.2.2.2.2.2.1 x.2.2.2.2.2.2.2.2.2.2.1 := .inr ⟨by omega,by omega,by omega,fun y hy=>by
  have:=ride_range y (r1 y hy)
  have e:g88_0 y=y.1+y.2.1:=rfl
  unfold ok49 P88
  rw [e]
  simp only [i64_iff,and_true]
  omega⟩
 have l1:∀ i y,(fG19 x.2.2.2.2.2.1 i y).length≤1:=fun i y=>by unfold fG19;split <;> simp
 have l2:∀ i y,(fC19 x.2.2.2.2.2.2.2.1 x.2.2.2.2.2.2.2.2.1 i y).length≤1:=fun i y=>by unfold fC19;split <;> simp
 have l3:∀ i y,(fS19 i y).length≤1:=fun i y=>by unfold fS19;split <;> simp
 have b1:=bl_len _ l1 x.2.2.2.2.1 0
 have b2:=bl_len _ l2 x.2.2.2.2.2.2.1 0
 have b3:=bl_len _ l3 (sk49 x.2.2.2.2.2.2.2.2.2.2.1 x.2.2.2.2.2.2.2.2.2.1) 0
 refine ⟨⟨by omega,by omega,by rw [es];omega,q1,q2,q3⟩,?_,fun he => ?_⟩
 ·unfold g19_0
  rw [es]
  simp only [List.length_append]
  omega
 ·unfold g19_0 at he
  rw [es] at he
  simp only [List.append_eq_nil_iff] at he
  obtain ⟨⟨h1,h2⟩,h3⟩:=he
  refine ⟨fun y hy => ?_,fun y hy => ?_,fun n hn => ?_⟩
  ·obtain ⟨j,hj⟩:=List.mem_iff_getElem?.1 hy
   have:=bl_none _ _ _ h1 j y hj
   unfold fG19 at this
   by_cases c:g46_0 (y.2.1,y.2.2.1,75*y.2.1+15*y.2.2.1+y.2.2.2.1,()) x.2.2.2.2.2.1=true
   ·exact c
   ·rw [if_pos (by rw [Bool.eq_false_iff.2 c];rfl)] at this
    cases this
  ·obtain ⟨j,hj⟩:=List.mem_iff_getElem?.1 hy
   have:=bl_none _ _ _ h2 j y hj
   unfold fC19 at this
   by_cases c:g48_0 y x.2.2.2.2.2.2.2.1 x.2.2.2.2.2.2.2.2.1=true
   ·rw [if_pos c] at this
    cases this
   ·exact Bool.eq_false_iff.2 c
  ·obtain ⟨j,hj⟩:=List.mem_iff_getElem?.1 hn
   have:=bl_none _ _ _ h3 j n hj
   unfold fS19 at this
   by_cases c:n<0
   ·rw [if_pos (decide_eq_true c)] at this
    cases this
   ·omega
theorem log_I (x:(TyA0)) (h:g16_0 x=true):P20 x∧(g20_0 x).length≤1∧(g20_0 x=[]→g50_1 x.2.2.2.2.2.2.2.2.2.2.2.1=3):=by
 have hl:=(works_ok x h).2.2.2.2.2.2.2.2
 obtain ⟨h1,h2⟩:=lines_ok _ hl
 have pf:P50 x.2.2.2.2.2.2.2.2.2.2.2.1:=fun _=>⟨by omega,fun y hy c=>(seal_pre y (h1 y hy) c).2⟩
 have p1:∀ n,P44 n:=fun n=>⟨rfl,trivial⟩
 have hv:g78_0 x.2.2.2.2.2.2.2.2.2.2.2.1=true:=by rw [list_Line];exact hl
 have hr:(g50_1 x.2.2.2.2.2.2.2.2.2.2.2.1=3)∨(g50_1 x.2.2.2.2.2.2.2.2.2.2.2.1=0∧0≤g50_0 x.2.2.2.2.2.2.2.2.2.2.2.1∧g50_0 x.2.2.2.2.2.2.2.2.2.2.2.1<(x.2.2.2.2.2.2.2.2.2.2.2.1.length:Int)):=by
  unfold g50_0 g50_1
  rw [if_pos hv,if_pos hv]
  cases hf:fb50 0 x.2.2.2.2.2.2.2.2.2.2.2.1 (g89_0 x.2.2.2.2.2.2.2.2.2.2.2.1) with
  | none=>exact .inl rfl
  | some k =>
   have:=fb_range _ _ _ _ hf
   exact .inr ⟨rfl,this.1,by show k<_;omega⟩
 unfold P20 g20_0
 rcases hr with hr | ⟨hr,r1,r2⟩
 ·rw [hr]
  simp [pf]
 ·rw [hr]
  simp [pf,p1,r1,r2]
theorem all_I (x:(TyA0)) (hu:g16_0 x=true→∀ d,P45 x.1 x.2.2.1 x.2.2.2.1 d):g7_0 x=(if g16_0 x=true then g18_0 x++g19_0 x++g20_0 x else [])∧g7_1 x=(if g16_0 x=true then 0 else 1)∧P7 x:=by
 unfold g7_0 g7_1 P7 g17c18c19c20_0 g17c18c19c20_1 P17c18c19c20
 rw [valid_works]
 by_cases h:g16_0 x=true
 ·obtain ⟨p1,hl,_⟩:=motion_I x h (hu h)
  obtain ⟨q1,hk,_⟩:=service_I x h
  obtain ⟨r1,hm,_⟩:=log_I x h
  have hf:¬ (!g16_0 x)=true:=by rw [h];simp
  simp only [if_neg hf,if_pos h,p1,q1,r1,true_and,and_true,List.length_append]
  exact ⟨by omega,by omega,by omega⟩
 ·have hf:(!g16_0 x)=true:=by rw [Bool.eq_false_iff.2 h];rfl
  simp only [if_pos hf,if_neg h,true_and,and_true]
theorem near_I {a:Int} (h:0≤a∧a≤100000000):P153 a 100∧0≤g153_0 a 100∧g153_0 a 100≤10000000:=by
 have e1:Int.tdiv a 100=a / 100:=Int.tdiv_eq_ediv_of_nonneg h.1
 have e2:Int.tmod a 100=a % 100:=Int.tmod_eq_emod_of_nonneg h.1
 have n1:decide (a<0)=false:=decide_eq_false (by omega)
 have n2:decide ((100:Int)<0)=false:=by decide
 have n3:decide (a % 100<0)=false:=decide_eq_false (by omega)
 have i1:InR .i64 (a / 100):=by rw [i64_iff];omega
 have i2:InR .i64 (a % 100):=by rw [i64_iff];omega
 have i3:InR .i64 (100 - a % 100):=by rw [i64_iff];omega
 have i4:InR .i64 (a / 100+1):=by rw [i64_iff];omega
 unfold P153 g153_0 P107 g107_0
 simp only [e1,e2,n1,n2,n3,Bool.false_eq_true,if_false,i1,i2,i3,i4,true_and,and_true,beq_self_eq_true,Bool.not_true,decide_eq_true_eq,ge_iff_le]
 refine ⟨?_,?_,?_⟩
 ·refine ⟨by decide,by decide,?_⟩
  split <;> trivial
 ·split <;> omega
 ·split <;> omega
theorem force_I {b:Int×Int×Unit} (hb:(0≤b.1∧b.1≤100)∧(1≤b.2.1∧b.2.1≤10000)) {g:Int} (hg:0≤g∧g≤900) (d:Bool):P145 b g d ∧ -100000000≤g145_0 b g d∧g145_0 b g d≤100000000:=by
 obtain ⟨n1,n4,n5⟩:=near_I (a:=g*981) ⟨by omega,by omega⟩
 have i1:InR .i64 (g*981):=by rw [i64_iff];omega
 unfold P145 g145_0
 cases d with
 | true =>
  simp only [if_true]
  exact ⟨⟨i1,n1,by rw [i64_iff];omega,trivial⟩,by omega,by omega⟩
 | false =>
  simp only [Bool.false_eq_true,if_false]
  exact ⟨⟨i1,n1,by rw [i64_iff];omega,trivial⟩,by omega,by omega⟩
theorem up_I {a b:Int} (ha:0≤a∧a≤1000000000) (hb:1≤b∧b≤1000000000):P146 a b∧0≤g146_0 a b∧g146_0 a b≤2000000000:=by
 have e:Int.tdiv (a+b - 1) b=(a+b - 1) / b:=Int.tdiv_eq_ediv_of_nonneg (by omega)
 have h1:0≤(a+b - 1) / b:=Int.ediv_nonneg (by omega) (by omega)
 have h2:(a+b - 1) / b≤a+b - 1:=Int.ediv_le_self b (by omega)
 refine ⟨⟨by rw [i64_iff];omega,by rw [i64_iff];omega,by omega,by rw [e,i64_iff];omega,trivial⟩,?_,?_⟩
 ·show 0≤Int.tdiv (a+b - 1) b
  omega
 ·show Int.tdiv (a+b - 1) b≤2000000000
  omega
theorem way_I {b:Int×Int×Unit} (hb:(0≤b.1∧b.1≤100)∧(1≤b.2.1∧b.2.1≤10000)) {g s:Int} (hg:0≤g∧g≤900) (hs:0≤s∧s≤15000) (d:Bool):P132 b s g d:=by
 obtain ⟨f1,f4,f5⟩:=force_I hb hg d
 obtain ⟨m1,m2⟩:=mul_bd hs.1 hs.2 hb.1.1 hb.1.2
 obtain ⟨m3,m4⟩:=mul_bd hs.1 hs.2 hs.1 hs.2
 unfold P132
 generalize g145_0 b g d=f at *
 by_cases hf:f≤0
 ·rw [decide_eq_true hf]
  simp only [if_true]
  exact ⟨f1,trivial⟩
 ·rw [decide_eq_false hf]
  simp only [Bool.false_eq_true,if_false]
  obtain ⟨u1,u4,u5⟩:=up_I (a:=s*b.1) (b:=10) ⟨m1,by omega⟩ ⟨by omega,by omega⟩
  obtain ⟨v1,v4,v5⟩:=up_I (a:=s*s) (b:=2*f) ⟨m3,by omega⟩ ⟨by omega,by omega⟩
  exact ⟨f1,by rw [i64_iff];omega,u1,by rw [i64_iff];omega,by rw [i64_iff];omega,v1,by rw [i64_iff];omega,trivial⟩
theorem grade_I {t:List TyB4×Int×Int×Unit} (ht:(1≤t.1.length∧t.1.length≤12)∧(∀ x∈t.1,(1≤x.1∧x.1≤3000000)∧(0≤x.2.1∧x.2.1≤900))) (d:Bool):P111 t d∧0≤g111_0 t d∧g111_0 t d≤900:=by
 obtain ⟨⟨h1,h2⟩,h3⟩:=ht
 have m0:=mem_getD t.1 0 ((0:Int),(0:Int),()) (by omega)
 refine ⟨⟨h1,by omega⟩,?_⟩
 show 0≤worstL d (t.1.getD 0 ((0:Int),(0:Int),())).2.1 t.1∧worstL d (t.1.getD 0 ((0:Int),(0:Int),())).2.1 t.1≤900
 rcases worst_mem d t.1 (t.1.getD 0 ((0:Int),(0:Int),())).2.1 with h | ⟨y,hy,h⟩
 ·rw [h]
  exact (h3 _ m0).2
 ·rw [h]
  exact (h3 _ hy).2
theorem time_I {t:List TyB4×Int×Int×Unit} {b:Int×Int×Unit} (ht:g69_0 t=true) (hb:g71_0 b=true) {x s:Int} (hx:0≤x∧x≤g80_0 t) (hs:0≤s∧s≤15000) (d:Bool) :
  P85 t b x s d:=by
 obtain ⟨t1,t2,t3,_⟩:=track_ok ht
 obtain ⟨g1,g4⟩:=grade_I ⟨t1,t2⟩ d
 have w1:=way_I (brake_ok hb) g4 hs d
 have pl:P80 t:=⟨by omega,fun y hy=>by have:=t2 y hy;omega⟩
 have i1:InR .i64 (g80_0 t - x):=by rw [i64_iff];omega
 unfold P85 P110
 cases d with
 | true =>
  simp only [if_true]
  exact ⟨pl,i1,g1,⟨w1,trivial⟩,trivial⟩
 | false =>
  simp only [Bool.false_eq_true,if_false]
  exact ⟨pl,i1,g1,⟨w1,trivial⟩,trivial⟩
theorem may_I {p:Int×Int×Int×Int×Unit} (hp:(1≤p.1∧p.1≤2000)∧(100≤p.2.1∧p.2.1≤15000)∧(100≤p.2.2.1∧p.2.2.1≤p.2.1)∧(0≤p.2.2.2.1∧p.2.2.2.1≤3000000)) {l:Int} (hl:0≤l∧l≤3000000) (v:Int) (hv:0≤v∧v≤20000) :
  P131 v p l∧(v=p.2.2.1→g131_0 v p l=false):=by
 obtain ⟨m1,m2⟩:=mul_bd hv.1 hv.2 hv.1 hv.2
 obtain ⟨m3,m4⟩:=mul_bd (a:=p.2.2.1) (b:=p.2.2.1) (A:=15000) (B:=15000) (by omega) (by omega) (by omega) (by omega)
 have hmax:0≤(if 0<l - v - p.2.2.2.1 then l - v - p.2.2.2.1 else 0)∧(if 0<l - v - p.2.2.2.1 then l - v - p.2.2.2.1 else 0)≤3000000:=by split <;> omega
 unfold P131 g131_0
 generalize (if 0<l - v - p.2.2.2.1 then l - v - p.2.2.2.1 else 0)=x at *
 obtain ⟨m5,m6⟩:=mul_bd (a:=2*p.1) (b:=x) (A:=4000) (B:=3000000) (by omega) (by omega) hmax.1 hmax.2
 refine ⟨⟨by rw [i64_iff];omega,by rw [i64_iff];omega,by rw [i64_iff];omega,by rw [i64_iff];omega,by rw [i64_iff];omega,by rw [i64_iff];omega,by rw [i64_iff];omega,trivial⟩,fun e => ?_⟩
 subst e
 exact decide_eq_false (by omega)
theorem next_I {p:Int×Int×Int×Int×Unit} (hp:g72_0 p=true) {s l:Int} (hs:0≤s∧s≤15000) (hl:1≤l∧l≤3000000) :
  P109 p s l∧1≤g109_0 p s l∧g109_0 p s l≤l∧g109_0 p s l≤15000:=by
 have hq:=profile_ok hp
 obtain ⟨h1,h2,h3,h4⟩:=hq
 have hm:=fun v hv=>may_I (p:=p) ⟨h1,h2,h3,h4⟩ (l:=l) ⟨by omega,hl.2⟩ v hv
 obtain ⟨H,hH⟩:∃ H,(if s+p.1<p.2.1 then s+p.1 else p.2.1)=H:=⟨_,rfl⟩
 have hHb:1≤H∧H≤15000:=by rw [← hH];split <;> omega
 by_cases hc:H>p.2.2.1
 ·have pl:P130c131 p.2.2.1 H p l:=⟨⟨by omega,by omega,by omega⟩,fun v a b=>(hm v ⟨a,by omega⟩).1⟩
  have hb:p.2.2.1+1≤g130c131_0 p.2.2.1 H p l∧g130c131_0 p.2.2.1 H p l≤H+1:=by
   obtain ⟨b1,b2,b3,_⟩:=bsI_ok (fun v=>g131_0 v p l) p.2.2.1 (H+1) (H+1 - p.2.2.1).toNat p.2.2.1 (H+1) (by omega) (by omega) (by omega) (.inl rfl) (.inl rfl) (Int.le_refl _) (Int.le_refl _)
   have e:g130c131_0 p.2.2.1 H p l=bsI (fun v=>g131_0 v p l) (H+1 - p.2.2.1).toNat p.2.2.1 (H+1):=rfl
   rw [e]
   generalize bsI (fun v=>g131_0 v p l) (H+1 - p.2.2.1).toNat p.2.2.1 (H+1)=r at *
   refine ⟨?_,b2⟩
   rcases b3 with b3 | b3
   ·omega
   ·rcases Int.lt_or_le p.2.2.1 r with h | h
    ·omega
    ·have:r=p.2.2.1:=by omega
     subst this
     rw [(hm _ ⟨by omega,by omega⟩).2 rfl] at b3
     cases b3
  have ei:g109_0 p s l=if l<g130c131_0 p.2.2.1 H p l - 1 then l else g130c131_0 p.2.2.1 H p l - 1:=by
   unfold g109_0
   rw [hH,if_pos (by simpa using hc)]
  have pi:P109 p s l:=by
   unfold P109
   rw [hH,if_pos (by simpa using hc)]
   exact ⟨by rw [i64_iff];omega,pl,by rw [i64_iff];omega,trivial⟩
  refine ⟨pi,?_⟩
  rw [ei]
  split <;> omega
 ·have ei:g109_0 p s l=if l<p.2.2.1 then l else p.2.2.1:=by
   unfold g109_0
   rw [hH,if_neg (by simpa using hc)]
  have pi:P109 p s l:=by
   unfold P109
   rw [hH,if_neg (by simpa using hc)]
   exact ⟨by rw [i64_iff];omega,trivial⟩
  refine ⟨pi,?_⟩
  rw [ei]
  split <;> omega
theorem unsafe_P {t:List TyB4×Int×Int×Unit} {b:Int×Int×Unit} {p:Int×Int×Int×Int×Unit} (ht:g69_0 t=true) (hb:g71_0 b=true) (hp:g72_0 p=true) (d:Bool):P45 t b p d:=by
 obtain ⟨t1,t2,t3,_⟩:=track_ok ht
 have pl:P80 t:=⟨by omega,fun y hy=>by have:=t2 y hy;omega⟩
 have hn:=fun s l (a:0≤s) (b:s≤15000) (c:1≤l) (d:l≤g80_0 t)=>next_I hp (s:=s) (l:=l) ⟨a,b⟩ ⟨c,by omega⟩
 exact fun _ _ _=>⟨pl,t3,fun s l a b c e=>hn s l a b c e,fun place s k fd a b' c e f g=>by
  have q1:=time_I ht hb (x:=place) (s:=s) ⟨a,b'⟩ ⟨c,e⟩ d
  have q2:=time_I ht hb (x:=g80_0 t - place) (s:=s) ⟨by omega,by omega⟩ ⟨c,e⟩ d
  unfold P84
  refine ⟨by rw [i64_iff];omega,?_⟩
  split
  ·refine ⟨by rw [i64_iff];omega,?_⟩
   split
   ·exact ⟨q2,trivial⟩
   ·trivial
  ·split
   ·exact ⟨q1,trivial⟩
   ·trivial⟩
theorem works_mk (x:(TyA0)) (h1:g32_0 x.1=true) (h2:g33_0 x.2.1=true) (h3:g34_0 x.2.2.1=true) (h4:g35_0 x.2.2.2.1=true) (h5:g36_0 x.2.2.2.2.1=true) (h6:g37_0 x.2.2.2.2.2.1=true) (h7:g38_0 x.2.2.2.2.2.2.1 x.2.2.2.2.2.2.2.1 x.2.2.2.2.2.2.2.2.1=0) (h8:g39_0 x.2.2.2.2.2.2.2.2.2.1 x.2.2.2.2.2.2.2.2.2.2.1=0) (h9:g40_0 x.2.2.2.2.2.2.2.2.2.2.2.1=true):g16_0 x=true:=by
 unfold g16_0
 rw [h1,h2,h3,h4,h5,h6,h7,h8,h9]
 rfl
theorem firstP (x:(TyA0)) (h:g16_0 x=true) (d:Bool):P45 x.1 x.2.2.1 x.2.2.2.1 d:=by
 obtain ⟨h1,_,h3,h4,_⟩:=works_ok x h
 exact unsafe_P (show g69_0 x.1=true from h1) (show g71_0 x.2.2.1=true from h3) (show g72_0 x.2.2.2.1=true from h4) d
theorem parts (x:(TyA0)) (h:g16_0 x=true):(P7 x∧g7_1 x=0∧g7_0 x=g18_0 x++g19_0 x++g20_0 x)∧(P8 x∧g8_1 x=0∧g8_0 x=g18_0 x)∧(P9 x∧g9_1 x=0∧g9_0 x=g19_0 x)∧(P10 x∧g10_1 x=0∧g10_0 x=g20_0 x) ∧
  (g18_0 x).length≤3∧(g19_0 x).length≤60∧(g20_0 x).length≤1:=by
 obtain ⟨a0,a1,a2⟩:=all_I x (fun h=>firstP x h)
 rw [if_pos h] at a0 a1
 obtain ⟨p1,hl,_⟩:=motion_I x h (firstP x h)
 obtain ⟨q1,hk,_⟩:=service_I x h
 obtain ⟨r1,hm,_⟩:=log_I x h
 have hf:¬ (!g41_0 x)=true:=by rw [valid_works,h];simp
 refine ⟨⟨a2,a1,a0⟩,?_,?_,?_,hl,hk,hm⟩
 ·unfold P8 g8_1 g8_0 P17c18 g17c18_1 g17c18_0
  simp only [if_neg hf]
  exact ⟨⟨⟨p1,by omega,trivial⟩,trivial⟩,by first | rfl | trivial,by first | rfl | trivial⟩
 ·unfold P9 g9_1 g9_0 P17c19 g17c19_1 g17c19_0
  simp only [if_neg hf]
  exact ⟨⟨⟨q1,by omega,trivial⟩,trivial⟩,by first | rfl | trivial,by first | rfl | trivial⟩
 ·unfold P10 g10_1 g10_0 P17c20 g17c20_1 g17c20_0
  simp only [if_neg hf]
  exact ⟨⟨⟨r1,by omega,trivial⟩,trivial⟩,by first | rfl | trivial,by first | rfl | trivial⟩
theorem name_sz {x:ByteArray} (h:g93_0 x=true):x.size≤10:=by
 unfold g93_0 at h
 simp only [Bool.and_eq_true,decide_eq_true_eq] at h
 exact h.1.1.2
def Pr (a b:Int) (x:TyB3):Prop:=(a≤x.1∧x.1≤b)∧x.2.1.size≤100∧x.2.2.1.size≤100
theorem Pr.up {a b a' b':Int} {x:TyB3} (h:Pr a b x) (h1:a'≤a) (h2:b≤b'):Pr a' b' x:=⟨⟨by have:=h.1.1;omega,by have:=h.1.2;omega⟩,h.2⟩
theorem dec_sz {n:Int} (h:InR .i64 n):(g44_0 n).size≤100:=by
 rw [i64_iff] at h
 have e2:g44_0=numB:=rfl
 rw [e2]
 have:=numB_size n h.1 h.2
 omega
theorem bl_mem {α β:Type} (f:Nat→α→List β):∀ (l:List α) (i:Nat) (x:β),x∈bl f i l→∃ j y,y∈l∧j<i+l.length∧x∈f j y
 | [],_,_,h=>by cases h
 | a :: r,i,x,h=>by
  simp only [bl,List.mem_append] at h
  rcases h with h | h
  ·exact ⟨i,a,List.mem_cons_self .., by simp,h⟩
  ·obtain ⟨j,y,h1,h2,h3⟩:=bl_mem f r (i+1) x h
   exact ⟨j,y,List.mem_cons_of_mem _ h1,by simp only [List.length_cons];omega,h3⟩
theorem motion_pr (x:(TyA0)) (h:g16_0 x=true):∀ y∈g18_0 x,Pr 1 2 y:=by
 have ht:g69_0 x.1=true:=(works_ok x h).1
 have hl:(g44_0 (g43_0 x.1)).size≤100:=by
  obtain ⟨t1,t2,t3,t4,t5⟩:=track_ok ht
  obtain ⟨_,_,_,hb⟩:=safe_I ht 0
  refine dec_sz ?_
  have hm:Int.tmod (g80_0 x.1) 2=g80_0 x.1 % 2:=Int.tmod_eq_emod_of_nonneg t3.1
  have hlo:g79_0 x.1≤g80_0 x.1:=by
   unfold g79_0
   split <;> omega
  unfold g43_0 g81_0 g107_0
  rw [hm,i64_iff]
  split
  ·omega
  ·split
   ·omega
   ·split <;> omega
 have hu:∀ d,(g44_0 (g45_0 x.1 x.2.2.1 x.2.2.2.1 d)).size≤100:=fun d=>dec_sz (rng45 _ _ _ _ (firstP x h d)).1
 have o:∀ (who:ByteArray) (d:Bool),who.size≤100→∀ y∈one18 x who d,Pr 1 2 y:=fun who d hw y hy=>by
  unfold one18 at hy
  split at hy
  ·rw [List.mem_singleton.1 hy]
   exact ⟨⟨by show (1:Int)≤2;decide,by show (2:Int)≤2;decide⟩,hw,hu d⟩
  ·cases hy
 intro y hy
 unfold g18_0 at hy
 simp only [List.mem_append] at hy
 rcases hy with (hy | hy) | hy
 ·unfold trk018 at hy
  split at hy
  ·rw [List.mem_singleton.1 hy]
   exact ⟨⟨by show (1:Int)≤1;decide,by show (1:Int)≤2;decide⟩,by show (ByteArray.mk #[99,97,114,115]).size≤100;decide,hl⟩
  ·cases hy
 ·exact o _ false (by decide) y hy
 ·exact o _ true (by decide) y hy
theorem sk_rng {t:Int} (ht:0≤t∧t≤1440):∀ (l:List TyB4),(∀ y∈l,0≤y.1∧y.1≤1440∧0≤y.2.1∧y.2.1≤1440)→∀ n∈sk49 t l,InR .i64 n
 | [],_,n,hn=>by cases hn
 | [_],_,n,hn=>by cases hn
 | x :: y :: r,h,n,hn=>by
  simp only [sk49,List.mem_cons] at hn
  rcases hn with rfl | hn
  ·have a:=h x (List.mem_cons_self ..)
   have b:=h y (List.mem_cons_of_mem _ (List.mem_cons_self ..))
   have e:g88_0 x=x.1+x.2.1:=rfl
   rw [e,i64_iff]
   omega
  ·exact sk_rng ht (y :: r) (fun z hz=>h z (List.mem_cons_of_mem _ hz)) n hn
theorem service_pr (x:(TyA0)) (h:g16_0 x=true):∀ y∈g19_0 x,Pr 3 5 y:=by
 obtain ⟨_,_,_,_,h1,_,h2,h3,_⟩:=works_ok x h
 obtain ⟨g1,g2⟩:=groups_ok _ h1
 obtain ⟨h2,d1,d2,d3,d4⟩:=ask_check h2
 obtain ⟨c1,c2⟩:=checks_ok _ h2
 obtain ⟨h3,t0,t1,t2⟩:=ask_rides h3
 obtain ⟨r1,r2⟩:=rides_ok _ h3
 have hl:=skI_len x.2.2.2.2.2.2.2.2.2.2.1 x.2.2.2.2.2.2.2.2.2.1
 intro y hy
 unfold g19_0 at hy
 rw [slackI x h] at hy
 simp only [List.mem_append] at hy
 rcases hy with (hy | hy) | hy
 ·obtain ⟨j,z,hz,_,hy⟩:=bl_mem _ _ _ _ hy
  unfold fG19 at hy
  split at hy
  ·rw [List.mem_singleton.1 hy]
   have hg:=g1 z hz
   have hr:=group_range z hg
   unfold g61_0 at hg
   have hn:=name_sz (thenT hg).1
   exact ⟨⟨by show (3:Int)≤3;decide,by show (3:Int)≤5;decide⟩,by show z.1.size≤100;omega,dec_sz (by rw [i64_iff];omega)⟩
  ·cases hy
 ·obtain ⟨j,z,hz,_,hy⟩:=bl_mem _ _ _ _ hy
  unfold fC19 at hy
  split at hy
  ·rw [List.mem_singleton.1 hy]
   have hg:=c1 z hz
   unfold g94_0 at hg
   have hn:=name_sz (thenT hg).1
   exact ⟨⟨by show (3:Int)≤4;decide,by show (4:Int)≤5;decide⟩,by show z.1.size≤100;omega,by show (ByteArray.mk #[111,118,101,114,100,117,101]).size≤100;decide⟩
  ·cases hy
 ·obtain ⟨j,z,hz,hj,hy⟩:=bl_mem _ _ _ _ hy
  unfold fS19 at hy
  split at hy
  ·rw [List.mem_singleton.1 hy]
   exact ⟨⟨by show (3:Int)≤5;decide,by show (5:Int)≤5;decide⟩,dec_sz (by rw [i64_iff];omega),dec_sz (sk_rng ⟨t1,t2⟩ _ (fun w hw=>ride_range w (r1 w hw)) z hz)⟩
  ·cases hy
theorem log_shape (x:(TyA0)) (h:g16_0 x=true):(g20_0 x=[]∧fb50 0 x.2.2.2.2.2.2.2.2.2.2.2.1 (g89_0 x.2.2.2.2.2.2.2.2.2.2.2.1)=none)∨∃ k s,fb50 0 x.2.2.2.2.2.2.2.2.2.2.2.1 (g89_0 x.2.2.2.2.2.2.2.2.2.2.2.1)=some k∧(0≤k∧k<40)∧g20_0 x=[(6,g44_0 k,g44_0 s,())]∧InR .i64 s:=by
 have hl:=(works_ok x h).2.2.2.2.2.2.2.2
 obtain ⟨h1,h2⟩:=lines_ok _ hl
 have hv:g78_0 x.2.2.2.2.2.2.2.2.2.2.2.1=true:=by rw [list_Line];exact hl
 unfold g20_0 g50_1 g50_0
 rw [if_pos hv,if_pos hv]
 cases hf:fb50 0 x.2.2.2.2.2.2.2.2.2.2.2.1 (g89_0 x.2.2.2.2.2.2.2.2.2.2.2.1) with
 | none=>exact .inl ⟨rfl,rfl⟩
 | some k =>
  have hr:=fb_range _ _ _ _ hf
  refine .inr ⟨k,_,rfl,⟨hr.1,by omega⟩,if_neg (show ¬ ((0:Int) != 0)=true by decide),?_⟩
  exact (line_sizes _ (h1 _ (mem_getD _ k.toNat _ (by omega)))).2.2.2
theorem log_pr (x:(TyA0)) (h:g16_0 x=true):∀ y∈g20_0 x,Pr 6 6 y:=by
 intro y hy
 rcases log_shape x h with ⟨e,_⟩ | ⟨k,s,_,hk,e,hs⟩
 ·rw [e] at hy;cases hy
 ·rw [e] at hy
  rw [List.mem_singleton.1 hy]
  exact ⟨⟨by show (6:Int)≤6;decide,by show (6:Int)≤6;decide⟩,dec_sz (by rw [i64_iff];omega),dec_sz hs⟩
theorem all_pr (x:(TyA0)) (h:g16_0 x=true):∀ y∈g7_0 x,Pr 1 6 y:=by
 intro y hy
 rw [(parts x h).1.2.2] at hy
 simp only [List.mem_append] at hy
 rcases hy with (hy | hy) | hy
 ·exact (motion_pr x h y hy).up (by decide) (by decide)
 ·exact (service_pr x h y hy).up (by decide) (by decide)
 ·exact (log_pr x h y hy).up (by decide) (by decide)
theorem fold_len7:∀ (l:List TyB3) (h:List Int),(l.foldl (fun h x=>bump1 h x.1) h).length=h.length
 | [],_=>rfl
 | y :: l,h=>by rw [List.foldl_cons,fold_len7 l,bump1_length]
theorem fold_get7:∀ (l:List TyB3) (h:List Int) (j:Nat),h.length=7→j<7→(∀ x∈l,0≤x.1)→(l.foldl (fun h x=>bump1 h x.1) h).getD j 0=h.getD j 0+((l.filter fun x=>x.1==(j:Int)).length:Int)
 | [],h,j,_,_,_=>by simp
 | y :: l,h,j,h7,hj,hp=>by
  have h0:=hp y (List.mem_cons_self ..)
  rw [List.foldl_cons,fold_get7 l _ j (by rw [bump1_length];exact h7) hj (fun x hx=>hp x (List.mem_cons_of_mem _ hx)),List.filter_cons]
  by_cases c:y.1=(j:Int)
  ·have e:y.1.toNat=j:=by omega
   rw [if_pos (by simpa using c),List.length_cons]
   unfold bump1
   rw [e,List.getD_eq_getElem?_getD,List.getElem?_set_self (by omega),Option.getD_some]
   omega
  ·have e:y.1.toNat≠j:=by omega
   rw [if_neg (by simpa using c)]
   unfold bump1
   rw [List.getD_eq_getElem?_getD,List.getElem?_set_ne e, ← List.getD_eq_getElem?_getD]
theorem count_I (l:List TyB3) (hk:∀ x∈l,1≤x.1∧x.1≤6):(g11_0 l).length=7∧(g11_0 l).getD 0 0=(l.length:Int)∧(g11_0 l).getD 5 0=((l.filter fun x=>x.1==5).length:Int):=by
 have e:known11 l=l:=by
  rw [known_eq11,List.filter_eq_self]
  exact fun x hx=>(kind11 _).2 (hk x hx)
 have hz:(l.filter fun x=>x.1==((0:Nat):Int))=[]:=List.filter_eq_nil_iff.2 fun x hx=>by
  have:=hk x hx
  simp only [beq_iff_eq]
  omega
 have hp:∀ x∈l,0≤x.1:=fun x hx=>by have:=hk x hx;omega
 unfold g11_0
 rw [e]
 refine ⟨by rw [fold_len7];rfl,?_,?_⟩
 ·rw [fold_get7 l _ 0 rfl (by decide) hp,hz]
  show g25_0 l+((0:Nat):Int)=_
  unfold g25_0
  simp
 ·rw [fold_get7 l _ 5 rfl (by decide) hp]
  show (0:Int)+_=_
  rw [Int.zero_add]
  rfl
theorem name_I {k:Int} (h1:1≤k) (h6:k≤6):P13 k∧1≤(g13_0 k).size∧(g13_0 k).size≤100:=by
 have hv:¬ (!g24_0 k)=true:=by rw [(kind11 k).2 ⟨h1,h6⟩];decide
 unfold P13 g13_0
 rw [if_neg hv,if_neg hv]
 refine ⟨⟨by rw [i64_iff];omega,by omega,by omega,trivial⟩,?_⟩
 have hk:k=1∨k=2∨k=3∨k=4∨k=5∨k=6:=by omega
 rcases hk with rfl | rfl | rfl | rfl | rfl | rfl <;> decide
theorem not_none {s:ByteArray} (h:1≤s.size):(ByteArray.toList s==ByteArray.toList (ByteArray.mk #[]))=false:=by
 rw [Bool.eq_false_iff]
 intro hh
 rw [(bytes_eq _ _).1 hh] at h
 exact absurd h (by decide)
theorem text_I {x:TyB3} (h:Pr 1 6 x):P12 x∧(ByteArray.toList (g12_0 x)==ByteArray.toList (ByteArray.mk #[]))=false∧P13 x.1∧(ByteArray.toList (g13_0 x.1)==ByteArray.toList (ByteArray.mk #[]))=false:=by
 obtain ⟨⟨h1,h6⟩,h2,h3⟩:=h
 obtain ⟨n1,n2,n3⟩:=name_I h1 h6
 have hv:¬ (!g24_0 x.1)=true:=by rw [(kind11 x.1).2 ⟨h1,h6⟩];decide
 have e1:(ByteArray.mk #[32]).size=1:=rfl
 refine ⟨?_,not_none ?_,n1,not_none n2⟩
 ·unfold P12
  rw [if_neg hv]
  simp only [ByteArray.size_append,e1]
  exact ⟨n1,by omega,by omega,by omega,by omega,trivial⟩
 ·unfold g12_0
  rw [if_neg hv]
  simp only [ByteArray.size_append,e1]
  omega
abbrev bent (x:Int×Int×ByteArray×Int×Unit):Int×Int×ByteArray×Int×Unit:=(x.1,x.2.1,x.2.2.1,Int.tmod (x.2.2.2.1+7) 65536,x.2.2.2.2)
theorem bent_one {x:Int×Int×ByteArray×Int×Unit} (h:g68_0 x=true):g68_0 (bent x)=true∧(0≤x.2.2.2.1∧x.2.2.2.1≤65535)∧(bent x).2.2.2.1≠x.2.2.2.1∧InR .i64 (bent x).2.2.2.1:=by
 unfold g68_0 at h
 obtain ⟨h1,h⟩:=thenT h
 obtain ⟨h2,h⟩:=thenT h
 obtain ⟨h3,h⟩:=thenT h
 have a:=in_range _ _ _ h
 have e:Int.tmod (x.2.2.2.1+7) 65536=(x.2.2.2.1+7) % 65536:=Int.tmod_eq_emod_of_nonneg (by omega)
 have hb:(bent x).2.2.2.1=(x.2.2.2.1+7) % 65536:=e
 refine ⟨?_,a,by rw [hb];omega,by rw [hb,i64_iff];omega⟩
 unfold g68_0
 have h1':g63_0 (bent x).1=true:=h1
 have h2':g60_0 (bent x).2.1 0 1439=true:=h2
 have h3':g96_0 (bent x).2.2.1=true:=h3
 rw [if_pos h1',if_pos h2',if_pos h3',hb]
 unfold g60_0
 rw [if_pos (by simp only [decide_eq_true_eq];omega)]
 exact decide_eq_true (by omega)
theorem bent_lines {x:Int×Int×ByteArray×Int×Unit} {r:List TyB2} (h:g40_0 (x :: r)=true):g40_0 (bent x :: r)=true:=by
 have hx:=(lines_ok _ h).1 x (List.mem_cons_self ..)
 unfold g40_0 at h ⊢
 rw [Bool.and_eq_true] at h ⊢
 refine ⟨?_,h.2⟩
 have h:=h.1
 simp only [allI,Bool.and_eq_true] at h ⊢
 refine ⟨?_,?_⟩
 ·unfold ok40
  rw [(bent_one hx).1]
  rfl
 ·rw [← h.2]
  refine allI_congr r 1 fun j y hj => ?_
  unfold ok40
  congr 2
  congr 1
  obtain ⟨i,rfl⟩:∃ i,j=i+1:=⟨j - 1,by omega⟩
  cases i with
  | zero=>rfl
  | succ i=>rfl
theorem fb_head {x:Int×Int×ByteArray×Int×Unit} {r:List TyB2}:(fb50 0 (x :: r) (g89_0 (x :: r))=some 0↔¬ g113_0 65535 x=x.2.2.2.1):=by
 have e:g89_0 (x :: r)=(x.1,x.2.1,x.2.2.1,g113_0 65535 x,x.2.2.2.2) :: sl89 (g113_0 65535 x) r:=rfl
 obtain ⟨x1,x2,x3,x4,⟨⟩⟩:=x
 have hd:eqD (Ty.cons (Ty.int IntKind.i64) (Ty.cons (Ty.int IntKind.i64) (Ty.cons Ty.str (Ty.cons (Ty.int IntKind.i64) Ty.unit)))) (x1,x2,x3,x4,()) (x1,x2,x3,g113_0 65535 (x1,x2,x3,x4,()),())=true↔g113_0 65535 (x1,x2,x3,x4,())=x4:=by
  rw [eqD_eq rfl]
  simp only [Prod.mk.injEq,true_and,and_true]
  exact eq_comm
 rw [e,fb50]
 by_cases hc:g113_0 65535 (x1,x2,x3,x4,())=x4
 ·rw [if_neg (by rw [hd.2 hc];simp)]
  refine ⟨fun h => ?_,fun h=>absurd hc h⟩
  have:=fb_range _ _ _ _ h
  omega
 ·rw [if_pos (by rw [Bool.eq_false_iff.2 (fun hh=>hc (hd.1 hh))];rfl)]
  exact ⟨fun _=>hc,fun _=>rfl⟩
abbrev wlog (x:(TyA0)) (l:List TyB2):(TyA0):=(x.1,x.2.1,x.2.2.1,x.2.2.2.1,x.2.2.2.2.1,x.2.2.2.2.2.1,x.2.2.2.2.2.2.1,x.2.2.2.2.2.2.2.1,x.2.2.2.2.2.2.2.2.1,x.2.2.2.2.2.2.2.2.2.1,x.2.2.2.2.2.2.2.2.2.2.1,l,())
theorem dec0:g44_0 0=ByteArray.mk #[48]:=by
 have e2:g44_0=numB:=rfl
 have e3:Lib.itoa 0=[48]:=by
  unfold Lib.itoa
  rw [if_neg (by decide)]
  show Lib.decDigits 0=[48]
  rw [Lib.decDigits]
  rfl
 rw [e2]
 unfold numB
 rw [e3]
theorem bent_found {x:(TyA0)} (h:g16_0 x=true) {y:Int×Int×ByteArray×Int×Unit} {r:List TyB2} (e:x.2.2.2.2.2.2.2.2.2.2.2.1=y :: r) :
  g16_0 (wlog x (bent y :: r))=true∧((∃ s,g20_0 (wlog x (bent y :: r))=[(6,ByteArray.mk #[48],s,())])∨∃ s,g20_0 x=[(6,ByteArray.mk #[48],s,())]):=by
 obtain ⟨h1,h2,h3,h4,h5,h6,h7,h8,h9⟩:=works_ok x h
 rw [e] at h9
 have hv:g16_0 (wlog x (bent y :: r))=true:=works_mk _ h1 h2 h3 h4 h5 h6 h7 h8 (bent_lines h9)
 refine ⟨hv,?_⟩
 have hb:=bent_one ((lines_ok _ h9).1 y (List.mem_cons_self ..))
 by_cases c:g113_0 65535 y=y.2.2.2.1
 ·left
  have c2:fb50 0 (bent y :: r) (g89_0 (bent y :: r))=some 0:=fb_head.2 (fun hh=>hb.2.2.1 (by
   have e2:g113_0 65535 (bent y)=g113_0 65535 y:=rfl
   rw [e2,c] at hh
   exact hh.symm))
  rcases log_shape _ hv with ⟨_,e0⟩ | ⟨k,s,e0,_,e1,_⟩
  ·have e0:fb50 0 (bent y :: r) (g89_0 (bent y :: r))=none:=e0
   rw [c2] at e0
   cases e0
  ·have e0:fb50 0 (bent y :: r) (g89_0 (bent y :: r))=some k:=e0
   rw [c2] at e0
   cases e0
   rw [dec0] at e1
   exact ⟨_,e1⟩
 ·right
  have c2:=fb_head (r:=r).2 c
  rcases log_shape _ h with ⟨_,e0⟩ | ⟨k,s,e0,_,e1,_⟩
  ·rw [e,c2] at e0
   cases e0
  ·rw [e,c2] at e0
   cases e0
   rw [dec0] at e1
   exact ⟨_,e1⟩
abbrev odd (x:(TyA0)):(TyA0):=(x.1,x.2.1,x.2.2.1,x.2.2.2.1,x.2.2.2.2.1,x.2.2.2.2.2.1,x.2.2.2.2.2.2.1,x.2.2.2.2.2.2.2.1,x.2.2.2.2.2.2.2.2.1,[(300,5,()),(320,5,())],1440,[],())
theorem odd_found {x:(TyA0)} (h:g16_0 x=true):g16_0 (odd x)=true∧((g19_0 (odd x)).filter fun x=>x.1==5).length=1:=by
 obtain ⟨h1,h2,h3,h4,h5,h6,h7,h8,h9⟩:=works_ok x h
 have hv:g16_0 (odd x)=true:=works_mk _ h1 h2 h3 h4 h5 h6 h7 (by rfl) (by rfl)
 refine ⟨hv,?_⟩
 have e:sk49 1440 [(300,5,()),(320,5,())]=[-1425]:=rfl
 unfold g19_0
 rw [slackI _ hv]
 show (List.filter _ (_++_++bl fS19 0 (sk49 1440 [(300,5,()),(320,5,())]))).length=1
 rw [e,List.filter_append,List.filter_append]
 have n1:List.filter (fun x=>x.1==5) (bl (fG19 (odd x).2.2.2.2.2.1) 0 (odd x).2.2.2.2.1)=[]:=List.filter_eq_nil_iff.2 fun y hy=>by
  obtain ⟨j,z,_,_,hy⟩:=bl_mem _ _ _ _ hy
  unfold fG19 at hy
  split at hy
  ·rw [List.mem_singleton.1 hy];simp
  ·cases hy
 have n2:List.filter (fun x=>x.1==5) (bl (fC19 (odd x).2.2.2.2.2.2.2.1 (odd x).2.2.2.2.2.2.2.2.1) 0 (odd x).2.2.2.2.2.2.1)=[]:=List.filter_eq_nil_iff.2 fun y hy=>by
  obtain ⟨j,z,_,_,hy⟩:=bl_mem _ _ _ _ hy
  unfold fC19 at hy
  split at hy
  ·rw [List.mem_singleton.1 hy];simp
  ·cases hy
 rw [n1,n2]
 rfl
noncomputable section
def ext3:Ext:=[(4,S4),(5,S5),(6,S6),(7,S7),(8,S8),(9,S9),(10,S10),(11,S11),(12,S12),(13,S13)]
theorem ext3Ok:ExtOk Tryz.prog ext3:=⟨⟨ca4,con4⟩,⟨ca5,con5⟩,⟨ca6,con6⟩,⟨ca7,con7⟩,⟨ca8,con8⟩,⟨ca9,con9⟩,⟨ca10,con10⟩,⟨ca11,con11⟩,⟨ca12,con12⟩,⟨ca13,con13⟩,trivial⟩
noncomputable def b3:Code:=bodyOf Tryz.f3
theorem hb3:Tryz.f3.body=some b3:=by kernel_rfl
def sig3:List AT:=[AT.v (.sl (.int .u8))]
def tys3:List Ty:=[.bool]
def kds3:List RK:=[]
def oks3:List AT:=owns sig3
def E3_3 (x0:List Int):Env:=[(0,.a (.sl (.int .u8) x0))]
def L3_3 (x0:List Int):Heap:=[]
def E3_6 (x0:List Int):Env:=[(3,.a (.bptr 0 0 YA0))]
def L3_6 (x0:List Int):Heap:=[Option.some (Arr.mk YA0 [] false (Option.some [Leaf.sl YA11 (g4_0 x0).1.1,Leaf.val (Value.int .i64 (g4_0 x0).1.2.1),Leaf.val (Value.int .i64 (g4_0 x0).1.2.2.1),Leaf.val (Value.int .i64 (g4_0 x0).2.1),Leaf.val (Value.int .i64 (g4_0 x0).2.2.1.1),Leaf.val (Value.int .i64 (g4_0 x0).2.2.1.2.1),Leaf.val (Value.int .i64 (g4_0 x0).2.2.2.1.1),Leaf.val (Value.int .i64 (g4_0 x0).2.2.2.1.2.1),Leaf.val (Value.int .i64 (g4_0 x0).2.2.2.1.2.2.1),Leaf.val (Value.int .i64 (g4_0 x0).2.2.2.1.2.2.2.1),Leaf.sl YA5 (g4_0 x0).2.2.2.2.1,Leaf.val (Value.int .i64 (g4_0 x0).2.2.2.2.2.1.1),Leaf.val (Value.int .i64 (g4_0 x0).2.2.2.2.2.1.2.1),Leaf.val (Value.int .i64 (g4_0 x0).2.2.2.2.2.1.2.2.1),Leaf.sl YA3 (g4_0 x0).2.2.2.2.2.2.1,Leaf.val (Value.int .i64 (g4_0 x0).2.2.2.2.2.2.2.1),Leaf.val (Value.int .i64 (g4_0 x0).2.2.2.2.2.2.2.2.1),Leaf.sl YA11 (g4_0 x0).2.2.2.2.2.2.2.2.2.1,Leaf.val (Value.int .i64 (g4_0 x0).2.2.2.2.2.2.2.2.2.2.1),Leaf.sl YA6 (g4_0 x0).2.2.2.2.2.2.2.2.2.2.2.1]) Option.none)]
def E3_13 (x0:List Int):Env:=[(3,.a (.bptr 0 0 YA0)),(4,.a (.osl 1 Option.none)),(10,.a (.osl 2 Option.none))]
def L3_13 (x0:List Int):Heap:=[Option.some (Arr.mk YA0 [] false (Option.some [Leaf.sl YA11 (g4_0 x0).1.1,Leaf.val (Value.int .i64 (g4_0 x0).1.2.1),Leaf.val (Value.int .i64 (g4_0 x0).1.2.2.1),Leaf.val (Value.int .i64 (g4_0 x0).2.1),Leaf.val (Value.int .i64 (g4_0 x0).2.2.1.1),Leaf.val (Value.int .i64 (g4_0 x0).2.2.1.2.1),Leaf.val (Value.int .i64 (g4_0 x0).2.2.2.1.1),Leaf.val (Value.int .i64 (g4_0 x0).2.2.2.1.2.1),Leaf.val (Value.int .i64 (g4_0 x0).2.2.2.1.2.2.1),Leaf.val (Value.int .i64 (g4_0 x0).2.2.2.1.2.2.2.1),Leaf.sl YA5 (g4_0 x0).2.2.2.2.1,Leaf.val (Value.int .i64 (g4_0 x0).2.2.2.2.2.1.1),Leaf.val (Value.int .i64 (g4_0 x0).2.2.2.2.2.1.2.1),Leaf.val (Value.int .i64 (g4_0 x0).2.2.2.2.2.1.2.2.1),Leaf.sl YA3 (g4_0 x0).2.2.2.2.2.2.1,Leaf.val (Value.int .i64 (g4_0 x0).2.2.2.2.2.2.2.1),Leaf.val (Value.int .i64 (g4_0 x0).2.2.2.2.2.2.2.2.1),Leaf.sl YA11 (g4_0 x0).2.2.2.2.2.2.2.2.2.1,Leaf.val (Value.int .i64 (g4_0 x0).2.2.2.2.2.2.2.2.2.2.1),Leaf.sl YA6 (g4_0 x0).2.2.2.2.2.2.2.2.2.2.2.1]) Option.none),Option.some (Arr.mk YA9 (g7_0 (g4_0 x0)) false Option.none Option.none),Option.some (Arr.mk YA9 (g10_0 (g4_0 x0)) false Option.none Option.none)]
def E3_14 (v13:Int) (x0:List Int):Env:=[(3,.a (.bptr 0 0 YA0)),(4,.a (.osl 1 Option.none)),(10,.a (.osl 2 Option.none)),(13,.a (.val (.int .i64 v13)))]
def L3_14 (v13:Int) (x0:List Int):Heap:=[Option.some (Arr.mk YA0 [] false (Option.some [Leaf.sl YA11 (g4_0 x0).1.1,Leaf.val (Value.int .i64 (g4_0 x0).1.2.1),Leaf.val (Value.int .i64 (g4_0 x0).1.2.2.1),Leaf.val (Value.int .i64 (g4_0 x0).2.1),Leaf.val (Value.int .i64 (g4_0 x0).2.2.1.1),Leaf.val (Value.int .i64 (g4_0 x0).2.2.1.2.1),Leaf.val (Value.int .i64 (g4_0 x0).2.2.2.1.1),Leaf.val (Value.int .i64 (g4_0 x0).2.2.2.1.2.1),Leaf.val (Value.int .i64 (g4_0 x0).2.2.2.1.2.2.1),Leaf.val (Value.int .i64 (g4_0 x0).2.2.2.1.2.2.2.1),Leaf.sl YA5 (g4_0 x0).2.2.2.2.1,Leaf.val (Value.int .i64 (g4_0 x0).2.2.2.2.2.1.1),Leaf.val (Value.int .i64 (g4_0 x0).2.2.2.2.2.1.2.1),Leaf.val (Value.int .i64 (g4_0 x0).2.2.2.2.2.1.2.2.1),Leaf.sl YA3 (g4_0 x0).2.2.2.2.2.2.1,Leaf.val (Value.int .i64 (g4_0 x0).2.2.2.2.2.2.2.1),Leaf.val (Value.int .i64 (g4_0 x0).2.2.2.2.2.2.2.2.1),Leaf.sl YA11 (g4_0 x0).2.2.2.2.2.2.2.2.2.1,Leaf.val (Value.int .i64 (g4_0 x0).2.2.2.2.2.2.2.2.2.2.1),Leaf.sl YA6 (g4_0 x0).2.2.2.2.2.2.2.2.2.2.2.1]) Option.none),Option.some (Arr.mk YA9 (g7_0 (g4_0 x0)) false Option.none Option.none),Option.some (Arr.mk YA9 (g10_0 (g4_0 x0)) false Option.none Option.none)]
def E3_16 (v13:Int) (x0:List Int):Env:=[(3,.a (.bptr 0 0 YA0)),(4,.a (.osl 1 Option.none)),(10,.a (.osl 2 Option.none)),(13,.a (.val (.int .i64 v13)))]
def L3_16 (v13:Int) (x0:List Int):Heap:=[Option.some (Arr.mk YA0 [] false (Option.some [Leaf.sl YA11 (g4_0 x0).1.1,Leaf.val (Value.int .i64 (g4_0 x0).1.2.1),Leaf.val (Value.int .i64 (g4_0 x0).1.2.2.1),Leaf.val (Value.int .i64 (g4_0 x0).2.1),Leaf.val (Value.int .i64 (g4_0 x0).2.2.1.1),Leaf.val (Value.int .i64 (g4_0 x0).2.2.1.2.1),Leaf.val (Value.int .i64 (g4_0 x0).2.2.2.1.1),Leaf.val (Value.int .i64 (g4_0 x0).2.2.2.1.2.1),Leaf.val (Value.int .i64 (g4_0 x0).2.2.2.1.2.2.1),Leaf.val (Value.int .i64 (g4_0 x0).2.2.2.1.2.2.2.1),Leaf.sl YA5 (g4_0 x0).2.2.2.2.1,Leaf.val (Value.int .i64 (g4_0 x0).2.2.2.2.2.1.1),Leaf.val (Value.int .i64 (g4_0 x0).2.2.2.2.2.1.2.1),Leaf.val (Value.int .i64 (g4_0 x0).2.2.2.2.2.1.2.2.1),Leaf.sl YA3 (g4_0 x0).2.2.2.2.2.2.1,Leaf.val (Value.int .i64 (g4_0 x0).2.2.2.2.2.2.2.1),Leaf.val (Value.int .i64 (g4_0 x0).2.2.2.2.2.2.2.2.1),Leaf.sl YA11 (g4_0 x0).2.2.2.2.2.2.2.2.2.1,Leaf.val (Value.int .i64 (g4_0 x0).2.2.2.2.2.2.2.2.2.2.1),Leaf.sl YA6 (g4_0 x0).2.2.2.2.2.2.2.2.2.2.2.1]) Option.none),Option.some (Arr.mk YA9 (g7_0 (g4_0 x0)) false Option.none Option.none),Option.some (Arr.mk YA9 (g10_0 (g4_0 x0)) false Option.none Option.none)]
def E3_26 (h1:List TyB2) (x0:List Int):Env:=[(14,.a (.bptr 0 0 YA0))]
def L3_26 (h1:List TyB2) (x0:List Int):Heap:=[Option.some (Arr.mk YA0 [] false (Option.some [Leaf.sl YA11 (g4_0 x0).1.1,Leaf.val (Value.int .i64 (g4_0 x0).1.2.1),Leaf.val (Value.int .i64 (g4_0 x0).1.2.2.1),Leaf.val (Value.int .i64 (g4_0 x0).2.1),Leaf.val (Value.int .i64 (g4_0 x0).2.2.1.1),Leaf.val (Value.int .i64 (g4_0 x0).2.2.1.2.1),Leaf.val (Value.int .i64 (g4_0 x0).2.2.2.1.1),Leaf.val (Value.int .i64 (g4_0 x0).2.2.2.1.2.1),Leaf.val (Value.int .i64 (g4_0 x0).2.2.2.1.2.2.1),Leaf.val (Value.int .i64 (g4_0 x0).2.2.2.1.2.2.2.1),Leaf.sl YA5 (g4_0 x0).2.2.2.2.1,Leaf.val (Value.int .i64 (g4_0 x0).2.2.2.2.2.1.1),Leaf.val (Value.int .i64 (g4_0 x0).2.2.2.2.2.1.2.1),Leaf.val (Value.int .i64 (g4_0 x0).2.2.2.2.2.1.2.2.1),Leaf.sl YA3 (g4_0 x0).2.2.2.2.2.2.1,Leaf.val (Value.int .i64 (g4_0 x0).2.2.2.2.2.2.2.1),Leaf.val (Value.int .i64 (g4_0 x0).2.2.2.2.2.2.2.2.1),Leaf.sl YA11 (g4_0 x0).2.2.2.2.2.2.2.2.2.1,Leaf.val (Value.int .i64 (g4_0 x0).2.2.2.2.2.2.2.2.2.2.1),Leaf.osl 1 Option.none]) Option.none),Option.some (Arr.mk YA6 h1 false Option.none Option.none)]
def E3_15 (v13:Int) (x0:List Int):Env:=[(3,.a (.bptr 0 0 YA0)),(4,.a (.osl 1 Option.none)),(10,.a (.osl 2 Option.none)),(13,.a (.val (.int .i64 v13))),(120,.a (.osl 1 Option.none)),(121,.a (.val (.int .i64 v13))),(122,.a (.optr 1 (Int.toNat v13) [])),(123,.a (.optr 1 (Int.toNat v13) [0])),(124,.a (.val (.int .i64 (List.getD (g7_0 (g4_0 x0)) (Int.toNat v13) (0,ByteArray.empty,ByteArray.empty,())).1))),(125,.a (.val (.string (g13_0 (List.getD (g7_0 (g4_0 x0)) (Int.toNat v13) (0,ByteArray.empty,ByteArray.empty,())).1)))),(126,.a (.val (.bool (ByteArray.toList (g13_0 (List.getD (g7_0 (g4_0 x0)) (Int.toNat v13) (0,ByteArray.empty,ByteArray.empty,())).1)==ByteArray.toList (ByteArray.mk #[])))))]
def L3_15 (v13:Int) (x0:List Int):Heap:=[Option.some (Arr.mk YA0 [] false (Option.some [Leaf.sl YA11 (g4_0 x0).1.1,Leaf.val (Value.int .i64 (g4_0 x0).1.2.1),Leaf.val (Value.int .i64 (g4_0 x0).1.2.2.1),Leaf.val (Value.int .i64 (g4_0 x0).2.1),Leaf.val (Value.int .i64 (g4_0 x0).2.2.1.1),Leaf.val (Value.int .i64 (g4_0 x0).2.2.1.2.1),Leaf.val (Value.int .i64 (g4_0 x0).2.2.2.1.1),Leaf.val (Value.int .i64 (g4_0 x0).2.2.2.1.2.1),Leaf.val (Value.int .i64 (g4_0 x0).2.2.2.1.2.2.1),Leaf.val (Value.int .i64 (g4_0 x0).2.2.2.1.2.2.2.1),Leaf.sl YA5 (g4_0 x0).2.2.2.2.1,Leaf.val (Value.int .i64 (g4_0 x0).2.2.2.2.2.1.1),Leaf.val (Value.int .i64 (g4_0 x0).2.2.2.2.2.1.2.1),Leaf.val (Value.int .i64 (g4_0 x0).2.2.2.2.2.1.2.2.1),Leaf.sl YA3 (g4_0 x0).2.2.2.2.2.2.1,Leaf.val (Value.int .i64 (g4_0 x0).2.2.2.2.2.2.2.1),Leaf.val (Value.int .i64 (g4_0 x0).2.2.2.2.2.2.2.2.1),Leaf.sl YA11 (g4_0 x0).2.2.2.2.2.2.2.2.2.1,Leaf.val (Value.int .i64 (g4_0 x0).2.2.2.2.2.2.2.2.2.2.1),Leaf.sl YA6 (g4_0 x0).2.2.2.2.2.2.2.2.2.2.2.1]) Option.none),Option.some (Arr.mk YA9 (g7_0 (g4_0 x0)) false Option.none Option.none),Option.some (Arr.mk YA9 (g10_0 (g4_0 x0)) false Option.none Option.none)]
mutual
def R3:Nat→List Int→List Dyn→Prop
 | 0,_,_=>False
 | n+1,x0,ds=>(if (decide ((x0.length:Int)>1048576))=true then (ds=[Dyn.mk .bool true]) else (R3_3 n (x0) ds))
def R3_3:Nat→List Int→List Dyn→Prop
 | 0,_,_=>False
 | n+1,x0,ds=>((P4 x0)∧(if (!g5_0 (g4_0 x0))=true then ((P6 (g4_0 x0))∧(ds=[Dyn.mk .bool !g6_0 (g4_0 x0)])) else (R3_6 n (x0) ds)))
def R3_6:Nat→List Int→List Dyn→Prop
 | 0,_,_=>False
 | n+1,x0,ds=>((P7 (g4_0 x0))∧((P8 (g4_0 x0))∧((P9 (g4_0 x0))∧((P10 (g4_0 x0))∧((P11 (g7_0 (g4_0 x0)))∧(if (g7_1 (g4_0 x0) != 0)=true then (ds=[Dyn.mk .bool false]) else (if (g8_1 (g4_0 x0) != 0)=true then (ds=[Dyn.mk .bool false]) else (if (g9_1 (g4_0 x0) != 0)=true then (ds=[Dyn.mk .bool false]) else (if (g10_1 (g4_0 x0) != 0)=true then (ds=[Dyn.mk .bool false]) else ((InR .i64 ((↑(List.length (g8_0 (g4_0 x0))):Int)+(↑(List.length (g9_0 (g4_0 x0))):Int)))∧((InR .i64 ((↑(List.length (g8_0 (g4_0 x0))):Int)+(↑(List.length (g9_0 (g4_0 x0))):Int)+(↑(List.length (g10_0 (g4_0 x0))):Int)))∧(if ((↑(List.length (g8_0 (g4_0 x0))):Int)+(↑(List.length (g9_0 (g4_0 x0))):Int)+(↑(List.length (g10_0 (g4_0 x0))):Int) != (↑(List.length (g7_0 (g4_0 x0))):Int))=true then (ds=[Dyn.mk .bool false]) else (if ((↑(List.length (g11_0 (g7_0 (g4_0 x0)))):Int) != 7)=true then (ds=[Dyn.mk .bool false]) else ((0<(↑(List.length (g11_0 (g7_0 (g4_0 x0)))):Int))∧(if (List.getD (g11_0 (g7_0 (g4_0 x0))) 0 0 != (↑(List.length (g7_0 (g4_0 x0))):Int))=true then (ds=[Dyn.mk .bool false]) else ((P6 (g4_0 x0))∧(if (!g6_0 (g4_0 x0)==((↑(List.length (g7_0 (g4_0 x0))):Int)==0))=true then (ds=[Dyn.mk .bool false]) else (if (decide ((↑(List.length (g10_0 (g4_0 x0))):Int)>1))=true then (ds=[Dyn.mk .bool false]) else (R3_13 n (x0) ds)))))))))))))))))))
def R3_13:Nat→List Int→List Dyn→Prop
 | 0,_,_=>False
 | n+1,x0,ds=>(R3_14 n (0) (x0) ds)
def R3_14:Nat→Int→List Int→List Dyn→Prop
 | 0,_,_,_=>False
 | n+1,v13,x0,ds=>(if (decide (v13<(↑(List.length (g7_0 (g4_0 x0))):Int)))=true then (R3_16 n (v13) (x0) ds) else (((0+List.length (g4_0 x0).2.2.2.2.2.2.2.2.2.2.2.1)*40≤140737488355328)∧(if (decide ((↑(List.length ([]++(g4_0 x0).2.2.2.2.2.2.2.2.2.2.2.1)):Int)>0))=true then ((0<(↑(List.length ([]++(g4_0 x0).2.2.2.2.2.2.2.2.2.2.2.1)):Int))∧((InR .i64 ((List.getD ([]++(g4_0 x0).2.2.2.2.2.2.2.2.2.2.2.1) 0 (0,0,ByteArray.empty,0,())).2.2.2.1+7))∧((InR .i64 (Int.tmod ((List.getD ([]++(g4_0 x0).2.2.2.2.2.2.2.2.2.2.2.1) 0 (0,0,ByteArray.empty,0,())).2.2.2.1+7) 65536))∧((0<(↑(List.length ([]++(g4_0 x0).2.2.2.2.2.2.2.2.2.2.2.1)):Int))∧((P10 ((g4_0 x0).1,(g4_0 x0).2.1,(g4_0 x0).2.2.1,(g4_0 x0).2.2.2.1,(g4_0 x0).2.2.2.2.1,(g4_0 x0).2.2.2.2.2.1,(g4_0 x0).2.2.2.2.2.2.1,(g4_0 x0).2.2.2.2.2.2.2.1,(g4_0 x0).2.2.2.2.2.2.2.2.1,(g4_0 x0).2.2.2.2.2.2.2.2.2.1,(g4_0 x0).2.2.2.2.2.2.2.2.2.2.1,List.set ([]++(g4_0 x0).2.2.2.2.2.2.2.2.2.2.2.1) 0 ((List.getD ([]++(g4_0 x0).2.2.2.2.2.2.2.2.2.2.2.1) 0 (0,0,ByteArray.empty,0,())).1,(List.getD ([]++(g4_0 x0).2.2.2.2.2.2.2.2.2.2.2.1) 0 (0,0,ByteArray.empty,0,())).2.1,(List.getD ([]++(g4_0 x0).2.2.2.2.2.2.2.2.2.2.2.1) 0 (0,0,ByteArray.empty,0,())).2.2.1,Int.tmod ((List.getD ([]++(g4_0 x0).2.2.2.2.2.2.2.2.2.2.2.1) 0 (0,0,ByteArray.empty,0,())).2.2.2.1+7) 65536,(List.getD ([]++(g4_0 x0).2.2.2.2.2.2.2.2.2.2.2.1) 0 (0,0,ByteArray.empty,0,())).2.2.2.2),()))∧(if (decide ((↑(List.length (g10_0 (g4_0 x0))):Int)>0))=true then ((0<(↑(List.length (g10_0 (g4_0 x0))):Int))∧(if (g10_1 ((g4_0 x0).1,(g4_0 x0).2.1,(g4_0 x0).2.2.1,(g4_0 x0).2.2.2.1,(g4_0 x0).2.2.2.2.1,(g4_0 x0).2.2.2.2.2.1,(g4_0 x0).2.2.2.2.2.2.1,(g4_0 x0).2.2.2.2.2.2.2.1,(g4_0 x0).2.2.2.2.2.2.2.2.1,(g4_0 x0).2.2.2.2.2.2.2.2.2.1,(g4_0 x0).2.2.2.2.2.2.2.2.2.2.1,List.set ([]++(g4_0 x0).2.2.2.2.2.2.2.2.2.2.2.1) 0 ((List.getD ([]++(g4_0 x0).2.2.2.2.2.2.2.2.2.2.2.1) 0 (0,0,ByteArray.empty,0,())).1,(List.getD ([]++(g4_0 x0).2.2.2.2.2.2.2.2.2.2.2.1) 0 (0,0,ByteArray.empty,0,())).2.1,(List.getD ([]++(g4_0 x0).2.2.2.2.2.2.2.2.2.2.2.1) 0 (0,0,ByteArray.empty,0,())).2.2.1,Int.tmod ((List.getD ([]++(g4_0 x0).2.2.2.2.2.2.2.2.2.2.2.1) 0 (0,0,ByteArray.empty,0,())).2.2.2.1+7) 65536,(List.getD ([]++(g4_0 x0).2.2.2.2.2.2.2.2.2.2.2.1) 0 (0,0,ByteArray.empty,0,())).2.2.2.2),()) != 0)=true then (ds=[Dyn.mk .bool false]) else (if (!ByteArray.toList (List.getD (g10_0 (g4_0 x0)) 0 (0,ByteArray.empty,ByteArray.empty,())).2.1==ByteArray.toList (ByteArray.mk #[48]))=true then (if ((↑(List.length (g10_0 ((g4_0 x0).1,(g4_0 x0).2.1,(g4_0 x0).2.2.1,(g4_0 x0).2.2.2.1,(g4_0 x0).2.2.2.2.1,(g4_0 x0).2.2.2.2.2.1,(g4_0 x0).2.2.2.2.2.2.1,(g4_0 x0).2.2.2.2.2.2.2.1,(g4_0 x0).2.2.2.2.2.2.2.2.1,(g4_0 x0).2.2.2.2.2.2.2.2.2.1,(g4_0 x0).2.2.2.2.2.2.2.2.2.2.1,List.set ([]++(g4_0 x0).2.2.2.2.2.2.2.2.2.2.2.1) 0 ((List.getD ([]++(g4_0 x0).2.2.2.2.2.2.2.2.2.2.2.1) 0 (0,0,ByteArray.empty,0,())).1,(List.getD ([]++(g4_0 x0).2.2.2.2.2.2.2.2.2.2.2.1) 0 (0,0,ByteArray.empty,0,())).2.1,(List.getD ([]++(g4_0 x0).2.2.2.2.2.2.2.2.2.2.2.1) 0 (0,0,ByteArray.empty,0,())).2.2.1,Int.tmod ((List.getD ([]++(g4_0 x0).2.2.2.2.2.2.2.2.2.2.2.1) 0 (0,0,ByteArray.empty,0,())).2.2.2.1+7) 65536,(List.getD ([]++(g4_0 x0).2.2.2.2.2.2.2.2.2.2.2.1) 0 (0,0,ByteArray.empty,0,())).2.2.2.2),()))):Int) != 1)=true then (ds=[Dyn.mk .bool false]) else ((0<(↑(List.length (g10_0 ((g4_0 x0).1,(g4_0 x0).2.1,(g4_0 x0).2.2.1,(g4_0 x0).2.2.2.1,(g4_0 x0).2.2.2.2.1,(g4_0 x0).2.2.2.2.2.1,(g4_0 x0).2.2.2.2.2.2.1,(g4_0 x0).2.2.2.2.2.2.2.1,(g4_0 x0).2.2.2.2.2.2.2.2.1,(g4_0 x0).2.2.2.2.2.2.2.2.2.1,(g4_0 x0).2.2.2.2.2.2.2.2.2.2.1,List.set ([]++(g4_0 x0).2.2.2.2.2.2.2.2.2.2.2.1) 0 ((List.getD ([]++(g4_0 x0).2.2.2.2.2.2.2.2.2.2.2.1) 0 (0,0,ByteArray.empty,0,())).1,(List.getD ([]++(g4_0 x0).2.2.2.2.2.2.2.2.2.2.2.1) 0 (0,0,ByteArray.empty,0,())).2.1,(List.getD ([]++(g4_0 x0).2.2.2.2.2.2.2.2.2.2.2.1) 0 (0,0,ByteArray.empty,0,())).2.2.1,Int.tmod ((List.getD ([]++(g4_0 x0).2.2.2.2.2.2.2.2.2.2.2.1) 0 (0,0,ByteArray.empty,0,())).2.2.2.1+7) 65536,(List.getD ([]++(g4_0 x0).2.2.2.2.2.2.2.2.2.2.2.1) 0 (0,0,ByteArray.empty,0,())).2.2.2.2),()))):Int))∧(if (!ByteArray.toList (List.getD (g10_0 ((g4_0 x0).1,(g4_0 x0).2.1,(g4_0 x0).2.2.1,(g4_0 x0).2.2.2.1,(g4_0 x0).2.2.2.2.1,(g4_0 x0).2.2.2.2.2.1,(g4_0 x0).2.2.2.2.2.2.1,(g4_0 x0).2.2.2.2.2.2.2.1,(g4_0 x0).2.2.2.2.2.2.2.2.1,(g4_0 x0).2.2.2.2.2.2.2.2.2.1,(g4_0 x0).2.2.2.2.2.2.2.2.2.2.1,List.set ([]++(g4_0 x0).2.2.2.2.2.2.2.2.2.2.2.1) 0 ((List.getD ([]++(g4_0 x0).2.2.2.2.2.2.2.2.2.2.2.1) 0 (0,0,ByteArray.empty,0,())).1,(List.getD ([]++(g4_0 x0).2.2.2.2.2.2.2.2.2.2.2.1) 0 (0,0,ByteArray.empty,0,())).2.1,(List.getD ([]++(g4_0 x0).2.2.2.2.2.2.2.2.2.2.2.1) 0 (0,0,ByteArray.empty,0,())).2.2.1,Int.tmod ((List.getD ([]++(g4_0 x0).2.2.2.2.2.2.2.2.2.2.2.1) 0 (0,0,ByteArray.empty,0,())).2.2.2.1+7) 65536,(List.getD ([]++(g4_0 x0).2.2.2.2.2.2.2.2.2.2.2.1) 0 (0,0,ByteArray.empty,0,())).2.2.2.2),())) 0 (0,ByteArray.empty,ByteArray.empty,())).2.1==ByteArray.toList (ByteArray.mk #[48]))=true then (ds=[Dyn.mk .bool false]) else (R3_26 n (List.set ([]++(g4_0 x0).2.2.2.2.2.2.2.2.2.2.2.1) 0 ((List.getD ([]++(g4_0 x0).2.2.2.2.2.2.2.2.2.2.2.1) 0 (0,0,ByteArray.empty,0,())).1,(List.getD ([]++(g4_0 x0).2.2.2.2.2.2.2.2.2.2.2.1) 0 (0,0,ByteArray.empty,0,())).2.1,(List.getD ([]++(g4_0 x0).2.2.2.2.2.2.2.2.2.2.2.1) 0 (0,0,ByteArray.empty,0,())).2.2.1,Int.tmod ((List.getD ([]++(g4_0 x0).2.2.2.2.2.2.2.2.2.2.2.1) 0 (0,0,ByteArray.empty,0,())).2.2.2.1+7) 65536,(List.getD ([]++(g4_0 x0).2.2.2.2.2.2.2.2.2.2.2.1) 0 (0,0,ByteArray.empty,0,())).2.2.2.2)) (x0) ds)))) else (R3_26 n (List.set ([]++(g4_0 x0).2.2.2.2.2.2.2.2.2.2.2.1) 0 ((List.getD ([]++(g4_0 x0).2.2.2.2.2.2.2.2.2.2.2.1) 0 (0,0,ByteArray.empty,0,())).1,(List.getD ([]++(g4_0 x0).2.2.2.2.2.2.2.2.2.2.2.1) 0 (0,0,ByteArray.empty,0,())).2.1,(List.getD ([]++(g4_0 x0).2.2.2.2.2.2.2.2.2.2.2.1) 0 (0,0,ByteArray.empty,0,())).2.2.1,Int.tmod ((List.getD ([]++(g4_0 x0).2.2.2.2.2.2.2.2.2.2.2.1) 0 (0,0,ByteArray.empty,0,())).2.2.2.1+7) 65536,(List.getD ([]++(g4_0 x0).2.2.2.2.2.2.2.2.2.2.2.1) 0 (0,0,ByteArray.empty,0,())).2.2.2.2)) (x0) ds)))) else (if (g10_1 ((g4_0 x0).1,(g4_0 x0).2.1,(g4_0 x0).2.2.1,(g4_0 x0).2.2.2.1,(g4_0 x0).2.2.2.2.1,(g4_0 x0).2.2.2.2.2.1,(g4_0 x0).2.2.2.2.2.2.1,(g4_0 x0).2.2.2.2.2.2.2.1,(g4_0 x0).2.2.2.2.2.2.2.2.1,(g4_0 x0).2.2.2.2.2.2.2.2.2.1,(g4_0 x0).2.2.2.2.2.2.2.2.2.2.1,List.set ([]++(g4_0 x0).2.2.2.2.2.2.2.2.2.2.2.1) 0 ((List.getD ([]++(g4_0 x0).2.2.2.2.2.2.2.2.2.2.2.1) 0 (0,0,ByteArray.empty,0,())).1,(List.getD ([]++(g4_0 x0).2.2.2.2.2.2.2.2.2.2.2.1) 0 (0,0,ByteArray.empty,0,())).2.1,(List.getD ([]++(g4_0 x0).2.2.2.2.2.2.2.2.2.2.2.1) 0 (0,0,ByteArray.empty,0,())).2.2.1,Int.tmod ((List.getD ([]++(g4_0 x0).2.2.2.2.2.2.2.2.2.2.2.1) 0 (0,0,ByteArray.empty,0,())).2.2.2.1+7) 65536,(List.getD ([]++(g4_0 x0).2.2.2.2.2.2.2.2.2.2.2.1) 0 (0,0,ByteArray.empty,0,())).2.2.2.2),()) != 0)=true then (ds=[Dyn.mk .bool false]) else (if ((↑(List.length (g10_0 ((g4_0 x0).1,(g4_0 x0).2.1,(g4_0 x0).2.2.1,(g4_0 x0).2.2.2.1,(g4_0 x0).2.2.2.2.1,(g4_0 x0).2.2.2.2.2.1,(g4_0 x0).2.2.2.2.2.2.1,(g4_0 x0).2.2.2.2.2.2.2.1,(g4_0 x0).2.2.2.2.2.2.2.2.1,(g4_0 x0).2.2.2.2.2.2.2.2.2.1,(g4_0 x0).2.2.2.2.2.2.2.2.2.2.1,List.set ([]++(g4_0 x0).2.2.2.2.2.2.2.2.2.2.2.1) 0 ((List.getD ([]++(g4_0 x0).2.2.2.2.2.2.2.2.2.2.2.1) 0 (0,0,ByteArray.empty,0,())).1,(List.getD ([]++(g4_0 x0).2.2.2.2.2.2.2.2.2.2.2.1) 0 (0,0,ByteArray.empty,0,())).2.1,(List.getD ([]++(g4_0 x0).2.2.2.2.2.2.2.2.2.2.2.1) 0 (0,0,ByteArray.empty,0,())).2.2.1,Int.tmod ((List.getD ([]++(g4_0 x0).2.2.2.2.2.2.2.2.2.2.2.1) 0 (0,0,ByteArray.empty,0,())).2.2.2.1+7) 65536,(List.getD ([]++(g4_0 x0).2.2.2.2.2.2.2.2.2.2.2.1) 0 (0,0,ByteArray.empty,0,())).2.2.2.2),()))):Int) != 1)=true then (ds=[Dyn.mk .bool false]) else ((0<(↑(List.length (g10_0 ((g4_0 x0).1,(g4_0 x0).2.1,(g4_0 x0).2.2.1,(g4_0 x0).2.2.2.1,(g4_0 x0).2.2.2.2.1,(g4_0 x0).2.2.2.2.2.1,(g4_0 x0).2.2.2.2.2.2.1,(g4_0 x0).2.2.2.2.2.2.2.1,(g4_0 x0).2.2.2.2.2.2.2.2.1,(g4_0 x0).2.2.2.2.2.2.2.2.2.1,(g4_0 x0).2.2.2.2.2.2.2.2.2.2.1,List.set ([]++(g4_0 x0).2.2.2.2.2.2.2.2.2.2.2.1) 0 ((List.getD ([]++(g4_0 x0).2.2.2.2.2.2.2.2.2.2.2.1) 0 (0,0,ByteArray.empty,0,())).1,(List.getD ([]++(g4_0 x0).2.2.2.2.2.2.2.2.2.2.2.1) 0 (0,0,ByteArray.empty,0,())).2.1,(List.getD ([]++(g4_0 x0).2.2.2.2.2.2.2.2.2.2.2.1) 0 (0,0,ByteArray.empty,0,())).2.2.1,Int.tmod ((List.getD ([]++(g4_0 x0).2.2.2.2.2.2.2.2.2.2.2.1) 0 (0,0,ByteArray.empty,0,())).2.2.2.1+7) 65536,(List.getD ([]++(g4_0 x0).2.2.2.2.2.2.2.2.2.2.2.1) 0 (0,0,ByteArray.empty,0,())).2.2.2.2),()))):Int))∧(if (!ByteArray.toList (List.getD (g10_0 ((g4_0 x0).1,(g4_0 x0).2.1,(g4_0 x0).2.2.1,(g4_0 x0).2.2.2.1,(g4_0 x0).2.2.2.2.1,(g4_0 x0).2.2.2.2.2.1,(g4_0 x0).2.2.2.2.2.2.1,(g4_0 x0).2.2.2.2.2.2.2.1,(g4_0 x0).2.2.2.2.2.2.2.2.1,(g4_0 x0).2.2.2.2.2.2.2.2.2.1,(g4_0 x0).2.2.2.2.2.2.2.2.2.2.1,List.set ([]++(g4_0 x0).2.2.2.2.2.2.2.2.2.2.2.1) 0 ((List.getD ([]++(g4_0 x0).2.2.2.2.2.2.2.2.2.2.2.1) 0 (0,0,ByteArray.empty,0,())).1,(List.getD ([]++(g4_0 x0).2.2.2.2.2.2.2.2.2.2.2.1) 0 (0,0,ByteArray.empty,0,())).2.1,(List.getD ([]++(g4_0 x0).2.2.2.2.2.2.2.2.2.2.2.1) 0 (0,0,ByteArray.empty,0,())).2.2.1,Int.tmod ((List.getD ([]++(g4_0 x0).2.2.2.2.2.2.2.2.2.2.2.1) 0 (0,0,ByteArray.empty,0,())).2.2.2.1+7) 65536,(List.getD ([]++(g4_0 x0).2.2.2.2.2.2.2.2.2.2.2.1) 0 (0,0,ByteArray.empty,0,())).2.2.2.2),())) 0 (0,ByteArray.empty,ByteArray.empty,())).2.1==ByteArray.toList (ByteArray.mk #[48]))=true then (ds=[Dyn.mk .bool false]) else (R3_26 n (List.set ([]++(g4_0 x0).2.2.2.2.2.2.2.2.2.2.2.1) 0 ((List.getD ([]++(g4_0 x0).2.2.2.2.2.2.2.2.2.2.2.1) 0 (0,0,ByteArray.empty,0,())).1,(List.getD ([]++(g4_0 x0).2.2.2.2.2.2.2.2.2.2.2.1) 0 (0,0,ByteArray.empty,0,())).2.1,(List.getD ([]++(g4_0 x0).2.2.2.2.2.2.2.2.2.2.2.1) 0 (0,0,ByteArray.empty,0,())).2.2.1,Int.tmod ((List.getD ([]++(g4_0 x0).2.2.2.2.2.2.2.2.2.2.2.1) 0 (0,0,ByteArray.empty,0,())).2.2.2.1+7) 65536,(List.getD ([]++(g4_0 x0).2.2.2.2.2.2.2.2.2.2.2.1) 0 (0,0,ByteArray.empty,0,())).2.2.2.2)) (x0) ds))))))))))) else (R3_26 n ([]++(g4_0 x0).2.2.2.2.2.2.2.2.2.2.2.1) (x0) ds))))
def R3_16:Nat→Int→List Int→List Dyn→Prop
 | 0,_,_,_=>False
 | n+1,v13,x0,ds=>((0≤v13)∧(v13<(↑(List.length (g7_0 (g4_0 x0))):Int))∧((P12 (List.getD (g7_0 (g4_0 x0)) (Int.toNat v13) (0,ByteArray.empty,ByteArray.empty,())))∧(if (ByteArray.toList (g12_0 (List.getD (g7_0 (g4_0 x0)) (Int.toNat v13) (0,ByteArray.empty,ByteArray.empty,())))==ByteArray.toList (ByteArray.mk #[]))=true then (ds=[Dyn.mk .bool false]) else ((0≤v13)∧(v13<(↑(List.length (g7_0 (g4_0 x0))):Int))∧((P13 (List.getD (g7_0 (g4_0 x0)) (Int.toNat v13) (0,ByteArray.empty,ByteArray.empty,())).1)∧(if (ByteArray.toList (g13_0 (List.getD (g7_0 (g4_0 x0)) (Int.toNat v13) (0,ByteArray.empty,ByteArray.empty,())).1)==ByteArray.toList (ByteArray.mk #[]))=true then (ds=[Dyn.mk .bool false]) else (R3_15 n (v13) (x0) ds)))))))
def R3_26:Nat→List TyB2→List Int→List Dyn→Prop
 | 0,_,_,_=>False
 | n+1,h1,x0,ds=>((P9 ((g4_0 x0).1,(g4_0 x0).2.1,(g4_0 x0).2.2.1,(g4_0 x0).2.2.2.1,(g4_0 x0).2.2.2.2.1,(g4_0 x0).2.2.2.2.2.1,(g4_0 x0).2.2.2.2.2.2.1,(g4_0 x0).2.2.2.2.2.2.2.1,(g4_0 x0).2.2.2.2.2.2.2.2.1,[(300,5,()),(320,5,())],1440,[],()))∧((P11 (g9_0 ((g4_0 x0).1,(g4_0 x0).2.1,(g4_0 x0).2.2.1,(g4_0 x0).2.2.2.1,(g4_0 x0).2.2.2.2.1,(g4_0 x0).2.2.2.2.2.1,(g4_0 x0).2.2.2.2.2.2.1,(g4_0 x0).2.2.2.2.2.2.2.1,(g4_0 x0).2.2.2.2.2.2.2.2.1,[(300,5,()),(320,5,())],1440,[],())))∧(if (g9_1 ((g4_0 x0).1,(g4_0 x0).2.1,(g4_0 x0).2.2.1,(g4_0 x0).2.2.2.1,(g4_0 x0).2.2.2.2.1,(g4_0 x0).2.2.2.2.2.1,(g4_0 x0).2.2.2.2.2.2.1,(g4_0 x0).2.2.2.2.2.2.2.1,(g4_0 x0).2.2.2.2.2.2.2.2.1,[(300,5,()),(320,5,())],1440,[],())==0)=true then (if ((↑(List.length (g11_0 (g9_0 ((g4_0 x0).1,(g4_0 x0).2.1,(g4_0 x0).2.2.1,(g4_0 x0).2.2.2.1,(g4_0 x0).2.2.2.2.1,(g4_0 x0).2.2.2.2.2.1,(g4_0 x0).2.2.2.2.2.2.1,(g4_0 x0).2.2.2.2.2.2.2.1,(g4_0 x0).2.2.2.2.2.2.2.2.1,[(300,5,()),(320,5,())],1440,[],())))):Int)==7)=true then ((5<(↑(List.length (g11_0 (g9_0 ((g4_0 x0).1,(g4_0 x0).2.1,(g4_0 x0).2.2.1,(g4_0 x0).2.2.2.1,(g4_0 x0).2.2.2.2.1,(g4_0 x0).2.2.2.2.2.1,(g4_0 x0).2.2.2.2.2.2.1,(g4_0 x0).2.2.2.2.2.2.2.1,(g4_0 x0).2.2.2.2.2.2.2.2.1,[(300,5,()),(320,5,())],1440,[],())))):Int))∧(ds=[Dyn.mk .bool (List.getD (g11_0 (g9_0 ((g4_0 x0).1,(g4_0 x0).2.1,(g4_0 x0).2.2.1,(g4_0 x0).2.2.2.1,(g4_0 x0).2.2.2.2.1,(g4_0 x0).2.2.2.2.2.1,(g4_0 x0).2.2.2.2.2.2.1,(g4_0 x0).2.2.2.2.2.2.2.1,(g4_0 x0).2.2.2.2.2.2.2.2.1,[(300,5,()),(320,5,())],1440,[],()))) 5 0==1)])) else (ds=[Dyn.mk .bool false])) else (ds=[Dyn.mk .bool false]))))
def R3_15:Nat→Int→List Int→List Dyn→Prop
 | 0,_,_,_=>False
 | n+1,v13,x0,ds=>((InR .i64 (v13+1))∧(R3_14 n (v13+1) (x0) ds))
end
theorem snd3:∀ n,(∀ (x0:List Int) ds,R3 n x0 ds→∀ K q,AtV Tryz.prog 3 (PostR kds3 oks3 ds [] [] q K) 209 K q [] [.code b3] (entE 0 0 sig3 (x0,())) (entL sig3 (x0,())))∧(∀ (x0:List Int) ds,R3_3 n x0 ds→∀ K q,AtV Tryz.prog 3 (PostR kds3 oks3 ds [] [] q K) 209 K q [] (cutAt b3 3) (E3_3 x0) (L3_3 x0))∧(∀ (x0:List Int) ds,R3_6 n x0 ds→∀ K q,AtV Tryz.prog 3 (PostR kds3 oks3 ds [] [] q K) 209 K q [] (cutAt b3 6) (E3_6 x0) (L3_6 x0))∧(∀ (x0:List Int) ds,R3_13 n x0 ds→∀ K q,AtV Tryz.prog 3 (PostR kds3 oks3 ds [] [] q K) 209 K q [] (cutAt b3 13) (E3_13 x0) (L3_13 x0))∧(∀ (v13:Int) (x0:List Int) ds,R3_14 n v13 x0 ds→∀ K q,AtV Tryz.prog 3 (PostR kds3 oks3 ds [] [] q K) 209 K q [] (cutAt b3 14) (E3_14 v13 x0) (L3_14 v13 x0))∧(∀ (v13:Int) (x0:List Int) ds,R3_16 n v13 x0 ds→∀ K q,AtV Tryz.prog 3 (PostR kds3 oks3 ds [] [] q K) 209 K q [] (cutAt b3 16) (E3_16 v13 x0) (L3_16 v13 x0))∧(∀ (h1:List TyB2) (x0:List Int) ds,R3_26 n h1 x0 ds→∀ K q,AtV Tryz.prog 3 (PostR kds3 oks3 ds [] [] q K) 209 K q [] (cutAt b3 26) (E3_26 h1 x0) (L3_26 h1 x0))∧(∀ (v13:Int) (x0:List Int) ds,R3_15 n v13 x0 ds→∀ K q,AtV Tryz.prog 3 (PostR kds3 oks3 ds [] [] q K) 209 K q [] (cutAt b3 15) (E3_15 v13 x0) (L3_15 v13 x0)):=by
 intro n
 induction n with
 | zero=>exact ⟨fun _ _ h=>by simp only [R3] at h,fun _ _ h=>by simp only [R3_3] at h,fun _ _ h=>by simp only [R3_6] at h,fun _ _ h=>by simp only [R3_13] at h,fun _ _ _ h=>by simp only [R3_14] at h,fun _ _ _ h=>by simp only [R3_16] at h,fun _ _ _ h=>by simp only [R3_26] at h,fun _ _ _ h=>by simp only [R3_15] at h⟩
 | succ n ih =>
 obtain ⟨ih,ih3,ih6,ih13,ih14,ih16,ih26,ih15⟩:=ih
 refine ⟨?_,?_,?_,?_,?_,?_,?_,?_⟩
 ·intro x0 ds h K q
  rw [R3] at h
  by_cases b0:(decide ((x0.length:Int)>1048576))=true
  ·rw [if_pos b0] at h
   subst h
   exact AtV.ret Tryz.func3 tabOk ext3Ok mixed false [3,6,13,16,15,26] tys3 [true] (a1 b0 trivial) (by kernel_rfl)
  ·rw [if_neg b0] at h
   replace b0:=bf_ b0
   exact AtV.go tabOk ext3Ok mixed false [3,6,13,16,15,26] [] [0] [] [false] (a1 b0 trivial) (ih3 _ _ h K q) (by kernel_rfl)
 ·intro x0 ds h K q
  rw [R3_3] at h
  obtain ⟨s0,h⟩:=h
  by_cases b0:(!g5_0 (g4_0 x0))=true
  ·rw [if_pos b0] at h
   obtain ⟨s1,h⟩:=h
   subst h
   exact AtV.ret Tryz.func3 tabOk ext3Ok mixed false [3,6,13,16,15,26] tys3 [true] (a1 s0 (a1 trivial (a1 b0 (a1 s1 trivial)))) (by kernel_rfl)
  ·rw [if_neg b0] at h
   replace b0:=bf_ b0
   exact AtV.go tabOk ext3Ok mixed false [3,6,13,16,15,26] [] [3] [0] [false] (a1 s0 (a1 trivial (a1 b0 trivial))) (ih6 _ _ h K q) (by kernel_rfl)
 ·intro x0 ds h K q
  rw [R3_6] at h
  obtain ⟨s0,h⟩:=h
  obtain ⟨s1,h⟩:=h
  obtain ⟨s2,h⟩:=h
  obtain ⟨s3,h⟩:=h
  obtain ⟨s4,h⟩:=h
  by_cases b0:(g7_1 (g4_0 x0) != 0)=true
  ·rw [if_pos b0] at h
   subst h
   exact AtV.ret Tryz.func3 tabOk ext3Ok mixed false [3,6,13,16,15,26] tys3 [true,true,true,true,true,true,true,true,true] (a1 s0 (a1 s1 (a1 s2 (a1 s3 (a1 s4 (a1 b0 (a1 (rfl:true=true) (a1 (rfl:true=true) (a1 (rfl:true=true) (a1 (rfl:true=true) (a1 (rfl:true=true) (a1 (rfl:true=true) (a1 (rfl:true=true) (a1 (rfl:true=true) trivial)))))))))))))) (by kernel_rfl)
  ·rw [if_neg b0] at h
   replace b0:=bf_ b0
   by_cases b1:(g8_1 (g4_0 x0) != 0)=true
   ·rw [if_pos b1] at h
    subst h
    exact AtV.ret Tryz.func3 tabOk ext3Ok mixed false [3,6,13,16,15,26] tys3 [false,true,true,true,true,true,true,true,true] (a1 s0 (a1 s1 (a1 s2 (a1 s3 (a1 s4 (a1 b0 (a1 b1 (a1 (rfl:true=true) (a1 (rfl:true=true) (a1 (rfl:true=true) (a1 (rfl:true=true) (a1 (rfl:true=true) (a1 (rfl:true=true) (a1 (rfl:true=true) trivial)))))))))))))) (by kernel_rfl)
   ·rw [if_neg b1] at h
    replace b1:=bf_ b1
    by_cases b2:(g9_1 (g4_0 x0) != 0)=true
    ·rw [if_pos b2] at h
     subst h
     exact AtV.ret Tryz.func3 tabOk ext3Ok mixed false [3,6,13,16,15,26] tys3 [false,false,true,true,true,true,true,true,true] (a1 s0 (a1 s1 (a1 s2 (a1 s3 (a1 s4 (a1 b0 (a1 b1 (a1 b2 (a1 (rfl:true=true) (a1 (rfl:true=true) (a1 (rfl:true=true) (a1 (rfl:true=true) (a1 (rfl:true=true) (a1 (rfl:true=true) trivial)))))))))))))) (by kernel_rfl)
    ·rw [if_neg b2] at h
     replace b2:=bf_ b2
     by_cases b3:(g10_1 (g4_0 x0) != 0)=true
     ·rw [if_pos b3] at h
      subst h
      exact AtV.ret Tryz.func3 tabOk ext3Ok mixed false [3,6,13,16,15,26] tys3 [false,false,false,true,true,true,true,true,true] (a1 s0 (a1 s1 (a1 s2 (a1 s3 (a1 s4 (a1 b0 (a1 b1 (a1 b2 (a1 b3 (a1 (rfl:true=true) (a1 (rfl:true=true) (a1 (rfl:true=true) (a1 (rfl:true=true) (a1 (rfl:true=true) trivial)))))))))))))) (by kernel_rfl)
     ·rw [if_neg b3] at h
      replace b3:=bf_ b3
      obtain ⟨s5,h⟩:=h
      obtain ⟨s6,h⟩:=h
      by_cases b4:((↑(List.length (g8_0 (g4_0 x0))):Int)+(↑(List.length (g9_0 (g4_0 x0))):Int)+(↑(List.length (g10_0 (g4_0 x0))):Int) != (↑(List.length (g7_0 (g4_0 x0))):Int))=true
      ·rw [if_pos b4] at h
       subst h
       exact AtV.ret Tryz.func3 tabOk ext3Ok mixed false [3,6,13,16,15,26] tys3 [false,false,false,false,true,true,true,true,true] (a1 s0 (a1 s1 (a1 s2 (a1 s3 (a1 s4 (a1 b0 (a1 b1 (a1 b2 (a1 b3 (a1 s5 (a1 s6 (a1 b4 (a1 (rfl:true=true) (a1 (rfl:true=true) (a1 (rfl:true=true) (a1 (rfl:true=true) trivial)))))))))))))))) (by kernel_rfl)
      ·rw [if_neg b4] at h
       replace b4:=bf_ b4
       by_cases b5:((↑(List.length (g11_0 (g7_0 (g4_0 x0)))):Int) != 7)=true
       ·rw [if_pos b5] at h
        subst h
        exact AtV.ret Tryz.func3 tabOk ext3Ok mixed false [3,6,13,16,15,26] tys3 [false,false,false,false,false,true,true,true,true] (a1 s0 (a1 s1 (a1 s2 (a1 s3 (a1 s4 (a1 b0 (a1 b1 (a1 b2 (a1 b3 (a1 s5 (a1 s6 (a1 b4 (a1 b5 (a1 (rfl:true=true) (a1 (rfl:true=true) (a1 (rfl:true=true) trivial)))))))))))))))) (by kernel_rfl)
       ·rw [if_neg b5] at h
        replace b5:=bf_ b5
        obtain ⟨s7,h⟩:=h
        by_cases b6:(List.getD (g11_0 (g7_0 (g4_0 x0))) 0 0 != (↑(List.length (g7_0 (g4_0 x0))):Int))=true
        ·rw [if_pos b6] at h
         subst h
         exact AtV.ret Tryz.func3 tabOk ext3Ok mixed false [3,6,13,16,15,26] tys3 [false,false,false,false,false,false,true,true,true] (a1 s0 (a1 s1 (a1 s2 (a1 s3 (a1 s4 (a1 b0 (a1 b1 (a1 b2 (a1 b3 (a1 s5 (a1 s6 (a1 b4 (a1 b5 (a1 ((by decide):(0:Int)≤(0:Int)) (a1 s7 (a1 b6 (a1 (rfl:true=true) (a1 (rfl:true=true) trivial)))))))))))))))))) (by kernel_rfl)
        ·rw [if_neg b6] at h
         replace b6:=bf_ b6
         obtain ⟨s8,h⟩:=h
         by_cases b7:(!g6_0 (g4_0 x0)==((↑(List.length (g7_0 (g4_0 x0))):Int)==0))=true
         ·rw [if_pos b7] at h
          subst h
          exact AtV.ret Tryz.func3 tabOk ext3Ok mixed false [3,6,13,16,15,26] tys3 [false,false,false,false,false,false,false,true,true] (a1 s0 (a1 s1 (a1 s2 (a1 s3 (a1 s4 (a1 b0 (a1 b1 (a1 b2 (a1 b3 (a1 s5 (a1 s6 (a1 b4 (a1 b5 (a1 ((by decide):(0:Int)≤(0:Int)) (a1 s7 (a1 b6 (a1 s8 (a1 b7 (a1 (rfl:true=true) trivial))))))))))))))))))) (by kernel_rfl)
         ·rw [if_neg b7] at h
          replace b7:=bf_ b7
          by_cases b8:(decide ((↑(List.length (g10_0 (g4_0 x0))):Int)>1))=true
          ·rw [if_pos b8] at h
           subst h
           exact AtV.ret Tryz.func3 tabOk ext3Ok mixed false [3,6,13,16,15,26] tys3 [false,false,false,false,false,false,false,false,true] (a1 s0 (a1 s1 (a1 s2 (a1 s3 (a1 s4 (a1 b0 (a1 b1 (a1 b2 (a1 b3 (a1 s5 (a1 s6 (a1 b4 (a1 b5 (a1 ((by decide):(0:Int)≤(0:Int)) (a1 s7 (a1 b6 (a1 s8 (a1 b7 (a1 b8 trivial))))))))))))))))))) (by kernel_rfl)
          ·rw [if_neg b8] at h
           replace b8:=bf_ b8
           exact AtV.go tabOk ext3Ok mixed false [3,6,13,16,15,26] [] [3,4,10] [0,1,4] [false,false,false,false,false,false,false,false,false] (a1 s0 (a1 s1 (a1 s2 (a1 s3 (a1 s4 (a1 b0 (a1 b1 (a1 b2 (a1 b3 (a1 s5 (a1 s6 (a1 b4 (a1 b5 (a1 ((by decide):(0:Int)≤(0:Int)) (a1 s7 (a1 b6 (a1 s8 (a1 b7 (a1 b8 trivial))))))))))))))))))) (ih13 _ _ h K q) (by kernel_rfl)
 ·intro x0 ds h K q
  rw [R3_13] at h
  exact AtV.go tabOk ext3Ok mixed false [3,6,13,16,15,26] [] [3,4,10,13] [0,1,2] [] trivial (ih14 _ _ _ h K q) (by kernel_rfl)
 ·intro v13 x0 ds h K q
  rw [R3_14] at h
  by_cases b0:(decide (v13<(↑(List.length (g7_0 (g4_0 x0))):Int)))=true
  ·rw [if_pos b0] at h
   exact AtV.go tabOk ext3Ok mixed false [3,6,13,16,15,26] [] [3,4,10,13] [0,1,2] [true] (a1 b0 trivial) (ih16 _ _ _ h K q) (by kernel_rfl)
  ·rw [if_neg b0] at h
   replace b0:=bf_ b0
   obtain ⟨s0,h⟩:=h
   by_cases b1:(decide ((↑(List.length ([]++(g4_0 x0).2.2.2.2.2.2.2.2.2.2.2.1)):Int)>0))=true
   ·rw [if_pos b1] at h
    obtain ⟨s1,h⟩:=h
    obtain ⟨s2,h⟩:=h
    obtain ⟨s3,h⟩:=h
    obtain ⟨s4,h⟩:=h
    obtain ⟨s5,h⟩:=h
    by_cases b2:(decide ((↑(List.length (g10_0 (g4_0 x0))):Int)>0))=true
    ·rw [if_pos b2] at h
     obtain ⟨s6,h⟩:=h
     by_cases b3:(g10_1 ((g4_0 x0).1,(g4_0 x0).2.1,(g4_0 x0).2.2.1,(g4_0 x0).2.2.2.1,(g4_0 x0).2.2.2.2.1,(g4_0 x0).2.2.2.2.2.1,(g4_0 x0).2.2.2.2.2.2.1,(g4_0 x0).2.2.2.2.2.2.2.1,(g4_0 x0).2.2.2.2.2.2.2.2.1,(g4_0 x0).2.2.2.2.2.2.2.2.2.1,(g4_0 x0).2.2.2.2.2.2.2.2.2.2.1,List.set ([]++(g4_0 x0).2.2.2.2.2.2.2.2.2.2.2.1) 0 ((List.getD ([]++(g4_0 x0).2.2.2.2.2.2.2.2.2.2.2.1) 0 (0,0,ByteArray.empty,0,())).1,(List.getD ([]++(g4_0 x0).2.2.2.2.2.2.2.2.2.2.2.1) 0 (0,0,ByteArray.empty,0,())).2.1,(List.getD ([]++(g4_0 x0).2.2.2.2.2.2.2.2.2.2.2.1) 0 (0,0,ByteArray.empty,0,())).2.2.1,Int.tmod ((List.getD ([]++(g4_0 x0).2.2.2.2.2.2.2.2.2.2.2.1) 0 (0,0,ByteArray.empty,0,())).2.2.2.1+7) 65536,(List.getD ([]++(g4_0 x0).2.2.2.2.2.2.2.2.2.2.2.1) 0 (0,0,ByteArray.empty,0,())).2.2.2.2),()) != 0)=true
     ·rw [if_pos b3] at h
      subst h
      exact AtV.ret Tryz.func3 tabOk ext3Ok mixed false [3,6,13,16,15,26] tys3 [false,true,true,true,true] (a1 b0 (a1 s0 (a1 b1 (a1 ((by decide):(0:Int)≤(0:Int)) (a1 s1 (a1 s2 (a1 ((by decide):(65536:Int)≠(0:Int)) (a1 s3 (a1 ((by decide):(0:Int)≤(0:Int)) (a1 s4 (a1 s5 (a1 b2 (a1 ((by decide):(0:Int)≤(0:Int)) (a1 s6 (a1 b3 (a1 (rfl:true=true) trivial)))))))))))))))) (by kernel_rfl)
     ·rw [if_neg b3] at h
      replace b3:=bf_ b3
      by_cases b4:(!ByteArray.toList (List.getD (g10_0 (g4_0 x0)) 0 (0,ByteArray.empty,ByteArray.empty,())).2.1==ByteArray.toList (ByteArray.mk #[48]))=true
      ·rw [if_pos b4] at h
       by_cases b5:((↑(List.length (g10_0 ((g4_0 x0).1,(g4_0 x0).2.1,(g4_0 x0).2.2.1,(g4_0 x0).2.2.2.1,(g4_0 x0).2.2.2.2.1,(g4_0 x0).2.2.2.2.2.1,(g4_0 x0).2.2.2.2.2.2.1,(g4_0 x0).2.2.2.2.2.2.2.1,(g4_0 x0).2.2.2.2.2.2.2.2.1,(g4_0 x0).2.2.2.2.2.2.2.2.2.1,(g4_0 x0).2.2.2.2.2.2.2.2.2.2.1,List.set ([]++(g4_0 x0).2.2.2.2.2.2.2.2.2.2.2.1) 0 ((List.getD ([]++(g4_0 x0).2.2.2.2.2.2.2.2.2.2.2.1) 0 (0,0,ByteArray.empty,0,())).1,(List.getD ([]++(g4_0 x0).2.2.2.2.2.2.2.2.2.2.2.1) 0 (0,0,ByteArray.empty,0,())).2.1,(List.getD ([]++(g4_0 x0).2.2.2.2.2.2.2.2.2.2.2.1) 0 (0,0,ByteArray.empty,0,())).2.2.1,Int.tmod ((List.getD ([]++(g4_0 x0).2.2.2.2.2.2.2.2.2.2.2.1) 0 (0,0,ByteArray.empty,0,())).2.2.2.1+7) 65536,(List.getD ([]++(g4_0 x0).2.2.2.2.2.2.2.2.2.2.2.1) 0 (0,0,ByteArray.empty,0,())).2.2.2.2),()))):Int) != 1)=true
       ·rw [if_pos b5] at h
        subst h
        exact AtV.ret Tryz.func3 tabOk ext3Ok mixed false [3,6,13,16,15,26] tys3 [false,true,true,false,true,true,true] (a1 b0 (a1 s0 (a1 b1 (a1 ((by decide):(0:Int)≤(0:Int)) (a1 s1 (a1 s2 (a1 ((by decide):(65536:Int)≠(0:Int)) (a1 s3 (a1 ((by decide):(0:Int)≤(0:Int)) (a1 s4 (a1 s5 (a1 b2 (a1 ((by decide):(0:Int)≤(0:Int)) (a1 s6 (a1 b3 (a1 b4 (a1 b5 (a1 (rfl:true=true) trivial)))))))))))))))))) (by kernel_rfl)
       ·rw [if_neg b5] at h
        replace b5:=bf_ b5
        obtain ⟨s7,h⟩:=h
        by_cases b6:(!ByteArray.toList (List.getD (g10_0 ((g4_0 x0).1,(g4_0 x0).2.1,(g4_0 x0).2.2.1,(g4_0 x0).2.2.2.1,(g4_0 x0).2.2.2.2.1,(g4_0 x0).2.2.2.2.2.1,(g4_0 x0).2.2.2.2.2.2.1,(g4_0 x0).2.2.2.2.2.2.2.1,(g4_0 x0).2.2.2.2.2.2.2.2.1,(g4_0 x0).2.2.2.2.2.2.2.2.2.1,(g4_0 x0).2.2.2.2.2.2.2.2.2.2.1,List.set ([]++(g4_0 x0).2.2.2.2.2.2.2.2.2.2.2.1) 0 ((List.getD ([]++(g4_0 x0).2.2.2.2.2.2.2.2.2.2.2.1) 0 (0,0,ByteArray.empty,0,())).1,(List.getD ([]++(g4_0 x0).2.2.2.2.2.2.2.2.2.2.2.1) 0 (0,0,ByteArray.empty,0,())).2.1,(List.getD ([]++(g4_0 x0).2.2.2.2.2.2.2.2.2.2.2.1) 0 (0,0,ByteArray.empty,0,())).2.2.1,Int.tmod ((List.getD ([]++(g4_0 x0).2.2.2.2.2.2.2.2.2.2.2.1) 0 (0,0,ByteArray.empty,0,())).2.2.2.1+7) 65536,(List.getD ([]++(g4_0 x0).2.2.2.2.2.2.2.2.2.2.2.1) 0 (0,0,ByteArray.empty,0,())).2.2.2.2),())) 0 (0,ByteArray.empty,ByteArray.empty,())).2.1==ByteArray.toList (ByteArray.mk #[48]))=true
        ·rw [if_pos b6] at h
         subst h
         exact AtV.ret Tryz.func3 tabOk ext3Ok mixed false [3,6,13,16,15,26] tys3 [false,true,true,false,true,false,true] (a1 b0 (a1 s0 (a1 b1 (a1 ((by decide):(0:Int)≤(0:Int)) (a1 s1 (a1 s2 (a1 ((by decide):(65536:Int)≠(0:Int)) (a1 s3 (a1 ((by decide):(0:Int)≤(0:Int)) (a1 s4 (a1 s5 (a1 b2 (a1 ((by decide):(0:Int)≤(0:Int)) (a1 s6 (a1 b3 (a1 b4 (a1 b5 (a1 ((by decide):(0:Int)≤(0:Int)) (a1 s7 (a1 b6 trivial)))))))))))))))))))) (by kernel_rfl)
        ·rw [if_neg b6] at h
         replace b6:=bf_ b6
         exact AtV.go tabOk ext3Ok mixed false [3,6,13,16,15,26] [] [14] [3,4] [false,true,true,false,true,false,false] (a1 b0 (a1 s0 (a1 b1 (a1 ((by decide):(0:Int)≤(0:Int)) (a1 s1 (a1 s2 (a1 ((by decide):(65536:Int)≠(0:Int)) (a1 s3 (a1 ((by decide):(0:Int)≤(0:Int)) (a1 s4 (a1 s5 (a1 b2 (a1 ((by decide):(0:Int)≤(0:Int)) (a1 s6 (a1 b3 (a1 b4 (a1 b5 (a1 ((by decide):(0:Int)≤(0:Int)) (a1 s7 (a1 b6 trivial)))))))))))))))))))) (ih26 _ _ _ h K q) (by kernel_rfl)
      ·rw [if_neg b4] at h
       replace b4:=bf_ b4
       exact AtV.go tabOk ext3Ok mixed false [3,6,13,16,15,26] [] [14] [3,4] [false,true,true,false,false,false] (a1 b0 (a1 s0 (a1 b1 (a1 ((by decide):(0:Int)≤(0:Int)) (a1 s1 (a1 s2 (a1 ((by decide):(65536:Int)≠(0:Int)) (a1 s3 (a1 ((by decide):(0:Int)≤(0:Int)) (a1 s4 (a1 s5 (a1 b2 (a1 ((by decide):(0:Int)≤(0:Int)) (a1 s6 (a1 b3 (a1 b4 (a1 (rfl:false=false) trivial))))))))))))))))) (ih26 _ _ _ h K q) (by kernel_rfl)
    ·rw [if_neg b2] at h
     replace b2:=bf_ b2
     by_cases b3:(g10_1 ((g4_0 x0).1,(g4_0 x0).2.1,(g4_0 x0).2.2.1,(g4_0 x0).2.2.2.1,(g4_0 x0).2.2.2.2.1,(g4_0 x0).2.2.2.2.2.1,(g4_0 x0).2.2.2.2.2.2.1,(g4_0 x0).2.2.2.2.2.2.2.1,(g4_0 x0).2.2.2.2.2.2.2.2.1,(g4_0 x0).2.2.2.2.2.2.2.2.2.1,(g4_0 x0).2.2.2.2.2.2.2.2.2.2.1,List.set ([]++(g4_0 x0).2.2.2.2.2.2.2.2.2.2.2.1) 0 ((List.getD ([]++(g4_0 x0).2.2.2.2.2.2.2.2.2.2.2.1) 0 (0,0,ByteArray.empty,0,())).1,(List.getD ([]++(g4_0 x0).2.2.2.2.2.2.2.2.2.2.2.1) 0 (0,0,ByteArray.empty,0,())).2.1,(List.getD ([]++(g4_0 x0).2.2.2.2.2.2.2.2.2.2.2.1) 0 (0,0,ByteArray.empty,0,())).2.2.1,Int.tmod ((List.getD ([]++(g4_0 x0).2.2.2.2.2.2.2.2.2.2.2.1) 0 (0,0,ByteArray.empty,0,())).2.2.2.1+7) 65536,(List.getD ([]++(g4_0 x0).2.2.2.2.2.2.2.2.2.2.2.1) 0 (0,0,ByteArray.empty,0,())).2.2.2.2),()) != 0)=true
     ·rw [if_pos b3] at h
      subst h
      exact AtV.ret Tryz.func3 tabOk ext3Ok mixed false [3,6,13,16,15,26] tys3 [false,true,false,true,true] (a1 b0 (a1 s0 (a1 b1 (a1 ((by decide):(0:Int)≤(0:Int)) (a1 s1 (a1 s2 (a1 ((by decide):(65536:Int)≠(0:Int)) (a1 s3 (a1 ((by decide):(0:Int)≤(0:Int)) (a1 s4 (a1 s5 (a1 b2 (a1 b3 (a1 (rfl:true=true) trivial)))))))))))))) (by kernel_rfl)
     ·rw [if_neg b3] at h
      replace b3:=bf_ b3
      by_cases b4:((↑(List.length (g10_0 ((g4_0 x0).1,(g4_0 x0).2.1,(g4_0 x0).2.2.1,(g4_0 x0).2.2.2.1,(g4_0 x0).2.2.2.2.1,(g4_0 x0).2.2.2.2.2.1,(g4_0 x0).2.2.2.2.2.2.1,(g4_0 x0).2.2.2.2.2.2.2.1,(g4_0 x0).2.2.2.2.2.2.2.2.1,(g4_0 x0).2.2.2.2.2.2.2.2.2.1,(g4_0 x0).2.2.2.2.2.2.2.2.2.2.1,List.set ([]++(g4_0 x0).2.2.2.2.2.2.2.2.2.2.2.1) 0 ((List.getD ([]++(g4_0 x0).2.2.2.2.2.2.2.2.2.2.2.1) 0 (0,0,ByteArray.empty,0,())).1,(List.getD ([]++(g4_0 x0).2.2.2.2.2.2.2.2.2.2.2.1) 0 (0,0,ByteArray.empty,0,())).2.1,(List.getD ([]++(g4_0 x0).2.2.2.2.2.2.2.2.2.2.2.1) 0 (0,0,ByteArray.empty,0,())).2.2.1,Int.tmod ((List.getD ([]++(g4_0 x0).2.2.2.2.2.2.2.2.2.2.2.1) 0 (0,0,ByteArray.empty,0,())).2.2.2.1+7) 65536,(List.getD ([]++(g4_0 x0).2.2.2.2.2.2.2.2.2.2.2.1) 0 (0,0,ByteArray.empty,0,())).2.2.2.2),()))):Int) != 1)=true
      ·rw [if_pos b4] at h
       subst h
       exact AtV.ret Tryz.func3 tabOk ext3Ok mixed false [3,6,13,16,15,26] tys3 [false,true,false,false,true,true,true] (a1 b0 (a1 s0 (a1 b1 (a1 ((by decide):(0:Int)≤(0:Int)) (a1 s1 (a1 s2 (a1 ((by decide):(65536:Int)≠(0:Int)) (a1 s3 (a1 ((by decide):(0:Int)≤(0:Int)) (a1 s4 (a1 s5 (a1 b2 (a1 b3 (a1 (rfl:true=true) (a1 b4 (a1 (rfl:true=true) trivial)))))))))))))))) (by kernel_rfl)
      ·rw [if_neg b4] at h
       replace b4:=bf_ b4
       obtain ⟨s6,h⟩:=h
       by_cases b5:(!ByteArray.toList (List.getD (g10_0 ((g4_0 x0).1,(g4_0 x0).2.1,(g4_0 x0).2.2.1,(g4_0 x0).2.2.2.1,(g4_0 x0).2.2.2.2.1,(g4_0 x0).2.2.2.2.2.1,(g4_0 x0).2.2.2.2.2.2.1,(g4_0 x0).2.2.2.2.2.2.2.1,(g4_0 x0).2.2.2.2.2.2.2.2.1,(g4_0 x0).2.2.2.2.2.2.2.2.2.1,(g4_0 x0).2.2.2.2.2.2.2.2.2.2.1,List.set ([]++(g4_0 x0).2.2.2.2.2.2.2.2.2.2.2.1) 0 ((List.getD ([]++(g4_0 x0).2.2.2.2.2.2.2.2.2.2.2.1) 0 (0,0,ByteArray.empty,0,())).1,(List.getD ([]++(g4_0 x0).2.2.2.2.2.2.2.2.2.2.2.1) 0 (0,0,ByteArray.empty,0,())).2.1,(List.getD ([]++(g4_0 x0).2.2.2.2.2.2.2.2.2.2.2.1) 0 (0,0,ByteArray.empty,0,())).2.2.1,Int.tmod ((List.getD ([]++(g4_0 x0).2.2.2.2.2.2.2.2.2.2.2.1) 0 (0,0,ByteArray.empty,0,())).2.2.2.1+7) 65536,(List.getD ([]++(g4_0 x0).2.2.2.2.2.2.2.2.2.2.2.1) 0 (0,0,ByteArray.empty,0,())).2.2.2.2),())) 0 (0,ByteArray.empty,ByteArray.empty,())).2.1==ByteArray.toList (ByteArray.mk #[48]))=true
       ·rw [if_pos b5] at h
        subst h
        exact AtV.ret Tryz.func3 tabOk ext3Ok mixed false [3,6,13,16,15,26] tys3 [false,true,false,false,true,false,true] (a1 b0 (a1 s0 (a1 b1 (a1 ((by decide):(0:Int)≤(0:Int)) (a1 s1 (a1 s2 (a1 ((by decide):(65536:Int)≠(0:Int)) (a1 s3 (a1 ((by decide):(0:Int)≤(0:Int)) (a1 s4 (a1 s5 (a1 b2 (a1 b3 (a1 (rfl:true=true) (a1 b4 (a1 ((by decide):(0:Int)≤(0:Int)) (a1 s6 (a1 b5 trivial)))))))))))))))))) (by kernel_rfl)
       ·rw [if_neg b5] at h
        replace b5:=bf_ b5
        exact AtV.go tabOk ext3Ok mixed false [3,6,13,16,15,26] [] [14] [3,4] [false,true,false,false,true,false,false] (a1 b0 (a1 s0 (a1 b1 (a1 ((by decide):(0:Int)≤(0:Int)) (a1 s1 (a1 s2 (a1 ((by decide):(65536:Int)≠(0:Int)) (a1 s3 (a1 ((by decide):(0:Int)≤(0:Int)) (a1 s4 (a1 s5 (a1 b2 (a1 b3 (a1 (rfl:true=true) (a1 b4 (a1 ((by decide):(0:Int)≤(0:Int)) (a1 s6 (a1 b5 trivial)))))))))))))))))) (ih26 _ _ _ h K q) (by kernel_rfl)
   ·rw [if_neg b1] at h
    replace b1:=bf_ b1
    exact AtV.go tabOk ext3Ok mixed false [3,6,13,16,15,26] [] [14] [3,4] [false,false] (a1 b0 (a1 s0 (a1 b1 trivial))) (ih26 _ _ _ h K q) (by kernel_rfl)
 ·intro v13 x0 ds h K q
  rw [R3_16] at h
  obtain ⟨s0,s1,h⟩:=h
  obtain ⟨s2,h⟩:=h
  by_cases b0:(ByteArray.toList (g12_0 (List.getD (g7_0 (g4_0 x0)) (Int.toNat v13) (0,ByteArray.empty,ByteArray.empty,())))==ByteArray.toList (ByteArray.mk #[]))=true
  ·rw [if_pos b0] at h
   subst h
   exact AtV.ret Tryz.func3 tabOk ext3Ok mixed false [3,6,13,16,15,26] tys3 [true,true] (a1 s0 (a1 s1 (a1 s2 (a1 b0 (a1 (rfl:true=true) trivial))))) (by kernel_rfl)
  ·rw [if_neg b0] at h
   replace b0:=bf_ b0
   obtain ⟨s3,s4,h⟩:=h
   obtain ⟨s5,h⟩:=h
   by_cases b1:(ByteArray.toList (g13_0 (List.getD (g7_0 (g4_0 x0)) (Int.toNat v13) (0,ByteArray.empty,ByteArray.empty,())).1)==ByteArray.toList (ByteArray.mk #[]))=true
   ·rw [if_pos b1] at h
    subst h
    exact AtV.ret Tryz.func3 tabOk ext3Ok mixed false [3,6,13,16,15,26] tys3 [false,true] (a1 s0 (a1 s1 (a1 s2 (a1 b0 (a1 s3 (a1 s4 (a1 s5 (a1 b1 trivial)))))))) (by kernel_rfl)
   ·rw [if_neg b1] at h
    replace b1:=bf_ b1
    exact AtV.go tabOk ext3Ok mixed false [3,6,13,16,15,26] [] [3,4,10,13,120,121,122,123,124,125,126] [0,1,2] [false,false] (a1 s0 (a1 s1 (a1 s2 (a1 b0 (a1 s3 (a1 s4 (a1 s5 (a1 b1 trivial)))))))) (ih15 _ _ _ h K q) (by kernel_rfl)
 ·intro h1 x0 ds h K q
  rw [R3_26] at h
  obtain ⟨s0,h⟩:=h
  obtain ⟨s1,h⟩:=h
  by_cases b0:(g9_1 ((g4_0 x0).1,(g4_0 x0).2.1,(g4_0 x0).2.2.1,(g4_0 x0).2.2.2.1,(g4_0 x0).2.2.2.2.1,(g4_0 x0).2.2.2.2.2.1,(g4_0 x0).2.2.2.2.2.2.1,(g4_0 x0).2.2.2.2.2.2.2.1,(g4_0 x0).2.2.2.2.2.2.2.2.1,[(300,5,()),(320,5,())],1440,[],())==0)=true
  ·rw [if_pos b0] at h
   by_cases b1:((↑(List.length (g11_0 (g9_0 ((g4_0 x0).1,(g4_0 x0).2.1,(g4_0 x0).2.2.1,(g4_0 x0).2.2.2.1,(g4_0 x0).2.2.2.2.1,(g4_0 x0).2.2.2.2.2.1,(g4_0 x0).2.2.2.2.2.2.1,(g4_0 x0).2.2.2.2.2.2.2.1,(g4_0 x0).2.2.2.2.2.2.2.2.1,[(300,5,()),(320,5,())],1440,[],())))):Int)==7)=true
   ·rw [if_pos b1] at h
    obtain ⟨s2,h⟩:=h
    subst h
    exact AtV.ret Tryz.func3 tabOk ext3Ok mixed false [3,6,13,16,15,26] tys3 [true,true] (a1 s0 (a1 s1 (a1 b0 (a1 b1 (a1 ((by decide):(0:Int)≤(5:Int)) (a1 s2 trivial)))))) (by kernel_rfl)
   ·rw [if_neg b1] at h
    replace b1:=bf_ b1
    subst h
    exact AtV.ret Tryz.func3 tabOk ext3Ok mixed false [3,6,13,16,15,26] tys3 [true,false] (a1 s0 (a1 s1 (a1 b0 (a1 b1 trivial)))) (by kernel_rfl)
  ·rw [if_neg b0] at h
   replace b0:=bf_ b0
   subst h
   exact AtV.ret Tryz.func3 tabOk ext3Ok mixed false [3,6,13,16,15,26] tys3 [false,false] (a1 s0 (a1 s1 (a1 b0 (a1 (rfl:false=false) trivial)))) (by kernel_rfl)
 ·intro v13 x0 ds h K q
  rw [R3_15] at h
  obtain ⟨s0,h⟩:=h
  exact AtV.go tabOk ext3Ok mixed false [3,6,13,16,15,26] [] [3,4,10,13] [0,1,2] [] (a1 s0 trivial) (ih14 _ _ _ h K q) (by kernel_rfl)
def g3_0 (x0:List Int):Bool:=true
def P3 (x0:List Int):Prop:=True
abbrev T3:List Dyn:=[⟨.bool,true⟩]
theorem start3 {x:List Int} (hw:Wf (.sl (.int .u8)) x):P4 x :=
 ⟨show P15 (x,0,0,()) from (src_start hw).up (by decide),trivial⟩
theorem odd3 (x0:List Int) (h:g16_0 (g4_0 x0)=true) (h1:List TyB2):R3_26 1 h1 x0 T3:=by
 obtain ⟨hv,hc⟩:=odd_found h
 obtain ⟨_,_,⟨p9,e1,e0⟩,_,_,hl,_⟩:=parts _ hv
 have hk:=service_pr _ hv
 obtain ⟨c7,_,c5⟩:=count_I (g19_0 (odd (g4_0 x0))) (fun y hy=>by have:=(hk y hy).1;omega)
 rw [R3_26]
 rw [e1,e0,c7,c5,hc]
 exact ⟨p9,by show _≤1048576;omega,by decide,rfl⟩
theorem end3 (x0:List Int) (h:g16_0 (g4_0 x0)=true) (i:Int) (hi:¬ i<((g7_0 (g4_0 x0)).length:Int)):R3_14 2 i x0 T3:=by
 have hl:=(lines_ok _ (works_ok _ h).2.2.2.2.2.2.2.2).2
 have last:=odd3 x0 h
 obtain ⟨_,_,_,⟨_,_,e0⟩,_⟩:=parts _ h
 rw [R3_14,if_neg (by simpa using hi)]
 refine ⟨by omega,?_⟩
 cases hL:(g4_0 x0).2.2.2.2.2.2.2.2.2.2.2.1 with
 | nil =>
  rw [if_neg (by decide)]
  exact last _
 | cons y r =>
  obtain ⟨hv,hf⟩:=bent_found h hL
  obtain ⟨_,_,_,⟨p1,f1,f0⟩,_⟩:=parts _ hv
  have hs:=bent_one ((lines_ok _ (by have:=(works_ok _ h).2.2.2.2.2.2.2.2;rw [hL] at this;exact this)).1 y (List.mem_cons_self ..))
  have hlen:(0:Int)<((y :: r).length:Int):=by simp only [List.length_cons];omega
  simp only [List.nil_append,List.set_cons_zero,List.getD_cons_zero]
  rw [if_pos (decide_eq_true hlen),e0,f1,f0]
  have i1:InR .i64 (y.2.2.2.1+7):=by rw [i64_iff];omega
  refine ⟨hlen,i1,hs.2.2.2,hlen,p1,?_⟩
  rcases hf with ⟨s,hf⟩ | ⟨s,hf⟩
  ·rw [hf]
   by_cases c:decide (((g20_0 (g4_0 x0)).length:Int)>0)=true
   ·rw [if_pos c,if_neg (by decide)]
    refine ⟨of_decide_eq_true c,?_⟩
    by_cases c2:(!ByteArray.toList (List.getD (g20_0 (g4_0 x0)) 0 (0,ByteArray.empty,ByteArray.empty,())).2.1==ByteArray.toList (ByteArray.mk #[48]))=true
    ·rw [if_pos c2,if_neg (show ¬ (((([((6:Int),ByteArray.mk #[48],s,())]:List TyB3).length:Nat):Int) != 1)=true from (by decide:¬ (((1:Nat):Int) != 1)=true))]
     refine ⟨(show (0:Int)<((([((6:Int),ByteArray.mk #[48],s,())]:List TyB3).length:Nat):Int) from (by decide:(0:Int)<((1:Nat):Int))),?_⟩
     rw [if_neg (show ¬ (!ByteArray.toList (List.getD [((6:Int),ByteArray.mk #[48],s,())] 0 (0,ByteArray.empty,ByteArray.empty,())).2.1==ByteArray.toList (ByteArray.mk #[48]))=true by simp)]
     exact last _
    ·rw [if_neg c2]
     exact last _
   ·rw [if_neg c,if_neg (by decide),if_neg (show ¬ (((([((6:Int),ByteArray.mk #[48],s,())]:List TyB3).length:Nat):Int) != 1)=true from (by decide:¬ (((1:Nat):Int) != 1)=true))]
    refine ⟨(show (0:Int)<((([((6:Int),ByteArray.mk #[48],s,())]:List TyB3).length:Nat):Int) from (by decide:(0:Int)<((1:Nat):Int))),?_⟩
    rw [if_neg (show ¬ (!ByteArray.toList (List.getD [((6:Int),ByteArray.mk #[48],s,())] 0 (0,ByteArray.empty,ByteArray.empty,())).2.1==ByteArray.toList (ByteArray.mk #[48]))=true by simp)]
    exact last _
  ·rw [hf,if_pos (show decide (((([((6:Int),ByteArray.mk #[48],s,())]:List TyB3).length:Nat):Int)>0)=true from (by decide:decide (((1:Nat):Int)>0)=true)),if_neg (by decide),if_neg (show ¬ (!ByteArray.toList (List.getD [((6:Int),ByteArray.mk #[48],s,())] 0 (0,ByteArray.empty,ByteArray.empty,())).2.1==ByteArray.toList (ByteArray.mk #[48]))=true by simp)]
   exact ⟨(show (0:Int)<((([((6:Int),ByteArray.mk #[48],s,())]:List TyB3).length:Nat):Int) from (by decide:(0:Int)<((1:Nat):Int))),last _⟩
theorem texts3 (x0:List Int) (h:g16_0 (g4_0 x0)=true):∀ (k i:Nat),i+k=(g7_0 (g4_0 x0)).length→∃ n,R3_14 n (i:Int) x0 T3:=by
 have hp:=all_pr _ h
 have hb:(g7_0 (g4_0 x0)).length≤64:=by
  obtain ⟨⟨_,_,e⟩,_,_,_,l1,l2,l3⟩:=parts _ h
  rw [e]
  simp only [List.length_append]
  omega
 intro k
 induction k with
 | zero =>
  intro i hi
  exact ⟨_,end3 x0 h i (by omega)⟩
 | succ k ih =>
  intro i hi
  obtain ⟨n,hn⟩:=ih (i+1) (by omega)
  obtain ⟨p1,c1,p2,c2⟩:=text_I (hp _ (mem_getD _ i (0,ByteArray.empty,ByteArray.empty,()) (by omega)))
  have e3:(i:Int)+1=((i+1:Nat):Int):=by omega
  refine ⟨n+1+1+1,?_⟩
  rw [R3_14,if_pos (by simp only [decide_eq_true_eq];omega),R3_16,R3_15,e3]
  simp only [Int.toNat_natCast]
  rw [if_neg (show ¬ (_==_)=true from fun hh=>by rw [c1] at hh;cases hh),if_neg (show ¬ (_==_)=true from fun hh=>by rw [c2] at hh;cases hh)]
  exact ⟨by omega,by omega,p1,by omega,by omega,p2,by rw [i64_iff];omega,hn⟩
theorem top3 (x0:List Int) (w0:Wf (.sl (.int .u8)) x0):∃ n,R3 n x0 [⟨.bool,g3_0 x0⟩]:=by
 by_cases hz:decide ((x0.length:Int)>1048576)=true
 ·exact ⟨1,by rw [R3,if_pos hz];rfl⟩
 by_cases h:g16_0 (g4_0 x0)=true
 ·have hv:¬ (!g5_0 (g4_0 x0))=true:=by
   show ¬ (!g16_0 (g4_0 x0))=true
   rw [h];decide
  obtain ⟨n,hn⟩:=texts3 x0 h _ 0 (by rw [Nat.zero_add])
  obtain ⟨⟨a1,a2,a3⟩,⟨b1,b2,b3⟩,⟨c1,c2,c3⟩,⟨d1,d2,d3⟩,l1,l2,l3⟩:=parts _ h
  have hk:=all_pr _ h
  obtain ⟨q1,q2,_⟩:=count_I (g7_0 (g4_0 x0)) (fun y hy=>(hk y hy).1)
  have hlen:(g7_0 (g4_0 x0)).length=(g18_0 (g4_0 x0)).length+(g19_0 (g4_0 x0)).length+(g20_0 (g4_0 x0)).length:=by
   rw [a3]
   simp only [List.length_append]
  have hp:g6_0 (g4_0 x0)=(((g7_0 (g4_0 x0)).length:Int)==0):=by
   unfold g6_0
   rw [a2]
   rfl
  refine ⟨n+1+1+1+1,?_⟩
  rw [R3,if_neg hz,R3_3,if_neg hv,R3_6,R3_13,a2,b2,b3,c2,c3,d2,d3,q1,q2,hp]
  have k1:¬ ((((g18_0 (g4_0 x0)).length:Int)+((g19_0 (g4_0 x0)).length:Int)+((g20_0 (g4_0 x0)).length:Int) != ((g7_0 (g4_0 x0)).length:Int))=true):=by
   simp only [bne_iff_ne,ne_eq]
   omega
  have k2:¬ (((g7_0 (g4_0 x0)).length:Int) != ((g7_0 (g4_0 x0)).length:Int))=true:=by simp
  have k3:¬ (!(((g7_0 (g4_0 x0)).length:Int)==0)==(((g7_0 (g4_0 x0)).length:Int)==0))=true:=by simp
  have k4:¬ decide (((g20_0 (g4_0 x0)).length:Int)>1)=true:=by simp only [decide_eq_true_eq];omega
  rw [if_neg (by decide),if_neg (by decide),if_neg (by decide),if_neg (by decide),if_neg k1,if_neg (by decide),if_neg k2,if_neg k3,if_neg k4]
  exact ⟨start3 w0,a1,b1,c1,d1,by show _≤1048576;omega,by rw [i64_iff];omega,by rw [i64_iff];omega,by decide,⟨a1,trivial⟩,hn⟩
 ·have hv:(!g5_0 (g4_0 x0))=true:=by
   show (!g16_0 (g4_0 x0))=true
   rw [bf_ h];rfl
  obtain ⟨_,k1,p2⟩:=all_I (g4_0 x0) (fun hh=>absurd hh h)
  rw [if_neg h] at k1
  have hp:g6_0 (g4_0 x0)=false:=by
   unfold g6_0
   rw [k1]
   rfl
  refine ⟨1+1,?_⟩
  rw [R3,if_neg hz,R3_3,if_pos hv,hp]
  exact ⟨start3 w0,⟨p2,trivial⟩,rfl⟩
def S3:Am.Spec:={ sig:=sig3,pre:=fun ⟨x0,_⟩=>P3 x0,res:=fun ⟨x0,_⟩=>[⟨.bool,g3_0 x0⟩] }
theorem con3:Contract Tryz.prog 3 S3:=contract_of Tryz.func3 hb3 (bl_ (by kernel_rfl)) (fun ⟨x0,_⟩ h hwf K q =>
 let ⟨n,hn⟩:=top3 x0 hwf.1
 (snd3 n).1 x0 _ hn K q)
end
theorem law3 (x0:List Int) (h0:Wf (.sl (.int .u8)) x0):P3 x0∧g3_0 x0=true:=⟨trivial,rfl⟩
end Go.Proofs.YtpojfdgfpamapaaGreatDoor
