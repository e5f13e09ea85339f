/-
  The document's answer for layers 1 and 7, as it is run. No conditions.
-/
import Derived.Test.YtncohicmiihjiaaGreatM7
set_option linter.unusedVariables false
set_option linter.unusedSimpArgs false
set_option linter.constructorNameAsVariable false
set_option linter.unusedSimpArgs false
set_option linter.unusedVariables false
set_option maxHeartbeats 1000000
namespace Go.Abs.Tryz
open Go Go.Abs
variable {O:Type}
def p32 (a:Int):List AV:=[.i .u64 (a % 4294967296),.i .u64 (a / 4294967296 % 4294967296),.i .u64 (a / 18446744073709551616 % 4294967296),.i .u64 (a / 79228162514264337593543950336),.i .u64 0,.i .u64 0]
end Go.Abs.Tryz
namespace Go.Abs.Tryz
open Go Go.Abs
variable {O:Type}
abbrev vW:Int:=340282366920938463463374607431768211456
theorem O3 {a b:Int} {J:AH O} (ha:0<=a/\a<vW) (hb:0<=b/\b<vW):Ok (Rw [.agg (kK a),.agg (kK b)] J) fun r=>r.1=.i .i64 (if a<b then -1 else if a=b then 0 else 1)/\Ext J r.2:=by
 unfold vW at ha hb
 by_cases h1:a / 18446744073709551616=b / 18446744073709551616
 ·have q1:=Et h1
  have l1:decide (a / 18446744073709551616<b / 18446744073709551616)=false:=decide_eq_false (by omega)
  by_cases h2:a % 18446744073709551616=b % 18446744073709551616
  ·have q2:=Et h2
   (unfold Rw Uh kK;refine gg q1 q2 ?_)
   refine U.2 ⟨?_,ku⟩
   rw [if_neg (by omega),if_pos (by omega)]
  ·have q2:=AQ h2
   by_cases h3:a % 18446744073709551616<b % 18446744073709551616
   ·have l2:=decide_eq_true h3
    (unfold Rw Uh kK;refine oQ q1 q2 l1 l2 @beq_self_eq_true.{0} ?_)
    refine U.2 ⟨?_,ku⟩
    rw [if_pos (by omega)]
   ·have l2:=decide_eq_false h3
    (unfold Rw Uh kK;refine oQ q1 q2 l1 l2 @beq_self_eq_true.{0} ?_)
    refine U.2 ⟨?_,ku⟩
    rw [if_neg (by omega),if_neg (by omega)]
 ·have q1:=AQ h1
  have q3:(false == true)=false:=rfl
  have q4:(true == false)=false:=rfl
  by_cases h3:a / 18446744073709551616<b / 18446744073709551616
  ·have l1:=decide_eq_true h3
   (unfold Rw Uh kK;refine AR q1 l1 q3 q4 ?_)
   refine U.2 ⟨?_,ku⟩
   rw [if_pos (by omega)]
  ·have l1:=decide_eq_false h3
   (unfold Rw Uh kK;refine oQ q1 l1 q3 q4 @beq_self_eq_true.{0} ?_)
   refine U.2 ⟨?_,ku⟩
   rw [if_neg (by omega),if_neg (by omega)]
theorem Lg {a b:Int} {J:AH O} (ha:0<=a/\a<vW) (hb:0<=b/\b<vW):Ok (qq5 [.agg (kK a),.agg (kK b)] J) fun r=>r.1=.b (decide (a<b))/\Ext J r.2:=by
 (unfold qq5 qq4 kK;refine cd ?_)
 generalize hJ:AH.put _ (J.next+1) _=J1
 have E1:Ext J J1:=by rw [<-hJ];exact ku
 clear hJ
 have:=O3 (J:=J1) ha hb
 simp only [kK] at this
 refine Ok.step this fun r ⟨g1,g2⟩=>?_
 obtain ⟨q,J2⟩:=r
 simp only at g1 g2
 subst g1
 refine cd ?_
 refine U.2 ⟨?_,E1.trans g2⟩
 by_cases c:a<b
 ·rw [if_pos c];simp [c]
 ·rw [if_neg c]
  by_cases c2:a=b
  ·rw [if_pos c2];simp [c]
  ·rw [if_neg c2];simp [c]
theorem Bv {x y c:Int} {J:AH O} (hx:0<=x) (hy:0<=y/\y<18446744073709551616) (hc:0<=c/\c<=1):gy [.i .u64 x,.i .u64 y,.i .u64 c] J=some (.aG [.i .u64 ((x - y - c) % 18446744073709551616),.i .u64 (if x<y+c then 1 else 0)],J):=by
 (unfold gy;exact zU0)
theorem O4 {a b:Int} {J:AH O} (hb:0<=b) (Ew:b<=a) (ha:a<vW):Ok (qra [.agg (kK a),.agg (kK b)] J) fun r=>r.1=.aG [.agg (kK (a - b)),.b true]/\Ext J r.2:=by
 unfold vW at ha
 (unfold qra qq9 kK;refine cd ?_)
 generalize hJ:AH.put _ (J.next+1+1) _=J1
 have E1:Ext J J1:=by rw [<-hJ];exact ku
 have n1:J1.next=J.next+3:=by rw [<-hJ];rfl
 have b0:∃ el,J1.aa J.next=some (.cells true el [.i .u64 (a / 18446744073709551616),.i .u64 (a % 18446744073709551616)]):=by rw [<-hJ];exact ⟨_,by rw [aq (by omega),aq (by omega)];exact aE⟩
 have b1:∃ el,J1.aa (J.next+1)=some (.cells true el [.i .u64 (b / 18446744073709551616),.i .u64 (b % 18446744073709551616)]):=by rw [<-hJ];exact ⟨_,by rw [aq (by omega)];exact aE⟩
 have b2:∃ el,J1.aa (J.next+1+1)=some (.cells true el [.i .u64 0,.i .u64 0]):=by rw [<-hJ];exact ⟨_,aE⟩
 clear hJ
 obtain ⟨x0,b0⟩:=b0
 obtain ⟨x1,b1⟩:=b1
 obtain ⟨x2,b2⟩:=b2
 have:=Lg (J:=J1) (a:=a) (b:=b) ⟨by omega,by unfold vW;omega⟩ ⟨by omega,by unfold vW;omega⟩
 simp only [kK] at this
 refine Ok.step this fun r ⟨g1,g2⟩=>?_
 obtain ⟨q,J2⟩:=r
 simp only at g1 g2
 subst g1
 have hd:decide (a<b)=false:=decide_eq_false (by omega)
 have c0:J2.aa J.next=_:=(g2.aa _ (by omega)).trans b0
 have c1:J2.aa (J.next+1)=_:=(g2.aa _ (by omega)).trans b1
 have c2:J2.aa (J.next+1+1)=_:=(g2.aa _ (by omega)).trans b2
 simp (maxSteps:=2000000) -implicitDefEqProofs (disch:=(first |omega |rfl |assumption |(simp only [aN];first |omega |assumption))) only [hd,c0,c1,Nat.reduceAdd,Nat.reduceMul,Nat.reduceLT,Int.reduceToNat,Int.reduceAdd,Int.reduceSub,Int.reduceMul,dH,fU]
 rw [Bv (by omega) (by omega) (by omega)]
 refine gg c0 c1 ?_
 rw [Bv (by omega) (by omega) (by split<;>omega)]
 simp (maxSteps:=2000000) -implicitDefEqProofs (disch:=(first |omega |rfl |assumption |(simp only [aN];first |omega |assumption))) only [c2,Nat.reduceAdd,Nat.reduceMul,Nat.reduceLT,Int.reduceToNat,Int.reduceAdd,Int.reduceSub,Int.reduceMul,dH,fU]
 have E:=E1.trans g2
 refine U.2 ⟨?_,⟨by show J.next<=J2.next;exact E.next,fun q hq=>?_⟩⟩
 ·have e1:(a / 18446744073709551616 - b / 18446744073709551616 - (if a % 18446744073709551616<b % 18446744073709551616+0 then 1 else 0)) % 18446744073709551616=(a - b) / 18446744073709551616:=by split<;>omega
  have e2:(a % 18446744073709551616 - b % 18446744073709551616 - 0) % 18446744073709551616=(a - b) % 18446744073709551616:=by omega
  rw [e1,e2]
 ·show (J2.put _ _).aa q=_
  rw [aq (by omega)];exact E.aa q hq
theorem Js {J:AH O} {b:Nat} {m:dZ} (h:dC J b m) (hm:m.ok) {s:Int} (h0:0<=s) (hs:s<=m.r+m.w):Ok (XZ [.p (some (.n b,0)),.agg (kK s)] J) fun r=>r.1=.agg (kK (m.r+m.w - s))/\Ext J r.2:=by
 have aY:=h.lt
 have h1:=hm.r
 have h2:=hm.w
 (unfold XZ qre kK;refine cd ?_)
 generalize hJ:AH.ax _ 1=J1
 have E1:Ext J J1:=by rw [<-hJ];exact ku
 have n1:J1.next=J.next+3:=by rw [<-hJ];rfl
 have b0:∃ el,J1.aa J.next=some (.cells true el [.i .u64 (s / 18446744073709551616),.i .u64 (s % 18446744073709551616)]):=by rw [<-hJ];exact ⟨_,by rw [ak,aq (by omega)];exact aE⟩
 have b1:∃ el,J1.aa (J.next+1)=some (.cells true el [.i .u64 0,.i .u64 0]):=by rw [<-hJ];exact ⟨_,aE⟩
 clear hJ
 obtain ⟨x0,b0⟩:=b0
 obtain ⟨x1,b1⟩:=b1
 have hM:dC J1 b m:=h.of E1.next (E1.aa b aY)
 refine Ok.step (AX hM hm) fun r ⟨g1,g2⟩=>?_
 obtain ⟨q,J2⟩:=r
 simp only at g1 g2
 subst g1
 have c0:J2.aa J.next=_:=(g2.aa _ (by omega)).trans b0
 have c1:J2.aa (J.next+1)=_:=(g2.aa _ (by omega)).trans b1
 simp (maxSteps:=2000000) -implicitDefEqProofs (disch:=(first |omega |rfl |assumption |(simp only [aN];first |omega |assumption))) only [c0,kK,eq_self,Nat.reduceAdd,Nat.reduceMul,Nat.reduceLT,Int.reduceToNat,Int.reduceAdd,Int.reduceSub,Int.reduceMul,dH,fU]
 have:=O4 (J:=J2) h0 hs (by unfold vW;omega)
 simp only [kK] at this
 refine Ok.step this fun r ⟨g3,g4⟩=>?_
 obtain ⟨q,J3⟩:=r
 simp only at g3 g4
 subst g3
 have n2:=g2.next
 have n3:=g4.next
 have d1:J3.aa (J.next+1)=_:=(g4.aa _ (by omega)).trans c1
 refine cO d1 ?_
 have E:=(E1.trans g2).trans g4
 refine U.2 ⟨rfl,⟨by show J.next<=J3.next;exact E.next,fun q hq=>?_⟩⟩
 show AH.aa (AH.put (AH.put _ _ _) _ _) q=_
 rw [aq (by omega),aq (by omega)];exact E.aa q hq
end Go.Abs.Tryz
