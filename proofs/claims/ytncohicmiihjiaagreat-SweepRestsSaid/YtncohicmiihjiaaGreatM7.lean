/-
  Layers 1 and 7: wide numbers and meters, as they are run. No conditions.
-/
import Derived.Test.YtncohicmiihjiaaGreatS9s
import Derived.Test.YtncohicmiihjiaaGreatAbsSl
set_option linter.unusedVariables false
set_option linter.unusedSimpArgs false
set_option linter.constructorNameAsVariable false
set_option linter.unusedSimpArgs false
namespace Go.Abs.Tryz
open Go Go.Abs
variable {O:Type}
def kK (w:Int):List AV:=[.i .u64 (w / 18446744073709551616),.i .u64 (w % 18446744073709551616)]
theorem Rm {n:Int} {J:AH O} (h:0<=n/\n<18446744073709551616):Ok (qfj [.i .u64 n] J) fun r=>r.1=.agg (kK n)/\Ext J r.2:=by
 (unfold qfj qfi;refine cd ?_)
 refine U.2 ⟨?_,ku⟩
 have e1:n / 18446744073709551616=0:=by omega
 have e2:n % 18446744073709551616=n:=by omega
 simp only [kK,e1,e2]
theorem Bk {x y c:Int} {J:AH O} (hx:0<=x) (hy:0<=y) (hc:0<=c/\c<=1):gv [.i .u64 x,.i .u64 y,.i .u64 c] J=some (.aG [.i .u64 ((x+y+c) % 18446744073709551616),.i .u64 ((x+y+c) / 18446744073709551616)],J):=by
 (unfold gv;exact zU0)
theorem yU {a b:Int} {J:AH O} (h1:0<=a) (h2:0<=b) (h:a+b<340282366920938463463374607431768211456):
  Ok (Zp [.agg (kK a),.agg (kK b)] J) fun r=>r.1=.aG [.agg (kK (a+b)),.b true]/\Ext J r.2:=by
 (unfold Zp qfs kK;refine cd ?_)
 rw [Bk (by omega) (by omega) (by omega)]
 refine cd ?_
 rw [Bk (by omega) (by omega) (by omega)]
 refine cd ?_
 refine U.2 ⟨?_,ku⟩
 have e1:(a / 18446744073709551616+b / 18446744073709551616+(a % 18446744073709551616+b % 18446744073709551616+0) / 18446744073709551616) % 18446744073709551616=(a+b) / 18446744073709551616:=by omega
 have e2:(a % 18446744073709551616+b % 18446744073709551616+0) % 18446744073709551616=(a+b) % 18446744073709551616:=by omega
 rw [e1,e2]
structure dZ where
 r:Int
 w:Int
 held:Int
 high:Int
def dZ.cells (m:dZ):List AV:=[.i .u64 (m.r / 18446744073709551616),.i .u64 (m.r % 18446744073709551616),.i .u64 (m.w / 18446744073709551616),.i .u64 (m.w % 18446744073709551616),.i .i64 m.held,.i .i64 m.high]
structure dC (J:AH O) (b:Nat) (m:dZ):Prop where
 lt:b<J.next
 aa:∃ el,J.aa b=some (.cells true el m.cells)
structure dZ.ok (m:dZ):Prop where
 r:0<=m.r/\m.r<170141183460469231731687303715884105728
 w:0<=m.w/\m.w<170141183460469231731687303715884105728
 held:0<=m.held/\m.held<=281474976710656
 high:m.held<=m.high/\m.high<=281474976710656
def dZ.zero:dZ:=⟨0,0,0,0⟩
theorem dC.of {J J':AH O} {b:Nat} {m:dZ} (h:dC J b m) (hn:J.next<=J'.next) (hb:J'.aa b=J.aa b):dC J' b m:=⟨Nat.lt_of_lt_of_le h.lt hn,by rw [hb];exact h.aa⟩
theorem dC.AS {J J':AH O} {L:List Nat} {b:Nat} {m:dZ} (h:dC J b m) (hc:eA L J J') (hb:b∉L):dC J' b m:=h.of hc.next (hc.aa b h.lt hb)
theorem EH {J:AH O} {b:Nat} {m:dZ} (h:dC J b m):qvo [.p (some (.n b,0))] J=some (.i .i64 m.held,J):=by
 obtain ⟨el,hb⟩:=h.aa
 simp (maxSteps:=2000000) -implicitDefEqProofs (disch:=(first |omega |rfl |assumption |(simp only [aN];first |omega |assumption))) only [qvo,qvn,hb,dZ.cells,Nat.reduceAdd,Nat.reduceMul,Nat.reduceLT,Int.reduceToNat,Int.reduceAdd,Int.reduceSub,Int.reduceMul,dH,fU]
def dZ.hold (m:dZ) (n:Int):dZ:={m with held:=m.held+n,high:=max m.high (m.held+n)}
def dZ.free (m:dZ) (n:Int):dZ:={m with held:=m.held - n}
theorem pU {J:AH O} {b:Nat} {m:dZ} {n:Int} (h:dC J b m) (hm:m.ok) (hn:0<=n) (Wc:m.held+n<=281474976710656):
  Ok (Zq [.p (some (.n b,0)),.i .i64 n] J) fun r=>r.1=.i .i64 0/\dC r.2 b (m.hold n)/\eA [b] J r.2:=by
 obtain ⟨el,hb⟩:=h.aa
 have aY:=h.lt
 have h1:=hm.held
 have h2:=hm.high
 have ajF:(if m.held+n > m.high then m.held+n else m.high)=max m.high (m.held+n):=by
  split<;>omega
 simp (maxSteps:=2000000) -implicitDefEqProofs (disch:=(first |omega |rfl |assumption |(simp only [aN];first |omega |assumption))) only [Zq,qbd,qa9,qa8,hb,dZ.cells,Nat.reduceAdd,Nat.reduceMul,Nat.reduceLT,Int.reduceToNat,Int.reduceAdd,Int.reduceSub,Int.reduceMul,dH,fU]
 refine U.2 ⟨rfl,⟨aY,el,?_⟩,((eA.refl _ _).put (.inl (by simp)) _)⟩
 simp only [aE,dZ.cells,dZ.hold,ajF]
theorem yV {J:AH O} {b:Nat} {m:dZ} {n:Int} (h:dC J b m) (hm:m.ok) (hn:0<=n) (Wc:n<=m.held):
  Ok (qgn [.p (some (.n b,0)),.i .i64 n] J) fun r=>r.1=.i .i64 0/\dC r.2 b (m.free n)/\eA [b] J r.2:=by
 obtain ⟨el,hb⟩:=h.aa
 have aY:=h.lt
 have h1:=hm.held
 simp (maxSteps:=2000000) -implicitDefEqProofs (disch:=(first |omega |rfl |assumption |(simp only [aN];first |omega |assumption))) only [qgn,qgm,hb,dZ.cells,Nat.reduceAdd,Nat.reduceMul,Nat.reduceLT,Int.reduceToNat,Int.reduceAdd,Int.reduceSub,Int.reduceMul,dH,fU]
 exact U.2 ⟨rfl,⟨aY,el,by simp only [aE];rfl⟩,((eA.refl _ _).put (.inl (by simp)) _)⟩
theorem OJ {J:AH O}:Ok (qaz [] J) fun r=>r.1=.p (some (.n J.next,0))/\dC r.2 J.next dZ.zero/\Ext J r.2/\r.2.next=J.next+1:=by
 (unfold qaz qay;refine cd ?_)
 exact U.2 ⟨rfl,⟨by simp,_,by simp only [aE];rfl⟩,ku,rfl⟩
theorem xE {J:AH O} {b:Nat} {m:dZ} {n:Int} (h:dC J b m) (h1:0<=m.r/\m.r<170141183460469231731687303715884105728) (hn:1<=n) (Wc:n<=9223372036854775807):
  Ok (KL [.p (some (.n b,0)),.i .i64 0,.i .i64 n] J) fun r=>r.1=.aG []/\dC r.2 b {m with r:=m.r+n}/\eA [b] J r.2:=by
 obtain ⟨el,hb⟩:=h.aa
 have aY:=h.lt
 simp (maxSteps:=2000000) -implicitDefEqProofs (disch:=(first |omega |rfl |assumption |(simp only [aN];first |omega |assumption))) only [KL,Zr,hb,dZ.cells,Int.toNat_zero,Nat.zero_mul,Nat.reduceAdd,Nat.reduceMul,Nat.reduceLT,Int.reduceToNat,Int.reduceAdd,Int.reduceSub,Int.reduceMul,dH,fU]
 refine Ok.step (Rm (by omega)) fun r ⟨g1,g2⟩=>?_
 obtain ⟨q,J1⟩:=r
 simp only at g1 g2
 subst g1
 have cy:J1.aa b=_:=(g2.aa b aY).trans hb
 simp (maxSteps:=2000000) -implicitDefEqProofs (disch:=(first |omega |rfl |assumption |(simp only [aN];first |omega |assumption))) only [cy,kK,dZ.cells,Int.toNat_zero,Nat.zero_mul,I4,Nat.reduceAdd,Nat.reduceMul,Nat.reduceLT,Int.reduceToNat,Int.reduceAdd,Int.reduceSub,Int.reduceMul,dH,fU]
 have:=yU (J:=J1) h1.1 (show 0<=n by omega) (by omega)
 simp only [kK] at this
 refine Ok.step this fun r ⟨g3,g4⟩=>?_
 obtain ⟨q,J2⟩:=r
 simp only at g3 g4
 subst g3
 have eO:J2.aa b=_:=(g4.aa b (Nat.lt_of_lt_of_le aY g2.next)).trans cy
 simp (maxSteps:=2000000) -implicitDefEqProofs (disch:=(first |omega |rfl |assumption |(simp only [aN];first |omega |assumption))) only [eO,dZ.cells,Int.toNat_zero,Nat.zero_mul,Nat.reduceAdd,Nat.reduceMul,Nat.reduceLT,Int.reduceToNat,Int.reduceAdd,Int.reduceSub,Int.reduceMul,dH,fU]
 exact U.2 ⟨rfl,⟨by simp only [bO];have:=g2.next;have:=g4.next;omega,el,by simp only [aE];rfl⟩,(g2.trans g4).AS.put (.inl (by simp)) _⟩
theorem rA {J:AH O} {b:Nat} {m:dZ} {n:Int} (h:dC J b m) (h1:0<=m.w/\m.w<170141183460469231731687303715884105728) (hn:1<=n) (Wc:n<=9223372036854775807):
  Ok (KL [.p (some (.n b,0)),.i .i64 1,.i .i64 n] J) fun r=>r.1=.aG []/\dC r.2 b {m with w:=m.w+n}/\eA [b] J r.2:=by
 obtain ⟨el,hb⟩:=h.aa
 have aY:=h.lt
 have t1:(1:Int).toNat=1:=rfl
 simp (maxSteps:=2000000) -implicitDefEqProofs (disch:=(first |omega |rfl |assumption |(simp only [aN];first |omega |assumption))) only [KL,Zr,hb,dZ.cells,t1,Nat.one_mul,Nat.reduceAdd,Nat.reduceMul,Nat.reduceLT,Int.reduceToNat,Int.reduceAdd,Int.reduceSub,Int.reduceMul,dH,fU]
 refine Ok.step (Rm (by omega)) fun r ⟨g1,g2⟩=>?_
 obtain ⟨q,J1⟩:=r
 simp only at g1 g2
 subst g1
 have cy:J1.aa b=_:=(g2.aa b aY).trans hb
 simp (maxSteps:=2000000) -implicitDefEqProofs (disch:=(first |omega |rfl |assumption |(simp only [aN];first |omega |assumption))) only [cy,kK,dZ.cells,t1,Nat.one_mul,I4,Nat.reduceAdd,Nat.reduceMul,Nat.reduceLT,Int.reduceToNat,Int.reduceAdd,Int.reduceSub,Int.reduceMul,dH,fU]
 have:=yU (J:=J1) h1.1 (show 0<=n by omega) (by omega)
 simp only [kK] at this
 refine Ok.step this fun r ⟨g3,g4⟩=>?_
 obtain ⟨q,J2⟩:=r
 simp only at g3 g4
 subst g3
 have eO:J2.aa b=_:=(g4.aa b (Nat.lt_of_lt_of_le aY g2.next)).trans cy
 simp (maxSteps:=2000000) -implicitDefEqProofs (disch:=(first |omega |rfl |assumption |(simp only [aN];first |omega |assumption))) only [eO,dZ.cells,t1,Nat.one_mul,Nat.reduceAdd,Nat.reduceMul,Nat.reduceLT,Int.reduceToNat,Int.reduceAdd,Int.reduceSub,Int.reduceMul,dH,fU]
 exact U.2 ⟨rfl,⟨by simp only [bO];have:=g2.next;have:=g4.next;omega,el,by simp only [aE];rfl⟩,(g2.trans g4).AS.put (.inl (by simp)) _⟩
theorem xF {J:AH O} {b:Nat} {k n:Int} (hn:n<1):KL [.p (some (.n b,0)),.i .i64 k,.i .i64 n] J=some (.aG [],J):=by
 have e:∀ c:Bool,(bif c then true else true)=true:=by decide
 (unfold KL Zr;exact Gd e)
theorem TU {J:AH O} {b:Nat} {m:dZ} (h:dC J b m):Ok (Wd [.p (some (.n b,0)),.i .i64 0] J) fun r=>r.1=.agg (kK m.r)/\Ext J r.2:=by
 obtain ⟨el,hb⟩:=h.aa
 have aY:=h.lt
 simp (maxSteps:=2000000) -implicitDefEqProofs (disch:=(first |omega |rfl |assumption |(simp only [aN];first |omega |assumption))) only [Wd,qqp,hb,dZ.cells,Int.toNat_zero,Nat.zero_mul,Nat.reduceAdd,Nat.reduceMul,Nat.reduceLT,Int.reduceToNat,Int.reduceAdd,Int.reduceSub,Int.reduceMul,dH,fU]
 exact U.2 ⟨rfl,ku⟩
theorem TW {J:AH O} {b:Nat} {m:dZ} (h:dC J b m):Ok (Wd [.p (some (.n b,0)),.i .i64 1] J) fun r=>r.1=.agg (kK m.w)/\Ext J r.2:=by
 obtain ⟨el,hb⟩:=h.aa
 have aY:=h.lt
 have t1:(1:Int).toNat=1:=rfl
 simp (maxSteps:=2000000) -implicitDefEqProofs (disch:=(first |omega |rfl |assumption |(simp only [aN];first |omega |assumption))) only [Wd,qqp,hb,dZ.cells,t1,Nat.one_mul,Nat.reduceAdd,Nat.reduceMul,Nat.reduceLT,Int.reduceToNat,Int.reduceAdd,Int.reduceSub,Int.reduceMul,dH,fU]
 exact U.2 ⟨rfl,ku⟩
theorem AX {J:AH O} {b:Nat} {m:dZ} (h:dC J b m) (hm:m.ok):Ok (Vz [.p (some (.n b,0))] J) fun r=>r.1=.agg (kK (m.r+m.w))/\Ext J r.2:=by
 have aY:=h.lt
 have h1:=hm.r
 have h2:=hm.w
 (unfold Vz qqu;refine cd ?_)
 generalize hs:((J.ax 1).put J.next (.cells true _ [.i .u64 0,.i .u64 0])).ax 1=J1
 have e1:Ext J J1:=by rw [<-hs];exact ku
 have n1:J1.next=J.next+1+1:=by rw [<-hs];rfl
 have hM:dC J1 b m:=h.of e1.next (e1.aa b aY)
 have b1:∃ el,J1.aa J.next=some (.cells true el [.i .u64 0,.i .u64 0]):=by rw [<-hs];exact ⟨_,by simp only [ak,aE];rfl⟩
 clear hs
 obtain ⟨el,b1⟩:=b1
 refine Ok.step (TU hM) fun r ⟨g1,g2⟩=>?_
 obtain ⟨q,J2⟩:=r
 simp only at g1 g2
 subst g1
 have hM2:dC J2 b m:=hM.of g2.next (g2.aa b hM.lt)
 (unfold kK;refine cd ?_)
 refine Ok.step (TW hM2) fun r ⟨g3,g4⟩=>?_
 obtain ⟨q,J3⟩:=r
 simp only at g3 g4
 subst g3
 (unfold kK;refine cd ?_)
 have:=yU (J:=J3) h1.1 h2.1 (by omega)
 simp only [kK] at this
 refine Ok.step this fun r ⟨g5,g6⟩=>?_
 obtain ⟨q,J4⟩:=r
 simp only at g5 g6
 subst g5
 have e4:Ext J1 J4:=(g2.trans g4).trans g6
 have n4:=e4.next
 have b4:J4.aa J.next=_:=(e4.aa _ (by omega)).trans b1
 refine cO b4 ?_
 refine U.2 ⟨rfl,?_⟩
 have E:=e1.trans e4
 exact cF (by simp only [bO];exact E.next) fun b hb=>by
  simp -implicitDefEqProofs (disch:=omega) only [aq]
  exact E.aa b hb
end Go.Abs.Tryz
namespace Go.Abs.Tryz
open Go Go.Abs
variable {O:Type}
def eL (l:List Int):List AV:=l.map (AV.i .u64)
theorem fZ (l:List Int):(eL l).length=l.length:=by simp [eL]
theorem KM {l:List Int} {i:Nat} {x:Int} (h:l[i]? = some x):(eL l)[i]? = some (.i .u64 x):=by simp [eL,h]
theorem pV (n:Nat):(List.replicate n [AV.i .u64 0]).flatten=eL (List.replicate n 0):=by
 induction n with
 |zero=>rfl
 |succ n ih=>simp only [List.replicate_succ,List.flatten_cons,eL,List.map_cons] at ih ⊢;rw [ih];rfl
structure Sp where
 a:SA
 op:Bool
 ws:List Int
def Sp.cells (s:Sp):List AV:=[.sl s.a s.ws.length,.b s.op]
theorem Sp.len (s:Sp):s.cells.length=2:=rfl
def Sp.sl (s:Sp):SA × List AV:=(s.a,eL s.ws)
def Sp.v (s:Sp):Bool × List Int:=(s.op,s.ws)
structure ae where
 met:dZ
 sp:List (Bool × List Int)
 low:Int
 count:Int
structure iK (J:AH O) (mb tb:Nat) (sa:SA) (L:List Sp) (met:dZ) (low count:Int):Prop where
 m:∃ el,J.aa mb=some (.cells true el [.p (some (.n tb,0)),.sl sa L.length,.i .i64 low,.i .i64 count])
 mlt:mb<J.next
 met:dC J tb met
 HS:ba J MF 2 sa L.length (L.flatMap Sp.cells)
 OK:BV J pW 1 (L.map Sp.sl)
 ne:mb≠tb
 n1:∀ b∈SA.bk sa,b≠mb/\b≠tb
 n2:∀ b∈oS (L.map Sp.sl),b≠mb/\b≠tb/\b∉SA.bk sa
def cI (mb tb:Nat) (sa:SA) (L:List Sp):List Nat:=mb::tb::(SA.bk sa++oS (L.map Sp.sl))
def bz (J:AH O) (mb:Nat) (F:List Nat) (M:ae):Prop:=∃ tb sa L,F=cI mb tb sa L/\M.sp=L.map Sp.v/\iK J mb tb sa L M.met M.low M.count
theorem iK.of {J J':AH O} {mb tb:Nat} {sa:SA} {L:List Sp} {met:dZ} {low count:Int} (h:iK J mb tb sa L met low count) (hn:J.next<=J'.next) (hb:∀ b∈cI mb tb sa L,J'.aa b=J.aa b):iK J' mb tb sa L met low count where
 m:=by rw [hb mb (by simp [cI])];exact h.m
 mlt:=Nat.lt_of_lt_of_le h.mlt hn
 met:=h.met.of hn (hb tb (by simp [cI]))
 HS:=h.HS.of hn fun b dJ=>hb b (by simp [cI,dJ])
 OK:=h.OK.of hn fun b dJ=>hb b (by simp [cI,dJ])
 ne:=h.ne
 n1:=h.n1
 n2:=h.n2
theorem iK.Ns {J:AH O} {mb tb:Nat} {sa:SA} {L:List Sp} {met:dZ} {low count:Int} (h:iK J mb tb sa L met low count):∀ b∈cI mb tb sa L,b<J.next:=fun b hb=>by
 simp only [cI,List.mem_cons,List.mem_append] at hb
 rcases hb with rfl |rfl |hb |hb
 ·exact h.mlt
 ·exact h.met.lt
 ·exact h.HS.lt b hb
 ·exact h.OK.lt b hb
theorem bz.lt {J:AH O} {mb:Nat} {F:List Nat} {M:ae} (h:bz J mb F M):∀ b∈F,b<J.next:=by
 obtain ⟨tb,sa,L,rfl,_,hC⟩:=h
 exact hC.Ns
theorem bz.AS {J J':AH O} {mb:Nat} {F L:List Nat} {M:ae} (h:bz J mb F M) (hc:eA L J J') (hd:∀ b∈F,b∉L):bz J' mb F M:=by
 have aY:=h.lt
 obtain ⟨tb,sa,L',rfl,e,hC⟩:=h
 exact ⟨tb,sa,L',rfl,e,hC.of hc.next fun b hb=>hc.aa b (aY b hb) (hd b hb)⟩
theorem bz.ext {J J':AH O} {mb:Nat} {F:List Nat} {M:ae} (h:bz J mb F M) (hc:Ext J J'):bz J' mb F M:=h.AS (L:=[]) hc.AS (by simp)
def Fp (F F':List Nat) (J:AH O):Prop:=∀ b∈F',b∈F ∨ J.next<=b
theorem Fp.refl (F:List Nat) (J:AH O):Fp F F J:=fun _ h=>.inl h
structure ae.ok (M:ae):Prop where
 met:M.met.ok
 low:0<=M.low/\M.low<=M.sp.length
 below:∀ i:Nat,(i:Int)<M.low->∀ s,M.sp[i]? = some s->s.1=true
 count:M.count=(M.sp.countP (·.1):Nat)
 cH:M.sp.length<=262144
 size:∀ s∈M.sp,s.2.length<=4194304
 shut:∀ s∈M.sp,s.1=false->s.2=[]
 held:M.met.held=(((M.sp.map fun s=>s.2.length).sum:Nat):Int)
theorem Ku {l:List Nat} {c:Nat} (h:∀ x∈l,x<=c):l.sum<=l.length*c:=by
 induction l with
 |nil=>simp
 |cons x l ih=>
  have:=ih fun y hy=>h y (List.mem_cons_of_mem _ hy)
  have:=h x List.mem_cons_self
  simp only [List.sum_cons,List.length_cons,Nat.succ_mul];omega
theorem ae.ok.bound {M:ae} (h:M.ok):M.met.held<=1099511627776:=by
 rw [h.held]
 have h1:=Ku (l:=M.sp.map fun s=>s.2.length) (c:=4194304) (by
  intro x hx
  obtain ⟨s,hs,rfl⟩:=List.mem_map.1 hx
  exact h.size s hs)
 simp only [List.length_map] at h1
 have:=h.cH
 omega
def Bl (l:List (Bool × List Int)) (id:Int):Prop:=0<=id/\∃ w,l[id.toNat]? = some (true,w)
theorem ni {J:AH O} {mb tb:Nat} {sa:SA} {L:List Sp} {met:dZ} {low count id:Int} (h:iK J mb tb sa L met low count) (h0:0<=id) {s:Sp} (hs:L[id.toNat]? = some s) (ho:s.op=true):
  ∃ k,sa=.loc (.n k) 0 2/\KN [.p (some (.n mb,0)),.i .i64 id] J=some (.p (some (.n k,id.toNat*2)),J):=by
 have aY:=(List.getElem?_eq_some_iff.1 hs).1
 obtain ⟨k,rfl,hk,_⟩:=h.HS.loc (by omega)
 obtain ⟨el,hm⟩:=h.m
 have g1:=mX Sp.len (j:=1) (by omega) hs
 simp only [Sp.cells,List.getElem?_cons_succ,List.getElem?_cons_zero,ho] at g1
 exact ⟨k,rfl,by (unfold KN We;exact QR hm hk g1)⟩
theorem yW {J:AH O} {mb tb:Nat} {sa:SA} {L:List Sp} {met:dZ} {low count id:Int} (h:iK J mb tb sa L met low count) (hn:¬ Bl (L.map Sp.v) id):
  KN [.p (some (.n mb,0)),.i .i64 id] J=some (.p none,J):=by
 obtain ⟨el,hm⟩:=h.m
 by_cases h0:id<0
 ·(unfold KN We;exact Gd hm)
 ·by_cases h1:id>=(L.length:Int)
  ·(unfold KN We;exact Gd hm)
  ·have aY:id.toNat<L.length:=by omega
   obtain ⟨k,rfl,hk,_⟩:=h.HS.loc (by omega)
   have hs:=List.getElem?_eq_getElem aY
   have nJ:L[id.toNat].op=false:=by
    cases ho:L[id.toNat].op with
    |false=>rfl
    |true=>exact absurd ⟨by omega,L[id.toNat].ws,by rw [List.getElem?_map,hs,Option.map_some,Sp.v,ho]⟩ hn
   have g1:=mX Sp.len (j:=1) (by omega) hs
   simp only [Sp.cells,List.getElem?_cons_succ,List.getElem?_cons_zero,nJ] at g1
   (unfold KN We;exact QR hm hk g1)
def ae.new:ae:=⟨dZ.zero,[],0,0⟩
theorem GU {J:AH O}:Ok (Zs [] J) fun r=>∃ F,r.1=.p (some (.n J.next,0))/\bz r.2 J.next F ae.new/\Ext J r.2/\∀ b∈F,J.next<=b:=by
 (unfold Zs qa3;refine cd ?_)
 refine Ok.step OJ fun r ⟨g1,g2,g3,g4⟩=>?_
 obtain ⟨q,J1⟩:=r
 simp only at g1 g2 g3 g4
 subst g1
 simp only [cB] at g2 g4
 refine cd ?_
 have e0:Ext J (J.ax 1):=(Ext.refl J).ax 1
 refine U.2 ⟨_,rfl,⟨_,.nil,[],rfl,rfl,⟨⟨_,by simp only [aE];rfl⟩,by simp;omega,?_,ba.nil _ _ _,BV.nil _ _ _,?_,?_,?_⟩⟩,(e0.trans g3).put (Nat.le_refl _) _,?_⟩
 ·exact g2.of (Nat.le_refl _) (by rw [aq (by omega)])
 ·omega
 ·simp [SA.bk]
 ·simp [oS]
 ·simp [cI,SA.bk,oS]
theorem OL {J:AH O} {mb:Nat} {F:List Nat} {M:ae} {id:Int} {w:List Int} (h:bz J mb F M) (h0:0<=id) (hw:M.sp[id.toNat]? = some (true,w)):Wf [.p (some (.n mb,0)),.i .i64 id] J=some (.aG [.i .i64 (w.length:Int),.i .i64 0],J):=by
 obtain ⟨tb,sa,L,rfl,e,hC⟩:=h
 rw [e,List.getElem?_map] at hw
 obtain ⟨s,hs,Wg⟩:=Option.map_eq_some_iff.1 hw
 simp only [Sp.v,Prod.mk.injEq] at Wg
 obtain ⟨ho,rfl⟩:=Wg
 obtain ⟨k,rfl,ha⟩:=ni hC h0 hs ho
 obtain ⟨k',e1,hk,_⟩:=hC.HS.loc (by have:=(List.getElem?_eq_some_iff.1 hs).1;omega)
 cases e1
 have g0:=mX Sp.len (j:=0) (by omega) hs
 simp only [Sp.cells,List.getElem?_cons_zero,Nat.add_zero] at g0
 (unfold Wf qh0;exact QR ha hk g0)
theorem iK.at {J:AH O} {mb tb:Nat} {sa:SA} {L:List Sp} {met:dZ} {low count:Int} (h:iK J mb tb sa L met low count) {i:Nat} {s:Sp} (hs:L[i]? = some s):
  ∃ k,sa=.loc (.n k) 0 2/\J.aa k=some (.cells true MF (L.flatMap Sp.cells))/\k<J.next/\(L.flatMap Sp.cells)[i*2]? = some (.sl s.a s.ws.length)/\ba J pW 1 s.a s.ws.length (eL s.ws):=by
 have aY:=(List.getElem?_eq_some_iff.1 hs).1
 obtain ⟨k,rfl,hk,oL⟩:=h.HS.loc (by omega)
 have g0:=mX Sp.len (j:=0) (by omega) hs
 simp only [Sp.cells,List.getElem?_cons_zero,Nat.add_zero] at g0
 obtain ⟨n,ho⟩:=h.OK.own s.sl (List.mem_map.2 ⟨s,List.mem_of_getElem? hs,rfl⟩)
 have hn:=ho.len
 simp only [Sp.sl,fZ,Nat.mul_one] at hn
 subst hn
 exact ⟨k,rfl,hk,oL,g0,ho⟩
theorem kT {L:List Sp} {i:Nat} {s:Sp} (hs:L[i]? = some s) {b:Nat} (hb:b∈SA.bk s.a):b∈oS (L.map Sp.sl):=gG.2 ⟨s.sl,List.mem_map.2 ⟨s,List.mem_of_getElem? hs,rfl⟩,hb⟩
theorem nj {J:AH O} {mb tb:Nat} {sa:SA} {L:List Sp} {met:dZ} {low count id at_ n:Int} (h:iK J mb tb sa L met low count) (hn:¬ Bl (L.map Sp.v) id):Dv [.p (some (.n mb,0)),.i .i64 id,.i .i64 at_,.i .i64 n] J=some (.aG [.sl .nil 0,.i .i64 10],J):=by
 (unfold Dv Rn;exact Gd (yW h hn))
theorem kU {J:AH O} {mb tb:Nat} {sa:SA} {L:List Sp} {met:dZ} {low count id at_ n:Int} (h:iK J mb tb sa L met low count) (h0:0<=id) {s:Sp} (hs:L[id.toNat]? = some s) (ho:s.op=true)
  (hl:s.ws.length<=4194304) (ha : -9223372036854775808<=at_/\at_<=9223372036854775807) (hw:n<0 ∨ at_<0 ∨ at_ > (s.ws.length:Int) ∨ n > (s.ws.length:Int) - at_):Dv [.p (some (.n mb,0)),.i .i64 id,.i .i64 at_,.i .i64 n] J=some (.aG [.sl .nil 0,.i .i64 11],J):=by
 obtain ⟨k,rfl,cK⟩:=ni h h0 hs ho
 obtain ⟨k',e,hk,_,g0,_⟩:=h.at hs
 cases e
 by_cases c1:n<0
 ·(unfold Dv Rn;exact Gd cK)
 ·by_cases c2:at_<0
  ·(unfold Dv Rn;exact Gd cK)
  ·by_cases c3:at_ > (s.ws.length:Int)
   ·(unfold Dv Rn;exact QR cK hk g0)
   ·(unfold Dv Rn;exact QR cK hk g0)
theorem iQ {J:AH O} {mb tb:Nat} {sa:SA} {L:List Sp} {met:dZ} {low count id at_ n:Int} (h:iK J mb tb sa L met low count) (h0:0<=id) {s:Sp} (hs:L[id.toNat]? = some s) (ho:s.op=true)
  (hl:s.ws.length<=4194304) (h1:0<=n) (h2:0<=at_) (h3:at_+n<=(s.ws.length:Int)):∃ a',s.a.Cm at_.toNat 1=some a'/\Dv [.p (some (.n mb,0)),.i .i64 id,.i .i64 at_,.i .i64 n] J=some (.aG [.sl a' n.toNat,.i .i64 0],J):=by
 obtain ⟨k,rfl,cK⟩:=ni h h0 hs ho
 obtain ⟨k',e,hk,_,g0,xD⟩:=h.at hs
 cases e
 obtain ⟨a',ha,_⟩:=xD.rd.Cm (lo:=at_.toNat) (m:=n.toNat) (by omega)
 refine ⟨a',ha,?_⟩
 have e1:(at_+n).toNat - at_.toNat=n.toNat:=by omega
 (unfold Dv Rn;exact zU5 cK hk g0 ha e1)
theorem iK.step {J J':AH O} {mb tb:Nat} {sa:SA} {L:List Sp} {met Zt:dZ} {low count:Int} (h:iK J mb tb sa L met low count) (hc:eA [tb] J J') (hm:dC J' tb Zt):iK J' mb tb sa L Zt low count:=by
 have aY:=h.Ns
 have key:∀ b∈cI mb tb sa L,b≠tb->J'.aa b=J.aa b:=fun b hb cJ=>hc.aa b (aY b hb) (by simpa using cJ)
 refine ⟨?_,Nat.lt_of_lt_of_le h.mlt hc.next,hm,h.HS.of hc.next fun b hb=>key b (by simp [cI,hb]) (h.n1 b hb).2,h.OK.of hc.next fun b hb=>key b (by simp [cI,hb]) (h.n2 b hb).2.1,h.ne,h.n1,h.n2⟩
 rw [key mb (by simp [cI]) h.ne];exact h.m
theorem rB {M:ae} {L:List Sp} {i:Nat} {w:List Int} (e:M.sp=L.map Sp.v) (hw:M.sp[i]? = some (true,w)):∃ s,L[i]? = some s/\s.op=true/\s.ws=w:=by
 rw [e,List.getElem?_map] at hw
 obtain ⟨s,hs,Wg⟩:=Option.map_eq_some_iff.1 hw
 simp only [Sp.v,Prod.mk.injEq] at Wg
 exact ⟨s,hs,Wg.1,Wg.2⟩
theorem ae.ok.len {M:ae} (h:M.ok) {i:Nat} {w:List Int} (hw:M.sp[i]? = some (true,w)):w.length<=4194304:=h.size _ (List.mem_of_getElem? hw)
def ae.rd (M:ae) (n:Int):ae:={M with met:={M.met with r:=M.met.r+n}}
def ae.wr (M:ae) (n:Int):ae:={M with met:={M.met with w:=M.met.w+n}}
def ae.put (M:ae) (i:Nat) (w:List Int):ae:={M with sp:=M.sp.set i (true,w)}
theorem pX {J:AH O} {el n m:Nat} {a a':SA} {cs:List AV} (h:ba J el 1 a n cs) (hm:m≠0) (aY:m<=n) {lo:Nat} (ha:a.Cm lo 1=some a'):∃ k,a=.loc (.n k) 0 1/\a'=.loc (.n k) lo 1/\J.aa k=some (.cells true el cs)/\k<J.next:=by
 obtain ⟨k,rfl,hk,oL⟩:=h.loc (by omega)
 rw [Er] at ha
 cases ha
 exact ⟨k,rfl,by simp,hk,oL⟩
theorem OM {J:AH O} {mb:Nat} {F:List Nat} {M:ae} {id at_:Int} {w:List Int} {x:Int} (h:bz J mb F M) (hM:M.ok) (h0:0<=id) (hw:M.sp[id.toNat]? = some (true,w)) (h1:0<=at_) (hx:w[at_.toNat]? = some x):
  Ok (yN [.p (some (.n mb,0)),.i .i64 id,.i .i64 at_] J) fun r=>r.1=.aG [.i .u64 x,.i .i64 0]/\bz r.2 mb F (M.rd 1)/\eA F J r.2:=by
 obtain ⟨tb,sa,L,rfl,e,hC⟩:=h
 obtain ⟨s,hs,ho,rfl⟩:=rB e hw
 have hxl:=(List.getElem?_eq_some_iff.1 hx).1
 obtain ⟨a',ha,Wh⟩:=iQ (n:=1) hC h0 hs ho (hM.len hw) (by omega) h1 (by omega)
 obtain ⟨k',_,_,_,_,xD⟩:=hC.at hs
 obtain ⟨k,ea,TX,hk,oL⟩:=pX (m:=1) xD (by omega) (by omega) ha
 subst TX
 obtain ⟨BN,hm⟩:=hC.m
 have t1:(1:Int).toNat=1:=rfl
 (unfold yN Zu;refine jN Wh t1 hm ?_)
 refine Ok.step (xE hC.met hM.met.r (by omega) (by omega)) fun r ⟨g1,g2,g3⟩=>?_
 obtain ⟨q,J1⟩:=r
 simp only at g1 g2 g3
 subst g1
 have KO:k∈oS (L.map Sp.sl):=kT hs (by rw [ea];simp [SA.bk])
 have uA:J1.aa k=_:=(g3.aa k oL (by simpa using (hC.n2 k KO).2.1)).trans hk
 have gx:=KM hx
 refine jN uA gx @Nat.add_zero ?_
 refine U.2 ⟨rfl,⟨tb,sa,L,rfl,e,hC.step g3 g2⟩,g3.mono fun b hb=>.inl (by simp at hb;subst hb;simp [cI])⟩
theorem iK.write {J:AH O} {mb tb:Nat} {sa:SA} {L:List Sp} {met:dZ} {low count:Int} (h:iK J mb tb sa L met low count) {i:Nat} {s:Sp} (hs:L[i]? = some s) {k:Nat} (ha:s.a=.loc (.n k) 0 1) (hk:J.aa k=some (.cells true pW (eL s.ws))) {w':List Int} (hl:w'.length=s.ws.length):
  iK (J.put k (.cells true pW (eL w'))) mb tb sa (L.set i {s with ws:=w'}) met low count/\cI mb tb sa (L.set i {s with ws:=w'})=cI mb tb sa L/\k∈cI mb tb sa L:=by
 have KO:k∈SA.bk s.a:=by rw [ha];simp [SA.bk]
 have wP:=kT hs KO
 have JD:=h.n2 k wP
 have ik:(L.map Sp.sl)[i]? = some s.sl:=by rw [List.getElem?_map,hs];rfl
 have oq:(L.set i {s with ws:=w'}).map Sp.sl=(L.map Sp.sl).set i (s.a,eL w'):=by rw [List.map_set];rfl
 have vN:oS ((L.map Sp.sl).set i (s.a,eL w'))=oS (L.map Sp.sl):=by
  unfold oS
  rw [List.flatMap_def,List.flatMap_def,List.map_set]
  congr 1
  apply List.ext_getElem?
  intro j
  rw [List.getElem?_set]
  split
  ·rename_i oT;subst oT
   rw [List.getElem?_map,ik]
   have:=(List.getElem?_eq_some_iff.1 ik).1
   have Zv:i<L.length:=by simpa using this
   simp [Sp.sl,Zv]
  ·rfl
 have Zw:(L.set i {s with ws:=w'}).flatMap Sp.cells=L.flatMap Sp.cells:=by
  rw [List.flatMap_def,List.flatMap_def,List.map_set]
  congr 1
  apply List.ext_getElem?
  intro j
  rw [List.getElem?_set]
  split
  ·rename_i oT;subst oT
   rw [List.getElem?_map,hs]
   have:=(List.getElem?_eq_some_iff.1 hs).1
   simp [Sp.cells,hl,this]
  ·rfl
 obtain ⟨n,ho⟩:=h.OK.own s.sl (List.mem_of_getElem? ik)
 have aY:=ho.lt k KO
 refine ⟨⟨?_,h.mlt,h.met.of (Nat.le_refl _) (aq (fun e=>JD.2.1 e.symm)),?_,?_,h.ne,h.n1,?_⟩,?_,?_⟩
 ·rw [aq (fun e=>JD.1 e.symm),List.length_set];exact h.m
 ·rw [List.length_set,Zw]
  exact h.HS.of (Nat.le_refl _) fun b hb=>aq fun e=>JD.2.2 (e▸hb)
 ·rw [oq]
  refine h.OK.set ik (Nat.le_refl _) (fun b _ hb=>aq fun e=>hb (by rw [e];exact KO)) ⟨s.ws.length,?_⟩ fun b hb=>.inl hb
  show ba _ pW 1 s.a _ (eL w')
  rw [ha]
  exact ba.new (by simp [fZ,hl]) aE aY
 ·rw [oq,vN];exact h.n2
 ·simp only [cI,oq,vN]
 ·simp [cI,wP]
theorem KP {J:AH O} {mb:Nat} {F:List Nat} {M:ae} {id at_ x:Int} {w:List Int} (h:bz J mb F M) (hM:M.ok) (h0:0<=id) (hw:M.sp[id.toNat]? = some (true,w)) (h1:0<=at_) (h2:at_<w.length):
  Ok (yO [.p (some (.n mb,0)),.i .i64 id,.i .i64 at_,.i .u64 x] J) fun r=>r.1=.i .i64 0/\bz r.2 mb F ((M.wr 1).put id.toNat (w.set at_.toNat x))/\eA F J r.2:=by
 obtain ⟨tb,sa,L,rfl,e,hC⟩:=h
 obtain ⟨s,hs,ho,rfl⟩:=rB e hw
 obtain ⟨a',ha,Wh⟩:=iQ (n:=1) hC h0 hs ho (hM.len hw) (by omega) h1 (by omega)
 obtain ⟨k',_,_,_,_,xD⟩:=hC.at hs
 obtain ⟨k,ea,TX,hk,oL⟩:=pX (m:=1) xD (by omega) (by omega) ha
 subst TX
 obtain ⟨BN,hm⟩:=hC.m
 have t1:(1:Int).toNat=1:=rfl
 (unfold yO Zx;refine jN Wh t1 hm ?_)
 refine Ok.step (rA hC.met hM.met.w (by omega) (by omega)) fun r ⟨g1,g2,g3⟩=>?_
 obtain ⟨q,J1⟩:=r
 simp only at g1 g2 g3
 subst g1
 have KO:k∈oS (L.map Sp.sl):=kT hs (by rw [ea];simp [SA.bk])
 have uA:J1.aa k=_:=(g3.aa k oL (by simpa using (hC.n2 k KO).2.1)).trans hk
 have vF:bF (eL s.ws) at_.toNat [.i .u64 x]=eL (s.ws.set at_.toNat x):=by
  rw [jb (by rw [fZ];omega)];simp [eL,List.map_set]
 refine jN uA @fZ vF ?_
 have xG:=hC.step g3 g2
 obtain ⟨q1,q2,q3⟩:=xG.write hs ea uA (w':=s.ws.set at_.toNat x) (by simp)
 refine U.2 ⟨rfl,⟨tb,sa,_,q2.symm,?_,q1⟩,(g3.mono fun b hb=>.inl (by simp at hb;subst hb;simp [cI])).put (.inl q3) _⟩
 simp only [ae.put,ae.wr,e,List.map_set,Sp.v,ho]
def bZ (w:List Int) (at_:Nat) (v:List Int):List Int:=w.take at_++v++w.drop (at_+v.length)
theorem eU {w v:List Int} {a:Nat} (h:a+v.length<=w.length):(bZ w a v).length=w.length:=by simp [bZ];omega
theorem mJ (w v:List Int) (a:Nat):bF (eL w) a (eL v)=eL (bZ w a v):=by
 simp [bF,bZ,eL,List.map_take,List.map_drop]
theorem me {M:ae} {i:Nat} {w:List Int} (hw:M.sp[i]? = some (true,w)):M.put i w=M:=by
 have:M.sp.set i (true,w)=M.sp:=by
  apply List.ext_getElem?
  intro j
  rw [List.getElem?_set]
  split
  ·rename_i oT;subst oT
   have:=(List.getElem?_eq_some_iff.1 hw).1
   rw [hw];simp [this]
  ·rfl
 cases M;simp only [ae.put] at *;rw [this]
theorem sj (w:List Int) (a:Nat):bZ w a []=w:=by simp [bZ]
theorem ON {J:AH O} {mb:Nat} {F:List Nat} {M:ae} {id at_ n:Int} {w:List Int} (h:bz J mb F M) (hM:M.ok) (h0:0<=id) (hw:M.sp[id.toNat]? = some (true,w)) (h1:0<=at_) (hn:0<=n) (h2:at_+n<=w.length):
  Ok (HT [.p (some (.n mb,0)),.i .i64 id,.i .i64 at_,.i .i64 n] J) fun r=>r.1=.i .i64 0/\bz r.2 mb F ((M.wr n).put id.toNat (bZ w at_.toNat (List.replicate n.toNat 0)))/\eA F J r.2:=by
 have h':=h
 obtain ⟨tb,sa,L,rfl,e,hC⟩:=h
 obtain ⟨s,hs,ho,rfl⟩:=rB e hw
 have hlen:=hM.len hw
 obtain ⟨a',ha,Wh⟩:=iQ (n:=n) hC h0 hs ho hlen hn h1 h2
 obtain ⟨k',_,_,_,_,xD⟩:=hC.at hs
 obtain ⟨BN,hm⟩:=hC.m
 by_cases hz:n=0
 ·subst hz
  have t0:(0:Int).toNat=0:=rfl
  (unfold HT Wi;refine AR Wh hm t0 @xF ?_)
  refine U.2 ⟨rfl,?_,eA.refl _ _⟩
  rw [List.replicate_zero,sj]
  have:M.wr 0=M:=by simp [ae.wr]
  rw [this,me hw];exact h'
 ·obtain ⟨k,ea,TX,hk,oL⟩:=pX (m:=n.toNat) xD (by omega) (by omega) ha
  subst TX
  have z:Nat.beq n.toNat 0=false:=SO (by omega)
  (unfold HT Wi;refine jN Wh hm z ?_)
  refine Ok.step (rA hC.met hM.met.w (by omega) (by omega)) fun r ⟨g1,g2,g3⟩=>?_
  obtain ⟨q,J1⟩:=r
  simp only at g1 g2 g3
  subst g1
  have KO:k∈oS (L.map Sp.sl):=kT hs (by rw [ea];simp [SA.bk])
  have uA:J1.aa k=_:=(g3.aa k oL (by simpa using (hC.n2 k KO).2.1)).trans hk
  refine oQ uA @fZ @pV @mJ @List.length_replicate.{0} ?_
  have xG:=hC.step g3 g2
  obtain ⟨q1,q2,q3⟩:=xG.write hs ea uA (w':=bZ s.ws at_.toNat (List.replicate n.toNat 0)) (eU (by simp;omega))
  refine U.2 ⟨rfl,⟨tb,sa,_,q2.symm,?_,q1⟩,(g3.mono fun b hb=>.inl (by simp at hb;subst hb;simp [cI])).put (.inl q3) _⟩
  simp only [ae.put,ae.wr,e,List.map_set,Sp.v,ho]
theorem OO {J:AH O} {mb:Nat} {F:List Nat} {M:ae} {fr at_ to de n:Int} {w v:List Int} (h:bz J mb F M) (hM:M.ok) (h0:0<=fr) (hw:M.sp[fr.toNat]? = some (true,w)) (h1:0<=at_) (hn:0<=n) (h2:at_+n<=w.length)
  (k0:0<=to) (hv:M.sp[to.toNat]? = some (true,v)) (k1:0<=de) (k2:de+n<=v.length):
  Ok (HQ [.p (some (.n mb,0)),.i .i64 fr,.i .i64 at_,.i .i64 to,.i .i64 de,.i .i64 n] J) fun r=>r.1=.i .i64 0/\bz r.2 mb F (((M.rd n).wr n).put to.toNat (bZ v de.toNat ((w.drop at_.toNat).take n.toNat)))/\eA F J r.2:=by
 have h':=h
 obtain ⟨tb,sa,L,rfl,e,hC⟩:=h
 obtain ⟨s,hs,ho,rfl⟩:=rB e hw
 obtain ⟨s2,u9,Xg,rfl⟩:=rB e hv
 have hlen:=hM.len hw
 have Zy:=hM.len hv
 obtain ⟨a1,ha1,Zz⟩:=iQ (n:=n) hC h0 hs ho hlen hn h1 h2
 obtain ⟨a2,ha2,ZA⟩:=iQ (n:=n) hC k0 u9 Xg Zy hn k1 k2
 obtain ⟨_,_,_,_,_,xD⟩:=hC.at hs
 obtain ⟨_,_,_,_,_,ajO⟩:=hC.at u9
 obtain ⟨BN,hm⟩:=hC.m
 by_cases hz:n=0
 ·subst hz
  have t0:(0:Int).toNat=0:=rfl
  (unfold HQ Ro;refine oQ Zz ZA hm t0 (cj @xF @Nat.min_self) ?_)
  refine U.2 ⟨rfl,?_,eA.refl _ _⟩
  rw [sj]
  have:(M.rd 0).wr 0=M:=by simp [ae.wr,ae.rd]
  rw [this,me hv];exact h'
 ·obtain ⟨k,ea,TX,hk,oL⟩:=pX (m:=n.toNat) xD (by omega) (by omega) ha1
  obtain ⟨k',fa,fa',hl,Eh⟩:=pX (m:=n.toNat) ajO (by omega) (by omega) ha2
  subst TX;subst fa'
  have z:Nat.beq n.toNat 0=false:=SO (by omega)
  (unfold HQ Ro;refine oQ Zz ZA hm z @Nat.min_self ?_)
  refine Ok.step (xE hC.met hM.met.r (by omega) (by omega)) fun r ⟨g1,g2,g3⟩=>?_
  obtain ⟨q,J1⟩:=r
  simp only at g1 g2 g3
  subst g1
  have xG:=hC.step g3 g2
  obtain ⟨CC,HM⟩:=xG.m
  refine cO HM ?_
  refine Ok.step (rA xG.met hM.met.w (by omega) (by omega)) fun r ⟨g4,g5,g6⟩=>?_
  obtain ⟨q,J2⟩:=r
  simp only at g4 g5 g6
  subst g4
  have KO:k∈oS (L.map Sp.sl):=kT hs (by rw [ea];simp [SA.bk])
  have Vn:k'∈oS (L.map Sp.sl):=kT u9 (by rw [fa];simp [SA.bk])
  have G:=g3.trans g6
  have uA:J2.aa k=_:=(G.aa k oL (by simpa using (hC.n2 k KO).2.1)).trans hk
  have Vr:J2.aa k'=_:=(G.aa k' Eh (by simpa using (hC.n2 k' Vn).2.1)).trans hl
  have ht:((eL s.ws).drop at_.toNat).take n.toNat=eL ((s.ws.drop at_.toNat).take n.toNat):=by simp [eL,List.map_take,List.map_drop]
  have hll:((s.ws.drop at_.toNat).take n.toNat).length=n.toNat:=by simp;omega
  simp (maxSteps:=2000000) -implicitDefEqProofs (disch:=(first |omega |rfl |assumption |(simp only [aN];first |omega |assumption))) only [uA,Vr,fZ,mJ,ht,hll,Nat.reduceAdd,Nat.reduceMul,Nat.reduceLT,Int.reduceToNat,Int.reduceAdd,Int.reduceSub,Int.reduceMul,dH,fU]
  have hC2:=xG.step g6 g5
  obtain ⟨q1,q2,q3⟩:=hC2.write u9 fa Vr (w':=bZ s2.ws de.toNat ((s.ws.drop at_.toNat).take n.toNat)) (eU (by rw [hll];omega))
  refine U.2 ⟨rfl,⟨tb,sa,_,q2.symm,?_,q1⟩,(G.mono fun b hb=>.inl (by simp at hb;subst hb;simp [cI])).put (.inl q3) _⟩
  simp only [ae.put,ae.wr,ae.rd,e,List.map_set,Sp.v,Xg]
end Go.Abs.Tryz
namespace Go.Abs.Tryz
open Go Go.Abs
variable {O:Type}
theorem OP {J:AH O} {mb:Nat} {F:List Nat} {M:ae} {id at_:Int} (h:bz J mb F M) (hn:¬ Bl M.sp id):yN [.p (some (.n mb,0)),.i .i64 id,.i .i64 at_] J=some (.aG [.i .u64 0,.i .i64 10],J):=by
 obtain ⟨tb,sa,L,rfl,e,hC⟩:=h
 rw [e] at hn
 simp (maxSteps:=2000000) -implicitDefEqProofs (disch:=(first |omega |rfl |assumption |(simp only [aN];first |omega |assumption))) only [yN,Zu,nj hC hn,Nat.reduceAdd,Nat.reduceMul,Nat.reduceLT,Int.reduceToNat,Int.reduceAdd,Int.reduceSub,Int.reduceMul,dH,fU]
theorem KQ {J:AH O} {mb:Nat} {F:List Nat} {M:ae} {id at_:Int} {w:List Int} (h:bz J mb F M) (hM:M.ok) (h0:0<=id) (hw:M.sp[id.toNat]? = some (true,w)) (ha : -9223372036854775808<=at_/\at_<=9223372036854775807) (h1:at_<0 ∨ at_>=w.length):
  yN [.p (some (.n mb,0)),.i .i64 id,.i .i64 at_] J=some (.aG [.i .u64 0,.i .i64 11],J):=by
 obtain ⟨tb,sa,L,rfl,e,hC⟩:=h
 obtain ⟨s,hs,ho,rfl⟩:=rB e hw
 simp (maxSteps:=2000000) -implicitDefEqProofs (disch:=(first |omega |rfl |assumption |(simp only [aN];first |omega |assumption))) only [yN,Zu,kU (n:=1) hC h0 hs ho (hM.len hw) ha (by omega),Nat.reduceAdd,Nat.reduceMul,Nat.reduceLT,Int.reduceToNat,Int.reduceAdd,Int.reduceSub,Int.reduceMul,dH,fU]
theorem KR {J:AH O} {mb:Nat} {F:List Nat} {M:ae} {id at_ x:Int} (h:bz J mb F M) (hn:¬ Bl M.sp id):yO [.p (some (.n mb,0)),.i .i64 id,.i .i64 at_,.i .u64 x] J=some (.i .i64 10,J):=by
 obtain ⟨tb,sa,L,rfl,e,hC⟩:=h
 rw [e] at hn
 simp (maxSteps:=2000000) -implicitDefEqProofs (disch:=(first |omega |rfl |assumption |(simp only [aN];first |omega |assumption))) only [yO,Zx,nj hC hn,Nat.reduceAdd,Nat.reduceMul,Nat.reduceLT,Int.reduceToNat,Int.reduceAdd,Int.reduceSub,Int.reduceMul,dH,fU]
theorem GV {J:AH O} {mb:Nat} {F:List Nat} {M:ae} {id at_ x:Int} {w:List Int} (h:bz J mb F M) (hM:M.ok) (h0:0<=id) (hw:M.sp[id.toNat]? = some (true,w)) (ha : -9223372036854775808<=at_/\at_<=9223372036854775807) (h1:at_<0 ∨ at_>=w.length):
  yO [.p (some (.n mb,0)),.i .i64 id,.i .i64 at_,.i .u64 x] J=some (.i .i64 11,J):=by
 obtain ⟨tb,sa,L,rfl,e,hC⟩:=h
 obtain ⟨s,hs,ho,rfl⟩:=rB e hw
 simp (maxSteps:=2000000) -implicitDefEqProofs (disch:=(first |omega |rfl |assumption |(simp only [aN];first |omega |assumption))) only [yO,Zx,kU (n:=1) hC h0 hs ho (hM.len hw) ha (by omega),Nat.reduceAdd,Nat.reduceMul,Nat.reduceLT,Int.reduceToNat,Int.reduceAdd,Int.reduceSub,Int.reduceMul,dH,fU]
theorem OQ {J:AH O} {mb:Nat} {F:List Nat} {M:ae} {id at_ n:Int} (h:bz J mb F M) (hn:¬ Bl M.sp id):HT [.p (some (.n mb,0)),.i .i64 id,.i .i64 at_,.i .i64 n] J=some (.i .i64 10,J):=by
 obtain ⟨tb,sa,L,rfl,e,hC⟩:=h
 rw [e] at hn
 simp (maxSteps:=2000000) -implicitDefEqProofs (disch:=(first |omega |rfl |assumption |(simp only [aN];first |omega |assumption))) only [HT,Wi,nj hC hn,Nat.reduceAdd,Nat.reduceMul,Nat.reduceLT,Int.reduceToNat,Int.reduceAdd,Int.reduceSub,Int.reduceMul,dH,fU]
theorem KS {J:AH O} {mb:Nat} {F:List Nat} {M:ae} {id at_ n:Int} {w:List Int} (h:bz J mb F M) (hM:M.ok) (h0:0<=id) (hw:M.sp[id.toNat]? = some (true,w)) (ha : -9223372036854775808<=at_/\at_<=9223372036854775807) (h1:n<0 ∨ at_<0 ∨ at_ > (w.length:Int) ∨ n > (w.length:Int) - at_):
  HT [.p (some (.n mb,0)),.i .i64 id,.i .i64 at_,.i .i64 n] J=some (.i .i64 11,J):=by
 obtain ⟨tb,sa,L,rfl,e,hC⟩:=h
 obtain ⟨s,hs,ho,rfl⟩:=rB e hw
 (unfold HT Wi;exact Gd (kU hC h0 hs ho (hM.len hw) ha h1))
theorem iK.TY {J J':AH O} {mb tb:Nat} {sa:SA} {L:List Sp} {met:dZ} {low count ZB KT:Int} (h:iK J mb tb sa L met low count) {i:Nat} {s s':Sp} (hs:L[i]? = some s) {k:Nat} (hk:sa=.loc (.n k) 0 2) (hn:J.next<=J'.next)
  (hb:∀ b∈cI mb tb sa L,b≠k->b≠mb->J'.aa b=J.aa b) (vF:J'.aa k=some (.cells true MF ((L.set i s').flatMap Sp.cells)))
  (hm:∃ el,J'.aa mb=some (.cells true el [.p (some (.n tb,0)),.sl sa L.length,.i .i64 ZB,.i .i64 KT])) (xD:∃ n,ba J' pW 1 s'.a n (eL s'.ws)) (hf:∀ b∈SA.bk s'.a,J.next<=b):
  iK J' mb tb sa (L.set i s') met ZB KT/\Fp (cI mb tb sa L) (cI mb tb sa (L.set i s')) J:=by
 have ZC:=h.Ns
 have ik:(L.map Sp.sl)[i]? = some s.sl:=by rw [List.getElem?_map,hs];rfl
 have oq:(L.set i s').map Sp.sl=(L.map Sp.sl).set i s'.sl:=by rw [List.map_set]
 have kb:k∈SA.bk sa:=by rw [hk];simp [SA.bk]
 have wP:=h.n1 k kb
 have hle:=h.HS.len
 refine ⟨⟨by rw [List.length_set];exact hm,Nat.lt_of_lt_of_le h.mlt hn,h.met.of hn (hb tb (by simp [cI]) (fun e=>wP.2 e.symm) (fun e=>h.ne e.symm)),?_,?_,h.ne,h.n1,?_⟩,?_⟩
 ·rw [hk]
  exact ba.new (by rw [qX Sp.len]) vF (Nat.lt_of_lt_of_le (ZC k (by simp [cI,kb])) hn)
 ·rw [oq]
  refine h.OK.set ik hn (fun b dJ _=>?_) xD fun b dJ=>.inr fun FW=>?_
  ·have:=h.n2 b dJ
   exact hb b (by simp [cI,dJ]) (fun e=>this.2.2 (e▸kb)) this.1
  ·have:=hf b dJ
   have:=ZC b (by simp [cI,FW]);omega
 ·intro b dJ
  rw [oq] at dJ
  rcases Eu dJ with g |g
  ·have:=hf b g
   exact ⟨fun e=>by have:=h.mlt;omega,fun e=>by have:=h.met.lt;omega,fun FW=>by have:=h.HS.lt b FW;omega⟩
  ·exact h.n2 b g
 ·intro b dJ
  simp only [cI,List.mem_cons,List.mem_append,oq] at dJ ⊢
  rcases dJ with g |g |g |g
  ·exact .inl (.inl g)
  ·exact .inl (.inr (.inl g))
  ·exact .inl (.inr (.inr (.inl g)))
  ·rcases Eu g with g |g
   ·exact .inr (hf b g)
   ·exact .inl (.inr (.inr (.inr g)))
end Go.Abs.Tryz
namespace Go.Abs.Tryz
open Go Go.Abs
variable {O:Type}
theorem TZ {l:List Nat} {x:Nat} (h:x∈l):x<=l.sum:=by
 induction l with
 |nil=>cases h
 |cons y l ih=>
  simp only [List.sum_cons]
  rcases List.mem_cons.1 h with rfl |h
  ·omega
  ·have:=ih h;omega
def ae.close (M:ae) (i:Nat) (w:List Int):ae:=⟨M.met.free w.length,M.sp.set i (false,[]),min M.low i,M.count - 1⟩
theorem KU {J:AH O} {mb:Nat} {F:List Nat} {M:ae} {id:Int} {w:List Int} (h:bz J mb F M) (hM:M.ok) (h0:0<=id) (oN:id<=9223372036854775807) (hw:M.sp[id.toNat]? = some (true,w)):
  Ok (Kt [.p (some (.n mb,0)),.i .i64 id] J) fun r=>r.1=.i .i64 0/\∃ F',bz r.2 mb F' (M.close id.toNat w)/\eA F J r.2/\Fp F F' J:=by
 obtain ⟨tb,sa,L,rfl,e,hC⟩:=h
 obtain ⟨s,hs,ho,rfl⟩:=rB e hw
 have hlen:=hM.len hw
 obtain ⟨k,rfl,cK⟩:=ni hC h0 hs ho
 obtain ⟨k',e1,hk,oL,g0,xD⟩:=hC.at hs
 cases e1
 obtain ⟨BN,hm⟩:=hC.m
 have hc1:1<=M.count:=by
  rw [hM.count]
  have:0<M.sp.countP (·.1):=List.countP_pos_iff.2 ⟨_,List.mem_of_getElem? hw,rfl⟩
  omega
 have Vm:M.count<=262144:=by
  rw [hM.count]
  have:=List.countP_le_length (p:=fun s:Bool × List Int=>s.1) (l:=M.sp)
  have:=hM.cH
  omega
 have ZD:(s.ws.length:Int)<=M.met.held:=by
  rw [hM.held]
  have:s.ws.length∈M.sp.map fun s=>s.2.length:=List.mem_map.2 ⟨_,List.mem_of_getElem? hw,rfl⟩
  have:=TZ this
  omega
 have Rp:=hC.n1 k (by simp [SA.bk])
 have ZE:=Rp.1
 have ktb:=Rp.2
 have OR:=hC.mlt
 (unfold Kt qgr;refine AR cK hk g0 hm ?_)
 refine Ok.step (yV hC.met hM.met (by omega) ZD) fun r ⟨g1,g2,g3⟩=>?_
 obtain ⟨q,J1⟩:=r
 simp only at g1 g2 g3
 subst g1
 have xG:=hC.step g3 g2
 have uA:J1.aa k=_:=(g3.aa k oL (by simpa using ktb)).trans hk
 have HM:J1.aa mb=_:=(g3.aa mb OR (by simpa using hC.ne)).trans hm
 have aY:=(List.getElem?_eq_some_iff.1 hs).1
 have AE:=qX Sp.len L
 have vF:bF (L.flatMap Sp.cells) (id.toNat*2) [.sl .nil 0,.b false]=(L.set id.toNat ⟨.nil,false,[]⟩).flatMap Sp.cells:=by
  have:=mY Sp.len L id.toNat 0 [.sl .nil 0,.b false] s ⟨.nil,false,[]⟩ hs (by simp) (by simp [bF,Sp.cells])
  simpa using this
 have SD:(if id<M.low then id else M.low)=min M.low (id.toNat:Int):=by split<;>omega
 refine oQ uA HM AE vF SD ?_
 have vO:=g3.next
 obtain ⟨q1,q2⟩:=xG.TY (J':=(J1.put k (.cells true MF ((L.set id.toNat ⟨.nil,false,[]⟩).flatMap Sp.cells))).put mb (.cells true BN [.p (some (.n tb,0)),.sl (.loc (.n k) 0 2) L.length,.i .i64 (min M.low id.toNat),.i .i64 (M.count - 1)]))
  hs (s':=⟨.nil,false,[]⟩) rfl (Nat.le_refl _) (fun b hb h1 h2=>by rw [aq h2,aq h1]) (by rw [aq ZE,aE]) ⟨_,by rw [aE]⟩ ⟨0,ba.nil _ _ _⟩ (by simp [SA.bk])
 refine U.2 ⟨rfl,_,⟨tb,_,_,rfl,?_,q1⟩,?_,fun b hb=>?_⟩
 ·simp only [ae.close,e,List.map_set,Sp.v]
 ·exact ((g3.mono fun b hb=>.inl (by simp at hb;subst hb;simp [cI])).put (.inl (by simp [cI,SA.bk])) _).put (.inl (by simp [cI])) _
 ·rcases q2 b hb with g |g
  ·exact .inl g
  ·exact .inr (by omega)
theorem KV {J:AH O} {mb:Nat} {F:List Nat} {M:ae} {id:Int} (h:bz J mb F M) (hn:¬ Bl M.sp id):Kt [.p (some (.n mb,0)),.i .i64 id] J=some (.i .i64 10,J):=by
 obtain ⟨tb,sa,L,rfl,e,hC⟩:=h
 rw [e] at hn
 (unfold Kt qgr;exact Gd (yW hC hn))
def ae.grow (M:ae) (i:Nat) (w:List Int) (n:Int):ae:={M with met:=M.met.hold (n - w.length),sp:=M.sp.set i (true,w++List.replicate (n.toNat - w.length) 0)}
theorem pQ {l:List Nat} {i x:Nat} {y:Nat} (h:l[i]? = some y):(l.set i x).sum+y=l.sum+x:=by
 induction l generalizing i with
 |nil=>simp at h
 |cons z l ih=>
  cases i with
  |zero=>simp at h;subst h;simp;omega
  |succ i=>simp at h;have:=ih h;simp;omega
theorem xH {M:ae} (hM:M.ok) {i:Nat} {w:List Int} (hw:M.sp[i]? = some (true,w)) {n:Int} (h1:(w.length:Int)<=n) (h2:n<=4194304):M.met.held+(n - w.length)<=281474976710656:=by
 have:=hM.bound
 omega
theorem OS {J:AH O} {mb:Nat} {F:List Nat} {M:ae} {id n:Int} {w:List Int} (h:bz J mb F M) (hM:M.ok) (h0:0<=id) (hw:M.sp[id.toNat]? = some (true,w)) (h1:(w.length:Int)<=n) (h2:n<=4194304):
  Ok (HU [.p (some (.n mb,0)),.i .i64 id,.i .i64 n] J) fun r=>r.1=.i .i64 0/\∃ F',bz r.2 mb F' (M.grow id.toNat w n)/\eA F J r.2/\Fp F F' J:=by
 have pB:=xH hM hw h1 h2
 obtain ⟨tb,sa,L,rfl,e,hC⟩:=h
 obtain ⟨s,hs,ho,rfl⟩:=rB e hw
 have hlen:=hM.len hw
 obtain ⟨k,rfl,cK⟩:=ni hC h0 hs ho
 obtain ⟨k',e1,hk,oL,g0,xD⟩:=hC.at hs
 cases e1
 obtain ⟨BN,hm⟩:=hC.m
 have Rp:=hC.n1 k (by simp [SA.bk])
 have ZE:=Rp.1
 have ktb:=Rp.2
 have OR:=hC.mlt
 (unfold HU Wj;refine AR cK hk g0 hm ?_)
 refine Ok.step (pU hC.met hM.met (by omega) pB) fun r ⟨g1,g2,g3⟩=>?_
 obtain ⟨q,J1⟩:=r
 simp only at g1 g2 g3
 subst g1
 have xG:=hC.step g3 g2
 have uA:J1.aa k=_:=(g3.aa k oL (by simpa using ktb)).trans hk
 have HM:J1.aa mb=_:=(g3.aa mb OR (by simpa using hC.ne)).trans hm
 have aY:=(List.getElem?_eq_some_iff.1 hs).1
 have AE:=qX Sp.len L
 have vO:=g3.next
 have ZF:ba J1 pW 1 s.a s.ws.length (eL s.ws):=xD.of vO fun b hb=>by
  have dJ:=kT hs hb
  exact g3.aa b (xD.lt b hb) (by simpa using (hC.n2 b dJ).2.1)
 have key:∀ J2:AH O,J2.next=J1.next+1->(∀ b,b<J1.next->J2.aa b=J1.aa b)->J2.aa J1.next=some (.cells true pW (eL (s.ws++List.replicate (n.toNat - s.ws.length) 0)))->
   Ok (((SA.ref (.loc (.n k) 0 2)).bind fun q=>J2.st q.1 (q.2+id.toNat*2) [.sl (.loc (.n J1.next) 0 1) n.toNat]).bind fun J3=>some (AV.i .i64 0,J3)) fun r=>r.1=.i .i64 0/\∃ F',bz r.2 mb F' (M.grow id.toNat s.ws n)/\eA (cI mb tb (.loc (.n k) 0 2) L) J r.2/\Fp (cI mb tb (.loc (.n k) 0 2) L) F' J:=by
  intro J2 n2 b2 w2
  have F7:J2.aa k=_:=(b2 k (by omega)).trans uA
  have vF:bF (L.flatMap Sp.cells) (id.toNat*2) [.sl (.loc (.n J1.next) 0 1) n.toNat]=(L.set id.toNat ⟨.loc (.n J1.next) 0 1,true,s.ws++List.replicate (n.toNat - s.ws.length) 0⟩).flatMap Sp.cells:=by
   have:=mY Sp.len L id.toNat 0 [.sl (.loc (.n J1.next) 0 1) n.toNat] s ⟨.loc (.n J1.next) 0 1,true,s.ws++List.replicate (n.toNat - s.ws.length) 0⟩ hs (by simp) (by
    have e9:n.toNat=s.ws.length+(n.toNat - s.ws.length):=by omega
    simp only [Sp.cells,qW,uG,ho,List.length_append,List.length_replicate];rw [<-e9])
   simpa using this
  refine jN F7 AE vF ?_
  obtain ⟨q1,q2⟩:=xG.TY (J':=J2.put k (.cells true MF ((L.set id.toNat ⟨.loc (.n J1.next) 0 1,true,s.ws++List.replicate (n.toNat - s.ws.length) 0⟩).flatMap Sp.cells)))
   hs (s':=⟨.loc (.n J1.next) 0 1,true,s.ws++List.replicate (n.toNat - s.ws.length) 0⟩) rfl (by simp only [bO];omega) (fun b hb h1 h2=>by
    rw [aq h1];exact b2 b (xG.Ns b hb)) aE (by rw [aq (fun e=>ZE e.symm),b2 mb (by omega)];exact ⟨BN,HM⟩)
   ⟨n.toNat,ba.new (by simp [fZ];omega) (by rw [aq (by omega)];exact w2) (by simp only [bO];omega)⟩ (by simp [SA.bk])
  refine U.2 ⟨rfl,_,⟨tb,_,_,rfl,?_,q1⟩,?_,fun b hb=>?_⟩
  ·simp only [ae.grow,e,List.map_set,Sp.v]
  ·refine eA.put ?_ (.inl (by simp [cI,SA.bk])) _
   exact ⟨by omega,fun b hb hn=>by rw [b2 b (by omega)];exact g3.aa b hb fun hm=>hn (by simp at hm;subst hm;simp [cI])⟩
  ·rcases q2 b hb with g |g
   ·exact .inl g
   ·exact .inr (by omega)
 have hmn:min s.ws.length n.toNat=s.ws.length:=by omega
 by_cases hz:s.ws.length=0
 ·have h00:s.ws=[]:=List.eq_nil_of_length_eq_zero hz
  have z:Nat.beq (min s.ws.length n.toNat) 0=true:=by rw [hmn,hz];rfl
  refine AR uA g0 z @pV ?_
  have:=key ((J1.ax 1).put J1.next (.cells true pW (eL (List.replicate n.toNat 0)))) (by simp) (fun b hb=>by rw [aq (by omega)];rfl) (by rw [aE,h00];simp)
  simp (maxSteps:=2000000) -implicitDefEqProofs (disch:=(first |omega |rfl |assumption |(simp only [aN];first |omega |assumption))) only [uA,Nat.reduceAdd,Nat.reduceMul,Nat.reduceLT,Int.reduceToNat,Int.reduceAdd,Int.reduceSub,Int.reduceMul,dH,fU] at this
  exact this
 ·have z:Nat.beq s.ws.length 0=false:=SO hz
  have hr:=(ZF.of (J':=(J1.ax 1).put J1.next (.cells true pW (eL (List.replicate n.toNat 0)))) (by simp) fun b hb=>by
   have:=ZF.lt b hb
   rw [aq (by omega)];rfl).rd.bU
  have hp:bF (eL (List.replicate n.toNat 0)) 0 (eL s.ws)=eL (s.ws++List.replicate (n.toNat - s.ws.length) 0):=by
   rw [mJ];simp [bZ]
  refine oQ uA g0 hmn z (cj @pV (cj hr (cj @fZ (cj @List.length_replicate.{0} hp)))) ?_
  have:=key ((J1.ax 1).put J1.next (.cells true pW (eL (s.ws++List.replicate (n.toNat - s.ws.length) 0)))) (by simp) (fun b hb=>by rw [aq (by omega)];rfl) aE
  simp (maxSteps:=2000000) -implicitDefEqProofs (disch:=(first |omega |rfl |assumption |(simp only [aN];first |omega |assumption))) only [uA,Nat.reduceAdd,Nat.reduceMul,Nat.reduceLT,Int.reduceToNat,Int.reduceAdd,Int.reduceSub,Int.reduceMul,dH,fU] at this
  exact this
theorem OT {J:AH O} {mb:Nat} {F:List Nat} {M:ae} {id n:Int} (h:bz J mb F M) (hn:¬ Bl M.sp id):HU [.p (some (.n mb,0)),.i .i64 id,.i .i64 n] J=some (.i .i64 10,J):=by
 obtain ⟨tb,sa,L,rfl,e,hC⟩:=h
 rw [e] at hn
 (unfold HU Wj;exact Gd (yW hC hn))
theorem Bm {J:AH O} {mb:Nat} {F:List Nat} {M:ae} {id n:Int} {w:List Int} (h:bz J mb F M) (h0:0<=id) (hw:M.sp[id.toNat]? = some (true,w)) (h1:n<w.length ∨ n > 4194304):
  HU [.p (some (.n mb,0)),.i .i64 id,.i .i64 n] J=some (.i .i64 (if n<w.length then 1 else 7),J):=by
 obtain ⟨tb,sa,L,rfl,e,hC⟩:=h
 obtain ⟨s,hs,ho,rfl⟩:=rB e hw
 obtain ⟨k,rfl,cK⟩:=ni hC h0 hs ho
 obtain ⟨k',e1,hk,oL,g0,xD⟩:=hC.at hs
 cases e1
 by_cases hc:n<s.ws.length
 ·(unfold HU Wj;refine jN cK hk g0 ?_)
  rw [if_pos hc]
 ·(unfold HU Wj;refine jN cK hk g0 ?_)
  rw [if_neg hc]
end Go.Abs.Tryz
namespace Go.Abs.Tryz
open Go Go.Abs
variable {O:Type}
structure Dw (l:List (Bool × List Int)) (i:Nat):Prop where
 le:i<=l.length
 below:∀ j,j<i->∃ w,l[j]? = some (true,w)
 here:∀ s,l[i]? = some s->s.1=false
theorem Dw.uniq {l:List (Bool × List Int)} {i j:Nat} (h:Dw l i) (k:Dw l j):i=j:=by
 rcases Nat.lt_trichotomy i j with hh |hh |hh
 ·obtain ⟨w,hw⟩:=k.below i hh
  have:=h.here _ hw;cases this
 ·exact hh
 ·obtain ⟨w,hw⟩:=h.below j hh
  have:=k.here _ hw;cases this
def gm (l:List (Bool × List Int)) (i:Nat) (x:Bool × List Int):List (Bool × List Int):=if i<l.length then l.set i x else l++[x]
def ae.lI (M:ae) (i:Nat) (n:Int):ae:=⟨M.met.hold n,gm M.sp i (true,List.replicate n.toNat 0),i+1,M.count+1⟩
theorem OU {J:AH O} {mb:Nat} {F:List Nat} {M:ae} {n:Int} (h:bz J mb F M) (hM:M.ok) (h1:0<=n) (h2:n<=4194304) (h3:M.count<262144):
  Ok (B2 [.p (some (.n mb,0)),.i .i64 n] J) fun r=>∃ i:Nat,Dw M.sp i/\r.1=.aG [.i .i64 i,.i .i64 0]/\∃ F',bz r.2 mb F' (M.lI i n)/\eA F J r.2/\Fp F F' J:=by
 have pB:M.met.held+n<=281474976710656:=by have:=hM.bound;omega
 obtain ⟨tb,sa,L,rfl,e,hC⟩:=h
 obtain ⟨BN,hm⟩:=hC.m
 have OW:=hM.low
 have Od:=hM.cH
 have hlen:M.sp.length=L.length:=by rw [e,List.length_map]
 rw [hlen] at OW Od
 have OR:=hC.mlt
 (unfold B2 Wk;refine cO hm ?_)
 refine Ok.step (Q:=fun r=>∃ i:Nat,Dw M.sp i/\r=([.i .i64 (i:Int)],J)) ?_ ?_
 ·refine Ok.loop (fun k s=>∃ j:Nat,s=([.i .i64 (j:Int)],J)/\j<=L.length/\k=L.length - j/\∀ q,q<j->∃ w,M.sp[q]? = some (true,w)) ?_ (L.length - M.low.toNat) _ ⟨M.low.toNat,by rw [Int.toNat_of_nonneg OW.1],by omega,rfl,fun q hq=>?_⟩
  ·rintro k s ⟨j,rfl,hj,rfl,hq⟩
   by_cases AA:j<L.length
   ·have hs:=List.getElem?_eq_getElem AA
    obtain ⟨k,rfl,hk,oL,g0,xD⟩:=hC.at hs
    have g1:=mX Sp.len (j:=1) (by omega) hs
    simp only [Sp.cells,List.getElem?_cons_succ,List.getElem?_cons_zero] at g1
    (unfold qbi;refine jN hm hk g1 ?_)
    cases ho:L[j].op with
    |true=>
     refine cd ?_
     exact U.2 ⟨_,(by omega:L.length - (j+1)<L.length - j),j+1,by simp,by omega,rfl,fun q tW=>by
      rcases Nat.lt_or_ge q j with hh |hh
      ·exact hq q hh
      ·obtain rfl:q=j:=by omega
       exact ⟨L[q].ws,by rw [e,List.getElem?_map,hs,Option.map_some,Sp.v,ho]⟩⟩
    |false=>
     refine cd ?_
     refine U.2 ⟨j,⟨by omega,hq,fun s ik=>?_⟩,rfl⟩
     rw [e,List.getElem?_map,hs,Option.map_some] at ik
     cases ik;exact ho
   ·(unfold qbi;refine cO hm ?_)
    refine U.2 ⟨j,⟨by omega,hq,fun s ik=>?_⟩,rfl⟩
    have:=(List.getElem?_eq_some_iff.1 ik).1
    omega
  ·have hql:q<M.sp.length:=by omega
   have hs:=List.getElem?_eq_getElem hql
   have:=hM.below q (by omega) _ hs
   exact ⟨M.sp[q].2,by rw [hs];congr 1;exact Prod.ext this rfl⟩
 rintro r ⟨i,KW,rfl⟩
 have xV:=KW.le
 rw [hlen] at xV
 refine cO hm ?_
 refine Ok.step (Q:=fun r=>r.1=[]/\∃ Vo L' s,iK r.2 mb tb Vo L' M.met M.low M.count/\L'[i]? = some s/\s.op=false/\(∀ x,(L'.map Sp.v).set i x=gm M.sp i x)/\eA (cI mb tb sa L) J r.2/\Fp (cI mb tb sa L) (cI mb tb Vo L') J) ?_ ?_
 ·by_cases hi:i=L.length
  ·have rm:Nat.ble ((L.length+1)*33) 35184372088832=true:=CV (by omega)
   have t2:List.take (0+1*2) [AV.sl .nil 0,AV.b false]=[.sl .nil 0,.b false]:=rfl
   have hC0:iK ((J.ax 2).put J.next (.cells true MF [.sl .nil 0,.b false])) mb tb sa L M.met M.low M.count:=hC.of (by simp) fun b hb=>by
    have:=hC.Ns b hb
    rw [aq (by omega)];rfl
   generalize hJ0:(J.ax 2).put J.next (.cells true MF [.sl .nil 0,.b false])=J0 at hC0
   have hm0:=(show J0.aa mb=J.aa mb by rw [<-hJ0,aq (by omega)];rfl).trans hm
   have n0:J0.next=J.next+2:=by rw [<-hJ0];rfl
   have b0:∀ b,b<J.next->J0.aa b=J.aa b:=fun b hb=>by rw [<-hJ0,aq (by omega)];rfl
   have SR:∀ b∈cI mb tb sa L,b<J.next:=hC.Ns
   refine jN hm rm hJ0 ?_
   refine Ok.step (ja (nid:=J.next+1) hC0.HS (fun hb=>by have:=SR (J.next+1) (by simp [cI,hb]);omega) (by omega) (m:=1) (new:=[.sl .nil 0,.b false]) (by simp)) fun r ⟨a',g1,g2,g3,g4,g5⟩=>?_
   obtain ⟨q,J1⟩:=r
   simp only at g1 g2 g3 g4 g5
   subst g1
   have ajQ:mb∉SA.bk sa:=fun hb=>(hC.n1 mb hb).1 rfl
   have ajR:tb∉SA.bk sa:=fun hb=>(hC.n1 tb hb).2 rfl
   have atD:=hC.met.lt
   have HM:J1.aa mb=_:=(g4 mb (by omega) ajQ).trans hm0
   refine cO HM ?_
   have uV:L.flatMap Sp.cells++[.sl .nil 0,.b false]=(L++[(⟨.nil,false,[]⟩:Sp)]).flatMap Sp.cells:=by simp [Sp.cells]
   have oq:(L++[(⟨.nil,false,[]⟩:Sp)]).map Sp.sl=L.map Sp.sl++[(.nil,[])]:=by simp [Sp.sl,eL]
   have qw:oS (L.map Sp.sl++[(.nil,[])])=oS (L.map Sp.sl):=by rw [CX];simp [oS,SA.bk]
   have Xw:∀ b∈oS (L.map Sp.sl),J1.aa b=J0.aa b:=fun b hb=>g4 b (by have:=SR b (by simp [cI,hb]);omega) (hC.n2 b hb).2.2
   refine U.2 ⟨rfl,a',L++[⟨.nil,false,[]⟩],⟨.nil,false,[]⟩,⟨⟨BN,by rw [aE];simp⟩,by simp only [bO];omega,?_,?_,?_,hC.ne,?_,?_⟩,by rw [hi];simp,rfl,fun x=>?_,?_,?_⟩
   ·refine hC0.met.of (by simp only [bO];omega) ?_
    rw [aq (fun e=>hC.ne e.symm),g4 tb (by omega) ajR]
   ·rw [<-uV,List.length_append]
    exact g2.of (Nat.le_refl _) fun b hb=>aq (by have:=g5 b hb;omega)
   ·rw [oq]
    refine BV.snoc ?_ ⟨0,ba.nil _ _ _⟩ (by simp [SA.bk])
    exact hC0.OK.of (by simp only [bO];omega) fun b hb=>by rw [aq (hC.n2 b hb).1];exact Xw b hb
   ·intro b hb
    have:=g5 b hb
    exact ⟨by omega,by omega⟩
   ·intro b hb
    rw [oq,qw] at hb
    have h9:=hC.n2 b hb
    exact ⟨h9.1,h9.2.1,fun dJ=>by have:=g5 b dJ;have:=SR b (by simp [cI,hb]);omega⟩
   ·rw [hi,List.map_append,gm,if_neg (by omega),e]
    simp [List.set_append]
   ·refine eA.put ⟨by omega,fun b hb hn=>?_⟩ (.inl (by simp [cI])) _
    rw [g4 b (by omega) (fun hs=>hn (by simp [cI,hs]))];exact b0 b hb
   ·intro b hb
    simp only [cI,List.mem_cons,List.mem_append,oq,qw] at hb ⊢
    rcases hb with g |g |g |g
    ·exact .inl (.inl g)
    ·exact .inl (.inr (.inl g))
    ·exact .inr (by have:=g5 b g;omega)
    ·exact .inl (.inr (.inr (.inr g)))
  ·have aY:i<L.length:=by omega
   have hs:=List.getElem?_eq_getElem aY
   refine cd ?_
   refine U.2 ⟨rfl,sa,L,L[i],hC,hs,?_,fun x=>?_,eA.refl _ _,Fp.refl _ _⟩
   ·have:=KW.here L[i].v (by rw [e,List.getElem?_map,hs];rfl)
    exact this
   ·rw [gm,if_pos (by omega),e]
 rintro ⟨q,J1⟩ ⟨g0,Vo,L',s,xG,hs,nJ,ajS,BU,hfp⟩
 simp only at g0 xG BU
 subst g0
 obtain ⟨CC,HM⟩:=xG.m
 obtain ⟨k,rfl,hk,oL,_,_⟩:=xG.at hs
 have Rp:=xG.n1 k (by simp [SA.bk])
 have ZE:=Rp.1
 have ktb:=Rp.2
 have aoc:=xG.mlt
 have Nz:=(List.getElem?_eq_some_iff.1 hs).1
 have AE:=qX Sp.len L'
 have kI:0<=M.count:=by rw [hM.count];omega
 have vF:bF (L'.flatMap Sp.cells) (i*2) [.sl (.loc (.n J1.next) 0 1) n.toNat,.b true]=(L'.set i ⟨.loc (.n J1.next) 0 1,true,List.replicate n.toNat 0⟩).flatMap Sp.cells:=by
  have:=mY Sp.len L' i 0 [.sl (.loc (.n J1.next) 0 1) n.toNat,.b true] s ⟨.loc (.n J1.next) 0 1,true,List.replicate n.toNat 0⟩ hs (by simp) (by simp [bF,Sp.cells])
  simpa using this
 refine oQ HM hk @pV AE vF ?_
 obtain ⟨q1,q2⟩:=xG.TY (J':=(((J1.ax 1).put J1.next (.cells true pW (eL (List.replicate n.toNat 0)))).put k (.cells true MF ((L'.set i ⟨.loc (.n J1.next) 0 1,true,List.replicate n.toNat 0⟩).flatMap Sp.cells))).put mb (.cells true CC [.p (some (.n tb,0)),.sl (.loc (.n k) 0 2) L'.length,.i .i64 ((i:Int)+1),.i .i64 (M.count+1)]))
  hs (s':=⟨.loc (.n J1.next) 0 1,true,List.replicate n.toNat 0⟩) rfl (by simp) (fun b hb h1 h2=>by
   have:=xG.Ns b hb
   rw [aq h2,aq h1,aq (by omega)];rfl) (by rw [aq ZE,aE]) ⟨_,by rw [aE]⟩
  ⟨n.toNat,ba.new (by simp [fZ]) (by rw [aq (by omega),aq (by omega),aE]) (by simp)⟩ (by simp [SA.bk])
 have hq:=eA.put (L:=cI mb tb (.loc (.n k) 0 2) L') (eA.put (L:=cI mb tb (.loc (.n k) 0 2) L') (eA.put (((eA.refl _ J1).ax 1)) (.inr (Nat.le_refl _)) (.cells true pW (eL (List.replicate n.toNat 0)))) (b:=k) (.inl (by simp [cI,SA.bk])) (.cells true MF ((L'.set i ⟨.loc (.n J1.next) 0 1,true,List.replicate n.toNat 0⟩).flatMap Sp.cells))) (b:=mb) (.inl (by simp [cI])) (.cells true CC [.p (some (.n tb,0)),.sl (.loc (.n k) 0 2) L'.length,.i .i64 ((i:Int)+1),.i .i64 (M.count+1)])
 generalize hJ2:(((J1.ax 1).put J1.next (.cells true pW (eL (List.replicate n.toNat 0)))).put k (.cells true MF ((L'.set i ⟨.loc (.n J1.next) 0 1,true,List.replicate n.toNat 0⟩).flatMap Sp.cells))).put mb (.cells true CC [.p (some (.n tb,0)),.sl (.loc (.n k) 0 2) L'.length,.i .i64 ((i:Int)+1),.i .i64 (M.count+1)])=J2 at q1 hq
 have n1:=BU.next
 have n2:=hq.next
 refine Ok.step (pU q1.met hM.met h1 pB) fun r ⟨g1,g2,g3⟩=>?_
 obtain ⟨q,J3⟩:=r
 simp only at g1 g2 g3
 subst g1
 refine cd ?_
 refine U.2 ⟨i,KW,rfl,_,⟨tb,_,_,rfl,?_,q1.step g3 g2⟩,?_,fun b hb=>?_⟩
 ·show gm M.sp i _=_
  rw [<-ajS,List.map_set];rfl
 ·refine (BU.trans' hq fun b hb=>hfp b hb).trans' g3 fun b hb=>.inl ?_
  simp at hb;subst hb;simp [cI]
 ·rcases q2 b hb with g |g
  ·exact hfp b g
  ·exact .inr (by omega)
theorem KX {J:AH O} {mb:Nat} {F:List Nat} {M:ae} {n:Int} (h:bz J mb F M) (h1:n<0 ∨ n > 4194304 ∨ M.count>=262144):
  B2 [.p (some (.n mb,0)),.i .i64 n] J=some (.aG [.i .i64 0,.i .i64 (if n<0 then 1 else if n > 4194304 then 7 else 3)],J):=by
 obtain ⟨tb,sa,L,rfl,e,hC⟩:=h
 obtain ⟨BN,hm⟩:=hC.m
 by_cases c1:n<0
 ·(unfold B2 Wk;refine cO hm ?_)
  rw [if_pos c1]
 ·by_cases c2:n > 4194304
  ·(unfold B2 Wk;refine cO hm ?_)
   rw [if_neg c1,if_pos c2]
  ·(unfold B2 Wk;refine cO hm ?_)
   rw [if_neg c1,if_neg c2]
end Go.Abs.Tryz
namespace Go.Abs.Tryz
open Go Go.Abs
variable {O:Type}
theorem iJ {α:Type} {p:α->Bool} {l:List α} {i:Nat} {x y:α} (h:l[i]? = some y):(l.set i x).countP p+(if p y=true then 1 else 0)=l.countP p+(if p x=true then 1 else 0):=by
 induction l generalizing i with
 |nil=>simp at h
 |cons z l ih=>
  cases i with
  |zero=>simp at h;subst h;simp only [List.set_cons_zero,List.countP_cons];omega
  |succ i=>simp at h;have:=ih h;simp only [List.set_cons_succ,List.countP_cons];omega
theorem ae.T0:ae.new.ok:=⟨⟨by decide,by decide,by decide,by decide⟩,by decide,fun i hi s hs=>by simp [ae.new] at hs,rfl,by decide,fun s hs=>by simp [ae.new] at hs,fun s hs=>by simp [ae.new] at hs,rfl⟩
theorem ae.ok.FQ {M:ae} (h:M.ok):0<=M.count/\M.count<=262144:=by
 rw [h.count]
 have:=List.countP_le_length (p:=fun s:Bool × List Int=>s.1) (l:=M.sp)
 have:=h.cH
 omega
theorem eV {α:Type} {l:List α} {i:Nat} {x y:α} (h:y∈l.set i x):y=x ∨ y∈l:=by
 rcases List.mem_or_eq_of_mem_set h with g |g
 ·exact .inr g
 ·exact .inl g
theorem yX {α:Type} {l:List α} {i j:Nat} {x y:α} (h:(l.set i x)[j]? = some y):(j=i/\y=x) ∨ (j≠i/\l[j]? = some y):=by
 rw [List.getElem?_set] at h
 split at h
 ·rename_i oT
  split at h
  ·cases h;exact .inl ⟨oT.symm,rfl⟩
  ·cases h
 ·rename_i oT;exact .inr ⟨fun e=>oT e.symm,h⟩
theorem ae.Dx {M:ae} (h:M.ok) {i:Nat} {w w':List Int} (hw:M.sp[i]? = some (true,w)) (hl:w'.length=w.length):(M.put i w').ok:=by
 refine ⟨h.met,by simpa [ae.put] using h.low,fun j hj s hs=>?_,?_,by simpa [ae.put] using h.cH,fun s hs=>?_,fun s hs he=>?_,?_⟩
 ·rcases yX hs with ⟨_,rfl⟩ |⟨_,g⟩
  ·rfl
  ·exact h.below j hj s g
 ·have:=iJ (p:=fun s:Bool × List Int=>s.1) (x:=(true,w')) hw
  simp only [if_true] at this
  simp only [ae.put]
  rw [h.count];omega
 ·rcases eV hs with rfl |g
  ·simp only [hl];exact h.len hw
  ·exact h.size s g
 ·rcases eV hs with rfl |g
  ·cases he
  ·exact h.shut s g he
 ·have:((M.sp.map fun s=>s.2.length))[i]? = some w.length:=by rw [List.getElem?_map,hw];rfl
  have:=pQ (x:=w'.length) this
  simp only [ae.put,List.map_set]
  rw [h.held];omega
theorem ae.KY {M:ae} (h:M.ok) {n:Int} (h0:0<=n) (hn:M.met.w+n<170141183460469231731687303715884105728):(M.wr n).ok:=
 ⟨⟨h.met.r,⟨by have:=h.met.w;simp only [ae.wr];omega,hn⟩,h.met.held,h.met.high⟩,h.low,h.below,h.count,h.cH,h.size,h.shut,h.held⟩
theorem ae.Rq {M:ae} (h:M.ok) {n:Int} (h0:0<=n) (hn:M.met.r+n<170141183460469231731687303715884105728):(M.rd n).ok:=
 ⟨⟨⟨by have:=h.met.r;simp only [ae.rd];omega,hn⟩,h.met.w,h.met.held,h.met.high⟩,h.low,h.below,h.count,h.cH,h.size,h.shut,h.held⟩
theorem dZ.pU {m:dZ} (h:m.ok) {n:Int} (h0:0<=n) (hn:m.held+n<=281474976710656):(m.hold n).ok:=
 ⟨h.r,h.w,by have:=h.held;simp only [dZ.hold];omega,by have:=h.high;simp only [dZ.hold];omega⟩
theorem dZ.yV {m:dZ} (h:m.ok) {n:Int} (h0:0<=n) (hn:n<=m.held):(m.free n).ok:=
 ⟨h.r,h.w,by have:=h.held;simp only [dZ.free];omega,by have:=h.high;simp only [dZ.free];omega⟩
theorem ae.KZ {M:ae} (h:M.ok) {i:Nat} {w:List Int} (hw:M.sp[i]? = some (true,w)) {n:Int} (h1:(w.length:Int)<=n) (h2:n<=4194304):(M.grow i w n).ok:=by
 refine ⟨dZ.pU h.met (by omega) (xH h hw h1 h2),by simpa [ae.grow] using h.low,fun j hj s hs=>?_,?_,by simpa [ae.grow] using h.cH,fun s hs=>?_,fun s hs he=>?_,?_⟩
 ·rcases yX hs with ⟨_,rfl⟩ |⟨_,g⟩
  ·rfl
  ·exact h.below j hj s g
 ·have:=iJ (p:=fun s:Bool × List Int=>s.1) (x:=(true,w++List.replicate (n.toNat - w.length) 0)) hw
  simp only [if_true] at this
  simp only [ae.grow]
  rw [h.count];omega
 ·rcases eV hs with rfl |g
  ·simp only [List.length_append,List.length_replicate];omega
  ·exact h.size s g
 ·rcases eV hs with rfl |g
  ·cases he
  ·exact h.shut s g he
 ·have:((M.sp.map fun s=>s.2.length))[i]? = some w.length:=by rw [List.getElem?_map,hw];rfl
  have:=pQ (x:=(w++List.replicate (n.toNat - w.length) 0).length) this
  simp only [List.length_append,List.length_replicate] at this
  simp only [ae.grow,List.map_set,dZ.hold,List.length_append,List.length_replicate]
  rw [h.held];omega
theorem ae.GW {M:ae} (h:M.ok) {i:Nat} {w:List Int} (hw:M.sp[i]? = some (true,w)):(M.close i w).ok:=by
 have hi:=(List.getElem?_eq_some_iff.1 hw).1
 have hs:((M.sp.map fun s=>s.2.length))[i]? = some w.length:=by rw [List.getElem?_map,hw];rfl
 have Nw:=pQ (x:=([]:List Int).length) hs
 simp only [List.length_nil] at Nw
 have OW:=h.low
 refine ⟨dZ.yV h.met (by omega) (by rw [h.held];omega),by simp only [ae.close,List.length_set];omega,fun j hj s hs=>?_,?_,by simpa [ae.close] using h.cH,fun s hs=>?_,fun s hs he=>?_,?_⟩
 ·simp only [ae.close] at hj
  rcases yX hs with ⟨bS,_⟩ |⟨_,g⟩
  ·omega
  ·exact h.below j (by omega) s g
 ·have:=iJ (p:=fun s:Bool × List Int=>s.1) (x:=(false,[])) hw
  simp only [if_true,Bool.false_eq_true,if_false] at this
  simp only [ae.close]
  rw [h.count];omega
 ·rcases eV hs with rfl |g
  ·simp
  ·exact h.size s g
 ·rcases eV hs with rfl |g
  ·rfl
  ·exact h.shut s g he
 ·simp only [ae.close,List.map_set,dZ.free,List.length_nil]
  rw [h.held];omega
theorem kj {l:List (Bool × List Int)} {i:Nat} {x:Bool × List Int} (hi:i<=l.length) (j:Nat):(gm l i x)[j]? = if j=i then some x else l[j]? := by
 unfold gm
 by_cases h:i<l.length
 ·rw [if_pos h,List.getElem?_set]
  by_cases hj:i=j
  ·subst hj;simp [h]
  ·simp [hj,Ne.symm hj]
 ·obtain rfl:i=l.length:=by omega
  rw [if_neg h,List.getElem?_append]
  by_cases hj:j<l.length
  ·rw [if_pos hj,if_neg (by omega)]
  ·rw [if_neg hj]
   by_cases qx:j=l.length
   ·subst qx;simp
   ·rw [if_neg qx,List.getElem?_eq_none (by simp;omega),List.getElem?_eq_none (by omega)]
theorem xI {l:List (Bool × List Int)} {i:Nat} {x y:Bool × List Int} (h:y∈gm l i x):y=x ∨ y∈l:=by
 unfold gm at h
 split at h
 ·exact eV h
 ·simp at h;exact h.symm
theorem ae.T9 {M:ae} (h:M.ok) {i:Nat} (hf:Dw M.sp i) {n:Int} (h1:0<=n) (h2:n<=4194304) (h3:M.count<262144):(M.lI i n).ok:=by
 have vw:(gm M.sp i (true,List.replicate n.toNat 0)).countP (·.1)=M.sp.countP (·.1)+1/\((gm M.sp i (true,List.replicate n.toNat 0)).map fun s=>s.2.length).sum=(M.sp.map fun s=>s.2.length).sum+n.toNat/\(gm M.sp i (true,List.replicate n.toNat 0)).length<=262144/\i<(gm M.sp i (true,List.replicate n.toNat 0)).length:=by
  unfold gm
  by_cases hi:i<M.sp.length
  ·rw [if_pos hi]
   have hs:=List.getElem?_eq_getElem hi
   have ho:=hf.here _ hs
   have hw:=h.shut _ (List.mem_of_getElem? hs) ho
   have g1:=iJ (p:=fun s:Bool × List Int=>s.1) (x:=(true,List.replicate n.toNat 0)) hs
   simp only [ho,if_true,Bool.false_eq_true,if_false] at g1
   have:((M.sp.map fun s=>s.2.length))[i]? = some 0:=by rw [List.getElem?_map,hs,Option.map_some,hw];rfl
   have g2:=pQ (x:=(List.replicate n.toNat (0:Int)).length) this
   simp only [List.length_replicate] at g2
   refine ⟨by omega,by rw [List.map_set];simp only [List.length_replicate];omega,by rw [List.length_set];exact h.cH,by simpa using hi⟩
  ·rw [if_neg hi]
   have hle:=hf.le
   have lP:M.sp.countP (·.1)=M.sp.length:=by
    rw [List.countP_eq_length]
    intro s hs
    obtain ⟨j,hj⟩:=List.getElem?_of_mem hs
    have:=(List.getElem?_eq_some_iff.1 hj).1
    obtain ⟨w,hw⟩:=hf.below j (by omega)
    rw [hj] at hw;cases hw;rfl
   have hc:=h.count
   refine ⟨by simp,by simp,by simp;omega,by simp;omega⟩
 obtain ⟨c1,c2,c3,c4⟩:=vw
 have OW:=h.low
 have hb:=h.bound
 refine ⟨dZ.pU h.met h1 (by omega),⟨by simp only [ae.lI];omega,by simp only [ae.lI];omega⟩,fun j hj s hs=>?_,by simp only [ae.lI];rw [c1,h.count];omega,c3,fun s hs=>?_,fun s hs he=>?_,?_⟩
 ·simp only [ae.lI] at hj hs
  rw [kj hf.le] at hs
  split at hs
  ·cases hs;rfl
  ·obtain ⟨w,hw⟩:=hf.below j (by omega)
   rw [hw] at hs;cases hs;rfl
 ·rcases xI hs with rfl |g
  ·simp;omega
  ·exact h.size s g
 ·rcases xI hs with rfl |g
  ·cases he
  ·exact h.shut s g he
 ·simp only [ae.lI,dZ.hold,c2]
  rw [h.held];omega
theorem bz.XX {J:AH O} {mb:Nat} {F:List Nat} {M:ae} (h:bz J mb F M):∃ tb el rest,J.aa mb=some (.cells true el (.p (some (.n tb,0))::rest))/\dC J tb M.met:=by
 obtain ⟨tb,sa,L,rfl,e,hC⟩:=h
 obtain ⟨el,hm⟩:=hC.m
 exact ⟨tb,el,_,hm,hC.met⟩
theorem Fp.new {F F':List Nat} {J0 J:AH O} (h:Fp F F' J) (hn:J0.next<=J.next) (hF:∀ b∈F,J0.next<=b):∀ b∈F',J0.next<=b:=fun b hb=>by
 rcases h b hb with g |g
 ·exact hF b g
 ·omega
theorem bz.mlt {J:AH O} {mb:Nat} {F:List Nat} {M:ae} (h:bz J mb F M):mb<J.next:=by
 obtain ⟨tb,sa,L,rfl,e,hC⟩:=h
 exact hC.mlt
end Go.Abs.Tryz
set_option linter.unusedSectionVars false
namespace Go.Abs.Tryz
open Go Go.Abs
variable {O:Type}
abbrev EM:=List (Bool × List Int)
def ff (l:EM):Nat:=l.findIdx fun s => !s.1
theorem pT (l:EM):Dw l (ff l):=by
 refine ⟨List.findIdx_le_length,fun j hj=>?_,fun s hs=>?_⟩
 ·have aY:j<l.length:=Nat.lt_of_lt_of_le hj List.findIdx_le_length
  have:=List.not_of_lt_findIdx hj
  simp only [Bool.not_eq_true,Bool.not_eq_false'] at this
  exact ⟨l[j].2,by rw [List.getElem?_eq_getElem aY];congr 1;exact Prod.ext this rfl⟩
 ·have aY:=(List.getElem?_eq_some_iff.1 hs).1
  have h1:=List.findIdx_getElem (w:=aY)
  have e:l[ff l]'aY=s:=(List.getElem?_eq_some_iff.1 hs).2
  rw [<-e]
  simp only [Bool.not_eq_true'] at h1
  exact h1
def aj (l:EM) (id:Int):Option (List Int):=if 0<=id then (match l[id.toNat]? with |some (true,w)=>some w |_=>none) else none
theorem aI {l:EM} {id:Int} {w:List Int} (h:aj l id=some w):0<=id/\l[id.toNat]? = some (true,w):=by
 unfold aj at h
 split at h
 ·rename_i h0
  split at h
  ·rename_i hw;cases h;exact ⟨h0,hw⟩
  ·cases h
 ·cases h
theorem fb {l:EM} {id:Int} (h:aj l id=none):¬ Bl l id:=by
 rintro ⟨h0,w,hw⟩
 simp [aj,h0,hw] at h
theorem dI {l:EM} {id:Int} {w:List Int} (h0:0<=id) (h:l[id.toNat]? = some (true,w)):aj l id=some w:=by simp [aj,h0,h]
def ae.mF (M:ae) (n:Int):ae × Int × Int:=if n<0 then (M,0,1) else if n > 4194304 then (M,0,7) else if M.count>=262144 then (M,0,3) else (M.lI (ff M.sp) n,ff M.sp,0)
def ae.u5 (M:ae) (id:Int):ae × Int:=match aj M.sp id with |none=>(M,10) |some w=>(M.close id.toNat w,0)
def ae.Bn (M:ae) (id n:Int):ae × Int:=match aj M.sp id with |none=>(M,10) |some w=>if n<w.length then (M,1) else if n > 4194304 then (M,7) else (M.grow id.toNat w n,0)
def bD (l:EM) (id at_ n:Int):Int:=match aj l id with |none=>10 |some w=>if n<0 ∨ at_<0 ∨ at_ > w.length ∨ n > w.length - at_ then 11 else 0
def ae.jA (M:ae) (id at_:Int):ae × Int × Int:=if bD M.sp id at_ 1=0 then (M.rd 1,((aj M.sp id).getD []).getD at_.toNat 0,0) else (M,0,bD M.sp id at_ 1)
def ae.jh (M:ae) (id at_ x:Int):ae × Int:=if bD M.sp id at_ 1=0 then ((M.wr 1).put id.toNat (((aj M.sp id).getD []).set at_.toNat x),0) else (M,bD M.sp id at_ 1)
def ae.Bo (M:ae) (id at_ n:Int):ae × Int:=if bD M.sp id at_ n=0 then ((M.wr n).put id.toNat (bZ ((aj M.sp id).getD []) at_.toNat (List.replicate n.toNat 0)),0) else (M,bD M.sp id at_ n)
def ae.pS (M:ae) (fr at_ to de n:Int):ae × Int:=
 if bD M.sp fr at_ n=10 ∨ bD M.sp to de n=10 then (M,10)
 else if bD M.sp fr at_ n≠0 ∨ bD M.sp to de n≠0 then (M,11)
 else (((M.rd n).wr n).put to.toNat (bZ ((aj M.sp to).getD []) de.toNat ((((aj M.sp fr).getD []).drop at_.toNat).take n.toNat)),0)
theorem nk {l:EM} {id at_ n:Int} (h:bD l id at_ n=0):∃ w,aj l id=some w/\0<=n/\0<=at_/\at_+n<=w.length:=by
 unfold bD at h
 split at h
 ·omega
 ·rename_i w hw
  split at h
  ·omega
  ·exact ⟨w,hw,by omega,by omega,by omega⟩
theorem pY {l:EM} {id at_ n:Int}:bD l id at_ n=10 ↔ aj l id=none:=by
 unfold bD
 split
 ·rename_i h;simp [h]
 ·rename_i w hw
  split<;>simp [hw]
theorem pZ {l:EM} {id at_ n:Int} (h:bD l id at_ n≠0) (h':aj l id≠none):bD l id at_ n=11/\∃ w,aj l id=some w/\(n<0 ∨ at_<0 ∨ at_ > w.length ∨ n > w.length - at_):=by
 unfold bD at h ⊢
 split
 ·rename_i hw;exact absurd hw h'
 ·rename_i w hw
  rw [hw] at h
  simp only at h
  split at h
  ·rename_i hc;exact ⟨by rw [if_pos hc],w,hw,hc⟩
  ·exact absurd rfl h
structure dT (J:AH O) (mb:Nat) (F:List Nat) (M':ae) (J':AH O):Prop where
 ex:∃ F',bz J' mb F' M'/\Fp F F' J
 AS:eA F J J'
 ok:M'.ok
theorem dT.refl {J:AH O} {mb:Nat} {F:List Nat} {M:ae} (h:bz J mb F M) (hM:M.ok):dT J mb F M J:=⟨⟨F,h,Fp.refl _ _⟩,eA.refl _ _,hM⟩
structure ae.calm (M:ae):Prop where
 r:M.met.r<85070591730234615865843651857942052864
 w:M.met.w<85070591730234615865843651857942052864
section
variable {J:AH O} {mb:Nat} {F:List Nat} {M:ae} (h:bz J mb F M) (hM:M.ok) (hc:M.calm)
include h hM hc
theorem Rf {n:Int}:Ok (B2 [.p (some (.n mb,0)),.i .i64 n] J) fun r=>r.1=.aG [.i .i64 (M.mF n).2.1,.i .i64 (M.mF n).2.2]/\dT J mb F (M.mF n).1 r.2:=by
 by_cases hb:n<0 ∨ n > 4194304 ∨ M.count>=262144
 ·refine mu (KX h hb) ?_
  have:M.mF n=(M,0,if n<0 then 1 else if n > 4194304 then 7 else 3):=by
   unfold ae.mF;repeat' split
   all_goals first |rfl |omega
  rw [this]
  exact ⟨rfl,.refl h hM⟩
 ·have h1:0<=n:=by omega
  have h2:n<=4194304:=by omega
  have h3:M.count<262144:=by omega
  have:M.mF n=(M.lI (ff M.sp) n,(ff M.sp:Int),0):=by
   unfold ae.mF;rw [if_neg (by omega),if_neg (by omega),if_neg (by omega)]
  rw [this]
  refine (OU h hM h1 h2 h3).mono fun r ⟨i,hf,g1,F',g2,g3,g4⟩=>?_
  obtain rfl:=hf.uniq (pT M.sp)
  exact ⟨g1,⟨F',g2,g4⟩,g3,ae.T9 hM hf h1 h2 h3⟩
theorem TI {id:Int} (oN:id<=9223372036854775807):Ok (Kt [.p (some (.n mb,0)),.i .i64 id] J) fun r=>r.1=.i .i64 (M.u5 id).2/\dT J mb F (M.u5 id).1 r.2:=by
 unfold ae.u5
 cases hw:aj M.sp id with
 |none=>exact mu (KV h (fb hw)) ⟨rfl,.refl h hM⟩
 |some w=>
  obtain ⟨h0,hw⟩:=aI hw
  exact (KU h hM h0 oN hw).mono fun r ⟨g1,F',g2,g3,g4⟩=>⟨g1,⟨F',g2,g4⟩,g3,ae.GW hM hw⟩
theorem ZG {id n:Int}:Ok (HU [.p (some (.n mb,0)),.i .i64 id,.i .i64 n] J) fun r=>r.1=.i .i64 (M.Bn id n).2/\dT J mb F (M.Bn id n).1 r.2:=by
 unfold ae.Bn
 cases hw:aj M.sp id with
 |none=>exact mu (OT h (fb hw)) ⟨rfl,.refl h hM⟩
 |some w=>
  obtain ⟨h0,hw⟩:=aI hw
  simp only
  by_cases c1:n<w.length
  ·rw [if_pos c1]
   refine mu (Bm h h0 hw (.inl c1)) ⟨?_,.refl h hM⟩
   rw [if_pos c1]
  ·rw [if_neg c1]
   by_cases c2:n > 4194304
   ·rw [if_pos c2]
    refine mu (Bm h h0 hw (.inr c2)) ⟨?_,.refl h hM⟩
    rw [if_neg c1]
   ·rw [if_neg c2]
    exact (OS h hM h0 hw (by omega) (by omega)).mono fun r ⟨g1,F',g2,g3,g4⟩=>⟨g1,⟨F',g2,g4⟩,g3,ae.KZ hM hw (by omega) (by omega)⟩
theorem Rc {id at_:Int} (ha : -9223372036854775808<=at_/\at_<=9223372036854775807):Ok (yN [.p (some (.n mb,0)),.i .i64 id,.i .i64 at_] J) fun r=>r.1=.aG [.i .u64 (M.jA id at_).2.1,.i .i64 (M.jA id at_).2.2]/\dT J mb F (M.jA id at_).1 r.2:=by
 unfold ae.jA
 have hr:=hc.r
 by_cases hz:bD M.sp id at_ 1=0
 ·rw [if_pos hz]
  obtain ⟨w,hw,h1,h2,h3⟩:=nk hz
  obtain ⟨h0,pG⟩:=aI hw
  have aY:at_.toNat<w.length:=by omega
  have hx:=List.getElem?_eq_getElem aY
  simp only [hw,Option.getD_some,List.getD_eq_getElem?_getD,hx]
  exact (OM h hM h0 pG h2 hx).mono fun r ⟨g1,g2,g3⟩=>⟨g1,⟨F,g2,Fp.refl _ _⟩,g3,ae.Rq hM (by omega) (by omega)⟩
 ·rw [if_neg hz]
  by_cases hn:aj M.sp id=none
  ·rw [pY.2 hn]
   exact mu (OP h (fb hn)) ⟨rfl,.refl h hM⟩
  ·obtain ⟨e,w,hw,hb⟩:=pZ hz hn
   obtain ⟨h0,pG⟩:=aI hw
   rw [e]
   exact mu (KQ h hM h0 pG ha (by omega)) ⟨rfl,.refl h hM⟩
theorem Kw {id at_ x:Int} (ha : -9223372036854775808<=at_/\at_<=9223372036854775807):Ok (yO [.p (some (.n mb,0)),.i .i64 id,.i .i64 at_,.i .u64 x] J) fun r=>r.1=.i .i64 (M.jh id at_ x).2/\dT J mb F (M.jh id at_ x).1 r.2:=by
 unfold ae.jh
 have hr:=hc.w
 by_cases hz:bD M.sp id at_ 1=0
 ·rw [if_pos hz]
  obtain ⟨w,hw,h1,h2,h3⟩:=nk hz
  obtain ⟨h0,pG⟩:=aI hw
  simp only [hw,Option.getD_some]
  exact (KP h hM h0 pG h2 (by omega)).mono fun r ⟨g1,g2,g3⟩=>⟨g1,⟨F,g2,Fp.refl _ _⟩,g3,ae.Dx (ae.KY hM (by omega) (by omega)) pG (by simp)⟩
 ·rw [if_neg hz]
  by_cases hn:aj M.sp id=none
  ·rw [pY.2 hn]
   exact mu (KR h (fb hn)) ⟨rfl,.refl h hM⟩
  ·obtain ⟨e,w,hw,hb⟩:=pZ hz hn
   obtain ⟨h0,pG⟩:=aI hw
   rw [e]
   exact mu (GV h hM h0 pG ha (by omega)) ⟨rfl,.refl h hM⟩
theorem ZH {id at_ n:Int} (ha : -9223372036854775808<=at_/\at_<=9223372036854775807):Ok (HT [.p (some (.n mb,0)),.i .i64 id,.i .i64 at_,.i .i64 n] J) fun r=>r.1=.i .i64 (M.Bo id at_ n).2/\dT J mb F (M.Bo id at_ n).1 r.2:=by
 unfold ae.Bo
 have hr:=hc.w
 by_cases hz:bD M.sp id at_ n=0
 ·rw [if_pos hz]
  obtain ⟨w,hw,h1,h2,h3⟩:=nk hz
  obtain ⟨h0,pG⟩:=aI hw
  have:=hM.len pG
  simp only [hw,Option.getD_some]
  exact (ON h hM h0 pG h2 h1 h3).mono fun r ⟨g1,g2,g3⟩=>⟨g1,⟨F,g2,Fp.refl _ _⟩,g3,ae.Dx (ae.KY hM (by omega) (by omega)) pG (eU (by simp;omega))⟩
 ·rw [if_neg hz]
  by_cases hn:aj M.sp id=none
  ·rw [pY.2 hn]
   exact mu (OQ h (fb hn)) ⟨rfl,.refl h hM⟩
  ·obtain ⟨e,w,hw,hb⟩:=pZ hz hn
   obtain ⟨h0,pG⟩:=aI hw
   rw [e]
   exact mu (KS h hM h0 pG ha hb) ⟨rfl,.refl h hM⟩
theorem tq {id at_ n:Int} (ha : -9223372036854775808<=at_/\at_<=9223372036854775807):∃ a' m,Dv [.p (some (.n mb,0)),.i .i64 id,.i .i64 at_,.i .i64 n] J=some (.aG [.sl a' m,.i .i64 (bD M.sp id at_ n)],J):=by
 obtain ⟨tb,sa,L,rfl,e,hC⟩:=h
 by_cases hz:bD M.sp id at_ n=0
 ·obtain ⟨w,hw,h1,h2,h3⟩:=nk hz
  obtain ⟨h0,pG⟩:=aI hw
  obtain ⟨s,hs,ho,rfl⟩:=rB e pG
  obtain ⟨a',_,g⟩:=iQ (n:=n) hC h0 hs ho (hM.len pG) h1 h2 h3
  exact ⟨a',_,by rw [hz];exact g⟩
 ·by_cases hn:aj M.sp id=none
  ·have:=fb hn
   rw [e] at this
   exact ⟨.nil,0,by rw [pY.2 hn];exact nj hC this⟩
  ·obtain ⟨e',w,hw,hb⟩:=pZ hz hn
   obtain ⟨h0,pG⟩:=aI hw
   obtain ⟨s,hs,ho,rfl⟩:=rB e pG
   exact ⟨.nil,0,by rw [e'];exact kU hC h0 hs ho (hM.len pG) ha hb⟩
theorem Ze {fr at_ to de n:Int} (ha : -9223372036854775808<=at_/\at_<=9223372036854775807) (hd : -9223372036854775808<=de/\de<=9223372036854775807):Ok (HQ [.p (some (.n mb,0)),.i .i64 fr,.i .i64 at_,.i .i64 to,.i .i64 de,.i .i64 n] J) fun r=>r.1=.i .i64 (M.pS fr at_ to de n).2/\dT J mb F (M.pS fr at_ to de n).1 r.2:=by
 unfold ae.pS
 have hr:=hc.w
 have hr':=hc.r
 by_cases hs:bD M.sp fr at_ n=10 ∨ bD M.sp to de n=10
 ·rw [if_pos hs]
  obtain ⟨a1,m1,w1⟩:=tq (id:=fr) (n:=n) h hM hc ha
  obtain ⟨a2,m2,w2⟩:=tq (id:=to) (n:=n) h hM hc hd
  refine ⟨(.i .i64 10,J),?_,rfl,.refl h hM⟩
  by_cases c1:bD M.sp fr at_ n=10
  ·(unfold HQ Ro;exact Vt w1 w2)
  ·have c2:=hs.resolve_left c1
   (unfold HQ Ro;exact Vt w1 w2)
 ·rw [if_neg hs]
  by_cases hz:bD M.sp fr at_ n≠0 ∨ bD M.sp to de n≠0
  ·rw [if_pos hz]
   obtain ⟨a1,m1,w1⟩:=tq (id:=fr) (n:=n) h hM hc ha
   obtain ⟨a2,m2,w2⟩:=tq (id:=to) (n:=n) h hM hc hd
   have d1:bD M.sp fr at_ n≠10:=fun e=>hs (.inl e)
   have d2:bD M.sp to de n≠10:=fun e=>hs (.inr e)
   refine ⟨(.i .i64 11,J),?_,rfl,.refl h hM⟩
   by_cases c1:bD M.sp fr at_ n=0
   ·have c2:=hz.resolve_left (fun hh=>hh c1)
    (unfold HQ Ro;exact Vt w1 w2)
   ·(unfold HQ Ro;exact Vt w1 w2)
  ·rw [if_neg hz]
   have z1:bD M.sp fr at_ n=0:=by omega
   have z2:bD M.sp to de n=0:=by omega
   obtain ⟨w,hw,h1,h2,h3⟩:=nk z1
   obtain ⟨h0,pG⟩:=aI hw
   obtain ⟨v,hv,k1,k2,k3⟩:=nk z2
   obtain ⟨k0,iB⟩:=aI hv
   have:=hM.len pG
   simp only [hw,hv,Option.getD_some]
   exact (OO h hM h0 pG h2 h1 h3 k0 iB k2 k3).mono fun r ⟨g1,g2,g3⟩=>⟨g1,⟨F,g2,Fp.refl _ _⟩,g3,ae.Dx (ae.KY (ae.Rq hM (by omega) (by omega)) (by omega) (by simp only [ae.rd];omega)) iB (eU (by simp;omega))⟩
end
end Go.Abs.Tryz
set_option maxHeartbeats 2000000
namespace Go.Abs.Tryz
open Go Go.Abs
variable {O:Type}
def bC (J:AH O) (mb:Nat) (M:ae) (X:List Nat):Prop:=∃ F,bz J mb F M/\M.ok/\∀ b∈X,b<J.next/\b∉F
structure ay (X:List Nat) (J J':AH O):Prop where
 next:J.next<=J'.next
 aa:∀ b∈X,J'.aa b=J.aa b
theorem ay.refl (X:List Nat) (J:AH O):ay X J J:=⟨Nat.le_refl _,fun _ _=>rfl⟩
theorem ay.trans {X:List Nat} {J J' oO:AH O} (h:ay X J J') (k:ay X J' oO):ay X J oO:=⟨Nat.le_trans h.next k.next,fun b hb=>(k.aa b hb).trans (h.aa b hb)⟩
theorem ay.mono {X Y:List Nat} {J J':AH O} (h:ay X J J') (hs:∀ b∈Y,b∈X):ay Y J J':=⟨h.next,fun b hb=>h.aa b (hs b hb)⟩
theorem ay.tail {b:Nat} {X:List Nat} {J J':AH O} (h:ay (b::X) J J'):ay X J J':=h.mono fun _=>List.mem_cons_of_mem _
theorem ay.head {b:Nat} {X:List Nat} {J J':AH O} (h:ay (b::X) J J'):J'.aa b=J.aa b:=h.aa b List.mem_cons_self
section
variable {J:AH O} {mb:Nat} {M:ae} {X:List Nat} (h:bC J mb M X)
include h
theorem bC.ok:M.ok:=by obtain ⟨F,_,h,_⟩:=h;exact h
theorem bC.lt:∀ b∈X,b<J.next:=fun b hb=>by obtain ⟨F,_,_,h⟩:=h;exact (h b hb).1
theorem bC.mlt:mb<J.next:=by obtain ⟨F,h,_⟩:=h;exact h.mlt
theorem bC.mono {Y:List Nat} (hs:∀ b∈Y,b∈X):bC J mb M Y:=by obtain ⟨F,h1,h2,h3⟩:=h;exact ⟨F,h1,h2,fun b hb=>h3 b (hs b hb)⟩
theorem bC.AS {J':AH O} {L:List Nat} (hc:eA L J J') (hl:∀ b∈L,b∈X ∨ J.next<=b):bC J' mb M X:=by
 obtain ⟨F,h1,h2,h3⟩:=h
 exact ⟨F,h1.AS hc fun b hb hm=>by
  rcases hl b hm with g |g
  ·exact (h3 b g).2 hb
  ·have:=h1.lt b hb;omega,h2,fun b hb=>⟨Nat.lt_of_lt_of_le (h3 b hb).1 hc.next,(h3 b hb).2⟩⟩
theorem bC.ext {J':AH O} (hc:Ext J J'):bC J' mb M X:=h.AS (L:=[]) hc.AS (by simp)
theorem bC.new {J':AH O} (hc:Ext J J') {b:Nat} (h1:J.next<=b) (h2:b<J'.next):bC J' mb M (b::X):=by
 obtain ⟨F,g1,g2,g3⟩:=h
 refine ⟨F,g1.ext hc,g2,fun c hm=>?_⟩
 rcases List.mem_cons.1 hm with rfl |hm
 ·exact ⟨h2,fun hm=>by have:=g1.lt c hm;omega⟩
 ·exact ⟨Nat.lt_of_lt_of_le (g3 c hm).1 hc.next,(g3 c hm).2⟩
theorem bC.dV {J':AH O} {L:List Nat} (hc:eA L J J') (hl:∀ b∈L,b∉X):ay X J J':=⟨hc.next,fun b hb=>hc.aa b (h.lt b hb) fun hm=>hl b hm hb⟩
theorem bC.put {b:Nat} (hb:b∈X) (x:dL O):bC (J.put b x) mb M X:=h.AS (L:=[b]) ⟨by simp,fun c hc hm=>aq (by simpa using hm)⟩ fun c hc=>.inl (by simp at hc;rw [hc];exact hb)
theorem bC.dY {J':AH O} (hc:Ext J J'):ay X J J':=⟨hc.next,fun b hb=>hc.aa b (h.lt b hb)⟩
theorem bC.behind {F:List Nat} {M':ae} {J':AH O} (hb:∀ F,bz J mb F M->dT J mb F M' J'):bC J' mb M' X/\ay X J J':=by
 obtain ⟨F,g1,g2,g3⟩:=h
 obtain ⟨⟨F',k1,k2⟩,k3,k4⟩:=hb F g1
 exact ⟨⟨F',k1,k4,fun b hb=>⟨Nat.lt_of_lt_of_le (g3 b hb).1 k3.next,fun hm=>by
  rcases k2 b hm with g |g
  ·exact (g3 b hb).2 g
  ·have:=(g3 b hb).1;omega⟩⟩,k3.next,fun b hb=>k3.aa b (g3 b hb).1 (g3 b hb).2⟩
end
theorem bC.tail {J:AH O} {mb:Nat} {M:ae} {b:Nat} {Y:List Nat} (h:bC J mb M (b::Y)):bC J mb M Y:=h.mono fun _=>List.mem_cons_of_mem _
theorem ay.put {X:List Nat} {J:AH O} {b:Nat} (hb:b∉X) (x:dL O):ay X J (J.put b x):=⟨by simp,fun c hc=>aq fun e=>hb (e▸hc)⟩
theorem ay.ax (X:List Nat) (J:AH O) (k:Nat):ay X J (J.ax k):=⟨by simp,fun _ _=>rfl⟩
theorem Dy {l:EM} {id at_ n:Int} {w:List Int} (hw:aj l id=some w) (h0:0<=at_) (h1:0<=n) (h2:at_+n<=w.length):bD l id at_ n=0:=by
 unfold bD
 rw [hw]
 simp only []
 rw [if_neg (by omega)]
theorem bC.bI {J J':AH O} {mb:Nat} {M:ae} {X Y L:List Nat} (h:bC J mb M X) (hc:eA L J J') (hl:∀ b∈L,b∈X ∨ J.next<=b) (hY:∀ b∈Y,b∈X ∨ (J.next<=b/\b<J'.next)):bC J' mb M Y:=by
 obtain ⟨F,h1,h2,h3⟩:=h
 refine ⟨F,h1.AS hc fun b hb hm=>?_,h2,fun b hb=>?_⟩
 ·rcases hl b hm with g |g
  ·exact (h3 b g).2 hb
  ·have:=h1.lt b hb;omega
 ·rcases hY b hb with g |⟨g,g'⟩
  ·exact ⟨Nat.lt_of_lt_of_le (h3 b g).1 hc.next,(h3 b g).2⟩
  ·exact ⟨g',fun hm=>by have:=h1.lt b hm;omega⟩
structure iu (M M':ae) (id:Int) (w':List Int) (dr dw:Int):Prop where
 sp:M'.sp=M.sp.set id.toNat (true,w')
 r:M'.met.r=M.met.r+dr
 w:M'.met.w=M.met.w+dw
theorem cg {l:EM} {id Rr:Int} {x:Bool × List Int} (cJ:Rr≠id) (h0:0<=id):aj (l.set id.toNat x) Rr=aj l Rr:=by
 unfold aj
 by_cases h:0<=Rr
 ·rw [if_pos h,if_pos h,List.getElem?_set,if_neg (by omega)]
 ·rw [if_neg h,if_neg h]
theorem iu.other {M M':ae} {id Rr:Int} {w':List Int} {dr dw:Int} (h:iu M M' id w' dr dw) (h0:0<=id) (cJ:Rr≠id):aj M'.sp Rr=aj M.sp Rr:=by rw [h.sp];exact cg cJ h0
theorem iu.words {M M':ae} {id:Int} {w w':List Int} {dr dw:Int} (h:iu M M' id w' dr dw) (hw:aj M.sp id=some w):aj M'.sp id=some w':=by
 obtain ⟨h0,h1⟩:=aI hw
 rw [h.sp]
 exact dI h0 (by rw [List.getElem?_set];simp [(List.getElem?_eq_some_iff.1 h1).1])
theorem iu.trans {M M' Rb:ae} {id:Int} {w w':List Int} {a b c d:Int} (h:iu M M' id w a b) (k:iu M' Rb id w' c d):iu M Rb id w' (a+c) (b+d):=
 ⟨by rw [k.sp,h.sp,List.set_set],by rw [k.r,h.r];omega,by rw [k.w,h.w];omega⟩
theorem iu.refl {M:ae} {id:Int} {w:List Int} (hw:aj M.sp id=some w):iu M M id w 0 0:=by
 obtain ⟨h0,h1⟩:=aI hw
 refine ⟨?_,by omega,by omega⟩
 apply List.ext_getElem?
 intro j
 rw [List.getElem?_set]
 split
 ·rename_i oT;subst oT
  have:=(List.getElem?_eq_some_iff.1 h1).1
  rw [h1];simp [this]
 ·rfl
theorem iu.as {M M':ae} {id:Int} {w w':List Int} {a b c d:Int} (h:iu M M' id w a b) (h1:w=w') (h2:a=c) (h3:b=d):iu M M' id w' c d:=by subst h1;subst h2;subst h3;exact h
theorem iu.len {M M':ae} {id:Int} {w':List Int} {dr dw:Int} (h:iu M M' id w' dr dw):M'.sp.length=M.sp.length:=by rw [h.sp,List.length_set]
section
variable {J:AH O} {mb:Nat} {M:ae} {X:List Nat} (h:bC J mb M X) (hc:M.calm) {id:Int} {w:List Int} (hw:aj M.sp id=some w)
include h hw
theorem bC.uU:w.length<=4194304:=h.ok.len (aI hw).2
theorem Q6:Wf [.p (some (.n mb,0)),.i .i64 id] J=some (.aG [.i .i64 (w.length:Int),.i .i64 0],J):=by
 obtain ⟨F,h1,_⟩:=h
 obtain ⟨h0,hw⟩:=aI hw
 exact OL h1 h0 hw
include hc
theorem A7 {at_:Int} (h0:0<=at_) (h1:at_<w.length):Ok (yN [.p (some (.n mb,0)),.i .i64 id,.i .i64 at_] J) fun r=>r.1=.aG [.i .u64 (w.getD at_.toNat 0),.i .i64 0]/\∃ M',bC r.2 mb M' X/\iu M M' id w 1 0/\ay X J r.2:=by
 have hl:=h.uU hw
 have hR:M.jA id at_=(M.rd 1,w.getD at_.toNat 0,0):=by
  unfold ae.jA
  rw [Dy hw h0 (by decide) (by omega),hw];rfl
 have key:∀ F,bz J mb F M->Ok (yN [.p (some (.n mb,0)),.i .i64 id,.i .i64 at_] J) fun r=>r.1=.aG [.i .u64 (w.getD at_.toNat 0),.i .i64 0]/\dT J mb F (M.rd 1) r.2:=fun F hF=>by
  have:=Rc (id:=id) (at_:=at_) hF h.ok hc (by omega)
  rw [hR] at this;exact this
 have hh:=h
 obtain ⟨F,g1,_⟩:=hh
 obtain ⟨r,e,p1,_⟩:=key F g1
 refine ⟨r,e,p1,M.rd 1,?_⟩
 obtain ⟨q1,q2⟩:=h.behind (F:=F) (J':=r.2) (M':=M.rd 1) fun F hF=>by
  obtain ⟨r',e',_,b⟩:=key F hF
  rw [e] at e';cases e';exact b
 exact ⟨q1,⟨(iu.refl hw).sp,rfl,by simp [ae.rd]⟩,q2⟩
theorem rh {at_ x:Int} (h0:0<=at_) (h1:at_<w.length):Ok (yO [.p (some (.n mb,0)),.i .i64 id,.i .i64 at_,.i .u64 x] J) fun r=>r.1=.i .i64 0/\∃ M',bC r.2 mb M' X/\iu M M' id (w.set at_.toNat x) 0 1/\ay X J r.2:=by
 have hl:=h.uU hw
 have hR:M.jh id at_ x=((M.wr 1).put id.toNat (w.set at_.toNat x),0):=by
  unfold ae.jh
  rw [Dy hw h0 (by decide) (by omega),hw];rfl
 have key:∀ F,bz J mb F M->Ok (yO [.p (some (.n mb,0)),.i .i64 id,.i .i64 at_,.i .u64 x] J) fun r=>r.1=.i .i64 0/\dT J mb F ((M.wr 1).put id.toNat (w.set at_.toNat x)) r.2:=fun F hF=>by
  have:=Kw (id:=id) (at_:=at_) (x:=x) hF h.ok hc (by omega)
  rw [hR] at this;exact this
 have hh:=h
 obtain ⟨F,g1,_⟩:=hh
 obtain ⟨r,e,p1,_⟩:=key F g1
 refine ⟨r,e,p1,(M.wr 1).put id.toNat (w.set at_.toNat x),?_⟩
 obtain ⟨q1,q2⟩:=h.behind (F:=F) (J':=r.2) fun F hF=>by
  obtain ⟨r',e',_,b⟩:=key F hF
  rw [e] at e';cases e';exact b
 exact ⟨q1,⟨rfl,by simp [ae.put,ae.wr],rfl⟩,q2⟩
theorem YF {at_ n:Int} (h0:0<=at_) (hn:0<=n) (h1:at_+n<=w.length):Ok (HT [.p (some (.n mb,0)),.i .i64 id,.i .i64 at_,.i .i64 n] J) fun r=>r.1=.i .i64 0/\∃ M',bC r.2 mb M' X/\iu M M' id (bZ w at_.toNat (List.replicate n.toNat 0)) 0 n/\ay X J r.2:=by
 have hl:=h.uU hw
 have hR:M.Bo id at_ n=((M.wr n).put id.toNat (bZ w at_.toNat (List.replicate n.toNat 0)),0):=by
  unfold ae.Bo
  rw [Dy hw h0 hn h1,hw];rfl
 have key:∀ F,bz J mb F M->Ok (HT [.p (some (.n mb,0)),.i .i64 id,.i .i64 at_,.i .i64 n] J) fun r=>r.1=.i .i64 0/\dT J mb F ((M.wr n).put id.toNat (bZ w at_.toNat (List.replicate n.toNat 0))) r.2:=fun F hF=>by
  have:=ZH (id:=id) (at_:=at_) (n:=n) hF h.ok hc (by omega)
  rw [hR] at this;exact this
 have hh:=h
 obtain ⟨F,g1,_⟩:=hh
 obtain ⟨r,e,p1,_⟩:=key F g1
 refine ⟨r,e,p1,(M.wr n).put id.toNat (bZ w at_.toNat (List.replicate n.toNat 0)),?_⟩
 obtain ⟨q1,q2⟩:=h.behind (F:=F) (J':=r.2) fun F hF=>by
  obtain ⟨r',e',_,b⟩:=key F hF
  rw [e] at e';cases e';exact b
 exact ⟨q1,⟨rfl,by simp [ae.put,ae.wr],rfl⟩,q2⟩
theorem YD {n:Int} (h1:(w.length:Int)<=n) (h2:n<=4194304):Ok (HU [.p (some (.n mb,0)),.i .i64 id,.i .i64 n] J) fun r=>r.1=.i .i64 0/\∃ M',bC r.2 mb M' X/\iu M M' id (w++List.replicate (n.toNat - w.length) 0) 0 0/\ay X J r.2:=by
 have hR:M.Bn id n=(M.grow id.toNat w n,0):=by
  unfold ae.Bn
  rw [hw]
  simp only
  rw [if_neg (by omega),if_neg (by omega)]
 have key:∀ F,bz J mb F M->Ok (HU [.p (some (.n mb,0)),.i .i64 id,.i .i64 n] J) fun r=>r.1=.i .i64 0/\dT J mb F (M.grow id.toNat w n) r.2:=fun F hF=>by
  have:=ZG (id:=id) (n:=n) hF h.ok hc
  rw [hR] at this;exact this
 have hh:=h
 obtain ⟨F,g1,_⟩:=hh
 obtain ⟨r,e,p1,_⟩:=key F g1
 refine ⟨r,e,p1,M.grow id.toNat w n,?_⟩
 obtain ⟨q1,q2⟩:=h.behind (F:=F) (J':=r.2) fun F hF=>by
  obtain ⟨r',e',_,b⟩:=key F hF
  rw [e] at e';cases e';exact b
 exact ⟨q1,⟨rfl,by simp [ae.grow,dZ.hold],by simp [ae.grow,dZ.hold]⟩,q2⟩
end
theorem Kg {J:AH O} {mb:Nat} {M:ae} {X:List Nat} (h:bC J mb M X) (hc:M.calm) {n:Int} (h1:0<=n) (h2:n<=4194304) (h3:M.count<262144):
  Ok (B2 [.p (some (.n mb,0)),.i .i64 n] J) fun r=>r.1=.aG [.i .i64 (ff M.sp),.i .i64 0]/\bC r.2 mb (M.lI (ff M.sp) n) X/\ay X J r.2:=by
 have hR:M.mF n=(M.lI (ff M.sp) n,(ff M.sp:Int),0):=by
  unfold ae.mF
  rw [if_neg (by omega),if_neg (by omega),if_neg (by omega)]
 have key:∀ F,bz J mb F M->Ok (B2 [.p (some (.n mb,0)),.i .i64 n] J) fun r=>r.1=.aG [.i .i64 (ff M.sp),.i .i64 0]/\dT J mb F (M.lI (ff M.sp) n) r.2:=fun F hF=>by
  have:=Rf (n:=n) hF h.ok hc
  rw [hR] at this;exact this
 have hh:=h
 obtain ⟨F,g1,_⟩:=hh
 obtain ⟨r,e,p1,_⟩:=key F g1
 refine ⟨r,e,p1,?_⟩
 exact h.behind (F:=F) (J':=r.2) fun F hF=>by
  obtain ⟨r',e',_,b⟩:=key F hF
  rw [e] at e';cases e';exact b
theorem ri {M:ae} {n:Int}:aj (M.lI (ff M.sp) n).sp (ff M.sp)=some (List.replicate n.toNat 0):=by
 refine dI (Int.natCast_nonneg _) ?_
 show (gm M.sp (ff M.sp) _)[(ff M.sp:Int).toNat]? = _
 rw [kj (pT M.sp).le,Int.toNat_natCast,if_pos rfl]
theorem rp {M:ae} {n id:Int} {w:List Int} (h:aj M.sp id=some w):aj (M.lI (ff M.sp) n).sp id=some w/\id≠ff M.sp:=by
 obtain ⟨h0,h1⟩:=aI h
 have cJ:id.toNat≠ff M.sp:=fun e=>by
  rw [e] at h1
  have:=(pT M.sp).here _ h1
  cases this
 refine ⟨dI h0 ?_,by omega⟩
 show (gm M.sp (ff M.sp) _)[id.toNat]? = _
 rw [kj (pT M.sp).le,if_neg cJ];exact h1
theorem ai5 {J:AH O} {X:List Nat} (hX:∀ b∈X,b<J.next):Ok (Zs [] J) fun r=>r.1=.p (some (.n J.next,0))/\bC r.2 J.next ae.new X/\Ext J r.2:=by
 refine GU.mono fun r ⟨F,g1,g2,g3,g4⟩=>⟨g1,⟨F,g2,ae.T0,fun b hb=>⟨Nat.lt_of_lt_of_le (hX b hb) g3.next,fun hm=>?_⟩⟩,g3⟩
 have:=hX b hb
 have:=g4 b hm
 omega
end Go.Abs.Tryz
