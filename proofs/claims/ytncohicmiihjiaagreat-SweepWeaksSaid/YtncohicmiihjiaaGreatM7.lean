/-
  Layers 1 and 7: wide numbers and meters, as they are run. No conditions.
-/
import Derived.Test.YtncohicmiihjiaaGreatS9w
import Derived.Test.YtncohicmiihjiaaGreatAbsSl
set_option linter.unusedVariables false
set_option linter.unusedSimpArgs false
set_option linter.constructorNameAsVariable false
set_option linter.unusedSimpArgs false
namespace Go.Abs.Tryz
open Go Go.Abs
variable {O:Type}
def Mg (w:Int):List AV:=[.i .u64 (w / 18446744073709551616),.i .u64 (w % 18446744073709551616)]
theorem QI {n:Int} {J:AH O} (h:0<=n/\n<18446744073709551616):Ok (qfk [.i .u64 n] J) fun r=>r.1=.agg (Mg n)/\Ext J r.2:=by
 (unfold qfk qfj;refine bZ ?_)
 refine U.2 ⟨?_,rj⟩
 have e1:n / 18446744073709551616=0:=by omega
 have e2:n % 18446744073709551616=n:=by omega
 simp only [Mg,e1,e2]
theorem A3 {x y c:Int} {J:AH O} (hx:0<=x) (hy:0<=y) (hc:0<=c/\c<=1):gq [.i .u64 x,.i .u64 y,.i .u64 c] J=some (.aB [.i .u64 ((x+y+c) % 18446744073709551616),.i .u64 ((x+y+c) / 18446744073709551616)],J):=by
 (unfold gq;exact zU0)
theorem EK {a b:Int} {J:AH O} (h1:0<=a) (h2:0<=b) (h:a+b<340282366920938463463374607431768211456):
  Ok (qfu [.agg (Mg a),.agg (Mg b)] J) fun r=>r.1=.aB [.agg (Mg (a+b)),.b true]/\Ext J r.2:=by
 (unfold qfu qft Mg;refine bZ ?_)
 rw [A3 (by omega) (by omega) (by omega)]
 refine bZ ?_
 rw [A3 (by omega) (by omega) (by omega)]
 refine bZ ?_
 refine U.2 ⟨?_,rj⟩
 have e1:(a / 18446744073709551616+b / 18446744073709551616+(a % 18446744073709551616+b % 18446744073709551616+0) / 18446744073709551616) % 18446744073709551616=(a+b) / 18446744073709551616:=by omega
 have e2:(a % 18446744073709551616+b % 18446744073709551616+0) % 18446744073709551616=(a+b) % 18446744073709551616:=by omega
 rw [e1,e2]
structure fX where
 r:Int
 w:Int
 held:Int
 high:Int
def fX.cells (m:fX):List AV:=[.i .u64 (m.r / 18446744073709551616),.i .u64 (m.r % 18446744073709551616),.i .u64 (m.w / 18446744073709551616),.i .u64 (m.w % 18446744073709551616),.i .i64 m.held,.i .i64 m.high]
structure gQ (J:AH O) (b:Nat) (m:fX):Prop where
 lt:b<J.next
 aa:∃ el,J.aa b=some (.cells true el m.cells)
structure fX.ok (m:fX):Prop where
 r:0<=m.r/\m.r<170141183460469231731687303715884105728
 w:0<=m.w/\m.w<170141183460469231731687303715884105728
 held:0<=m.held/\m.held<=281474976710656
 high:m.held<=m.high/\m.high<=281474976710656
def fX.zero:fX:=⟨0,0,0,0⟩
theorem gQ.of {J J':AH O} {b:Nat} {m:fX} (h:gQ J b m) (hn:J.next<=J'.next) (hb:J'.aa b=J.aa b):gQ J' b m:=⟨Nat.lt_of_lt_of_le h.lt hn,by rw [hb];exact h.aa⟩
theorem gQ.yz {J J':AH O} {L:List Nat} {b:Nat} {m:fX} (h:gQ J b m) (hc:ei L J J') (hb:b∉L):gQ J' b m:=h.of hc.next (hc.aa b h.lt hb)
def fX.hold (m:fX) (n:Int):fX:={m with held:=m.held+n,high:=max m.high (m.held+n)}
def fX.free (m:fX) (n:Int):fX:={m with held:=m.held - n}
theorem qh {J:AH O} {b:Nat} {m:fX} {n:Int} (h:gQ J b m) (hm:m.ok) (hn:0<=n) (Yt:m.held+n<=281474976710656):
  Ok (YN [.p (some (.n b,0)),.i .i64 n] J) fun r=>r.1=.i .i64 0/\gQ r.2 b (m.hold n)/\ei [b] J r.2:=by
 obtain ⟨el,hb⟩:=h.aa
 have bp:=h.lt
 have h1:=hm.held
 have h2:=hm.high
 have ajj:(if m.held+n > m.high then m.held+n else m.high)=max m.high (m.held+n):=by
  split<;>omega
 simp (maxSteps:=2000000) -implicitDefEqProofs (disch:=(first |omega |rfl |assumption |(simp only [aO];first |omega |assumption))) only [YN,qbe,qba,qa9,hb,fX.cells,Nat.reduceAdd,Nat.reduceMul,Nat.reduceLT,Int.reduceToNat,Int.reduceAdd,Int.reduceSub,Int.reduceMul,eA,gM]
 refine U.2 ⟨rfl,⟨bp,el,?_⟩,((ei.refl _ _).put (.inl (by simp)) _)⟩
 simp only [aH,fX.cells,fX.hold,ajj]
theorem N3 {J:AH O}:Ok (qa0 [] J) fun r=>r.1=.p (some (.n J.next,0))/\gQ r.2 J.next fX.zero/\Ext J r.2/\r.2.next=J.next+1:=by
 (unfold qa0 qaz;refine bZ ?_)
 exact U.2 ⟨rfl,⟨by simp,_,by simp only [aH];rfl⟩,rj,rfl⟩
theorem xC {J:AH O} {b:Nat} {m:fX} {n:Int} (h:gQ J b m) (h1:0<=m.r/\m.r<170141183460469231731687303715884105728) (hn:1<=n) (Yt:n<=9223372036854775807):
  Ok (KB [.p (some (.n b,0)),.i .i64 0,.i .i64 n] J) fun r=>r.1=.aB []/\gQ r.2 b {m with r:=m.r+n}/\ei [b] J r.2:=by
 obtain ⟨el,hb⟩:=h.aa
 have bp:=h.lt
 simp (maxSteps:=2000000) -implicitDefEqProofs (disch:=(first |omega |rfl |assumption |(simp only [aO];first |omega |assumption))) only [KB,YO,hb,fX.cells,Int.toNat_zero,Nat.zero_mul,Nat.reduceAdd,Nat.reduceMul,Nat.reduceLT,Int.reduceToNat,Int.reduceAdd,Int.reduceSub,Int.reduceMul,eA,gM]
 refine Ok.step (QI (by omega)) fun r ⟨g1,g2⟩=>?_
 obtain ⟨q,J1⟩:=r
 simp only at g1 g2
 subst g1
 have cK:J1.aa b=_:=(g2.aa b bp).trans hb
 simp (maxSteps:=2000000) -implicitDefEqProofs (disch:=(first |omega |rfl |assumption |(simp only [aO];first |omega |assumption))) only [cK,Mg,fX.cells,Int.toNat_zero,Nat.zero_mul,IL,Nat.reduceAdd,Nat.reduceMul,Nat.reduceLT,Int.reduceToNat,Int.reduceAdd,Int.reduceSub,Int.reduceMul,eA,gM]
 have:=EK (J:=J1) h1.1 (show 0<=n by omega) (by omega)
 simp only [Mg] at this
 refine Ok.step this fun r ⟨g3,g4⟩=>?_
 obtain ⟨q,J2⟩:=r
 simp only at g3 g4
 subst g3
 have fv:J2.aa b=_:=(g4.aa b (Nat.lt_of_lt_of_le bp g2.next)).trans cK
 simp (maxSteps:=2000000) -implicitDefEqProofs (disch:=(first |omega |rfl |assumption |(simp only [aO];first |omega |assumption))) only [fv,fX.cells,Int.toNat_zero,Nat.zero_mul,Nat.reduceAdd,Nat.reduceMul,Nat.reduceLT,Int.reduceToNat,Int.reduceAdd,Int.reduceSub,Int.reduceMul,eA,gM]
 exact U.2 ⟨rfl,⟨by simp only [bR];have:=g2.next;have:=g4.next;omega,el,by simp only [aH];rfl⟩,(g2.trans g4).yz.put (.inl (by simp)) _⟩
theorem rS {J:AH O} {b:Nat} {m:fX} {n:Int} (h:gQ J b m) (h1:0<=m.w/\m.w<170141183460469231731687303715884105728) (hn:1<=n) (Yt:n<=9223372036854775807):
  Ok (KB [.p (some (.n b,0)),.i .i64 1,.i .i64 n] J) fun r=>r.1=.aB []/\gQ r.2 b {m with w:=m.w+n}/\ei [b] J r.2:=by
 obtain ⟨el,hb⟩:=h.aa
 have bp:=h.lt
 have t1:(1:Int).toNat=1:=rfl
 simp (maxSteps:=2000000) -implicitDefEqProofs (disch:=(first |omega |rfl |assumption |(simp only [aO];first |omega |assumption))) only [KB,YO,hb,fX.cells,t1,Nat.one_mul,Nat.reduceAdd,Nat.reduceMul,Nat.reduceLT,Int.reduceToNat,Int.reduceAdd,Int.reduceSub,Int.reduceMul,eA,gM]
 refine Ok.step (QI (by omega)) fun r ⟨g1,g2⟩=>?_
 obtain ⟨q,J1⟩:=r
 simp only at g1 g2
 subst g1
 have cK:J1.aa b=_:=(g2.aa b bp).trans hb
 simp (maxSteps:=2000000) -implicitDefEqProofs (disch:=(first |omega |rfl |assumption |(simp only [aO];first |omega |assumption))) only [cK,Mg,fX.cells,t1,Nat.one_mul,IL,Nat.reduceAdd,Nat.reduceMul,Nat.reduceLT,Int.reduceToNat,Int.reduceAdd,Int.reduceSub,Int.reduceMul,eA,gM]
 have:=EK (J:=J1) h1.1 (show 0<=n by omega) (by omega)
 simp only [Mg] at this
 refine Ok.step this fun r ⟨g3,g4⟩=>?_
 obtain ⟨q,J2⟩:=r
 simp only at g3 g4
 subst g3
 have fv:J2.aa b=_:=(g4.aa b (Nat.lt_of_lt_of_le bp g2.next)).trans cK
 simp (maxSteps:=2000000) -implicitDefEqProofs (disch:=(first |omega |rfl |assumption |(simp only [aO];first |omega |assumption))) only [fv,fX.cells,t1,Nat.one_mul,Nat.reduceAdd,Nat.reduceMul,Nat.reduceLT,Int.reduceToNat,Int.reduceAdd,Int.reduceSub,Int.reduceMul,eA,gM]
 exact U.2 ⟨rfl,⟨by simp only [bR];have:=g2.next;have:=g4.next;omega,el,by simp only [aH];rfl⟩,(g2.trans g4).yz.put (.inl (by simp)) _⟩
theorem xD {J:AH O} {b:Nat} {k n:Int} (hn:n<1):KB [.p (some (.n b,0)),.i .i64 k,.i .i64 n] J=some (.aB [],J):=by
 have e:∀ c:Bool,(bif c then true else true)=true:=by decide
 (unfold KB YO;exact IU e)
end Go.Abs.Tryz
namespace Go.Abs.Tryz
open Go Go.Abs
variable {O:Type}
def eR (l:List Int):List AV:=l.map (AV.i .u64)
theorem fZ (l:List Int):(eR l).length=l.length:=by simp [eR]
theorem KC {l:List Int} {i:Nat} {x:Int} (h:l[i]? = some x):(eR l)[i]? = some (.i .u64 x):=by simp [eR,h]
theorem qi (n:Nat):(List.replicate n [AV.i .u64 0]).flatten=eR (List.replicate n 0):=by
 induction n with
 |zero=>rfl
 |succ n ih=>simp only [List.replicate_succ,List.flatten_cons,eR,List.map_cons] at ih ⊢;rw [ih];rfl
structure Sp where
 a:SA
 op:Bool
 ws:List Int
def Sp.cells (s:Sp):List AV:=[.sl s.a s.ws.length,.b s.op]
theorem Sp.len (s:Sp):s.cells.length=2:=rfl
def Sp.sl (s:Sp):SA × List AV:=(s.a,eR s.ws)
def Sp.v (s:Sp):Bool × List Int:=(s.op,s.ws)
structure ah where
 met:fX
 sp:List (Bool × List Int)
 low:Int
 count:Int
structure iM (J:AH O) (mb tb:Nat) (sa:SA) (L:List Sp) (met:fX) (low count:Int):Prop where
 m:∃ el,J.aa mb=some (.cells true el [.p (some (.n tb,0)),.sl sa L.length,.i .i64 low,.i .i64 count])
 mlt:mb<J.next
 met:gQ J tb met
 HE:aY J N4 2 sa L.length (L.flatMap Sp.cells)
 N5:BB J qj 1 (L.map Sp.sl)
 ne:mb≠tb
 n1:∀ b∈SA.bk sa,b≠mb/\b≠tb
 n2:∀ b∈ph (L.map Sp.sl),b≠mb/\b≠tb/\b∉SA.bk sa
def cZ (mb tb:Nat) (sa:SA) (L:List Sp):List Nat:=mb::tb::(SA.bk sa++ph (L.map Sp.sl))
def bI (J:AH O) (mb:Nat) (F:List Nat) (M:ah):Prop:=∃ tb sa L,F=cZ mb tb sa L/\M.sp=L.map Sp.v/\iM J mb tb sa L M.met M.low M.count
theorem iM.of {J J':AH O} {mb tb:Nat} {sa:SA} {L:List Sp} {met:fX} {low count:Int} (h:iM J mb tb sa L met low count) (hn:J.next<=J'.next) (hb:∀ b∈cZ mb tb sa L,J'.aa b=J.aa b):iM J' mb tb sa L met low count where
 m:=by rw [hb mb (by simp [cZ])];exact h.m
 mlt:=Nat.lt_of_lt_of_le h.mlt hn
 met:=h.met.of hn (hb tb (by simp [cZ]))
 HE:=h.HE.of hn fun b dI=>hb b (by simp [cZ,dI])
 N5:=h.N5.of hn fun b dI=>hb b (by simp [cZ,dI])
 ne:=h.ne
 n1:=h.n1
 n2:=h.n2
theorem iM.MM {J:AH O} {mb tb:Nat} {sa:SA} {L:List Sp} {met:fX} {low count:Int} (h:iM J mb tb sa L met low count):∀ b∈cZ mb tb sa L,b<J.next:=fun b hb=>by
 simp only [cZ,List.mem_cons,List.mem_append] at hb
 rcases hb with rfl |rfl |hb |hb
 ·exact h.mlt
 ·exact h.met.lt
 ·exact h.HE.lt b hb
 ·exact h.N5.lt b hb
theorem bI.lt {J:AH O} {mb:Nat} {F:List Nat} {M:ah} (h:bI J mb F M):∀ b∈F,b<J.next:=by
 obtain ⟨tb,sa,L,rfl,_,hC⟩:=h
 exact hC.MM
theorem bI.yz {J J':AH O} {mb:Nat} {F L:List Nat} {M:ah} (h:bI J mb F M) (hc:ei L J J') (hd:∀ b∈F,b∉L):bI J' mb F M:=by
 have bp:=h.lt
 obtain ⟨tb,sa,L',rfl,e,hC⟩:=h
 exact ⟨tb,sa,L',rfl,e,hC.of hc.next fun b hb=>hc.aa b (bp b hb) (hd b hb)⟩
theorem bI.ext {J J':AH O} {mb:Nat} {F:List Nat} {M:ah} (h:bI J mb F M) (hc:Ext J J'):bI J' mb F M:=h.yz (L:=[]) hc.yz (by simp)
def Fp (F F':List Nat) (J:AH O):Prop:=∀ b∈F',b∈F ∨ J.next<=b
theorem Fp.refl (F:List Nat) (J:AH O):Fp F F J:=fun _ h=>.inl h
structure ah.ok (M:ah):Prop where
 met:M.met.ok
 low:0<=M.low/\M.low<=M.sp.length
 below:∀ i:Nat,(i:Int)<M.low->∀ s,M.sp[i]? = some s->s.1=true
 count:M.count=(M.sp.countP (·.1):Nat)
 bW:M.sp.length<=262144
 size:∀ s∈M.sp,s.2.length<=4194304
 shut:∀ s∈M.sp,s.1=false->s.2=[]
 held:M.met.held=(((M.sp.map fun s=>s.2.length).sum:Nat):Int)
theorem JY {l:List Nat} {c:Nat} (h:∀ x∈l,x<=c):l.sum<=l.length*c:=by
 induction l with
 |nil=>simp
 |cons x l ih=>
  have:=ih fun y hy=>h y (List.mem_cons_of_mem _ hy)
  have:=h x List.mem_cons_self
  simp only [List.sum_cons,List.length_cons,Nat.succ_mul];omega
theorem ah.ok.bound {M:ah} (h:M.ok):M.met.held<=1099511627776:=by
 rw [h.held]
 have h1:=JY (l:=M.sp.map fun s=>s.2.length) (c:=4194304) (by
  intro x hx
  obtain ⟨s,hs,rfl⟩:=List.mem_map.1 hx
  exact h.size s hs)
 simp only [List.length_map] at h1
 have:=h.bW
 omega
def De (l:List (Bool × List Int)) (id:Int):Prop:=0<=id/\∃ w,l[id.toNat]? = some (true,w)
theorem qk {J:AH O} {mb tb:Nat} {sa:SA} {L:List Sp} {met:fX} {low count id:Int} (h:iM J mb tb sa L met low count) (h0:0<=id) {s:Sp} (hs:L[id.toNat]? = some s) (ho:s.op=true):
  ∃ k,sa=.loc (.n k) 0 2/\KD [.p (some (.n mb,0)),.i .i64 id] J=some (.p (some (.n k,id.toNat*2)),J):=by
 have bp:=(List.getElem?_eq_some_iff.1 hs).1
 obtain ⟨k,rfl,hk,_⟩:=h.HE.loc (by omega)
 obtain ⟨el,hm⟩:=h.m
 have g1:=m7 Sp.len (j:=1) (by omega) hs
 simp only [Sp.cells,List.getElem?_cons_succ,List.getElem?_cons_zero,ho] at g1
 exact ⟨k,rfl,by (unfold KD Vp;exact Qd hm hk g1)⟩
theorem EL {J:AH O} {mb tb:Nat} {sa:SA} {L:List Sp} {met:fX} {low count id:Int} (h:iM J mb tb sa L met low count) (hn:¬ De (L.map Sp.v) id):
  KD [.p (some (.n mb,0)),.i .i64 id] J=some (.p none,J):=by
 obtain ⟨el,hm⟩:=h.m
 by_cases h0:id<0
 ·(unfold KD Vp;exact IU hm)
 ·by_cases h1:id>=(L.length:Int)
  ·(unfold KD Vp;exact IU hm)
  ·have bp:id.toNat<L.length:=by omega
   obtain ⟨k,rfl,hk,_⟩:=h.HE.loc (by omega)
   have hs:=List.getElem?_eq_getElem bp
   have nN:L[id.toNat].op=false:=by
    cases ho:L[id.toNat].op with
    |false=>rfl
    |true=>exact absurd ⟨by omega,L[id.toNat].ws,by rw [List.getElem?_map,hs,Option.map_some,Sp.v,ho]⟩ hn
   have g1:=m7 Sp.len (j:=1) (by omega) hs
   simp only [Sp.cells,List.getElem?_cons_succ,List.getElem?_cons_zero,nN] at g1
   (unfold KD Vp;exact Qd hm hk g1)
def ah.new:ah:=⟨fX.zero,[],0,0⟩
theorem GA {J:AH O}:Ok (YP [] J) fun r=>∃ F,r.1=.p (some (.n J.next,0))/\bI r.2 J.next F ah.new/\Ext J r.2/\∀ b∈F,J.next<=b:=by
 (unfold YP qa4;refine bZ ?_)
 refine Ok.step N3 fun r ⟨g1,g2,g3,g4⟩=>?_
 obtain ⟨q,J1⟩:=r
 simp only at g1 g2 g3 g4
 subst g1
 simp only [cI] at g2 g4
 refine bZ ?_
 have e0:Ext J (J.az 1):=(Ext.refl J).az 1
 refine U.2 ⟨_,rfl,⟨_,.nil,[],rfl,rfl,⟨⟨_,by simp only [aH];rfl⟩,by simp;omega,?_,aY.nil _ _ _,BB.nil _ _ _,?_,?_,?_⟩⟩,(e0.trans g3).put (Nat.le_refl _) _,?_⟩
 ·exact g2.of (Nat.le_refl _) (by rw [aA (by omega)])
 ·omega
 ·simp [SA.bk]
 ·simp [ph]
 ·simp [cZ,SA.bk,ph]
theorem N6 {J:AH O} {mb:Nat} {F:List Nat} {M:ah} {id:Int} {w:List Int} (h:bI J mb F M) (h0:0<=id) (hw:M.sp[id.toNat]? = some (true,w)):Vq [.p (some (.n mb,0)),.i .i64 id] J=some (.aB [.i .i64 (w.length:Int),.i .i64 0],J):=by
 obtain ⟨tb,sa,L,rfl,e,hC⟩:=h
 rw [e,List.getElem?_map] at hw
 obtain ⟨s,hs,Vr⟩:=Option.map_eq_some_iff.1 hw
 simp only [Sp.v,Prod.mk.injEq] at Vr
 obtain ⟨ho,rfl⟩:=Vr
 obtain ⟨k,rfl,ha⟩:=qk hC h0 hs ho
 obtain ⟨k',e1,hk,_⟩:=hC.HE.loc (by have:=(List.getElem?_eq_some_iff.1 hs).1;omega)
 cases e1
 have g0:=m7 Sp.len (j:=0) (by omega) hs
 simp only [Sp.cells,List.getElem?_cons_zero,Nat.add_zero] at g0
 (unfold Vq qh1;exact Qd ha hk g0)
theorem iM.at {J:AH O} {mb tb:Nat} {sa:SA} {L:List Sp} {met:fX} {low count:Int} (h:iM J mb tb sa L met low count) {i:Nat} {s:Sp} (hs:L[i]? = some s):
  ∃ k,sa=.loc (.n k) 0 2/\J.aa k=some (.cells true N4 (L.flatMap Sp.cells))/\k<J.next/\(L.flatMap Sp.cells)[i*2]? = some (.sl s.a s.ws.length)/\aY J qj 1 s.a s.ws.length (eR s.ws):=by
 have bp:=(List.getElem?_eq_some_iff.1 hs).1
 obtain ⟨k,rfl,hk,qF⟩:=h.HE.loc (by omega)
 have g0:=m7 Sp.len (j:=0) (by omega) hs
 simp only [Sp.cells,List.getElem?_cons_zero,Nat.add_zero] at g0
 obtain ⟨n,ho⟩:=h.N5.own s.sl (List.mem_map.2 ⟨s,List.mem_of_getElem? hs,rfl⟩)
 have hn:=ho.len
 simp only [Sp.sl,fZ,Nat.mul_one] at hn
 subst hn
 exact ⟨k,rfl,hk,qF,g0,ho⟩
theorem kU {L:List Sp} {i:Nat} {s:Sp} (hs:L[i]? = some s) {b:Nat} (hb:b∈SA.bk s.a):b∈ph (L.map Sp.sl):=gD.2 ⟨s.sl,List.mem_map.2 ⟨s,List.mem_of_getElem? hs,rfl⟩,hb⟩
theorem nj {J:AH O} {mb tb:Nat} {sa:SA} {L:List Sp} {met:fX} {low count id at_ n:Int} (h:iM J mb tb sa L met low count) (hn:¬ De (L.map Sp.v) id):Df [.p (some (.n mb,0)),.i .i64 id,.i .i64 at_,.i .i64 n] J=some (.aB [.sl .nil 0,.i .i64 10],J):=by
 (unfold Df QJ;exact IU (EL h hn))
theorem kV {J:AH O} {mb tb:Nat} {sa:SA} {L:List Sp} {met:fX} {low count id at_ n:Int} (h:iM J mb tb sa L met low count) (h0:0<=id) {s:Sp} (hs:L[id.toNat]? = some s) (ho:s.op=true)
  (hl:s.ws.length<=4194304) (ha : -9223372036854775808<=at_/\at_<=9223372036854775807) (hw:n<0 ∨ at_<0 ∨ at_ > (s.ws.length:Int) ∨ n > (s.ws.length:Int) - at_):Df [.p (some (.n mb,0)),.i .i64 id,.i .i64 at_,.i .i64 n] J=some (.aB [.sl .nil 0,.i .i64 11],J):=by
 obtain ⟨k,rfl,cX⟩:=qk h h0 hs ho
 obtain ⟨k',e,hk,_,g0,_⟩:=h.at hs
 cases e
 by_cases c1:n<0
 ·(unfold Df QJ;exact IU cX)
 ·by_cases c2:at_<0
  ·(unfold Df QJ;exact IU cX)
  ·by_cases c3:at_ > (s.ws.length:Int)
   ·(unfold Df QJ;exact Qd cX hk g0)
   ·(unfold Df QJ;exact Qd cX hk g0)
theorem iW {J:AH O} {mb tb:Nat} {sa:SA} {L:List Sp} {met:fX} {low count id at_ n:Int} (h:iM J mb tb sa L met low count) (h0:0<=id) {s:Sp} (hs:L[id.toNat]? = some s) (ho:s.op=true)
  (hl:s.ws.length<=4194304) (h1:0<=n) (h2:0<=at_) (h3:at_+n<=(s.ws.length:Int)):∃ a',s.a.B4 at_.toNat 1=some a'/\Df [.p (some (.n mb,0)),.i .i64 id,.i .i64 at_,.i .i64 n] J=some (.aB [.sl a' n.toNat,.i .i64 0],J):=by
 obtain ⟨k,rfl,cX⟩:=qk h h0 hs ho
 obtain ⟨k',e,hk,_,g0,yU⟩:=h.at hs
 cases e
 obtain ⟨a',ha,_⟩:=yU.rd.B4 (lo:=at_.toNat) (m:=n.toNat) (by omega)
 refine ⟨a',ha,?_⟩
 have e1:(at_+n).toNat - at_.toNat=n.toNat:=by omega
 (unfold Df QJ;exact zU5 cX hk g0 ha e1)
theorem iM.step {J J':AH O} {mb tb:Nat} {sa:SA} {L:List Sp} {met YQ:fX} {low count:Int} (h:iM J mb tb sa L met low count) (hc:ei [tb] J J') (hm:gQ J' tb YQ):iM J' mb tb sa L YQ low count:=by
 have bp:=h.MM
 have key:∀ b∈cZ mb tb sa L,b≠tb->J'.aa b=J.aa b:=fun b hb db=>hc.aa b (bp b hb) (by simpa using db)
 refine ⟨?_,Nat.lt_of_lt_of_le h.mlt hc.next,hm,h.HE.of hc.next fun b hb=>key b (by simp [cZ,hb]) (h.n1 b hb).2,h.N5.of hc.next fun b hb=>key b (by simp [cZ,hb]) (h.n2 b hb).2.1,h.ne,h.n1,h.n2⟩
 rw [key mb (by simp [cZ]) h.ne];exact h.m
theorem sP {M:ah} {L:List Sp} {i:Nat} {w:List Int} (e:M.sp=L.map Sp.v) (hw:M.sp[i]? = some (true,w)):∃ s,L[i]? = some s/\s.op=true/\s.ws=w:=by
 rw [e,List.getElem?_map] at hw
 obtain ⟨s,hs,Vr⟩:=Option.map_eq_some_iff.1 hw
 simp only [Sp.v,Prod.mk.injEq] at Vr
 exact ⟨s,hs,Vr.1,Vr.2⟩
theorem ah.ok.len {M:ah} (h:M.ok) {i:Nat} {w:List Int} (hw:M.sp[i]? = some (true,w)):w.length<=4194304:=h.size _ (List.mem_of_getElem? hw)
def ah.rd (M:ah) (n:Int):ah:={M with met:={M.met with r:=M.met.r+n}}
def ah.wr (M:ah) (n:Int):ah:={M with met:={M.met with w:=M.met.w+n}}
def ah.put (M:ah) (i:Nat) (w:List Int):ah:={M with sp:=M.sp.set i (true,w)}
theorem qm {J:AH O} {el n m:Nat} {a a':SA} {cs:List AV} (h:aY J el 1 a n cs) (hm:m≠0) (bp:m<=n) {lo:Nat} (ha:a.B4 lo 1=some a'):∃ k,a=.loc (.n k) 0 1/\a'=.loc (.n k) lo 1/\J.aa k=some (.cells true el cs)/\k<J.next:=by
 obtain ⟨k,rfl,hk,qF⟩:=h.loc (by omega)
 rw [Ef] at ha
 cases ha
 exact ⟨k,rfl,by simp,hk,qF⟩
theorem N7 {J:AH O} {mb:Nat} {F:List Nat} {M:ah} {id at_:Int} {w:List Int} {x:Int} (h:bI J mb F M) (hM:M.ok) (h0:0<=id) (hw:M.sp[id.toNat]? = some (true,w)) (h1:0<=at_) (hx:w[at_.toNat]? = some x):
  Ok (yN [.p (some (.n mb,0)),.i .i64 id,.i .i64 at_] J) fun r=>r.1=.aB [.i .u64 x,.i .i64 0]/\bI r.2 mb F (M.rd 1)/\ei F J r.2:=by
 obtain ⟨tb,sa,L,rfl,e,hC⟩:=h
 obtain ⟨s,hs,ho,rfl⟩:=sP e hw
 have hxl:=(List.getElem?_eq_some_iff.1 hx).1
 obtain ⟨a',ha,Vs⟩:=iW (n:=1) hC h0 hs ho (hM.len hw) (by omega) h1 (by omega)
 obtain ⟨k',_,_,_,_,yU⟩:=hC.at hs
 obtain ⟨k,ea,N0,hk,qF⟩:=qm (m:=1) yU (by omega) (by omega) ha
 subst N0
 obtain ⟨DT,hm⟩:=hC.m
 have t1:(1:Int).toNat=1:=rfl
 (unfold yN YR;refine jE Vs t1 hm ?_)
 refine Ok.step (xC hC.met hM.met.r (by omega) (by omega)) fun r ⟨g1,g2,g3⟩=>?_
 obtain ⟨q,J1⟩:=r
 simp only at g1 g2 g3
 subst g1
 have Gx:k∈ph (L.map Sp.sl):=kU hs (by rw [ea];simp [SA.bk])
 have vN:J1.aa k=_:=(g3.aa k qF (by simpa using (hC.n2 k Gx).2.1)).trans hk
 have gx:=KC hx
 refine jE vN gx @Nat.add_zero ?_
 refine U.2 ⟨rfl,⟨tb,sa,L,rfl,e,hC.step g3 g2⟩,g3.mono fun b hb=>.inl (by simp at hb;subst hb;simp [cZ])⟩
theorem iM.write {J:AH O} {mb tb:Nat} {sa:SA} {L:List Sp} {met:fX} {low count:Int} (h:iM J mb tb sa L met low count) {i:Nat} {s:Sp} (hs:L[i]? = some s) {k:Nat} (ha:s.a=.loc (.n k) 0 1) (hk:J.aa k=some (.cells true qj (eR s.ws))) {w':List Int} (hl:w'.length=s.ws.length):
  iM (J.put k (.cells true qj (eR w'))) mb tb sa (L.set i {s with ws:=w'}) met low count/\cZ mb tb sa (L.set i {s with ws:=w'})=cZ mb tb sa L/\k∈cZ mb tb sa L:=by
 have Gx:k∈SA.bk s.a:=by rw [ha];simp [SA.bk]
 have wN:=kU hs Gx
 have SN:=h.n2 k wN
 have iU:(L.map Sp.sl)[i]? = some s.sl:=by rw [List.getElem?_map,hs];rfl
 have u9:(L.set i {s with ws:=w'}).map Sp.sl=(L.map Sp.sl).set i (s.a,eR w'):=by rw [List.map_set];rfl
 have FQ:ph ((L.map Sp.sl).set i (s.a,eR w'))=ph (L.map Sp.sl):=by
  unfold ph
  rw [List.flatMap_def,List.flatMap_def,List.map_set]
  congr 1
  apply List.ext_getElem?
  intro j
  rw [List.getElem?_set]
  split
  ·rename_i pj;subst pj
   rw [List.getElem?_map,iU]
   have:=(List.getElem?_eq_some_iff.1 iU).1
   have YS:i<L.length:=by simpa using this
   simp [Sp.sl,YS]
  ·rfl
 have YT:(L.set i {s with ws:=w'}).flatMap Sp.cells=L.flatMap Sp.cells:=by
  rw [List.flatMap_def,List.flatMap_def,List.map_set]
  congr 1
  apply List.ext_getElem?
  intro j
  rw [List.getElem?_set]
  split
  ·rename_i pj;subst pj
   rw [List.getElem?_map,hs]
   have:=(List.getElem?_eq_some_iff.1 hs).1
   simp [Sp.cells,hl,this]
  ·rfl
 obtain ⟨n,ho⟩:=h.N5.own s.sl (List.mem_of_getElem? iU)
 have bp:=ho.lt k Gx
 refine ⟨⟨?_,h.mlt,h.met.of (Nat.le_refl _) (aA (fun e=>SN.2.1 e.symm)),?_,?_,h.ne,h.n1,?_⟩,?_,?_⟩
 ·rw [aA (fun e=>SN.1 e.symm),List.length_set];exact h.m
 ·rw [List.length_set,YT]
  exact h.HE.of (Nat.le_refl _) fun b hb=>aA fun e=>SN.2.2 (e▸hb)
 ·rw [u9]
  refine h.N5.set iU (Nat.le_refl _) (fun b _ hb=>aA fun e=>hb (by rw [e];exact Gx)) ⟨s.ws.length,?_⟩ fun b hb=>.inl hb
  show aY _ qj 1 s.a _ (eR w')
  rw [ha]
  exact aY.new (by simp [fZ,hl]) aH bp
 ·rw [u9,FQ];exact h.n2
 ·simp only [cZ,u9,FQ]
 ·simp [cZ,wN]
theorem KE {J:AH O} {mb:Nat} {F:List Nat} {M:ah} {id at_ x:Int} {w:List Int} (h:bI J mb F M) (hM:M.ok) (h0:0<=id) (hw:M.sp[id.toNat]? = some (true,w)) (h1:0<=at_) (h2:at_<w.length):
  Ok (yO [.p (some (.n mb,0)),.i .i64 id,.i .i64 at_,.i .u64 x] J) fun r=>r.1=.i .i64 0/\bI r.2 mb F ((M.wr 1).put id.toNat (w.set at_.toNat x))/\ei F J r.2:=by
 obtain ⟨tb,sa,L,rfl,e,hC⟩:=h
 obtain ⟨s,hs,ho,rfl⟩:=sP e hw
 obtain ⟨a',ha,Vs⟩:=iW (n:=1) hC h0 hs ho (hM.len hw) (by omega) h1 (by omega)
 obtain ⟨k',_,_,_,_,yU⟩:=hC.at hs
 obtain ⟨k,ea,N0,hk,qF⟩:=qm (m:=1) yU (by omega) (by omega) ha
 subst N0
 obtain ⟨DT,hm⟩:=hC.m
 have t1:(1:Int).toNat=1:=rfl
 (unfold yO YU;refine jE Vs t1 hm ?_)
 refine Ok.step (rS hC.met hM.met.w (by omega) (by omega)) fun r ⟨g1,g2,g3⟩=>?_
 obtain ⟨q,J1⟩:=r
 simp only at g1 g2 g3
 subst g1
 have Gx:k∈ph (L.map Sp.sl):=kU hs (by rw [ea];simp [SA.bk])
 have vN:J1.aa k=_:=(g3.aa k qF (by simpa using (hC.n2 k Gx).2.1)).trans hk
 have Bt:bQ (eR s.ws) at_.toNat [.i .u64 x]=eR (s.ws.set at_.toNat x):=by
  rw [jg (by rw [fZ];omega)];simp [eR,List.map_set]
 refine jE vN @fZ Bt ?_
 have zI:=hC.step g3 g2
 obtain ⟨q1,q2,q3⟩:=zI.write hs ea vN (w':=s.ws.set at_.toNat x) (by simp)
 refine U.2 ⟨rfl,⟨tb,sa,_,q2.symm,?_,q1⟩,(g3.mono fun b hb=>.inl (by simp at hb;subst hb;simp [cZ])).put (.inl q3) _⟩
 simp only [ah.put,ah.wr,e,List.map_set,Sp.v,ho]
def cu (w:List Int) (at_:Nat) (v:List Int):List Int:=w.take at_++v++w.drop (at_+v.length)
theorem eW {w v:List Int} {a:Nat} (h:a+v.length<=w.length):(cu w a v).length=w.length:=by simp [cu];omega
theorem mK (w v:List Int) (a:Nat):bQ (eR w) a (eR v)=eR (cu w a v):=by
 simp [bQ,cu,eR,List.map_take,List.map_drop]
theorem A4 {M:ah} {i:Nat} {w:List Int} (hw:M.sp[i]? = some (true,w)):M.put i w=M:=by
 have:M.sp.set i (true,w)=M.sp:=by
  apply List.ext_getElem?
  intro j
  rw [List.getElem?_set]
  split
  ·rename_i pj;subst pj
   have:=(List.getElem?_eq_some_iff.1 hw).1
   rw [hw];simp [this]
  ·rfl
 cases M;simp only [ah.put] at *;rw [this]
theorem sB (w:List Int) (a:Nat):cu w a []=w:=by simp [cu]
theorem N8 {J:AH O} {mb:Nat} {F:List Nat} {M:ah} {id at_ n:Int} {w:List Int} (h:bI J mb F M) (hM:M.ok) (h0:0<=id) (hw:M.sp[id.toNat]? = some (true,w)) (h1:0<=at_) (hn:0<=n) (h2:at_+n<=w.length):
  Ok (HF [.p (some (.n mb,0)),.i .i64 id,.i .i64 at_,.i .i64 n] J) fun r=>r.1=.i .i64 0/\bI r.2 mb F ((M.wr n).put id.toNat (cu w at_.toNat (List.replicate n.toNat 0)))/\ei F J r.2:=by
 have h':=h
 obtain ⟨tb,sa,L,rfl,e,hC⟩:=h
 obtain ⟨s,hs,ho,rfl⟩:=sP e hw
 have hlen:=hM.len hw
 obtain ⟨a',ha,Vs⟩:=iW (n:=n) hC h0 hs ho hlen hn h1 h2
 obtain ⟨k',_,_,_,_,yU⟩:=hC.at hs
 obtain ⟨DT,hm⟩:=hC.m
 by_cases hz:n=0
 ·subst hz
  have t0:(0:Int).toNat=0:=rfl
  (unfold HF Vt;refine BA Vs hm t0 @xD ?_)
  refine U.2 ⟨rfl,?_,ei.refl _ _⟩
  rw [List.replicate_zero,sB]
  have:M.wr 0=M:=by simp [ah.wr]
  rw [this,A4 hw];exact h'
 ·obtain ⟨k,ea,N0,hk,qF⟩:=qm (m:=n.toNat) yU (by omega) (by omega) ha
  subst N0
  have z:Nat.beq n.toNat 0=false:=RX (by omega)
  (unfold HF Vt;refine jE Vs hm z ?_)
  refine Ok.step (rS hC.met hM.met.w (by omega) (by omega)) fun r ⟨g1,g2,g3⟩=>?_
  obtain ⟨q,J1⟩:=r
  simp only at g1 g2 g3
  subst g1
  have Gx:k∈ph (L.map Sp.sl):=kU hs (by rw [ea];simp [SA.bk])
  have vN:J1.aa k=_:=(g3.aa k qF (by simpa using (hC.n2 k Gx).2.1)).trans hk
  refine rl vN @fZ @qi @mK @List.length_replicate.{0} ?_
  have zI:=hC.step g3 g2
  obtain ⟨q1,q2,q3⟩:=zI.write hs ea vN (w':=cu s.ws at_.toNat (List.replicate n.toNat 0)) (eW (by simp;omega))
  refine U.2 ⟨rfl,⟨tb,sa,_,q2.symm,?_,q1⟩,(g3.mono fun b hb=>.inl (by simp at hb;subst hb;simp [cZ])).put (.inl q3) _⟩
  simp only [ah.put,ah.wr,e,List.map_set,Sp.v,ho]
theorem N9 {J:AH O} {mb:Nat} {F:List Nat} {M:ah} {fr at_ to de n:Int} {w v:List Int} (h:bI J mb F M) (hM:M.ok) (h0:0<=fr) (hw:M.sp[fr.toNat]? = some (true,w)) (h1:0<=at_) (hn:0<=n) (h2:at_+n<=w.length)
  (k0:0<=to) (hv:M.sp[to.toNat]? = some (true,v)) (k1:0<=de) (k2:de+n<=v.length):
  Ok (HB [.p (some (.n mb,0)),.i .i64 fr,.i .i64 at_,.i .i64 to,.i .i64 de,.i .i64 n] J) fun r=>r.1=.i .i64 0/\bI r.2 mb F (((M.rd n).wr n).put to.toNat (cu v de.toNat ((w.drop at_.toNat).take n.toNat)))/\ei F J r.2:=by
 have h':=h
 obtain ⟨tb,sa,L,rfl,e,hC⟩:=h
 obtain ⟨s,hs,ho,rfl⟩:=sP e hw
 obtain ⟨s2,vn,Wu,rfl⟩:=sP e hv
 have hlen:=hM.len hw
 have YV:=hM.len hv
 obtain ⟨a1,ha1,YW⟩:=iW (n:=n) hC h0 hs ho hlen hn h1 h2
 obtain ⟨a2,ha2,YX⟩:=iW (n:=n) hC k0 vn Wu YV hn k1 k2
 obtain ⟨_,_,_,_,_,yU⟩:=hC.at hs
 obtain ⟨_,_,_,_,_,ajq⟩:=hC.at vn
 obtain ⟨DT,hm⟩:=hC.m
 by_cases hz:n=0
 ·subst hz
  have t0:(0:Int).toNat=0:=rfl
  (unfold HB QK;refine rl YW YX hm t0 (cj @xD @Nat.min_self) ?_)
  refine U.2 ⟨rfl,?_,ei.refl _ _⟩
  rw [sB]
  have:(M.rd 0).wr 0=M:=by simp [ah.wr,ah.rd]
  rw [this,A4 hv];exact h'
 ·obtain ⟨k,ea,N0,hk,qF⟩:=qm (m:=n.toNat) yU (by omega) (by omega) ha1
  obtain ⟨k',fa,fa',hl,D9⟩:=qm (m:=n.toNat) ajq (by omega) (by omega) ha2
  subst N0;subst fa'
  have z:Nat.beq n.toNat 0=false:=RX (by omega)
  (unfold HB QK;refine rl YW YX hm z @Nat.min_self ?_)
  refine Ok.step (xC hC.met hM.met.r (by omega) (by omega)) fun r ⟨g1,g2,g3⟩=>?_
  obtain ⟨q,J1⟩:=r
  simp only at g1 g2 g3
  subst g1
  have zI:=hC.step g3 g2
  obtain ⟨Cm,NW⟩:=zI.m
  refine cw NW ?_
  refine Ok.step (rS zI.met hM.met.w (by omega) (by omega)) fun r ⟨g4,g5,g6⟩=>?_
  obtain ⟨q,J2⟩:=r
  simp only at g4 g5 g6
  subst g4
  have Gx:k∈ph (L.map Sp.sl):=kU hs (by rw [ea];simp [SA.bk])
  have Ux:k'∈ph (L.map Sp.sl):=kU vn (by rw [fa];simp [SA.bk])
  have G:=g3.trans g6
  have vN:J2.aa k=_:=(G.aa k qF (by simpa using (hC.n2 k Gx).2.1)).trans hk
  have UB:J2.aa k'=_:=(G.aa k' D9 (by simpa using (hC.n2 k' Ux).2.1)).trans hl
  have ht:((eR s.ws).drop at_.toNat).take n.toNat=eR ((s.ws.drop at_.toNat).take n.toNat):=by simp [eR,List.map_take,List.map_drop]
  have hll:((s.ws.drop at_.toNat).take n.toNat).length=n.toNat:=by simp;omega
  simp (maxSteps:=2000000) -implicitDefEqProofs (disch:=(first |omega |rfl |assumption |(simp only [aO];first |omega |assumption))) only [vN,UB,fZ,mK,ht,hll,Nat.reduceAdd,Nat.reduceMul,Nat.reduceLT,Int.reduceToNat,Int.reduceAdd,Int.reduceSub,Int.reduceMul,eA,gM]
  have hC2:=zI.step g6 g5
  obtain ⟨q1,q2,q3⟩:=hC2.write vn fa UB (w':=cu s2.ws de.toNat ((s.ws.drop at_.toNat).take n.toNat)) (eW (by rw [hll];omega))
  refine U.2 ⟨rfl,⟨tb,sa,_,q2.symm,?_,q1⟩,(G.mono fun b hb=>.inl (by simp at hb;subst hb;simp [cZ])).put (.inl q3) _⟩
  simp only [ah.put,ah.wr,ah.rd,e,List.map_set,Sp.v,Wu]
end Go.Abs.Tryz
namespace Go.Abs.Tryz
open Go Go.Abs
variable {O:Type}
theorem N' {J:AH O} {mb:Nat} {F:List Nat} {M:ah} {id at_:Int} (h:bI J mb F M) (hn:¬ De M.sp id):yN [.p (some (.n mb,0)),.i .i64 id,.i .i64 at_] J=some (.aB [.i .u64 0,.i .i64 10],J):=by
 obtain ⟨tb,sa,L,rfl,e,hC⟩:=h
 rw [e] at hn
 simp (maxSteps:=2000000) -implicitDefEqProofs (disch:=(first |omega |rfl |assumption |(simp only [aO];first |omega |assumption))) only [yN,YR,nj hC hn,Nat.reduceAdd,Nat.reduceMul,Nat.reduceLT,Int.reduceToNat,Int.reduceAdd,Int.reduceSub,Int.reduceMul,eA,gM]
theorem KF {J:AH O} {mb:Nat} {F:List Nat} {M:ah} {id at_:Int} {w:List Int} (h:bI J mb F M) (hM:M.ok) (h0:0<=id) (hw:M.sp[id.toNat]? = some (true,w)) (ha : -9223372036854775808<=at_/\at_<=9223372036854775807) (h1:at_<0 ∨ at_>=w.length):
  yN [.p (some (.n mb,0)),.i .i64 id,.i .i64 at_] J=some (.aB [.i .u64 0,.i .i64 11],J):=by
 obtain ⟨tb,sa,L,rfl,e,hC⟩:=h
 obtain ⟨s,hs,ho,rfl⟩:=sP e hw
 simp (maxSteps:=2000000) -implicitDefEqProofs (disch:=(first |omega |rfl |assumption |(simp only [aO];first |omega |assumption))) only [yN,YR,kV (n:=1) hC h0 hs ho (hM.len hw) ha (by omega),Nat.reduceAdd,Nat.reduceMul,Nat.reduceLT,Int.reduceToNat,Int.reduceAdd,Int.reduceSub,Int.reduceMul,eA,gM]
theorem KG {J:AH O} {mb:Nat} {F:List Nat} {M:ah} {id at_ x:Int} (h:bI J mb F M) (hn:¬ De M.sp id):yO [.p (some (.n mb,0)),.i .i64 id,.i .i64 at_,.i .u64 x] J=some (.i .i64 10,J):=by
 obtain ⟨tb,sa,L,rfl,e,hC⟩:=h
 rw [e] at hn
 simp (maxSteps:=2000000) -implicitDefEqProofs (disch:=(first |omega |rfl |assumption |(simp only [aO];first |omega |assumption))) only [yO,YU,nj hC hn,Nat.reduceAdd,Nat.reduceMul,Nat.reduceLT,Int.reduceToNat,Int.reduceAdd,Int.reduceSub,Int.reduceMul,eA,gM]
theorem GB {J:AH O} {mb:Nat} {F:List Nat} {M:ah} {id at_ x:Int} {w:List Int} (h:bI J mb F M) (hM:M.ok) (h0:0<=id) (hw:M.sp[id.toNat]? = some (true,w)) (ha : -9223372036854775808<=at_/\at_<=9223372036854775807) (h1:at_<0 ∨ at_>=w.length):
  yO [.p (some (.n mb,0)),.i .i64 id,.i .i64 at_,.i .u64 x] J=some (.i .i64 11,J):=by
 obtain ⟨tb,sa,L,rfl,e,hC⟩:=h
 obtain ⟨s,hs,ho,rfl⟩:=sP e hw
 simp (maxSteps:=2000000) -implicitDefEqProofs (disch:=(first |omega |rfl |assumption |(simp only [aO];first |omega |assumption))) only [yO,YU,kV (n:=1) hC h0 hs ho (hM.len hw) ha (by omega),Nat.reduceAdd,Nat.reduceMul,Nat.reduceLT,Int.reduceToNat,Int.reduceAdd,Int.reduceSub,Int.reduceMul,eA,gM]
theorem Oa {J:AH O} {mb:Nat} {F:List Nat} {M:ah} {id at_ n:Int} (h:bI J mb F M) (hn:¬ De M.sp id):HF [.p (some (.n mb,0)),.i .i64 id,.i .i64 at_,.i .i64 n] J=some (.i .i64 10,J):=by
 obtain ⟨tb,sa,L,rfl,e,hC⟩:=h
 rw [e] at hn
 simp (maxSteps:=2000000) -implicitDefEqProofs (disch:=(first |omega |rfl |assumption |(simp only [aO];first |omega |assumption))) only [HF,Vt,nj hC hn,Nat.reduceAdd,Nat.reduceMul,Nat.reduceLT,Int.reduceToNat,Int.reduceAdd,Int.reduceSub,Int.reduceMul,eA,gM]
theorem KH {J:AH O} {mb:Nat} {F:List Nat} {M:ah} {id at_ n:Int} {w:List Int} (h:bI J mb F M) (hM:M.ok) (h0:0<=id) (hw:M.sp[id.toNat]? = some (true,w)) (ha : -9223372036854775808<=at_/\at_<=9223372036854775807) (h1:n<0 ∨ at_<0 ∨ at_ > (w.length:Int) ∨ n > (w.length:Int) - at_):
  HF [.p (some (.n mb,0)),.i .i64 id,.i .i64 at_,.i .i64 n] J=some (.i .i64 11,J):=by
 obtain ⟨tb,sa,L,rfl,e,hC⟩:=h
 obtain ⟨s,hs,ho,rfl⟩:=sP e hw
 (unfold HF Vt;exact IU (kV hC h0 hs ho (hM.len hw) ha h1))
theorem iM.YY {J J':AH O} {mb tb:Nat} {sa:SA} {L:List Sp} {met:fX} {low count YZ KI:Int} (h:iM J mb tb sa L met low count) {i:Nat} {s s':Sp} (hs:L[i]? = some s) {k:Nat} (hk:sa=.loc (.n k) 0 2) (hn:J.next<=J'.next)
  (hb:∀ b∈cZ mb tb sa L,b≠k->b≠mb->J'.aa b=J.aa b) (Bt:J'.aa k=some (.cells true N4 ((L.set i s').flatMap Sp.cells)))
  (hm:∃ el,J'.aa mb=some (.cells true el [.p (some (.n tb,0)),.sl sa L.length,.i .i64 YZ,.i .i64 KI])) (yU:∃ n,aY J' qj 1 s'.a n (eR s'.ws)) (hf:∀ b∈SA.bk s'.a,J.next<=b):
  iM J' mb tb sa (L.set i s') met YZ KI/\Fp (cZ mb tb sa L) (cZ mb tb sa (L.set i s')) J:=by
 have Y0:=h.MM
 have iU:(L.map Sp.sl)[i]? = some s.sl:=by rw [List.getElem?_map,hs];rfl
 have u9:(L.set i s').map Sp.sl=(L.map Sp.sl).set i s'.sl:=by rw [List.map_set]
 have kb:k∈SA.bk sa:=by rw [hk];simp [SA.bk]
 have wN:=h.n1 k kb
 have hle:=h.HE.len
 refine ⟨⟨by rw [List.length_set];exact hm,Nat.lt_of_lt_of_le h.mlt hn,h.met.of hn (hb tb (by simp [cZ]) (fun e=>wN.2 e.symm) (fun e=>h.ne e.symm)),?_,?_,h.ne,h.n1,?_⟩,?_⟩
 ·rw [hk]
  exact aY.new (by rw [uH Sp.len]) Bt (Nat.lt_of_lt_of_le (Y0 k (by simp [cZ,kb])) hn)
 ·rw [u9]
  refine h.N5.set iU hn (fun b dI _=>?_) yU fun b dI=>.inr fun MK=>?_
  ·have:=h.n2 b dI
   exact hb b (by simp [cZ,dI]) (fun e=>this.2.2 (e▸kb)) this.1
  ·have:=hf b dI
   have:=Y0 b (by simp [cZ,MK]);omega
 ·intro b dI
  rw [u9] at dI
  rcases Ei dI with g |g
  ·have:=hf b g
   exact ⟨fun e=>by have:=h.mlt;omega,fun e=>by have:=h.met.lt;omega,fun MK=>by have:=h.HE.lt b MK;omega⟩
  ·exact h.n2 b g
 ·intro b dI
  simp only [cZ,List.mem_cons,List.mem_append,u9] at dI ⊢
  rcases dI with g |g |g |g
  ·exact .inl (.inl g)
  ·exact .inl (.inr (.inl g))
  ·exact .inl (.inr (.inr (.inl g)))
  ·rcases Ei g with g |g
   ·exact .inr (hf b g)
   ·exact .inl (.inr (.inr (.inr g)))
end Go.Abs.Tryz
namespace Go.Abs.Tryz
open Go Go.Abs
variable {O:Type}
def ah.grow (M:ah) (i:Nat) (w:List Int) (n:Int):ah:={M with met:=M.met.hold (n - w.length),sp:=M.sp.set i (true,w++List.replicate (n.toNat - w.length) 0)}
theorem tm {l:List Nat} {i x:Nat} {y:Nat} (h:l[i]? = some y):(l.set i x).sum+y=l.sum+x:=by
 induction l generalizing i with
 |nil=>simp at h
 |cons z l ih=>
  cases i with
  |zero=>simp at h;subst h;simp;omega
  |succ i=>simp at h;have:=ih h;simp;omega
theorem xE {M:ah} (hM:M.ok) {i:Nat} {w:List Int} (hw:M.sp[i]? = some (true,w)) {n:Int} (h1:(w.length:Int)<=n) (h2:n<=4194304):M.met.held+(n - w.length)<=281474976710656:=by
 have:=hM.bound
 omega
theorem Oc {J:AH O} {mb:Nat} {F:List Nat} {M:ah} {id n:Int} {w:List Int} (h:bI J mb F M) (hM:M.ok) (h0:0<=id) (hw:M.sp[id.toNat]? = some (true,w)) (h1:(w.length:Int)<=n) (h2:n<=4194304):
  Ok (HG [.p (some (.n mb,0)),.i .i64 id,.i .i64 n] J) fun r=>r.1=.i .i64 0/\∃ F',bI r.2 mb F' (M.grow id.toNat w n)/\ei F J r.2/\Fp F F' J:=by
 have pP:=xE hM hw h1 h2
 obtain ⟨tb,sa,L,rfl,e,hC⟩:=h
 obtain ⟨s,hs,ho,rfl⟩:=sP e hw
 have hlen:=hM.len hw
 obtain ⟨k,rfl,cX⟩:=qk hC h0 hs ho
 obtain ⟨k',e1,hk,qF,g0,yU⟩:=hC.at hs
 cases e1
 obtain ⟨DT,hm⟩:=hC.m
 have Y1:=hC.n1 k (by simp [SA.bk])
 have kmb:=Y1.1
 have ktb:=Y1.2
 have Y2:=hC.mlt
 (unfold HG Vu;refine BA cX hk g0 hm ?_)
 refine Ok.step (qh hC.met hM.met (by omega) pP) fun r ⟨g1,g2,g3⟩=>?_
 obtain ⟨q,J1⟩:=r
 simp only at g1 g2 g3
 subst g1
 have zI:=hC.step g3 g2
 have vN:J1.aa k=_:=(g3.aa k qF (by simpa using ktb)).trans hk
 have NW:J1.aa mb=_:=(g3.aa mb Y2 (by simpa using hC.ne)).trans hm
 have bp:=(List.getElem?_eq_some_iff.1 hs).1
 have Cw:=uH Sp.len L
 have vI:=g3.next
 have Y3:aY J1 qj 1 s.a s.ws.length (eR s.ws):=yU.of vI fun b hb=>by
  have dI:=kU hs hb
  exact g3.aa b (yU.lt b hb) (by simpa using (hC.n2 b dI).2.1)
 have key:∀ J2:AH O,J2.next=J1.next+1->(∀ b,b<J1.next->J2.aa b=J1.aa b)->J2.aa J1.next=some (.cells true qj (eR (s.ws++List.replicate (n.toNat - s.ws.length) 0)))->
   Ok (((SA.ref (.loc (.n k) 0 2)).bind fun q=>J2.st q.1 (q.2+id.toNat*2) [.sl (.loc (.n J1.next) 0 1) n.toNat]).bind fun J3=>some (AV.i .i64 0,J3)) fun r=>r.1=.i .i64 0/\∃ F',bI r.2 mb F' (M.grow id.toNat s.ws n)/\ei (cZ mb tb (.loc (.n k) 0 2) L) J r.2/\Fp (cZ mb tb (.loc (.n k) 0 2) L) F' J:=by
  intro J2 n2 b2 w2
  have wR:J2.aa k=_:=(b2 k (by omega)).trans vN
  have Bt:bQ (L.flatMap Sp.cells) (id.toNat*2) [.sl (.loc (.n J1.next) 0 1) n.toNat]=(L.set id.toNat ⟨.loc (.n J1.next) 0 1,true,s.ws++List.replicate (n.toNat - s.ws.length) 0⟩).flatMap Sp.cells:=by
   have:=rn Sp.len L id.toNat 0 [.sl (.loc (.n J1.next) 0 1) n.toNat] s ⟨.loc (.n J1.next) 0 1,true,s.ws++List.replicate (n.toNat - s.ws.length) 0⟩ hs (by simp) (by
    have e9:n.toNat=s.ws.length+(n.toNat - s.ws.length):=by omega
    simp only [Sp.cells,ri,uG,ho,List.length_append,List.length_replicate];rw [<-e9])
   simpa using this
  refine jE wR Cw Bt ?_
  obtain ⟨q1,q2⟩:=zI.YY (J':=J2.put k (.cells true N4 ((L.set id.toNat ⟨.loc (.n J1.next) 0 1,true,s.ws++List.replicate (n.toNat - s.ws.length) 0⟩).flatMap Sp.cells)))
   hs (s':=⟨.loc (.n J1.next) 0 1,true,s.ws++List.replicate (n.toNat - s.ws.length) 0⟩) rfl (by simp only [bR];omega) (fun b hb h1 h2=>by
    rw [aA h1];exact b2 b (zI.MM b hb)) aH (by rw [aA (fun e=>kmb e.symm),b2 mb (by omega)];exact ⟨DT,NW⟩)
   ⟨n.toNat,aY.new (by simp [fZ];omega) (by rw [aA (by omega)];exact w2) (by simp only [bR];omega)⟩ (by simp [SA.bk])
  refine U.2 ⟨rfl,_,⟨tb,_,_,rfl,?_,q1⟩,?_,fun b hb=>?_⟩
  ·simp only [ah.grow,e,List.map_set,Sp.v]
  ·refine ei.put ?_ (.inl (by simp [cZ,SA.bk])) _
   exact ⟨by omega,fun b hb hn=>by rw [b2 b (by omega)];exact g3.aa b hb fun hm=>hn (by simp at hm;subst hm;simp [cZ])⟩
  ·rcases q2 b hb with g |g
   ·exact .inl g
   ·exact .inr (by omega)
 have hmn:min s.ws.length n.toNat=s.ws.length:=by omega
 by_cases hz:s.ws.length=0
 ·have h00:s.ws=[]:=List.eq_nil_of_length_eq_zero hz
  have z:Nat.beq (min s.ws.length n.toNat) 0=true:=by rw [hmn,hz];rfl
  refine BA vN g0 z @qi ?_
  have:=key ((J1.az 1).put J1.next (.cells true qj (eR (List.replicate n.toNat 0)))) (by simp) (fun b hb=>by rw [aA (by omega)];rfl) (by rw [aH,h00];simp)
  simp (maxSteps:=2000000) -implicitDefEqProofs (disch:=(first |omega |rfl |assumption |(simp only [aO];first |omega |assumption))) only [vN,Nat.reduceAdd,Nat.reduceMul,Nat.reduceLT,Int.reduceToNat,Int.reduceAdd,Int.reduceSub,Int.reduceMul,eA,gM] at this
  exact this
 ·have z:Nat.beq s.ws.length 0=false:=RX hz
  have hr:=(Y3.of (J':=(J1.az 1).put J1.next (.cells true qj (eR (List.replicate n.toNat 0)))) (by simp) fun b hb=>by
   have:=Y3.lt b hb
   rw [aA (by omega)];rfl).rd.bT
  have hp:bQ (eR (List.replicate n.toNat 0)) 0 (eR s.ws)=eR (s.ws++List.replicate (n.toNat - s.ws.length) 0):=by
   rw [mK];simp [cu]
  refine rl vN g0 hmn z (cj @qi (cj hr (cj @fZ (cj @List.length_replicate.{0} hp)))) ?_
  have:=key ((J1.az 1).put J1.next (.cells true qj (eR (s.ws++List.replicate (n.toNat - s.ws.length) 0)))) (by simp) (fun b hb=>by rw [aA (by omega)];rfl) aH
  simp (maxSteps:=2000000) -implicitDefEqProofs (disch:=(first |omega |rfl |assumption |(simp only [aO];first |omega |assumption))) only [vN,Nat.reduceAdd,Nat.reduceMul,Nat.reduceLT,Int.reduceToNat,Int.reduceAdd,Int.reduceSub,Int.reduceMul,eA,gM] at this
  exact this
theorem Od {J:AH O} {mb:Nat} {F:List Nat} {M:ah} {id n:Int} (h:bI J mb F M) (hn:¬ De M.sp id):HG [.p (some (.n mb,0)),.i .i64 id,.i .i64 n] J=some (.i .i64 10,J):=by
 obtain ⟨tb,sa,L,rfl,e,hC⟩:=h
 rw [e] at hn
 (unfold HG Vu;exact IU (EL hC hn))
theorem A5 {J:AH O} {mb:Nat} {F:List Nat} {M:ah} {id n:Int} {w:List Int} (h:bI J mb F M) (h0:0<=id) (hw:M.sp[id.toNat]? = some (true,w)) (h1:n<w.length ∨ n > 4194304):
  HG [.p (some (.n mb,0)),.i .i64 id,.i .i64 n] J=some (.i .i64 (if n<w.length then 1 else 7),J):=by
 obtain ⟨tb,sa,L,rfl,e,hC⟩:=h
 obtain ⟨s,hs,ho,rfl⟩:=sP e hw
 obtain ⟨k,rfl,cX⟩:=qk hC h0 hs ho
 obtain ⟨k',e1,hk,qF,g0,yU⟩:=hC.at hs
 cases e1
 by_cases hc:n<s.ws.length
 ·(unfold HG Vu;refine jE cX hk g0 ?_)
  rw [if_pos hc]
 ·(unfold HG Vu;refine jE cX hk g0 ?_)
  rw [if_neg hc]
end Go.Abs.Tryz
namespace Go.Abs.Tryz
open Go Go.Abs
variable {O:Type}
structure Dg (l:List (Bool × List Int)) (i:Nat):Prop where
 le:i<=l.length
 below:∀ j,j<i->∃ w,l[j]? = some (true,w)
 here:∀ s,l[i]? = some s->s.1=false
theorem Dg.uniq {l:List (Bool × List Int)} {i j:Nat} (h:Dg l i) (k:Dg l j):i=j:=by
 rcases Nat.lt_trichotomy i j with hh |hh |hh
 ·obtain ⟨w,hw⟩:=k.below i hh
  have:=h.here _ hw;cases this
 ·exact hh
 ·obtain ⟨w,hw⟩:=h.below j hh
  have:=k.here _ hw;cases this
def fM (l:List (Bool × List Int)) (i:Nat) (x:Bool × List Int):List (Bool × List Int):=if i<l.length then l.set i x else l++[x]
def ah.iv (M:ah) (i:Nat) (n:Int):ah:=⟨M.met.hold n,fM M.sp i (true,List.replicate n.toNat 0),i+1,M.count+1⟩
theorem Oe {J:AH O} {mb:Nat} {F:List Nat} {M:ah} {n:Int} (h:bI J mb F M) (hM:M.ok) (h1:0<=n) (h2:n<=4194304) (h3:M.count<262144):
  Ok (AN [.p (some (.n mb,0)),.i .i64 n] J) fun r=>∃ i:Nat,Dg M.sp i/\r.1=.aB [.i .i64 i,.i .i64 0]/\∃ F',bI r.2 mb F' (M.iv i n)/\ei F J r.2/\Fp F F' J:=by
 have pP:M.met.held+n<=281474976710656:=by have:=hM.bound;omega
 obtain ⟨tb,sa,L,rfl,e,hC⟩:=h
 obtain ⟨DT,hm⟩:=hC.m
 have SU:=hM.low
 have Gs:=hM.bW
 have hlen:M.sp.length=L.length:=by rw [e,List.length_map]
 rw [hlen] at SU Gs
 have Y2:=hC.mlt
 (unfold AN Vv;refine cw hm ?_)
 refine Ok.step (Q:=fun r=>∃ i:Nat,Dg M.sp i/\r=([.i .i64 (i:Int)],J)) ?_ ?_
 ·refine Ok.loop (fun k s=>∃ j:Nat,s=([.i .i64 (j:Int)],J)/\j<=L.length/\k=L.length - j/\∀ q,q<j->∃ w,M.sp[q]? = some (true,w)) ?_ (L.length - M.low.toNat) _ ⟨M.low.toNat,by rw [Int.toNat_of_nonneg SU.1],by omega,rfl,fun q hq=>?_⟩
  ·rintro k s ⟨j,rfl,hj,rfl,hq⟩
   by_cases I9:j<L.length
   ·have hs:=List.getElem?_eq_getElem I9
    obtain ⟨k,rfl,hk,qF,g0,yU⟩:=hC.at hs
    have g1:=m7 Sp.len (j:=1) (by omega) hs
    simp only [Sp.cells,List.getElem?_cons_succ,List.getElem?_cons_zero] at g1
    (unfold qbj;refine jE hm hk g1 ?_)
    cases ho:L[j].op with
    |true=>
     refine bZ ?_
     exact U.2 ⟨_,(by omega:L.length - (j+1)<L.length - j),j+1,by simp,by omega,rfl,fun q Cy=>by
      rcases Nat.lt_or_ge q j with hh |hh
      ·exact hq q hh
      ·obtain rfl:q=j:=by omega
       exact ⟨L[q].ws,by rw [e,List.getElem?_map,hs,Option.map_some,Sp.v,ho]⟩⟩
    |false=>
     refine bZ ?_
     refine U.2 ⟨j,⟨by omega,hq,fun s iU=>?_⟩,rfl⟩
     rw [e,List.getElem?_map,hs,Option.map_some] at iU
     cases iU;exact ho
   ·(unfold qbj;refine cw hm ?_)
    refine U.2 ⟨j,⟨by omega,hq,fun s iU=>?_⟩,rfl⟩
    have:=(List.getElem?_eq_some_iff.1 iU).1
    omega
  ·have hql:q<M.sp.length:=by omega
   have hs:=List.getElem?_eq_getElem hql
   have:=hM.below q (by omega) _ hs
   exact ⟨M.sp[q].2,by rw [hs];congr 1;exact Prod.ext this rfl⟩
 rintro r ⟨i,KJ,rfl⟩
 have xS:=KJ.le
 rw [hlen] at xS
 refine cw hm ?_
 refine Ok.step (Q:=fun r=>r.1=[]/\∃ Uy L' s,iM r.2 mb tb Uy L' M.met M.low M.count/\L'[i]? = some s/\s.op=false/\(∀ x,(L'.map Sp.v).set i x=fM M.sp i x)/\ei (cZ mb tb sa L) J r.2/\Fp (cZ mb tb sa L) (cZ mb tb Uy L') J) ?_ ?_
 ·by_cases hi:i=L.length
  ·have rm:Nat.ble ((L.length+1)*33) 35184372088832=true:=CE (by omega)
   have t2:List.take (0+1*2) [AV.sl .nil 0,AV.b false]=[.sl .nil 0,.b false]:=rfl
   have hC0:iM ((J.az 2).put J.next (.cells true N4 [.sl .nil 0,.b false])) mb tb sa L M.met M.low M.count:=hC.of (by simp) fun b hb=>by
    have:=hC.MM b hb
    rw [aA (by omega)];rfl
   generalize hJ0:(J.az 2).put J.next (.cells true N4 [.sl .nil 0,.b false])=J0 at hC0
   have hm0:=(show J0.aa mb=J.aa mb by rw [<-hJ0,aA (by omega)];rfl).trans hm
   have n0:J0.next=J.next+2:=by rw [<-hJ0];rfl
   have b0:∀ b,b<J.next->J0.aa b=J.aa b:=fun b hb=>by rw [<-hJ0,aA (by omega)];rfl
   have UH:∀ b∈cZ mb tb sa L,b<J.next:=hC.MM
   refine jE hm rm hJ0 ?_
   refine Ok.step (jf (nid:=J.next+1) hC0.HE (fun hb=>by have:=UH (J.next+1) (by simp [cZ,hb]);omega) (by omega) (m:=1) (new:=[.sl .nil 0,.b false]) (by simp)) fun r ⟨a',g1,g2,g3,g4,g5⟩=>?_
   obtain ⟨q,J1⟩:=r
   simp only at g1 g2 g3 g4 g5
   subst g1
   have ajt:mb∉SA.bk sa:=fun hb=>(hC.n1 mb hb).1 rfl
   have aju:tb∉SA.bk sa:=fun hb=>(hC.n1 tb hb).2 rfl
   have as':=hC.met.lt
   have NW:J1.aa mb=_:=(g4 mb (by omega) ajt).trans hm0
   refine cw NW ?_
   have uP:L.flatMap Sp.cells++[.sl .nil 0,.b false]=(L++[(⟨.nil,false,[]⟩:Sp)]).flatMap Sp.cells:=by simp [Sp.cells]
   have u9:(L++[(⟨.nil,false,[]⟩:Sp)]).map Sp.sl=L.map Sp.sl++[(.nil,[])]:=by simp [Sp.sl,eR]
   have oy:ph (L.map Sp.sl++[(.nil,[])])=ph (L.map Sp.sl):=by rw [CG];simp [ph,SA.bk]
   have WD:∀ b∈ph (L.map Sp.sl),J1.aa b=J0.aa b:=fun b hb=>g4 b (by have:=UH b (by simp [cZ,hb]);omega) (hC.n2 b hb).2.2
   refine U.2 ⟨rfl,a',L++[⟨.nil,false,[]⟩],⟨.nil,false,[]⟩,⟨⟨DT,by rw [aH];simp⟩,by simp only [bR];omega,?_,?_,?_,hC.ne,?_,?_⟩,by rw [hi];simp,rfl,fun x=>?_,?_,?_⟩
   ·refine hC0.met.of (by simp only [bR];omega) ?_
    rw [aA (fun e=>hC.ne e.symm),g4 tb (by omega) aju]
   ·rw [<-uP,List.length_append]
    exact g2.of (Nat.le_refl _) fun b hb=>aA (by have:=g5 b hb;omega)
   ·rw [u9]
    refine BB.snoc ?_ ⟨0,aY.nil _ _ _⟩ (by simp [SA.bk])
    exact hC0.N5.of (by simp only [bR];omega) fun b hb=>by rw [aA (hC.n2 b hb).1];exact WD b hb
   ·intro b hb
    have:=g5 b hb
    exact ⟨by omega,by omega⟩
   ·intro b hb
    rw [u9,oy] at hb
    have h9:=hC.n2 b hb
    exact ⟨h9.1,h9.2.1,fun dI=>by have:=g5 b dI;have:=UH b (by simp [cZ,hb]);omega⟩
   ·rw [hi,List.map_append,fM,if_neg (by omega),e]
    simp [List.set_append]
   ·refine ei.put ⟨by omega,fun b hb hn=>?_⟩ (.inl (by simp [cZ])) _
    rw [g4 b (by omega) (fun hs=>hn (by simp [cZ,hs]))];exact b0 b hb
   ·intro b hb
    simp only [cZ,List.mem_cons,List.mem_append,u9,oy] at hb ⊢
    rcases hb with g |g |g |g
    ·exact .inl (.inl g)
    ·exact .inl (.inr (.inl g))
    ·exact .inr (by have:=g5 b g;omega)
    ·exact .inl (.inr (.inr (.inr g)))
  ·have bp:i<L.length:=by omega
   have hs:=List.getElem?_eq_getElem bp
   refine bZ ?_
   refine U.2 ⟨rfl,sa,L,L[i],hC,hs,?_,fun x=>?_,ei.refl _ _,Fp.refl _ _⟩
   ·have:=KJ.here L[i].v (by rw [e,List.getElem?_map,hs];rfl)
    exact this
   ·rw [fM,if_pos (by omega),e]
 rintro ⟨q,J1⟩ ⟨g0,Uy,L',s,zI,hs,nN,ajv,Hx,hfp⟩
 simp only at g0 zI Hx
 subst g0
 obtain ⟨Cm,NW⟩:=zI.m
 obtain ⟨k,rfl,hk,qF,_,_⟩:=zI.at hs
 have Y1:=zI.n1 k (by simp [SA.bk])
 have kmb:=Y1.1
 have ktb:=Y1.2
 have anr:=zI.mlt
 have ata:=(List.getElem?_eq_some_iff.1 hs).1
 have Cw:=uH Sp.len L'
 have je:0<=M.count:=by rw [hM.count];omega
 have Bt:bQ (L'.flatMap Sp.cells) (i*2) [.sl (.loc (.n J1.next) 0 1) n.toNat,.b true]=(L'.set i ⟨.loc (.n J1.next) 0 1,true,List.replicate n.toNat 0⟩).flatMap Sp.cells:=by
  have:=rn Sp.len L' i 0 [.sl (.loc (.n J1.next) 0 1) n.toNat,.b true] s ⟨.loc (.n J1.next) 0 1,true,List.replicate n.toNat 0⟩ hs (by simp) (by simp [bQ,Sp.cells])
  simpa using this
 refine rl NW hk @qi Cw Bt ?_
 obtain ⟨q1,q2⟩:=zI.YY (J':=(((J1.az 1).put J1.next (.cells true qj (eR (List.replicate n.toNat 0)))).put k (.cells true N4 ((L'.set i ⟨.loc (.n J1.next) 0 1,true,List.replicate n.toNat 0⟩).flatMap Sp.cells))).put mb (.cells true Cm [.p (some (.n tb,0)),.sl (.loc (.n k) 0 2) L'.length,.i .i64 ((i:Int)+1),.i .i64 (M.count+1)]))
  hs (s':=⟨.loc (.n J1.next) 0 1,true,List.replicate n.toNat 0⟩) rfl (by simp) (fun b hb h1 h2=>by
   have:=zI.MM b hb
   rw [aA h2,aA h1,aA (by omega)];rfl) (by rw [aA kmb,aH]) ⟨_,by rw [aH]⟩
  ⟨n.toNat,aY.new (by simp [fZ]) (by rw [aA (by omega),aA (by omega),aH]) (by simp)⟩ (by simp [SA.bk])
 have hq:=ei.put (L:=cZ mb tb (.loc (.n k) 0 2) L') (ei.put (L:=cZ mb tb (.loc (.n k) 0 2) L') (ei.put (((ei.refl _ J1).az 1)) (.inr (Nat.le_refl _)) (.cells true qj (eR (List.replicate n.toNat 0)))) (b:=k) (.inl (by simp [cZ,SA.bk])) (.cells true N4 ((L'.set i ⟨.loc (.n J1.next) 0 1,true,List.replicate n.toNat 0⟩).flatMap Sp.cells))) (b:=mb) (.inl (by simp [cZ])) (.cells true Cm [.p (some (.n tb,0)),.sl (.loc (.n k) 0 2) L'.length,.i .i64 ((i:Int)+1),.i .i64 (M.count+1)])
 generalize hJ2:(((J1.az 1).put J1.next (.cells true qj (eR (List.replicate n.toNat 0)))).put k (.cells true N4 ((L'.set i ⟨.loc (.n J1.next) 0 1,true,List.replicate n.toNat 0⟩).flatMap Sp.cells))).put mb (.cells true Cm [.p (some (.n tb,0)),.sl (.loc (.n k) 0 2) L'.length,.i .i64 ((i:Int)+1),.i .i64 (M.count+1)])=J2 at q1 hq
 have n1:=Hx.next
 have n2:=hq.next
 refine Ok.step (qh q1.met hM.met h1 pP) fun r ⟨g1,g2,g3⟩=>?_
 obtain ⟨q,J3⟩:=r
 simp only at g1 g2 g3
 subst g1
 refine bZ ?_
 refine U.2 ⟨i,KJ,rfl,_,⟨tb,_,_,rfl,?_,q1.step g3 g2⟩,?_,fun b hb=>?_⟩
 ·show fM M.sp i _=_
  rw [<-ajv,List.map_set];rfl
 ·refine (Hx.trans' hq fun b hb=>hfp b hb).trans' g3 fun b hb=>.inl ?_
  simp at hb;subst hb;simp [cZ]
 ·rcases q2 b hb with g |g
  ·exact hfp b g
  ·exact .inr (by omega)
theorem KL {J:AH O} {mb:Nat} {F:List Nat} {M:ah} {n:Int} (h:bI J mb F M) (h1:n<0 ∨ n > 4194304 ∨ M.count>=262144):
  AN [.p (some (.n mb,0)),.i .i64 n] J=some (.aB [.i .i64 0,.i .i64 (if n<0 then 1 else if n > 4194304 then 7 else 3)],J):=by
 obtain ⟨tb,sa,L,rfl,e,hC⟩:=h
 obtain ⟨DT,hm⟩:=hC.m
 by_cases c1:n<0
 ·(unfold AN Vv;refine cw hm ?_)
  rw [if_pos c1]
 ·by_cases c2:n > 4194304
  ·(unfold AN Vv;refine cw hm ?_)
   rw [if_neg c1,if_pos c2]
  ·(unfold AN Vv;refine cw hm ?_)
   rw [if_neg c1,if_neg c2]
end Go.Abs.Tryz
namespace Go.Abs.Tryz
open Go Go.Abs
variable {O:Type}
theorem kO {α:Type} {p:α->Bool} {l:List α} {i:Nat} {x y:α} (h:l[i]? = some y):(l.set i x).countP p+(if p y=true then 1 else 0)=l.countP p+(if p x=true then 1 else 0):=by
 induction l generalizing i with
 |nil=>simp at h
 |cons z l ih=>
  cases i with
  |zero=>simp at h;subst h;simp only [List.set_cons_zero,List.countP_cons];omega
  |succ i=>simp at h;have:=ih h;simp only [List.set_cons_succ,List.countP_cons];omega
theorem ah.SV:ah.new.ok:=⟨⟨by decide,by decide,by decide,by decide⟩,by decide,fun i hi s hs=>by simp [ah.new] at hs,rfl,by decide,fun s hs=>by simp [ah.new] at hs,fun s hs=>by simp [ah.new] at hs,rfl⟩
theorem ah.ok.D1 {M:ah} (h:M.ok):0<=M.count/\M.count<=262144:=by
 rw [h.count]
 have:=List.countP_le_length (p:=fun s:Bool × List Int=>s.1) (l:=M.sp)
 have:=h.bW
 omega
theorem fV {α:Type} {l:List α} {i:Nat} {x y:α} (h:y∈l.set i x):y=x ∨ y∈l:=by
 rcases List.mem_or_eq_of_mem_set h with g |g
 ·exact .inr g
 ·exact .inl g
theorem EM {α:Type} {l:List α} {i j:Nat} {x y:α} (h:(l.set i x)[j]? = some y):(j=i/\y=x) ∨ (j≠i/\l[j]? = some y):=by
 rw [List.getElem?_set] at h
 split at h
 ·rename_i pj
  split at h
  ·cases h;exact .inl ⟨pj.symm,rfl⟩
  ·cases h
 ·rename_i pj;exact .inr ⟨fun e=>pj e.symm,h⟩
theorem ah.Dh {M:ah} (h:M.ok) {i:Nat} {w w':List Int} (hw:M.sp[i]? = some (true,w)) (hl:w'.length=w.length):(M.put i w').ok:=by
 refine ⟨h.met,by simpa [ah.put] using h.low,fun j hj s hs=>?_,?_,by simpa [ah.put] using h.bW,fun s hs=>?_,fun s hs he=>?_,?_⟩
 ·rcases EM hs with ⟨_,rfl⟩ |⟨_,g⟩
  ·rfl
  ·exact h.below j hj s g
 ·have:=kO (p:=fun s:Bool × List Int=>s.1) (x:=(true,w')) hw
  simp only [if_true] at this
  simp only [ah.put]
  rw [h.count];omega
 ·rcases fV hs with rfl |g
  ·simp only [hl];exact h.len hw
  ·exact h.size s g
 ·rcases fV hs with rfl |g
  ·cases he
  ·exact h.shut s g he
 ·have:((M.sp.map fun s=>s.2.length))[i]? = some w.length:=by rw [List.getElem?_map,hw];rfl
  have:=tm (x:=w'.length) this
  simp only [ah.put,List.map_set]
  rw [h.held];omega
theorem ah.KM {M:ah} (h:M.ok) {n:Int} (h0:0<=n) (hn:M.met.w+n<170141183460469231731687303715884105728):(M.wr n).ok:=
 ⟨⟨h.met.r,⟨by have:=h.met.w;simp only [ah.wr];omega,hn⟩,h.met.held,h.met.high⟩,h.low,h.below,h.count,h.bW,h.size,h.shut,h.held⟩
theorem ah.QL {M:ah} (h:M.ok) {n:Int} (h0:0<=n) (hn:M.met.r+n<170141183460469231731687303715884105728):(M.rd n).ok:=
 ⟨⟨⟨by have:=h.met.r;simp only [ah.rd];omega,hn⟩,h.met.w,h.met.held,h.met.high⟩,h.low,h.below,h.count,h.bW,h.size,h.shut,h.held⟩
theorem fX.qh {m:fX} (h:m.ok) {n:Int} (h0:0<=n) (hn:m.held+n<=281474976710656):(m.hold n).ok:=
 ⟨h.r,h.w,by have:=h.held;simp only [fX.hold];omega,by have:=h.high;simp only [fX.hold];omega⟩
theorem ah.KN {M:ah} (h:M.ok) {i:Nat} {w:List Int} (hw:M.sp[i]? = some (true,w)) {n:Int} (h1:(w.length:Int)<=n) (h2:n<=4194304):(M.grow i w n).ok:=by
 refine ⟨fX.qh h.met (by omega) (xE h hw h1 h2),by simpa [ah.grow] using h.low,fun j hj s hs=>?_,?_,by simpa [ah.grow] using h.bW,fun s hs=>?_,fun s hs he=>?_,?_⟩
 ·rcases EM hs with ⟨_,rfl⟩ |⟨_,g⟩
  ·rfl
  ·exact h.below j hj s g
 ·have:=kO (p:=fun s:Bool × List Int=>s.1) (x:=(true,w++List.replicate (n.toNat - w.length) 0)) hw
  simp only [if_true] at this
  simp only [ah.grow]
  rw [h.count];omega
 ·rcases fV hs with rfl |g
  ·simp only [List.length_append,List.length_replicate];omega
  ·exact h.size s g
 ·rcases fV hs with rfl |g
  ·cases he
  ·exact h.shut s g he
 ·have:((M.sp.map fun s=>s.2.length))[i]? = some w.length:=by rw [List.getElem?_map,hw];rfl
  have:=tm (x:=(w++List.replicate (n.toNat - w.length) 0).length) this
  simp only [List.length_append,List.length_replicate] at this
  simp only [ah.grow,List.map_set,fX.hold,List.length_append,List.length_replicate]
  rw [h.held];omega
theorem gy {l:List (Bool × List Int)} {i:Nat} {x:Bool × List Int} (hi:i<=l.length) (j:Nat):(fM l i x)[j]? = if j=i then some x else l[j]? := by
 unfold fM
 by_cases h:i<l.length
 ·rw [if_pos h,List.getElem?_set]
  by_cases hj:i=j
  ·subst hj;simp [h]
  ·simp [hj,Ne.symm hj]
 ·obtain rfl:i=l.length:=by omega
  rw [if_neg h,List.getElem?_append]
  by_cases hj:j<l.length
  ·rw [if_pos hj,if_neg (by omega)]
  ·rw [if_neg hj]
   by_cases qH:j=l.length
   ·subst qH;simp
   ·rw [if_neg qH,List.getElem?_eq_none (by simp;omega),List.getElem?_eq_none (by omega)]
theorem xF {l:List (Bool × List Int)} {i:Nat} {x y:Bool × List Int} (h:y∈fM l i x):y=x ∨ y∈l:=by
 unfold fM at h
 split at h
 ·exact fV h
 ·simp at h;exact h.symm
theorem ah.SX {M:ah} (h:M.ok) {i:Nat} (hf:Dg M.sp i) {n:Int} (h1:0<=n) (h2:n<=4194304) (h3:M.count<262144):(M.iv i n).ok:=by
 have sY:(fM M.sp i (true,List.replicate n.toNat 0)).countP (·.1)=M.sp.countP (·.1)+1/\((fM M.sp i (true,List.replicate n.toNat 0)).map fun s=>s.2.length).sum=(M.sp.map fun s=>s.2.length).sum+n.toNat/\(fM M.sp i (true,List.replicate n.toNat 0)).length<=262144/\i<(fM M.sp i (true,List.replicate n.toNat 0)).length:=by
  unfold fM
  by_cases hi:i<M.sp.length
  ·rw [if_pos hi]
   have hs:=List.getElem?_eq_getElem hi
   have ho:=hf.here _ hs
   have hw:=h.shut _ (List.mem_of_getElem? hs) ho
   have g1:=kO (p:=fun s:Bool × List Int=>s.1) (x:=(true,List.replicate n.toNat 0)) hs
   simp only [ho,if_true,Bool.false_eq_true,if_false] at g1
   have:((M.sp.map fun s=>s.2.length))[i]? = some 0:=by rw [List.getElem?_map,hs,Option.map_some,hw];rfl
   have g2:=tm (x:=(List.replicate n.toNat (0:Int)).length) this
   simp only [List.length_replicate] at g2
   refine ⟨by omega,by rw [List.map_set];simp only [List.length_replicate];omega,by rw [List.length_set];exact h.bW,by simpa using hi⟩
  ·rw [if_neg hi]
   have hle:=hf.le
   have vB:M.sp.countP (·.1)=M.sp.length:=by
    rw [List.countP_eq_length]
    intro s hs
    obtain ⟨j,hj⟩:=List.getElem?_of_mem hs
    have:=(List.getElem?_eq_some_iff.1 hj).1
    obtain ⟨w,hw⟩:=hf.below j (by omega)
    rw [hj] at hw;cases hw;rfl
   have hc:=h.count
   refine ⟨by simp,by simp,by simp;omega,by simp;omega⟩
 obtain ⟨c1,c2,c3,c4⟩:=sY
 have SU:=h.low
 have hb:=h.bound
 refine ⟨fX.qh h.met h1 (by omega),⟨by simp only [ah.iv];omega,by simp only [ah.iv];omega⟩,fun j hj s hs=>?_,by simp only [ah.iv];rw [c1,h.count];omega,c3,fun s hs=>?_,fun s hs he=>?_,?_⟩
 ·simp only [ah.iv] at hj hs
  rw [gy hf.le] at hs
  split at hs
  ·cases hs;rfl
  ·obtain ⟨w,hw⟩:=hf.below j (by omega)
   rw [hw] at hs;cases hs;rfl
 ·rcases xF hs with rfl |g
  ·simp;omega
  ·exact h.size s g
 ·rcases xF hs with rfl |g
  ·cases he
  ·exact h.shut s g he
 ·simp only [ah.iv,fX.hold,c2]
  rw [h.held];omega
theorem bI.Xe {J:AH O} {mb:Nat} {F:List Nat} {M:ah} (h:bI J mb F M):∃ tb el rest,J.aa mb=some (.cells true el (.p (some (.n tb,0))::rest))/\gQ J tb M.met:=by
 obtain ⟨tb,sa,L,rfl,e,hC⟩:=h
 obtain ⟨el,hm⟩:=hC.m
 exact ⟨tb,el,_,hm,hC.met⟩
theorem Fp.new {F F':List Nat} {J0 J:AH O} (h:Fp F F' J) (hn:J0.next<=J.next) (hF:∀ b∈F,J0.next<=b):∀ b∈F',J0.next<=b:=fun b hb=>by
 rcases h b hb with g |g
 ·exact hF b g
 ·omega
theorem bI.mlt {J:AH O} {mb:Nat} {F:List Nat} {M:ah} (h:bI J mb F M):mb<J.next:=by
 obtain ⟨tb,sa,L,rfl,e,hC⟩:=h
 exact hC.mlt
end Go.Abs.Tryz
set_option linter.unusedSectionVars false
namespace Go.Abs.Tryz
open Go Go.Abs
variable {O:Type}
abbrev EA:=List (Bool × List Int)
def ff (l:EA):Nat:=l.findIdx fun s => !s.1
theorem nf (l:EA):Dg l (ff l):=by
 refine ⟨List.findIdx_le_length,fun j hj=>?_,fun s hs=>?_⟩
 ·have bp:j<l.length:=Nat.lt_of_lt_of_le hj List.findIdx_le_length
  have:=List.not_of_lt_findIdx hj
  simp only [Bool.not_eq_true,Bool.not_eq_false'] at this
  exact ⟨l[j].2,by rw [List.getElem?_eq_getElem bp];congr 1;exact Prod.ext this rfl⟩
 ·have bp:=(List.getElem?_eq_some_iff.1 hs).1
  have h1:=List.findIdx_getElem (w:=bp)
  have e:l[ff l]'bp=s:=(List.getElem?_eq_some_iff.1 hs).2
  rw [<-e]
  simp only [Bool.not_eq_true'] at h1
  exact h1
def ak (l:EA) (id:Int):Option (List Int):=if 0<=id then (match l[id.toNat]? with |some (true,w)=>some w |_=>none) else none
theorem aF {l:EA} {id:Int} {w:List Int} (h:ak l id=some w):0<=id/\l[id.toNat]? = some (true,w):=by
 unfold ak at h
 split at h
 ·rename_i h0
  split at h
  ·rename_i hw;cases h;exact ⟨h0,hw⟩
  ·cases h
 ·cases h
theorem gd {l:EA} {id:Int} (h:ak l id=none):¬ De l id:=by
 rintro ⟨h0,w,hw⟩
 simp [ak,h0,hw] at h
theorem cU {l:EA} {id:Int} {w:List Int} (h0:0<=id) (h:l[id.toNat]? = some (true,w)):ak l id=some w:=by simp [ak,h0,h]
def ah.mG (M:ah) (n:Int):ah × Int × Int:=if n<0 then (M,0,1) else if n > 4194304 then (M,0,7) else if M.count>=262144 then (M,0,3) else (M.iv (ff M.sp) n,ff M.sp,0)
def ah.A6 (M:ah) (id n:Int):ah × Int:=match ak M.sp id with |none=>(M,10) |some w=>if n<w.length then (M,1) else if n > 4194304 then (M,7) else (M.grow id.toNat w n,0)
def bH (l:EA) (id at_ n:Int):Int:=match ak l id with |none=>10 |some w=>if n<0 ∨ at_<0 ∨ at_ > w.length ∨ n > w.length - at_ then 11 else 0
def ah.jH (M:ah) (id at_:Int):ah × Int × Int:=if bH M.sp id at_ 1=0 then (M.rd 1,((ak M.sp id).getD []).getD at_.toNat 0,0) else (M,0,bH M.sp id at_ 1)
def ah.jk (M:ah) (id at_ x:Int):ah × Int:=if bH M.sp id at_ 1=0 then ((M.wr 1).put id.toNat (((ak M.sp id).getD []).set at_.toNat x),0) else (M,bH M.sp id at_ 1)
def ah.A7 (M:ah) (id at_ n:Int):ah × Int:=if bH M.sp id at_ n=0 then ((M.wr n).put id.toNat (cu ((ak M.sp id).getD []) at_.toNat (List.replicate n.toNat 0)),0) else (M,bH M.sp id at_ n)
def ah.qf (M:ah) (fr at_ to de n:Int):ah × Int:=
 if bH M.sp fr at_ n=10 ∨ bH M.sp to de n=10 then (M,10)
 else if bH M.sp fr at_ n≠0 ∨ bH M.sp to de n≠0 then (M,11)
 else (((M.rd n).wr n).put to.toNat (cu ((ak M.sp to).getD []) de.toNat ((((ak M.sp fr).getD []).drop at_.toNat).take n.toNat)),0)
theorem nm {l:EA} {id at_ n:Int} (h:bH l id at_ n=0):∃ w,ak l id=some w/\0<=n/\0<=at_/\at_+n<=w.length:=by
 unfold bH at h
 split at h
 ·omega
 ·rename_i w hw
  split at h
  ·omega
  ·exact ⟨w,hw,by omega,by omega,by omega⟩
theorem qo {l:EA} {id at_ n:Int}:bH l id at_ n=10 ↔ ak l id=none:=by
 unfold bH
 split
 ·rename_i h;simp [h]
 ·rename_i w hw
  split<;>simp [hw]
theorem qp {l:EA} {id at_ n:Int} (h:bH l id at_ n≠0) (h':ak l id≠none):bH l id at_ n=11/\∃ w,ak l id=some w/\(n<0 ∨ at_<0 ∨ at_ > w.length ∨ n > w.length - at_):=by
 unfold bH at h ⊢
 split
 ·rename_i hw;exact absurd hw h'
 ·rename_i w hw
  rw [hw] at h
  simp only at h
  split at h
  ·rename_i hc;exact ⟨by rw [if_pos hc],w,hw,hc⟩
  ·exact absurd rfl h
structure eM (J:AH O) (mb:Nat) (F:List Nat) (M':ah) (J':AH O):Prop where
 ex:∃ F',bI J' mb F' M'/\Fp F F' J
 yz:ei F J J'
 ok:M'.ok
theorem eM.refl {J:AH O} {mb:Nat} {F:List Nat} {M:ah} (h:bI J mb F M) (hM:M.ok):eM J mb F M J:=⟨⟨F,h,Fp.refl _ _⟩,ei.refl _ _,hM⟩
structure ah.calm (M:ah):Prop where
 r:M.met.r<85070591730234615865843651857942052864
 w:M.met.w<85070591730234615865843651857942052864
section
variable {J:AH O} {mb:Nat} {F:List Nat} {M:ah} (h:bI J mb F M) (hM:M.ok) (hc:M.calm)
include h hM hc
theorem Qx {n:Int}:Ok (AN [.p (some (.n mb,0)),.i .i64 n] J) fun r=>r.1=.aB [.i .i64 (M.mG n).2.1,.i .i64 (M.mG n).2.2]/\eM J mb F (M.mG n).1 r.2:=by
 by_cases hb:n<0 ∨ n > 4194304 ∨ M.count>=262144
 ·refine nR (KL h hb) ?_
  have:M.mG n=(M,0,if n<0 then 1 else if n > 4194304 then 7 else 3):=by
   unfold ah.mG;repeat' split
   all_goals first |rfl |omega
  rw [this]
  exact ⟨rfl,.refl h hM⟩
 ·have h1:0<=n:=by omega
  have h2:n<=4194304:=by omega
  have h3:M.count<262144:=by omega
  have:M.mG n=(M.iv (ff M.sp) n,(ff M.sp:Int),0):=by
   unfold ah.mG;rw [if_neg (by omega),if_neg (by omega),if_neg (by omega)]
  rw [this]
  refine (Oe h hM h1 h2 h3).mono fun r ⟨i,hf,g1,F',g2,g3,g4⟩=>?_
  obtain rfl:=hf.uniq (nf M.sp)
  exact ⟨g1,⟨F',g2,g4⟩,g3,ah.SX hM hf h1 h2 h3⟩
theorem Y4 {id n:Int}:Ok (HG [.p (some (.n mb,0)),.i .i64 id,.i .i64 n] J) fun r=>r.1=.i .i64 (M.A6 id n).2/\eM J mb F (M.A6 id n).1 r.2:=by
 unfold ah.A6
 cases hw:ak M.sp id with
 |none=>exact nR (Od h (gd hw)) ⟨rfl,.refl h hM⟩
 |some w=>
  obtain ⟨h0,hw⟩:=aF hw
  simp only
  by_cases c1:n<w.length
  ·rw [if_pos c1]
   refine nR (A5 h h0 hw (.inl c1)) ⟨?_,.refl h hM⟩
   rw [if_pos c1]
  ·rw [if_neg c1]
   by_cases c2:n > 4194304
   ·rw [if_pos c2]
    refine nR (A5 h h0 hw (.inr c2)) ⟨?_,.refl h hM⟩
    rw [if_neg c1]
   ·rw [if_neg c2]
    exact (Oc h hM h0 hw (by omega) (by omega)).mono fun r ⟨g1,F',g2,g3,g4⟩=>⟨g1,⟨F',g2,g4⟩,g3,ah.KN hM hw (by omega) (by omega)⟩
theorem Qv {id at_:Int} (ha : -9223372036854775808<=at_/\at_<=9223372036854775807):Ok (yN [.p (some (.n mb,0)),.i .i64 id,.i .i64 at_] J) fun r=>r.1=.aB [.i .u64 (M.jH id at_).2.1,.i .i64 (M.jH id at_).2.2]/\eM J mb F (M.jH id at_).1 r.2:=by
 unfold ah.jH
 have hr:=hc.r
 by_cases hz:bH M.sp id at_ 1=0
 ·rw [if_pos hz]
  obtain ⟨w,hw,h1,h2,h3⟩:=nm hz
  obtain ⟨h0,pV⟩:=aF hw
  have bp:at_.toNat<w.length:=by omega
  have hx:=List.getElem?_eq_getElem bp
  simp only [hw,Option.getD_some,List.getD_eq_getElem?_getD,hx]
  exact (N7 h hM h0 pV h2 hx).mono fun r ⟨g1,g2,g3⟩=>⟨g1,⟨F,g2,Fp.refl _ _⟩,g3,ah.QL hM (by omega) (by omega)⟩
 ·rw [if_neg hz]
  by_cases hn:ak M.sp id=none
  ·rw [qo.2 hn]
   exact nR (N' h (gd hn)) ⟨rfl,.refl h hM⟩
  ·obtain ⟨e,w,hw,hb⟩:=qp hz hn
   obtain ⟨h0,pV⟩:=aF hw
   rw [e]
   exact nR (KF h hM h0 pV ha (by omega)) ⟨rfl,.refl h hM⟩
theorem Ka {id at_ x:Int} (ha : -9223372036854775808<=at_/\at_<=9223372036854775807):Ok (yO [.p (some (.n mb,0)),.i .i64 id,.i .i64 at_,.i .u64 x] J) fun r=>r.1=.i .i64 (M.jk id at_ x).2/\eM J mb F (M.jk id at_ x).1 r.2:=by
 unfold ah.jk
 have hr:=hc.w
 by_cases hz:bH M.sp id at_ 1=0
 ·rw [if_pos hz]
  obtain ⟨w,hw,h1,h2,h3⟩:=nm hz
  obtain ⟨h0,pV⟩:=aF hw
  simp only [hw,Option.getD_some]
  exact (KE h hM h0 pV h2 (by omega)).mono fun r ⟨g1,g2,g3⟩=>⟨g1,⟨F,g2,Fp.refl _ _⟩,g3,ah.Dh (ah.KM hM (by omega) (by omega)) pV (by simp)⟩
 ·rw [if_neg hz]
  by_cases hn:ak M.sp id=none
  ·rw [qo.2 hn]
   exact nR (KG h (gd hn)) ⟨rfl,.refl h hM⟩
  ·obtain ⟨e,w,hw,hb⟩:=qp hz hn
   obtain ⟨h0,pV⟩:=aF hw
   rw [e]
   exact nR (GB h hM h0 pV ha (by omega)) ⟨rfl,.refl h hM⟩
theorem Y5 {id at_ n:Int} (ha : -9223372036854775808<=at_/\at_<=9223372036854775807):Ok (HF [.p (some (.n mb,0)),.i .i64 id,.i .i64 at_,.i .i64 n] J) fun r=>r.1=.i .i64 (M.A7 id at_ n).2/\eM J mb F (M.A7 id at_ n).1 r.2:=by
 unfold ah.A7
 have hr:=hc.w
 by_cases hz:bH M.sp id at_ n=0
 ·rw [if_pos hz]
  obtain ⟨w,hw,h1,h2,h3⟩:=nm hz
  obtain ⟨h0,pV⟩:=aF hw
  have:=hM.len pV
  simp only [hw,Option.getD_some]
  exact (N8 h hM h0 pV h2 h1 h3).mono fun r ⟨g1,g2,g3⟩=>⟨g1,⟨F,g2,Fp.refl _ _⟩,g3,ah.Dh (ah.KM hM (by omega) (by omega)) pV (eW (by simp;omega))⟩
 ·rw [if_neg hz]
  by_cases hn:ak M.sp id=none
  ·rw [qo.2 hn]
   exact nR (Oa h (gd hn)) ⟨rfl,.refl h hM⟩
  ·obtain ⟨e,w,hw,hb⟩:=qp hz hn
   obtain ⟨h0,pV⟩:=aF hw
   rw [e]
   exact nR (KH h hM h0 pV ha hb) ⟨rfl,.refl h hM⟩
theorem tA {id at_ n:Int} (ha : -9223372036854775808<=at_/\at_<=9223372036854775807):∃ a' m,Df [.p (some (.n mb,0)),.i .i64 id,.i .i64 at_,.i .i64 n] J=some (.aB [.sl a' m,.i .i64 (bH M.sp id at_ n)],J):=by
 obtain ⟨tb,sa,L,rfl,e,hC⟩:=h
 by_cases hz:bH M.sp id at_ n=0
 ·obtain ⟨w,hw,h1,h2,h3⟩:=nm hz
  obtain ⟨h0,pV⟩:=aF hw
  obtain ⟨s,hs,ho,rfl⟩:=sP e pV
  obtain ⟨a',_,g⟩:=iW (n:=n) hC h0 hs ho (hM.len pV) h1 h2 h3
  exact ⟨a',_,by rw [hz];exact g⟩
 ·by_cases hn:ak M.sp id=none
  ·have:=gd hn
   rw [e] at this
   exact ⟨.nil,0,by rw [qo.2 hn];exact nj hC this⟩
  ·obtain ⟨e',w,hw,hb⟩:=qp hz hn
   obtain ⟨h0,pV⟩:=aF hw
   obtain ⟨s,hs,ho,rfl⟩:=sP e pV
   exact ⟨.nil,0,by rw [e'];exact kV hC h0 hs ho (hM.len pV) ha hb⟩
theorem Yh {fr at_ to de n:Int} (ha : -9223372036854775808<=at_/\at_<=9223372036854775807) (hd : -9223372036854775808<=de/\de<=9223372036854775807):Ok (HB [.p (some (.n mb,0)),.i .i64 fr,.i .i64 at_,.i .i64 to,.i .i64 de,.i .i64 n] J) fun r=>r.1=.i .i64 (M.qf fr at_ to de n).2/\eM J mb F (M.qf fr at_ to de n).1 r.2:=by
 unfold ah.qf
 have hr:=hc.w
 have hr':=hc.r
 by_cases hs:bH M.sp fr at_ n=10 ∨ bH M.sp to de n=10
 ·rw [if_pos hs]
  obtain ⟨a1,m1,w1⟩:=tA (id:=fr) (n:=n) h hM hc ha
  obtain ⟨a2,m2,w2⟩:=tA (id:=to) (n:=n) h hM hc hd
  refine ⟨(.i .i64 10,J),?_,rfl,.refl h hM⟩
  by_cases c1:bH M.sp fr at_ n=10
  ·(unfold HB QK;exact UC w1 w2)
  ·have c2:=hs.resolve_left c1
   (unfold HB QK;exact UC w1 w2)
 ·rw [if_neg hs]
  by_cases hz:bH M.sp fr at_ n≠0 ∨ bH M.sp to de n≠0
  ·rw [if_pos hz]
   obtain ⟨a1,m1,w1⟩:=tA (id:=fr) (n:=n) h hM hc ha
   obtain ⟨a2,m2,w2⟩:=tA (id:=to) (n:=n) h hM hc hd
   have d1:bH M.sp fr at_ n≠10:=fun e=>hs (.inl e)
   have d2:bH M.sp to de n≠10:=fun e=>hs (.inr e)
   refine ⟨(.i .i64 11,J),?_,rfl,.refl h hM⟩
   by_cases c1:bH M.sp fr at_ n=0
   ·have c2:=hz.resolve_left (fun hh=>hh c1)
    (unfold HB QK;exact UC w1 w2)
   ·(unfold HB QK;exact UC w1 w2)
  ·rw [if_neg hz]
   have z1:bH M.sp fr at_ n=0:=by omega
   have z2:bH M.sp to de n=0:=by omega
   obtain ⟨w,hw,h1,h2,h3⟩:=nm z1
   obtain ⟨h0,pV⟩:=aF hw
   obtain ⟨v,hv,k1,k2,k3⟩:=nm z2
   obtain ⟨k0,iD⟩:=aF hv
   have:=hM.len pV
   simp only [hw,hv,Option.getD_some]
   exact (N9 h hM h0 pV h2 h1 h3 k0 iD k2 k3).mono fun r ⟨g1,g2,g3⟩=>⟨g1,⟨F,g2,Fp.refl _ _⟩,g3,ah.Dh (ah.KM (ah.QL hM (by omega) (by omega)) (by omega) (by simp only [ah.rd];omega)) iD (eW (by simp;omega))⟩
end
end Go.Abs.Tryz
set_option maxHeartbeats 2000000
namespace Go.Abs.Tryz
open Go Go.Abs
variable {O:Type}
def bu (J:AH O) (mb:Nat) (M:ah) (X:List Nat):Prop:=∃ F,bI J mb F M/\M.ok/\∀ b∈X,b<J.next/\b∉F
structure aw (X:List Nat) (J J':AH O):Prop where
 next:J.next<=J'.next
 aa:∀ b∈X,J'.aa b=J.aa b
theorem aw.refl (X:List Nat) (J:AH O):aw X J J:=⟨Nat.le_refl _,fun _ _=>rfl⟩
theorem aw.trans {X:List Nat} {J J' nS:AH O} (h:aw X J J') (k:aw X J' nS):aw X J nS:=⟨Nat.le_trans h.next k.next,fun b hb=>(k.aa b hb).trans (h.aa b hb)⟩
theorem aw.mono {X Y:List Nat} {J J':AH O} (h:aw X J J') (hs:∀ b∈Y,b∈X):aw Y J J':=⟨h.next,fun b hb=>h.aa b (hs b hb)⟩
theorem aw.tail {b:Nat} {X:List Nat} {J J':AH O} (h:aw (b::X) J J'):aw X J J':=h.mono fun _=>List.mem_cons_of_mem _
theorem aw.head {b:Nat} {X:List Nat} {J J':AH O} (h:aw (b::X) J J'):J'.aa b=J.aa b:=h.aa b List.mem_cons_self
section
variable {J:AH O} {mb:Nat} {M:ah} {X:List Nat} (h:bu J mb M X)
include h
theorem bu.ok:M.ok:=by obtain ⟨F,_,h,_⟩:=h;exact h
theorem bu.lt:∀ b∈X,b<J.next:=fun b hb=>by obtain ⟨F,_,_,h⟩:=h;exact (h b hb).1
theorem bu.mlt:mb<J.next:=by obtain ⟨F,h,_⟩:=h;exact h.mlt
theorem bu.mono {Y:List Nat} (hs:∀ b∈Y,b∈X):bu J mb M Y:=by obtain ⟨F,h1,h2,h3⟩:=h;exact ⟨F,h1,h2,fun b hb=>h3 b (hs b hb)⟩
theorem bu.yz {J':AH O} {L:List Nat} (hc:ei L J J') (hl:∀ b∈L,b∈X ∨ J.next<=b):bu J' mb M X:=by
 obtain ⟨F,h1,h2,h3⟩:=h
 exact ⟨F,h1.yz hc fun b hb hm=>by
  rcases hl b hm with g |g
  ·exact (h3 b g).2 hb
  ·have:=h1.lt b hb;omega,h2,fun b hb=>⟨Nat.lt_of_lt_of_le (h3 b hb).1 hc.next,(h3 b hb).2⟩⟩
theorem bu.ext {J':AH O} (hc:Ext J J'):bu J' mb M X:=h.yz (L:=[]) hc.yz (by simp)
theorem bu.new {J':AH O} (hc:Ext J J') {b:Nat} (h1:J.next<=b) (h2:b<J'.next):bu J' mb M (b::X):=by
 obtain ⟨F,g1,g2,g3⟩:=h
 refine ⟨F,g1.ext hc,g2,fun c hm=>?_⟩
 rcases List.mem_cons.1 hm with rfl |hm
 ·exact ⟨h2,fun hm=>by have:=g1.lt c hm;omega⟩
 ·exact ⟨Nat.lt_of_lt_of_le (g3 c hm).1 hc.next,(g3 c hm).2⟩
theorem bu.dv {J':AH O} {L:List Nat} (hc:ei L J J') (hl:∀ b∈L,b∉X):aw X J J':=⟨hc.next,fun b hb=>hc.aa b (h.lt b hb) fun hm=>hl b hm hb⟩
theorem bu.put {b:Nat} (hb:b∈X) (x:eY O):bu (J.put b x) mb M X:=h.yz (L:=[b]) ⟨by simp,fun c hc hm=>aA (by simpa using hm)⟩ fun c hc=>.inl (by simp at hc;rw [hc];exact hb)
theorem bu.dD {J':AH O} (hc:Ext J J'):aw X J J':=⟨hc.next,fun b hb=>hc.aa b (h.lt b hb)⟩
theorem bu.behind {F:List Nat} {M':ah} {J':AH O} (hb:∀ F,bI J mb F M->eM J mb F M' J'):bu J' mb M' X/\aw X J J':=by
 obtain ⟨F,g1,g2,g3⟩:=h
 obtain ⟨⟨F',k1,k2⟩,k3,k4⟩:=hb F g1
 exact ⟨⟨F',k1,k4,fun b hb=>⟨Nat.lt_of_lt_of_le (g3 b hb).1 k3.next,fun hm=>by
  rcases k2 b hm with g |g
  ·exact (g3 b hb).2 g
  ·have:=(g3 b hb).1;omega⟩⟩,k3.next,fun b hb=>k3.aa b (g3 b hb).1 (g3 b hb).2⟩
end
theorem bu.tail {J:AH O} {mb:Nat} {M:ah} {b:Nat} {Y:List Nat} (h:bu J mb M (b::Y)):bu J mb M Y:=h.mono fun _=>List.mem_cons_of_mem _
theorem aw.put {X:List Nat} {J:AH O} {b:Nat} (hb:b∉X) (x:eY O):aw X J (J.put b x):=⟨by simp,fun c hc=>aA fun e=>hb (e▸hc)⟩
theorem aw.az (X:List Nat) (J:AH O) (k:Nat):aw X J (J.az k):=⟨by simp,fun _ _=>rfl⟩
theorem Di {l:EA} {id at_ n:Int} {w:List Int} (hw:ak l id=some w) (h0:0<=at_) (h1:0<=n) (h2:at_+n<=w.length):bH l id at_ n=0:=by
 unfold bH
 rw [hw]
 simp only []
 rw [if_neg (by omega)]
theorem bu.bF {J J':AH O} {mb:Nat} {M:ah} {X Y L:List Nat} (h:bu J mb M X) (hc:ei L J J') (hl:∀ b∈L,b∈X ∨ J.next<=b) (hY:∀ b∈Y,b∈X ∨ (J.next<=b/\b<J'.next)):bu J' mb M Y:=by
 obtain ⟨F,h1,h2,h3⟩:=h
 refine ⟨F,h1.yz hc fun b hb hm=>?_,h2,fun b hb=>?_⟩
 ·rcases hl b hm with g |g
  ·exact (h3 b g).2 hb
  ·have:=h1.lt b hb;omega
 ·rcases hY b hb with g |⟨g,g'⟩
  ·exact ⟨Nat.lt_of_lt_of_le (h3 b g).1 hc.next,(h3 b g).2⟩
  ·exact ⟨g',fun hm=>by have:=h1.lt b hm;omega⟩
structure fE (M M':ah) (id:Int) (w':List Int) (dr dw:Int):Prop where
 sp:M'.sp=M.sp.set id.toNat (true,w')
 r:M'.met.r=M.met.r+dr
 w:M'.met.w=M.met.w+dw
theorem cL {l:EA} {id QM:Int} {x:Bool × List Int} (db:QM≠id) (h0:0<=id):ak (l.set id.toNat x) QM=ak l QM:=by
 unfold ak
 by_cases h:0<=QM
 ·rw [if_pos h,if_pos h,List.getElem?_set,if_neg (by omega)]
 ·rw [if_neg h,if_neg h]
theorem fE.other {M M':ah} {id QM:Int} {w':List Int} {dr dw:Int} (h:fE M M' id w' dr dw) (h0:0<=id) (db:QM≠id):ak M'.sp QM=ak M.sp QM:=by rw [h.sp];exact cL db h0
theorem fE.words {M M':ah} {id:Int} {w w':List Int} {dr dw:Int} (h:fE M M' id w' dr dw) (hw:ak M.sp id=some w):ak M'.sp id=some w':=by
 obtain ⟨h0,h1⟩:=aF hw
 rw [h.sp]
 exact cU h0 (by rw [List.getElem?_set];simp [(List.getElem?_eq_some_iff.1 h1).1])
theorem fE.trans {M M' Gi:ah} {id:Int} {w w':List Int} {a b c d:Int} (h:fE M M' id w a b) (k:fE M' Gi id w' c d):fE M Gi id w' (a+c) (b+d):=
 ⟨by rw [k.sp,h.sp,List.set_set],by rw [k.r,h.r];omega,by rw [k.w,h.w];omega⟩
theorem fE.refl {M:ah} {id:Int} {w:List Int} (hw:ak M.sp id=some w):fE M M id w 0 0:=by
 obtain ⟨h0,h1⟩:=aF hw
 refine ⟨?_,by omega,by omega⟩
 apply List.ext_getElem?
 intro j
 rw [List.getElem?_set]
 split
 ·rename_i pj;subst pj
  have:=(List.getElem?_eq_some_iff.1 h1).1
  rw [h1];simp [this]
 ·rfl
theorem fE.as {M M':ah} {id:Int} {w w':List Int} {a b c d:Int} (h:fE M M' id w a b) (h1:w=w') (h2:a=c) (h3:b=d):fE M M' id w' c d:=by subst h1;subst h2;subst h3;exact h
theorem fE.len {M M':ah} {id:Int} {w':List Int} {dr dw:Int} (h:fE M M' id w' dr dw):M'.sp.length=M.sp.length:=by rw [h.sp,List.length_set]
section
variable {J:AH O} {mb:Nat} {M:ah} {X:List Nat} (h:bu J mb M X) (hc:M.calm) {id:Int} {w:List Int} (hw:ak M.sp id=some w)
include h hw
theorem bu.uO:w.length<=4194304:=h.ok.len (aF hw).2
theorem Qp:Vq [.p (some (.n mb,0)),.i .i64 id] J=some (.aB [.i .i64 (w.length:Int),.i .i64 0],J):=by
 obtain ⟨F,h1,_⟩:=h
 obtain ⟨h0,hw⟩:=aF hw
 exact N6 h1 h0 hw
include hc
theorem AJ {at_:Int} (h0:0<=at_) (h1:at_<w.length):Ok (yN [.p (some (.n mb,0)),.i .i64 id,.i .i64 at_] J) fun r=>r.1=.aB [.i .u64 (w.getD at_.toNat 0),.i .i64 0]/\∃ M',bu r.2 mb M' X/\fE M M' id w 1 0/\aw X J r.2:=by
 have hl:=h.uO hw
 have hR:M.jH id at_=(M.rd 1,w.getD at_.toNat 0,0):=by
  unfold ah.jH
  rw [Di hw h0 (by decide) (by omega),hw];rfl
 have key:∀ F,bI J mb F M->Ok (yN [.p (some (.n mb,0)),.i .i64 id,.i .i64 at_] J) fun r=>r.1=.aB [.i .u64 (w.getD at_.toNat 0),.i .i64 0]/\eM J mb F (M.rd 1) r.2:=fun F hF=>by
  have:=Qv (id:=id) (at_:=at_) hF h.ok hc (by omega)
  rw [hR] at this;exact this
 have hh:=h
 obtain ⟨F,g1,_⟩:=hh
 obtain ⟨r,e,p1,_⟩:=key F g1
 refine ⟨r,e,p1,M.rd 1,?_⟩
 obtain ⟨q1,q2⟩:=h.behind (F:=F) (J':=r.2) (M':=M.rd 1) fun F hF=>by
  obtain ⟨r',e',_,b⟩:=key F hF
  rw [e] at e';cases e';exact b
 exact ⟨q1,⟨(fE.refl hw).sp,rfl,by simp [ah.rd]⟩,q2⟩
theorem yH {at_ x:Int} (h0:0<=at_) (h1:at_<w.length):Ok (yO [.p (some (.n mb,0)),.i .i64 id,.i .i64 at_,.i .u64 x] J) fun r=>r.1=.i .i64 0/\∃ M',bu r.2 mb M' X/\fE M M' id (w.set at_.toNat x) 0 1/\aw X J r.2:=by
 have hl:=h.uO hw
 have hR:M.jk id at_ x=((M.wr 1).put id.toNat (w.set at_.toNat x),0):=by
  unfold ah.jk
  rw [Di hw h0 (by decide) (by omega),hw];rfl
 have key:∀ F,bI J mb F M->Ok (yO [.p (some (.n mb,0)),.i .i64 id,.i .i64 at_,.i .u64 x] J) fun r=>r.1=.i .i64 0/\eM J mb F ((M.wr 1).put id.toNat (w.set at_.toNat x)) r.2:=fun F hF=>by
  have:=Ka (id:=id) (at_:=at_) (x:=x) hF h.ok hc (by omega)
  rw [hR] at this;exact this
 have hh:=h
 obtain ⟨F,g1,_⟩:=hh
 obtain ⟨r,e,p1,_⟩:=key F g1
 refine ⟨r,e,p1,(M.wr 1).put id.toNat (w.set at_.toNat x),?_⟩
 obtain ⟨q1,q2⟩:=h.behind (F:=F) (J':=r.2) fun F hF=>by
  obtain ⟨r',e',_,b⟩:=key F hF
  rw [e] at e';cases e';exact b
 exact ⟨q1,⟨rfl,by simp [ah.put,ah.wr],rfl⟩,q2⟩
theorem Xz {at_ n:Int} (h0:0<=at_) (hn:0<=n) (h1:at_+n<=w.length):Ok (HF [.p (some (.n mb,0)),.i .i64 id,.i .i64 at_,.i .i64 n] J) fun r=>r.1=.i .i64 0/\∃ M',bu r.2 mb M' X/\fE M M' id (cu w at_.toNat (List.replicate n.toNat 0)) 0 n/\aw X J r.2:=by
 have hl:=h.uO hw
 have hR:M.A7 id at_ n=((M.wr n).put id.toNat (cu w at_.toNat (List.replicate n.toNat 0)),0):=by
  unfold ah.A7
  rw [Di hw h0 hn h1,hw];rfl
 have key:∀ F,bI J mb F M->Ok (HF [.p (some (.n mb,0)),.i .i64 id,.i .i64 at_,.i .i64 n] J) fun r=>r.1=.i .i64 0/\eM J mb F ((M.wr n).put id.toNat (cu w at_.toNat (List.replicate n.toNat 0))) r.2:=fun F hF=>by
  have:=Y5 (id:=id) (at_:=at_) (n:=n) hF h.ok hc (by omega)
  rw [hR] at this;exact this
 have hh:=h
 obtain ⟨F,g1,_⟩:=hh
 obtain ⟨r,e,p1,_⟩:=key F g1
 refine ⟨r,e,p1,(M.wr n).put id.toNat (cu w at_.toNat (List.replicate n.toNat 0)),?_⟩
 obtain ⟨q1,q2⟩:=h.behind (F:=F) (J':=r.2) fun F hF=>by
  obtain ⟨r',e',_,b⟩:=key F hF
  rw [e] at e';cases e';exact b
 exact ⟨q1,⟨rfl,by simp [ah.put,ah.wr],rfl⟩,q2⟩
theorem Xw {n:Int} (h1:(w.length:Int)<=n) (h2:n<=4194304):Ok (HG [.p (some (.n mb,0)),.i .i64 id,.i .i64 n] J) fun r=>r.1=.i .i64 0/\∃ M',bu r.2 mb M' X/\fE M M' id (w++List.replicate (n.toNat - w.length) 0) 0 0/\aw X J r.2:=by
 have hR:M.A6 id n=(M.grow id.toNat w n,0):=by
  unfold ah.A6
  rw [hw]
  simp only
  rw [if_neg (by omega),if_neg (by omega)]
 have key:∀ F,bI J mb F M->Ok (HG [.p (some (.n mb,0)),.i .i64 id,.i .i64 n] J) fun r=>r.1=.i .i64 0/\eM J mb F (M.grow id.toNat w n) r.2:=fun F hF=>by
  have:=Y4 (id:=id) (n:=n) hF h.ok hc
  rw [hR] at this;exact this
 have hh:=h
 obtain ⟨F,g1,_⟩:=hh
 obtain ⟨r,e,p1,_⟩:=key F g1
 refine ⟨r,e,p1,M.grow id.toNat w n,?_⟩
 obtain ⟨q1,q2⟩:=h.behind (F:=F) (J':=r.2) fun F hF=>by
  obtain ⟨r',e',_,b⟩:=key F hF
  rw [e] at e';cases e';exact b
 exact ⟨q1,⟨rfl,by simp [ah.grow,fX.hold],by simp [ah.grow,fX.hold]⟩,q2⟩
end
theorem Ev {J:AH O} {mb:Nat} {M:ah} {X:List Nat} (h:bu J mb M X) (hc:M.calm) {n:Int} (h1:0<=n) (h2:n<=4194304) (h3:M.count<262144):
  Ok (AN [.p (some (.n mb,0)),.i .i64 n] J) fun r=>r.1=.aB [.i .i64 (ff M.sp),.i .i64 0]/\bu r.2 mb (M.iv (ff M.sp) n) X/\aw X J r.2:=by
 have hR:M.mG n=(M.iv (ff M.sp) n,(ff M.sp:Int),0):=by
  unfold ah.mG
  rw [if_neg (by omega),if_neg (by omega),if_neg (by omega)]
 have key:∀ F,bI J mb F M->Ok (AN [.p (some (.n mb,0)),.i .i64 n] J) fun r=>r.1=.aB [.i .i64 (ff M.sp),.i .i64 0]/\eM J mb F (M.iv (ff M.sp) n) r.2:=fun F hF=>by
  have:=Qx (n:=n) hF h.ok hc
  rw [hR] at this;exact this
 have hh:=h
 obtain ⟨F,g1,_⟩:=hh
 obtain ⟨r,e,p1,_⟩:=key F g1
 refine ⟨r,e,p1,?_⟩
 exact h.behind (F:=F) (J':=r.2) fun F hF=>by
  obtain ⟨r',e',_,b⟩:=key F hF
  rw [e] at e';cases e';exact b
theorem ry {M:ah} {n:Int}:ak (M.iv (ff M.sp) n).sp (ff M.sp)=some (List.replicate n.toNat 0):=by
 refine cU (Int.natCast_nonneg _) ?_
 show (fM M.sp (ff M.sp) _)[(ff M.sp:Int).toNat]? = _
 rw [gy (nf M.sp).le,Int.toNat_natCast,if_pos rfl]
theorem rK {M:ah} {n id:Int} {w:List Int} (h:ak M.sp id=some w):ak (M.iv (ff M.sp) n).sp id=some w/\id≠ff M.sp:=by
 obtain ⟨h0,h1⟩:=aF h
 have db:id.toNat≠ff M.sp:=fun e=>by
  rw [e] at h1
  have:=(nf M.sp).here _ h1
  cases this
 refine ⟨cU h0 ?_,by omega⟩
 show (fM M.sp (ff M.sp) _)[id.toNat]? = _
 rw [gy (nf M.sp).le,if_neg db];exact h1
theorem aie {J:AH O} {X:List Nat} (hX:∀ b∈X,b<J.next):Ok (YP [] J) fun r=>r.1=.p (some (.n J.next,0))/\bu r.2 J.next ah.new X/\Ext J r.2:=by
 refine GA.mono fun r ⟨F,g1,g2,g3,g4⟩=>⟨g1,⟨F,g2,ah.SV,fun b hb=>⟨Nat.lt_of_lt_of_le (hX b hb) g3.next,fun hm=>?_⟩⟩,g3⟩
 have:=hX b hb
 have:=g4 b hm
 omega
end Go.Abs.Tryz
