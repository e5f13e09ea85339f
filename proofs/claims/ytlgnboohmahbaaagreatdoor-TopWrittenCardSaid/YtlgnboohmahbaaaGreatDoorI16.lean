/-
  A reader over words: its walk. No conditions.
-/
import Derived.Test.YtlgnboohmahbaaaGreatDoorI6w
import Derived.Test.YtlgnboohmahbaaaGreatDoorI4
set_option linter.unusedVariables false
set_option linter.unusedSimpArgs false
set_option linter.constructorNameAsVariable false
set_option linter.unusedSimpArgs false
set_option linter.unusedVariables false
set_option maxHeartbeats 2000000
namespace Go.Abs.Tryz
open Go Go.Abs
variable {O:Type}
structure eR (σ:AH O) (rb:Nat) (s:pJ):Prop where
 it:∃ a,σ.ai rb=some (.cells true 82 [.sl a s.left.length,.b s.bad]) ∧ bF .u64 a s.left
 Me:Words s.left
 len:s.left.length ≤ 100000
theorem eR.of {σ aj:AH O} {rb:Nat} {s:pJ} (h:eR σ rb s) (e:aj.ai rb=σ.ai rb):eR aj rb s:=by
 obtain ⟨a,h1,h2⟩:=h.it
 exact ⟨⟨a,e.trans h1,h2⟩,h.Me,h.len⟩
theorem YP {k:IntKind} {a:SA} {w:Int} {l:List Int} (h:bF k a (w::l)):∃ a',a.DD 1 1=some a' ∧ bF k a' l:=by
 obtain ⟨a',g1,g2⟩:=h.imm.DD (lo:=1) (m:=l.length) (by simp;omega)
 refine ⟨a',g1,bF.mk ?_⟩
 simp only [Nat.mul_one,List.map_cons,List.drop_succ_cons,List.drop_zero] at g2
 rw [List.take_of_length_le (by simp)] at g2
 exact g2
theorem Lk {σ:AH O} {rb:Nat} {s:pJ} (h:eR σ rb s):Ok (bx [.p (some (.n rb,0))] σ) fun r=>r.1=.i .u64 (aY s).1 ∧ eR r.2 rb (aY s).2 ∧ dE [rb] σ r.2 ∧ 0 ≤ (aY s).1 ∧ (aY s).1<18446744073709551616 ∧ (aY s).2.left.length ≤ s.left.length:=by
 obtain ⟨⟨a,h1,h2⟩,hr,hn⟩:=h
 obtain ⟨l,bad⟩:=s
 cases l with
 |nil=>
  simp only [List.length_nil] at h1
  simp (maxSteps:=2000000) -implicitDefEqProofs (disch:=(first |omega |rfl |assumption |(simp only [aK];first |omega |assumption))) only [bx,eS,h1,Nat.reduceAdd,Nat.reduceMul,Nat.reduceLT,Int.reduceToNat,Int.reduceAdd,Int.reduceSub,Int.reduceMul,aB,aX]
  exact U.2 ⟨rfl,⟨⟨a,cH,h2⟩,hr,hn⟩,(dE.refl _ _).put (by simp) _,by simp [aY],by simp [aY],by simp [aY]⟩
 |cons w l=>
  obtain ⟨bb,oo,r1,ld⟩:=BP h2 (i:=0) (x:=w) rfl
  have ld:=ld O σ
  rw [Nat.add_zero] at ld
  obtain ⟨a',g1,g2⟩:=YP h2
  have hw:=hr w List.mem_cons_self
  simp only [List.length_cons] at h1 hn
  have d0:(((l.length+1:Nat):Int) == 0)=false:=by simp;omega
  have d1:decide ((0:Int)<((l.length+1:Nat):Int))=true:=decide_eq_true (by omega)
  have d2:decide ((1:Int) ≤ ((l.length+1:Nat):Int))=true:=decide_eq_true (by omega)
  have d3:decide (((l.length+1:Nat):Int) ≤ ((l.length+1:Nat):Int))=true:=decide_eq_true (by omega)
  simp (maxSteps:=2000000) -implicitDefEqProofs (disch:=(first |omega |rfl |assumption |(simp only [aK];first |omega |assumption))) only [bx,eS,h1,d0,d1,d2,d3,r1,ld,g1,Int.toNat_natCast,Nat.add_sub_cancel,Nat.reduceAdd,Nat.reduceMul,Nat.reduceLT,Int.reduceToNat,Int.reduceAdd,Int.reduceSub,Int.reduceMul,aB,aX]
  exact U.2 ⟨rfl,⟨⟨a',cH,g2⟩,fun x hx=>hr x (List.mem_cons_of_mem _ hx),by show l.length ≤ _;omega⟩,(dE.refl _ _).put (by simp) _,hw.1,hw.2,by simp [aY]⟩
theorem PJ {σ:AH O} {rb:Nat} {s:pJ} (h:eR σ rb s):Ok (aW [.p (some (.n rb,0))] σ) fun r=>r.1=.i .i64 (bj s).1 ∧ eR r.2 rb (bj s).2 ∧ dE [rb] σ r.2 ∧ (bj s).2.left.length ≤ s.left.length:=by
 simp (maxSteps:=2000000) -implicitDefEqProofs (disch:=(first |omega |rfl |assumption |(simp only [aK];first |omega |assumption))) only [aW,gh,Nat.reduceAdd,Nat.reduceMul,Nat.reduceLT,Int.reduceToNat,Int.reduceAdd,Int.reduceSub,Int.reduceMul,aB,aX]
 refine Ok.step (Lk h) fun q ⟨g1,g2,C,h0,h1,hlen⟩=>?_
 obtain ⟨q,aJ⟩:=q
 simp only at g1 g2 C
 subst g1
 unfold bj
 by_cases c:(aY s).1 > 4194304
 ·have d:decide ((aY s).1 > 4194304)=true:=decide_eq_true c
  obtain ⟨⟨a,k1,k2⟩,k3,k4⟩:=g2
  simp (maxSteps:=2000000) -implicitDefEqProofs (disch:=(first |omega |rfl |assumption |(simp only [aK];first |omega |assumption))) only [d,k1,Nat.reduceAdd,Nat.reduceMul,Nat.reduceLT,Int.reduceToNat,Int.reduceAdd,Int.reduceSub,Int.reduceMul,aB,aX]
  rw [if_pos c]
  exact U.2 ⟨rfl,⟨⟨a,cH,k2⟩,k3,k4⟩,C.put (by simp) _,hlen⟩
 ·have d:decide ((aY s).1 > 4194304)=false:=decide_eq_false c
  have e:IntKind.i64.wrap (aY s).1=(aY s).1:=bJ (by omega) (by omega)
  simp (maxSteps:=2000000) -implicitDefEqProofs (disch:=(first |omega |rfl |assumption |(simp only [aK];first |omega |assumption))) only [d,e,Nat.reduceAdd,Nat.reduceMul,Nat.reduceLT,Int.reduceToNat,Int.reduceAdd,Int.reduceSub,Int.reduceMul,aB,aX]
  rw [if_neg c]
  exact U.2 ⟨rfl,g2,C,hlen⟩
theorem Mf {σ:AH O} {rb:Nat} {s:pJ} (h:eR σ rb s):Ok (ba [.p (some (.n rb,0))] σ) fun r=>r.1=.i .i64 (bO s).1 ∧ eR r.2 rb (bO s).2 ∧ dE [rb] σ r.2 ∧ 0 ≤ (bO s).1 ∧ (bO s).1 ≤ 100000:=by
 simp (maxSteps:=2000000) -implicitDefEqProofs (disch:=(first |omega |rfl |assumption |(simp only [aK];first |omega |assumption))) only [ba,gW,Nat.reduceAdd,Nat.reduceMul,Nat.reduceLT,Int.reduceToNat,Int.reduceAdd,Int.reduceSub,Int.reduceMul,aB,aX]
 refine Ok.step (Lk h) fun q ⟨g1,g2,C,h0,h1,hlen⟩=>?_
 obtain ⟨q,aJ⟩:=q
 simp only at g1 g2 C
 subst g1
 obtain ⟨⟨a,k1,k2⟩,k3,k4⟩:=g2
 have ew:IntKind.u64.wrap ((aY s).2.left.length:Int)=((aY s).2.left.length:Int):=uY (by omega) (by omega)
 unfold bO
 by_cases c:(aY s).1 > (aY s).2.left.length
 ·have d:decide ((aY s).1 > ((aY s).2.left.length:Int))=true:=decide_eq_true c
  simp (maxSteps:=2000000) -implicitDefEqProofs (disch:=(first |omega |rfl |assumption |(simp only [aK];first |omega |assumption))) only [k1,ew,d,Nat.reduceAdd,Nat.reduceMul,Nat.reduceLT,Int.reduceToNat,Int.reduceAdd,Int.reduceSub,Int.reduceMul,aB,aX]
  rw [if_pos c]
  exact U.2 ⟨rfl,⟨⟨a,cH,k2⟩,k3,k4⟩,C.put (by simp) _,by simp,by simp⟩
 ·have d:decide ((aY s).1 > ((aY s).2.left.length:Int))=false:=decide_eq_false c
  have e:IntKind.i64.wrap (aY s).1=(aY s).1:=bJ (by omega) (by omega)
  simp (maxSteps:=2000000) -implicitDefEqProofs (disch:=(first |omega |rfl |assumption |(simp only [aK];first |omega |assumption))) only [k1,ew,d,e,Nat.reduceAdd,Nat.reduceMul,Nat.reduceLT,Int.reduceToNat,Int.reduceAdd,Int.reduceSub,Int.reduceMul,aB,aX]
  rw [if_neg c]
  exact U.2 ⟨rfl,⟨⟨a,k1,k2⟩,k3,k4⟩,C,h0,by omega⟩
theorem PK:∀ (k:Nat) (s:pJ),(lj k s).1.length=k
 |0,_=>rfl
 |k+1,s=>by unfold lj;rw [List.length_cons,PK k]
theorem aa' {σ aj:AH O} {K:List Nat} {el:TypeId} {a:SA} {n:Nat} {cs:List AV} {v:AV} (ho:aN σ el 1 a n cs) (C:dE K (σ.bump 2) aj) (hK:∀ b∈K,b∉SA.bk a):
  Ok ((aj.put σ.next (.cells true el [v])).bP (σ.next+1) el 1 a n 1 [v]) fun r=>∃ a',r.1=.sl a' (n+1) ∧ aN r.2 el 1 a' (n+1) (cs++[v]) ∧ r.2.next=aj.next ∧ (∀ b,b<σ.next → b∉SA.bk a → r.2.ai b=aj.ai b) ∧ ∀ b∈SA.bk a',σ.next ≤ b ∧ b<r.2.next:=by
 have bS:=ho.lt
 have n1:=C.next
 simp only [bg] at n1
 have e:∀ b∈SA.bk a,(aj.put σ.next (.cells true el [v])).ai b=σ.ai b:=fun b hb=>by
  have:=bS b hb
  rw [bu (by omega),C.ai b (by simp only [bg];omega) (fun h=>hK b h hb)];rfl
 have Xk:aN (aj.put σ.next (.cells true el [v])) el 1 a n cs:=ho.of (by simp;omega) e
 refine (nW (nid:=σ.next+1) Xk (fun hm=>by have:=bS _ hm;omega) (by simp;omega) (show ([v]:List AV).length=1*1 from rfl)).mono fun r ⟨a',g1,g2,g3,g4,g5⟩=>⟨a',g1,g2,g3,fun b hb hm=>(g4 b (by omega) hm).trans (bu (by omega)),fun b hb=>by have:=g5 b hb;have:r.2.next=aj.next:=g3;omega⟩
theorem PL {σ:AH O} {rb:Nat} {s:pJ} (h:eR σ rb s) (bS:rb<σ.next):Ok (cK [.p (some (.n rb,0))] σ) fun r=>(∃ a,r.1=.sl a (dv s).1.length ∧ bF .i64 a (dv s).1) ∧ eR r.2 rb (dv s).2 ∧ dE [rb] σ r.2 ∧ (dv s).1.length ≤ 100000:=by
 have hlen:(dv s).1.length ≤ 100000:=by
  obtain ⟨_,_,_,_,_,h2⟩:=Mf h
  unfold dv
  rw [PK];omega
 refine (Xw (s:=cN ba aW) (K:=[rb]) (Q:=fun v aJ=>(∃ a,v=.sl a (dv s).1.length ∧ bF .i64 a (dv s).1) ∧ eR aJ rb (dv s).2) ?_).mono fun r ⟨C,aJ,⟨q1,q2⟩,q3⟩=>⟨q1,q2.of (q3 rb bS),C,hlen⟩
 suffices k:Ok (cN ba aW [.p (some (.n rb,0))] σ) fun r=>∃ a,r.1=.sl a (dv s).1.length ∧ aN r.2 3 1 a (dv s).1.length ((dv s).1.map (AV.i .i64)) ∧ (∀ b∈SA.bk a,σ.next ≤ b) ∧ eR r.2 rb (dv s).2 ∧ dE [rb] σ r.2 by
  refine k.mono ?_
  rintro ⟨v,aJ⟩ ⟨a,rfl,own,fr,hR,C⟩
  obtain ⟨a',f,m⟩:=FZ.sl (d:=6) own (fun _ _=>rfl) (re.flat (by simp [AV.flat])) rfl (by simp)
  exact ⟨_,_,f,fun b hb=>fr b (by simpa using hb),C,⟨a',rfl,bF.mk m⟩,hR⟩
 simp (maxSteps:=2000000) -implicitDefEqProofs (disch:=(first |omega |rfl |assumption |(simp only [aK];first |omega |assumption))) only [cN,Nat.reduceAdd,Nat.reduceMul,Nat.reduceLT,Int.reduceToNat,Int.reduceAdd,Int.reduceSub,Int.reduceMul,aB,aX]
 refine Ok.step (Mf h) fun q ⟨g1,g2,C,h0,h1⟩=>?_
 obtain ⟨q,aJ⟩:=q
 simp only at g1 g2 C
 subst g1
 unfold dv
 generalize (bO s).1=N at*
 generalize (bO s).2=s1 at*
 have nC:=C.next
 simp (maxSteps:=2000000) -implicitDefEqProofs (disch:=(first |omega |rfl |assumption |(simp only [aK];first |omega |assumption))) only [Nat.reduceAdd,Nat.reduceMul,Nat.reduceLT,Int.reduceToNat,Int.reduceAdd,Int.reduceSub,Int.reduceMul,aB,aX]
 refine Ok.step (Q:=fun r=>∃ a,r.1=[.sl a (lj N.toNat s1).1.length] ∧ aN r.2 3 1 a (lj N.toNat s1).1.length ((lj N.toNat s1).1.map (AV.i .i64)) ∧ (∀ b∈SA.bk a,aJ.next ≤ b) ∧ eR r.2 rb (lj N.toNat s1).2 ∧ dE [rb] aJ r.2) ?_ ?_
 ·refine Ok.count N.toNat (fun k st=>∃ a aj pre sk,st=([.sl a k,.i .i64 (k:Int)],aj) ∧ pre.length=k ∧ lj N.toNat s1=(pre++(lj (N.toNat - k) sk).1,(lj (N.toNat - k) sk).2) ∧ aN aj 3 1 a k (pre.map (AV.i .i64)) ∧ (∀ b∈SA.bk a,aJ.next ≤ b) ∧ eR aj rb sk ∧ dE [rb] aJ aj) ?_ ?_ ⟨.nil,aJ,[],s1,rfl,rfl,rfl,aN.nil _ _ _,by simp [SA.bk],g2,dE.refl _ _⟩
  ·rintro k _ hk ⟨a,aj,pre,sk,rfl,hp,e,own,fr,hR,C'⟩
   have dk:decide ((k:Int)<N)=true:=decide_eq_true (by omega)
   simp (maxSteps:=2000000) -implicitDefEqProofs (disch:=(first |omega |rfl |assumption |(simp only [aK];first |omega |assumption))) only [gX,dk,Nat.reduceAdd,Nat.reduceMul,Nat.reduceLT,Int.reduceToNat,Int.reduceAdd,Int.reduceSub,Int.reduceMul,aB,aX]
   refine Ok.step (PJ (σ:=aj.bump 2) (hR.of rfl)) fun q ⟨g1,g2,C2,_⟩=>?_
   obtain ⟨q,aP⟩:=q
   simp only at g1 g2 C2
   subst g1
   have nC':=C'.next
   simp (maxSteps:=2000000) -implicitDefEqProofs (disch:=(first |omega |rfl |assumption |(simp only [aK];first |omega |assumption))) only [Nat.reduceAdd,Nat.reduceMul,Nat.reduceLT,Int.reduceToNat,Int.reduceAdd,Int.reduceSub,Int.reduceMul,aB,aX]
   refine Ok.step (aa' own C2 (by simp;intro h;have:=fr _ h;omega)) fun q ⟨a3,g3,g4,g5,g6,g7⟩=>?_
   obtain ⟨q,cE⟩:=q
   simp only at g3 g4 g5 g6
   subst g3
   have n2:=C2.next
   simp only [bg] at n2
   simp (maxSteps:=2000000) -implicitDefEqProofs (disch:=(first |omega |rfl |assumption |(simp only [aK];first |omega |assumption))) only [Nat.reduceAdd,Nat.reduceMul,Nat.reduceLT,Int.reduceToNat,Int.reduceAdd,Int.reduceSub,Int.reduceMul,aB,aX]
   have hrb:cE.ai rb=aP.ai rb:=g6 rb (by omega) (fun h=>by have:=fr _ h;omega)
   refine U.2 ⟨a3,cE,pre++[(bj sk).1],(bj sk).2,rfl,by simp [hp],?_,by rw [List.map_append];exact g4,fun b hb=>by have:=(g7 b hb).1;omega,g2.of hrb,?_⟩
   ·rw [e,show N.toNat - k=(N.toNat - (k+1))+1 by omega]
    simp only [lj,List.append_assoc,List.singleton_append]
   ·refine ⟨by omega,fun b hb hm=>?_⟩
    rw [g6 b (by omega) (fun h=>by have:=fr _ h;omega),C2.ai b (by simp only [bg];omega) hm]
    exact C'.ai b hb hm
  ·rintro _ ⟨a,aj,pre,sk,rfl,hp,e,own,fr,hR,C'⟩
   have dk:decide (((N.toNat:Nat):Int)<N)=false:=decide_eq_false (by omega)
   rw [Nat.sub_self] at e
   simp only [lj,List.append_nil] at e
   simp (maxSteps:=2000000) -implicitDefEqProofs (disch:=(first |omega |rfl |assumption |(simp only [aK];first |omega |assumption))) only [gX,dk,Nat.reduceAdd,Nat.reduceMul,Nat.reduceLT,Int.reduceToNat,Int.reduceAdd,Int.reduceSub,Int.reduceMul,aB,aX]
   rw [e]
   exact U.2 ⟨a,by simp only [hp],by simp only [hp];exact own,fr,hR,C'⟩
 ·rintro ⟨rv,aP⟩ ⟨a,e,own,fr,hR,C2⟩
  simp only at e own hR C2
  subst e
  simp (maxSteps:=2000000) -implicitDefEqProofs (disch:=(first |omega |rfl |assumption |(simp only [aK];first |omega |assumption))) only [Nat.reduceAdd,Nat.reduceMul,Nat.reduceLT,Int.reduceToNat,Int.reduceAdd,Int.reduceSub,Int.reduceMul,aB,aX]
  exact U.2 ⟨a,rfl,own,fun b hb=>by have:=fr b hb;omega,hR,C.trans C2⟩
end Go.Abs.Tryz
set_option maxHeartbeats 4000000
namespace Go.Abs.Tryz
open Go Go.Abs
variable {O:Type}
theorem Fl (f:pJ → Int × pJ) (k:Nat) (s:pJ):bU f (k+1) s=if s.bad=true then ([],s) else ((f s).1::(bU f k (f s).2).1,(bU f k (f s).2).2):=rfl
theorem als {σ h2:AH O} {r19:List AV × AH O} {rb e1 e2:Nat} {s:pJ} {hp:Int} {x0 x1 x2 x3 x4 x6 y1 y2 y3 y4:AV} (hh:σ.ai h2.next=some (.cells true e1 [.i .i64 hp,y1,y2,y3,y4])) (hx:σ.ai r19.2.next=some (.cells true e2 [x0,x1,x2,x3,x4,.sl .nil 0,x6]))
  (hR:eR σ rb s) (n1:rb≠h2.next) (n2:rb≠r19.2.next) (n3:h2.next≠r19.2.next) (l1:rb<σ.next) (l2:h2.next<σ.next) (l3:r19.2.next<σ.next) (hp0:0 ≤ hp ∧ hp ≤ 4095):
  Ok (aQ (S:=List AV × AH O) (T:=List AV × AH O) (dp h2 (some (.n rb,0)) r19 aW) ([.i .i64 0],σ)) fun r=>r.1=[] ∧ ∃ a,r.2.ai r19.2.next=some (.cells true e2 [x0,x1,x2,x3,x4,.sl a (bU bj hp.toNat s).1.length,x6]) ∧ aN r.2 3 1 a (bU bj hp.toNat s).1.length ((bU bj hp.toNat s).1.map (AV.i .i64)) ∧ (∀ b∈SA.bk a,σ.next ≤ b) ∧ eR r.2 rb (bU bj hp.toNat s).2 ∧ dE [rb,r19.2.next] σ r.2:=by
 refine Ok.loop (fun m st=>∃ k a aj pre sk,st=([.i .i64 ((k:Nat):Int)],aj) ∧ m=hp.toNat - k ∧ k ≤ hp.toNat ∧ pre.length=k ∧ aj.ai r19.2.next=some (.cells true e2 [x0,x1,x2,x3,x4,.sl a k,x6]) ∧ bU bj hp.toNat s=(pre++(bU bj (hp.toNat - k) sk).1,(bU bj (hp.toNat - k) sk).2) ∧ aN aj 3 1 a k (pre.map (AV.i .i64)) ∧ (∀ b∈SA.bk a,σ.next ≤ b) ∧ eR aj rb sk ∧ dE [rb,r19.2.next] σ aj) ?_ hp.toNat _ ⟨0,.nil,σ,[],s,rfl,rfl,by omega,rfl,hx,rfl,aN.nil _ _ _,by simp [SA.bk],hR,dE.refl _ _⟩
 rintro _ _ ⟨k,a,aj,pre,sk,rfl,rfl,hk,Dk,Xx,e,own,fr,hR,C⟩
 have Tx:=(C.ai _ l2 (by simp;exact ⟨fun h=>n1 h.symm,n3⟩)).trans hh
 have nC:=C.next
 have g0:(true == true)=true:=rfl
 have g1':(false == true)=false:=rfl
 obtain ⟨ra,hb,_⟩:=hR.it
 by_cases bS:k<hp.toNat
 case neg=>
  have dk:decide ((k:Int)<hp)=false:=decide_eq_false (by omega)
  have e0:hp.toNat - k=0:=by omega
  rw [e0] at e
  simp only [bU,List.append_nil] at e
  simp (maxSteps:=2000000) -implicitDefEqProofs (disch:=(first |omega |rfl |assumption |(simp only [aK];first |omega |assumption))) only [dp,Tx,dk,g1',g0,Nat.reduceAdd,Nat.reduceMul,Nat.reduceLT,Int.reduceToNat,Int.reduceAdd,Int.reduceSub,Int.reduceMul,aB,aX]
  rw [e]
  exact U.2 ⟨rfl,a,by simp only [Dk];exact Xx,by simp only [Dk];exact own,fr,hR,C⟩
 have dk:decide ((k:Int)<hp)=true:=decide_eq_true (by omega)
 have es:hp.toNat - k=(hp.toNat - (k+1))+1:=by omega
 rw [es,Fl] at e
 cases BQ:sk.bad with
 |true=>
  rw [if_pos BQ] at e
  simp only [List.append_nil] at e
  rw [BQ] at hb
  simp (maxSteps:=2000000) -implicitDefEqProofs (disch:=(first |omega |rfl |assumption |(simp only [aK];first |omega |assumption))) only [dp,Tx,dk,hb,g0,g1',Nat.reduceAdd,Nat.reduceMul,Nat.reduceLT,Int.reduceToNat,Int.reduceAdd,Int.reduceSub,Int.reduceMul,aB,aX]
  rw [e]
  exact U.2 ⟨rfl,a,by simp only [Dk];exact Xx,by simp only [Dk];exact own,fr,hR,C⟩
 |false=>
  rw [if_neg (by rw [BQ];decide)] at e
  rw [BQ] at hb
  simp (maxSteps:=2000000) -implicitDefEqProofs (disch:=(first |omega |rfl |assumption |(simp only [aK];first |omega |assumption))) only [dp,Tx,dk,hb,g0,g1',Xx,Nat.reduceAdd,Nat.reduceMul,Nat.reduceLT,Int.reduceToNat,Int.reduceAdd,Int.reduceSub,Int.reduceMul,aB,aX]
  refine Ok.step (PJ (σ:=aj.bump 2) (hR.of rfl)) fun q ⟨g1,g2,C2,_⟩=>?_
  obtain ⟨q,aP⟩:=q
  simp only at g1 g2 C2
  subst g1
  have n4:=C2.next
  simp only [bg] at n4
  have hx2:=(C2.ai r19.2.next (by simp only [bg];omega) (by simp;omega)).trans Xx
  simp (maxSteps:=2000000) -implicitDefEqProofs (disch:=(first |omega |rfl |assumption |(simp only [aK];first |omega |assumption))) only [hx2,Mc,Nat.reduceAdd,Nat.reduceMul,Nat.reduceLT,Int.reduceToNat,Int.reduceAdd,Int.reduceSub,Int.reduceMul,aB,aX]
  refine Ok.step (aa' own C2 (by simp;intro h;have:=fr _ h;omega)) fun q ⟨a3,g3,g4,g5,g6,g7⟩=>?_
  obtain ⟨q,cE⟩:=q
  simp only at g3 g4 g5 g6
  subst g3
  have nin:r19.2.next∉SA.bk a:=fun h=>by have:=fr _ h;omega
  have hx3:=(g6 r19.2.next (by omega) nin).trans hx2
  simp (maxSteps:=2000000) -implicitDefEqProofs (disch:=(first |omega |rfl |assumption |(simp only [aK];first |omega |assumption))) only [hx3,Nat.reduceAdd,Nat.reduceMul,Nat.reduceLT,Int.reduceToNat,Int.reduceAdd,Int.reduceSub,Int.reduceMul,aB,aX]
  have hrb:cE.ai rb=aP.ai rb:=g6 rb (by omega) (fun h=>by have:=fr _ h;omega)
  refine U.2 ⟨hp.toNat - (k+1),by omega,k+1,a3,_,pre++[(bj sk).1],(bj sk).2,rfl,rfl,by omega,by simp [Dk],cH,?_,?_,fun b hb=>by have:=(g7 b hb).1;omega,g2.of ((bu n2).trans hrb),?_⟩
  ·rw [e,List.append_assoc];rfl
  ·rw [List.map_append]
   exact g4.of (by simp) fun b hb=>bu (by have:=(g7 b hb).1;omega)
  ·refine dE.put ⟨by omega,fun b hb hm=>?_⟩ (by simp) _
   rw [g6 b (by omega) (fun h=>by have:=fr _ h;omega),C2.ai b (by simp only [bg];omega) (by simp at hm;simp [hm])]
   exact C.ai b hb hm
theorem alv {σ h2:AH O} {r19:List AV × AH O} {rb e1 e2:Nat} {s:pJ} {hp:Int} {x0 x1 x2 x3 x4 x5 y1 y2 y3 y4:AV} (hh:σ.ai h2.next=some (.cells true e1 [y1,.i .i64 hp,y2,y3,y4])) (hx:σ.ai r19.2.next=some (.cells true e2 [x0,x1,x2,x3,x4,x5,.sl .nil 0]))
  (hR:eR σ rb s) (n1:rb≠h2.next) (n2:rb≠r19.2.next) (n3:h2.next≠r19.2.next) (l1:rb<σ.next) (l2:h2.next<σ.next) (l3:r19.2.next<σ.next) (hp0:0 ≤ hp ∧ hp ≤ 4095):
  Ok (aQ (S:=List AV × AH O) (T:=List AV × AH O) (dq h2 (some (.n rb,0)) r19 bx) ([.i .i64 0],σ)) fun r=>r.1=[] ∧ ∃ a,r.2.ai r19.2.next=some (.cells true e2 [x0,x1,x2,x3,x4,x5,.sl a (bU aY hp.toNat s).1.length]) ∧ aN r.2 63 1 a (bU aY hp.toNat s).1.length ((bU aY hp.toNat s).1.map (AV.i .u64)) ∧ (∀ b∈SA.bk a,σ.next ≤ b) ∧ eR r.2 rb (bU aY hp.toNat s).2 ∧ dE [rb,r19.2.next] σ r.2:=by
 refine Ok.loop (fun m st=>∃ k a aj pre sk,st=([.i .i64 ((k:Nat):Int)],aj) ∧ m=hp.toNat - k ∧ k ≤ hp.toNat ∧ pre.length=k ∧ aj.ai r19.2.next=some (.cells true e2 [x0,x1,x2,x3,x4,x5,.sl a k]) ∧ bU aY hp.toNat s=(pre++(bU aY (hp.toNat - k) sk).1,(bU aY (hp.toNat - k) sk).2) ∧ aN aj 63 1 a k (pre.map (AV.i .u64)) ∧ (∀ b∈SA.bk a,σ.next ≤ b) ∧ eR aj rb sk ∧ dE [rb,r19.2.next] σ aj) ?_ hp.toNat _ ⟨0,.nil,σ,[],s,rfl,rfl,by omega,rfl,hx,rfl,aN.nil _ _ _,by simp [SA.bk],hR,dE.refl _ _⟩
 rintro _ _ ⟨k,a,aj,pre,sk,rfl,rfl,hk,Dk,Xx,e,own,fr,hR,C⟩
 have Tx:=(C.ai _ l2 (by simp;exact ⟨fun h=>n1 h.symm,n3⟩)).trans hh
 have nC:=C.next
 have g0:(true == true)=true:=rfl
 have g1':(false == true)=false:=rfl
 obtain ⟨ra,hb,_⟩:=hR.it
 by_cases bS:k<hp.toNat
 case neg=>
  have dk:decide ((k:Int)<hp)=false:=decide_eq_false (by omega)
  have e0:hp.toNat - k=0:=by omega
  rw [e0] at e
  simp only [bU,List.append_nil] at e
  simp (maxSteps:=2000000) -implicitDefEqProofs (disch:=(first |omega |rfl |assumption |(simp only [aK];first |omega |assumption))) only [dq,Tx,dk,g1',g0,Nat.reduceAdd,Nat.reduceMul,Nat.reduceLT,Int.reduceToNat,Int.reduceAdd,Int.reduceSub,Int.reduceMul,aB,aX]
  rw [e]
  exact U.2 ⟨rfl,a,by simp only [Dk];exact Xx,by simp only [Dk];exact own,fr,hR,C⟩
 have dk:decide ((k:Int)<hp)=true:=decide_eq_true (by omega)
 have es:hp.toNat - k=(hp.toNat - (k+1))+1:=by omega
 rw [es,Fl] at e
 cases BQ:sk.bad with
 |true=>
  rw [if_pos BQ] at e
  simp only [List.append_nil] at e
  rw [BQ] at hb
  simp (maxSteps:=2000000) -implicitDefEqProofs (disch:=(first |omega |rfl |assumption |(simp only [aK];first |omega |assumption))) only [dq,Tx,dk,hb,g0,g1',Nat.reduceAdd,Nat.reduceMul,Nat.reduceLT,Int.reduceToNat,Int.reduceAdd,Int.reduceSub,Int.reduceMul,aB,aX]
  rw [e]
  exact U.2 ⟨rfl,a,by simp only [Dk];exact Xx,by simp only [Dk];exact own,fr,hR,C⟩
 |false=>
  rw [if_neg (by rw [BQ];decide)] at e
  rw [BQ] at hb
  simp (maxSteps:=2000000) -implicitDefEqProofs (disch:=(first |omega |rfl |assumption |(simp only [aK];first |omega |assumption))) only [dq,Tx,dk,hb,g0,g1',Xx,Nat.reduceAdd,Nat.reduceMul,Nat.reduceLT,Int.reduceToNat,Int.reduceAdd,Int.reduceSub,Int.reduceMul,aB,aX]
  refine Ok.step (Lk (σ:=aj.bump 2) (hR.of rfl)) fun q ⟨g1,g2,C2,_,_,_⟩=>?_
  obtain ⟨q,aP⟩:=q
  simp only at g1 g2 C2
  subst g1
  have n4:=C2.next
  simp only [bg] at n4
  have hx2:=(C2.ai r19.2.next (by simp only [bg];omega) (by simp;omega)).trans Xx
  simp (maxSteps:=2000000) -implicitDefEqProofs (disch:=(first |omega |rfl |assumption |(simp only [aK];first |omega |assumption))) only [hx2,Mc,Nat.reduceAdd,Nat.reduceMul,Nat.reduceLT,Int.reduceToNat,Int.reduceAdd,Int.reduceSub,Int.reduceMul,aB,aX]
  refine Ok.step (aa' own C2 (by simp;intro h;have:=fr _ h;omega)) fun q ⟨a3,g3,g4,g5,g6,g7⟩=>?_
  obtain ⟨q,cE⟩:=q
  simp only at g3 g4 g5 g6
  subst g3
  have nin:r19.2.next∉SA.bk a:=fun h=>by have:=fr _ h;omega
  have hx3:=(g6 r19.2.next (by omega) nin).trans hx2
  simp (maxSteps:=2000000) -implicitDefEqProofs (disch:=(first |omega |rfl |assumption |(simp only [aK];first |omega |assumption))) only [hx3,Nat.reduceAdd,Nat.reduceMul,Nat.reduceLT,Int.reduceToNat,Int.reduceAdd,Int.reduceSub,Int.reduceMul,aB,aX]
  have hrb:cE.ai rb=aP.ai rb:=g6 rb (by omega) (fun h=>by have:=fr _ h;omega)
  refine U.2 ⟨hp.toNat - (k+1),by omega,k+1,a3,_,pre++[(aY sk).1],(aY sk).2,rfl,rfl,by omega,by simp [Dk],cH,?_,?_,fun b hb=>by have:=(g7 b hb).1;omega,g2.of ((bu n2).trans hrb),?_⟩
  ·rw [e,List.append_assoc];rfl
  ·rw [List.map_append]
   exact g4.of (by simp) fun b hb=>bu (by have:=(g7 b hb).1;omega)
  ·refine dE.put ⟨by omega,fun b hb hm=>?_⟩ (by simp) _
   rw [g6 b (by omega) (fun h=>by have:=fr _ h;omega),C2.ai b (by simp only [bg];omega) (by simp at hm;simp [hm])]
   exact C.ai b hb hm
end Go.Abs.Tryz
namespace Go.Abs.Tryz
open Go Go.Abs
variable {O:Type}
theorem abb {s:Sm O} {xs:List AV} {σ:AH O} {K:List Nat} {ts:List TV} {Q:AH O → Prop} (hd:∀ t∈ts,t.deep 6) (h:Ok (s xs σ) fun r=>∃ vs L,r.1=.agg vs ∧ nu r.2 ts vs L ∧ (∀ b∈L,σ.next ≤ b) ∧ dE K σ r.2 ∧ Q r.2):
  Ok (yh s xs σ) fun r=>(∃ vs,r.1=.agg vs ∧ ng ts vs) ∧ dE K σ r.2 ∧ ∃ aJ,Q aJ ∧ ∀ b,b<σ.next → r.2.ai b=aJ.ai b:=by
 refine (Xw (K:=K) (Q:=fun v aJ=>(∃ vs,v=.agg vs ∧ ng ts vs) ∧ Q aJ) (h.mono ?_)).mono fun r ⟨C,aJ,⟨h1,h2⟩,h3⟩=>⟨h1,C,aJ,h2,h3⟩
 rintro ⟨v,aj⟩ ⟨vs,L,rfl,h2,h3,h4,h5⟩
 obtain ⟨Bq,g1,g2⟩:=h2.fz (d:=6) hd
 exact ⟨.agg Bq,L,FZ.agg g1,h3,h4,⟨Bq,rfl,g2⟩,h5⟩
theorem TD (s:pJ):∃ (h:HV) (e:Int),adM (aY s).1=.aS [.agg h.cs,.i .i64 e] ∧ Ob h=true ∧
  ∀ s':pJ,s'=(bif e == 0 then (aY s).2 else ⟨(aY s).2.left,true⟩) → iJ unp s=(⟨h,(bU bj h.p.toNat s').1,(bU aY h.r.toNat (bU bj h.p.toNat s').2).1⟩,(bU aY h.r.toNat (bU bj h.p.toNat s').2).2):=by
 unfold iJ adM
 cases hu:unp (aY s).1 with
 |none=>exact ⟨abc,5,rfl,rfl,fun s' e=>by subst e;rfl⟩
 |some h=>exact ⟨h,0,rfl,alw hu,fun s' e=>by subst e;rfl⟩
def YQ (x:NV):List TV:=x.h.cs.map TV.lf++[ints .i64 x.P,.sl 63 1 x.R.length (x.R.flatMap (TE .u64))]
theorem adN {x:NV} {us:List AV} (h:ng (YQ x) us):∃ a b,us=x.cells a b ∧ bF .i64 a x.P ∧ bF .u64 b x.R:=by
 unfold YQ HV.cs at h
 cases h with
 |cons h0 h=>cases h with
 |cons h1 h=>cases h with
 |cons h2 h=>cases h with
 |cons h3 h=>cases h with
 |cons h4 h=>cases h with
 |cons h5 h=>cases h with
 |cons h6 h=>cases h with
 |nil=>
  obtain ⟨a,rfl,ia⟩:=Ds h5
  obtain ⟨b,rfl,ib⟩:=Row.of (BR .u64) h6 rfl
  rw [h0.leaf,h1.leaf,h2.leaf,h3.leaf,h4.leaf]
  exact ⟨a,b,rfl,ia,ib⟩
theorem YR (x:NV):∀ t∈YQ x,t.deep 6:=by
 intro t ht
 simp only [YQ,HV.cs,List.map_cons,List.map_nil,List.cons_append,List.nil_append,List.mem_cons,List.not_mem_nil,or_false] at ht
 rcases ht with rfl |rfl |rfl |rfl |rfl |rfl |rfl
 ·exact Dt _ _
 ·exact Dt _ _
 ·exact Dt _ _
 ·exact Dt _ _
 ·exact Dt _ _
 ·exact rF _ _ _
 ·exact rF .u64 x.R 5
theorem adO {σ:AH O} {x:NV} {a b:SA} (h1:aN σ 3 1 a x.P.length (x.P.map (AV.i .i64))) (h2:aN σ 63 1 b x.R.length (x.R.map (AV.i .u64))) (hd:∀ c∈SA.bk a,c∉SA.bk b):nu σ (YQ x) (x.cells a b) (SA.bk a++SA.bk b):=by
 have o1:=Ow.leaves h1 (Ix x.P)
 have o2:=Ow.leaves h2 (Ix x.R)
 rw [← Du] at o1 o2
 have q2:nu σ [.sl 63 1 x.R.length (x.R.flatMap (TE .u64))] [.sl b x.R.length] (SA.bk b++[]):=.cons o2 .nil (by simp)
 rw [List.append_nil] at q2
 have q1:nu σ [ints .i64 x.P,.sl 63 1 x.R.length (x.R.flatMap (TE .u64))] [.sl a x.P.length,.sl b x.R.length] (SA.bk a++SA.bk b):=.cons o1 q2 hd
 have q0:nu σ (x.h.cs.map TV.lf) x.h.cs []:=nu.im (ng.lfs (by simp [HV.cs,AV.flat]))
 have:=q0.app q1 (by simp)
 rw [List.nil_append] at this
 exact this
theorem adP {σ:AH O} {rb:Nat} {s:pJ} (h:eR σ rb s) (bS:rb<σ.next):Ok (cj [.p (some (.n rb,0))] σ) fun r=>(∃ c d,r.1=.agg ((iJ unp s).1.cells c d) ∧ bF .i64 c (iJ unp s).1.P ∧ bF .u64 d (iJ unp s).1.R) ∧ eR r.2 rb (iJ unp s).2 ∧ dE [rb] σ r.2:=by
 refine (abb (s:=dz bx cR aW) (K:=[rb]) (ts:=YQ (iJ unp s).1) (Q:=fun aJ=>eR aJ rb (iJ unp s).2) (YR _) ?_).mono fun r ⟨⟨vs,e,hi⟩,C,aJ,q2,q3⟩=>by
  obtain ⟨a,b,rfl,h1,h2⟩:=adN hi
  exact ⟨⟨a,b,e,h1,h2⟩,q2.of (q3 rb bS),C⟩
 simp (maxSteps:=2000000) -implicitDefEqProofs (disch:=(first |omega |rfl |assumption |(simp only [aK];first |omega |assumption))) only [dz,Nat.reduceAdd,Nat.reduceMul,Nat.reduceLT,Int.reduceToNat,Int.reduceAdd,Int.reduceSub,Int.reduceMul,aB,aX]
 generalize dP:(σ.bump 1).put σ.next _=aJ
 obtain ⟨E1,n1,b1⟩:=Ku dP
 clear dP
 refine Ok.step (Lk (σ:=aJ.bump 1) (h.of (E1.ai _ bS))) fun q ⟨g1,g2,C2,w0,w1,_⟩=>?_
 obtain ⟨q,aP⟩:=q
 simp only at g1 g2 C2
 subst g1
 have n2:=C2.next
 simp only [bg] at n2
 simp (maxSteps:=2000000) -implicitDefEqProofs (disch:=(first |omega |rfl |assumption |(simp only [aK];first |omega |assumption))) only [Nat.reduceAdd,Nat.reduceMul,Nat.reduceLT,Int.reduceToNat,Int.reduceAdd,Int.reduceSub,Int.reduceMul,aB,aX]
 refine Ok.step (TF aP w0 w1) fun q ⟨g3,E3⟩=>?_
 obtain ⟨q,cE⟩:=q
 simp only at g3 E3
 obtain ⟨hv,e,k1,k2,k3⟩:=TD s
 rw [k1] at g3
 subst g3
 have n3:=E3.next
 have g4:=g2.of (E3.ai rb (by omega))
 obtain ⟨ra,rb3,rI⟩:=g4.it
 have kr:=QZ k2
 unfold HV.cs
 simp (maxSteps:=2000000) -implicitDefEqProofs (disch:=(first |omega |rfl |assumption |(simp only [aK];first |omega |assumption))) only [Nat.reduceAdd,Nat.reduceMul,Nat.reduceLT,Int.reduceToNat,Int.reduceAdd,Int.reduceSub,Int.reduceMul,aB,aX]
 have C1:dE [rb] σ (aJ.bump 1):=(E1.chg:dE [rb] σ aJ).bump 1
 have C3:dE [rb] σ cE:=(C1.trans C2).trans E3.chg
 have b3:=(E3.ai σ.next (by omega)).trans ((C2.ai σ.next (by simp only [bg];omega) (by simp;omega)).trans b1)
 refine Ok.step (Q:=fun r=>r.1=[] ∧ r.2.ai (σ.next+1)=some (.cells true 47 [.i .i64 hv.p,.i .i64 hv.r,.i .i64 hv.site,.i .i64 hv.pR,.b hv.bW]) ∧ eR r.2 rb (bif e == 0 then (aY s).2 else ⟨(aY s).2.left,true⟩) ∧ dE [rb] σ r.2 ∧ r.2.next=cE.next ∧ r.2.ai σ.next=some (.cells true 50 [.i .i64 0,.i .i64 0,.i .i64 0,.i .i64 0,.b false,.sl .nil 0,.sl .nil 0])) ?_ ?_
 ·have Ch:∀ {x:oM O},dE [rb] σ (cE.put (σ.next+1) x):=fun {x}=>C3.put (.inr (by omega)) _
  cases he:e == 0 with
  |true=>
   simp (maxSteps:=2000000) -implicitDefEqProofs (disch:=(first |omega |rfl |assumption |(simp only [aK];first |omega |assumption))) only [Nat.reduceAdd,Nat.reduceMul,Nat.reduceLT,Int.reduceToNat,Int.reduceAdd,Int.reduceSub,Int.reduceMul,aB,aX]
   exact U.2 ⟨rfl,cH,g4.of (bu (by omega)),Ch,rfl,(bu (by omega)).trans b3⟩
  |false=>
   simp (maxSteps:=2000000) -implicitDefEqProofs (disch:=(first |omega |rfl |assumption |(simp only [aK];first |omega |assumption))) only [rb3,Nat.reduceAdd,Nat.reduceMul,Nat.reduceLT,Int.reduceToNat,Int.reduceAdd,Int.reduceSub,Int.reduceMul,aB,aX]
   exact U.2 ⟨rfl,(bu (by omega)).trans cH,⟨⟨ra,cH,rI⟩,g4.Me,g4.len⟩,Ch.put (by simp) _,rfl,(bu (by omega)).trans ((bu (by omega)).trans b3)⟩
 rintro ⟨rv,ky⟩ ⟨e4,hb4,hR4,C4,n4,b4⟩
 simp only at e4 hb4 hR4 C4 n4 b4
 subst e4
 have k3:=k3 _ rfl
 generalize (bif e == 0 then (aY s).2 else ⟨(aY s).2.left,true⟩)=s4 at*
 simp (maxSteps:=2000000) -implicitDefEqProofs (disch:=(first |omega |rfl |assumption |(simp only [aK];first |omega |assumption))) only [hb4,Nat.reduceAdd,Nat.reduceMul,Nat.reduceLT,Int.reduceToNat,Int.reduceAdd,Int.reduceSub,Int.reduceMul,aB,aX]
 generalize dP:(ky.bump 1).put ky.next _=Dv
 obtain ⟨E5,n5,x5⟩:=Ku dP
 clear dP
 have hb5:=(E5.ai (σ.next+1) (by omega)).trans hb4
 rw [← n1] at hb5
 have b5:=(E5.ai σ.next (by omega)).trans b4
 have hR5:=hR4.of (E5.ai rb (by omega))
 have C5:=C4.trans E5.chg
 refine Ok.step (als (h2:=aJ) (r19:=([],ky)) hb5 x5 hR5 (by omega) (by simp only;omega) (by simp only;omega) (by omega) (by omega) (by simp only;omega) kr.1) fun q ⟨g5,a,x6,Fm,f6,hR6,C6⟩=>?_
 obtain ⟨q,PM⟩:=q
 simp only at g5 x6 Fm hR6 C6
 subst g5
 generalize (bU bj hv.p.toNat s4).1=P at*
 generalize (bU bj hv.p.toNat s4).2=s6 at*
 have n6:=C6.next
 have hb6:=(C6.ai aJ.next (by omega) (by simp;omega)).trans hb5
 have b6:=(C6.ai σ.next (by omega) (by simp;omega)).trans b5
 simp (maxSteps:=2000000) -implicitDefEqProofs (disch:=(first |omega |rfl |assumption |(simp only [aK];first |omega |assumption))) only [Nat.reduceAdd,Nat.reduceMul,Nat.reduceLT,Int.reduceToNat,Int.reduceAdd,Int.reduceSub,Int.reduceMul,aB,aX]
 refine Ok.step (alv (h2:=aJ) (r19:=([],ky)) hb6 x6 hR6 (by omega) (by simp only;omega) (by simp only;omega) (by omega) (by omega) (by simp only;omega) kr.2.1) fun q ⟨g5,b,x7,abd,f7,hR7,C7⟩=>?_
 obtain ⟨q,Q0⟩:=q
 simp only at g5 x7 abd hR7 C7
 subst g5
 generalize (bU aY hv.r.toNat s6).1=R at*
 generalize (bU aY hv.r.toNat s6).2=s7 at*
 have n7:=C7.next
 have b7:=(C7.ai σ.next (by omega) (by simp;omega)).trans b6
 have alz:aN Q0 3 1 a P.length (P.map (AV.i .i64)):=Fm.of n7 fun q hq=>C7.ai q (Fm.lt q hq) (by
  have:=f6 q hq;simp;omega)
 simp (maxSteps:=2000000) -implicitDefEqProofs (disch:=(first |omega |rfl |assumption |(simp only [aK];first |omega |assumption))) only [x7,b7,Nat.reduceAdd,Nat.reduceMul,Nat.reduceLT,Int.reduceToNat,Int.reduceAdd,Int.reduceSub,Int.reduceMul,aB,aX]
 have F:∀ q,q≠σ.next → ∀ x:oM O,(Q0.put σ.next x).ai q=Q0.ai q:=fun q hq x=>bu hq
 have C47:dE [rb] σ Q0:=(C5.trans' C6 (by simp;omega)).trans' C7 (by simp;omega)
 rw [k3]
 refine U.2 ⟨_,_,rfl,adO (x:=⟨hv,P,R⟩) (alz.of (by simp) fun q hq=>F q (by have:=f6 q hq;omega) _) (abd.of (by simp) fun q hq=>F q (by have:=f7 q hq;omega) _) (fun c h1 h2=>by have:=Fm.lt c h1;have:=f7 c h2;omega),fun c hc=>?_,C47.put (.inr (Nat.le_refl _)) _,hR7.of (F rb (by omega) _)⟩
 rcases List.mem_append.1 hc with h |h
 ·have:=f6 c h;omega
 ·have:=f7 c h;omega
end Go.Abs.Tryz
namespace Go.Abs.Tryz
open Go Go.Abs
variable {O:Type}
theorem alA {α:Type} {σ aj:AH O} {K:List Nat} {el k:Nat} {row:α → List TV} {a:SA} {l:List α} {x:α} {new:List AV} (ho:ya σ el k row a l) (C:dE K (σ.bump 2) aj) (hK:∀ b∈K,b∉SA.bk a) (hm:ng (row x) new):
  Ok ((aj.put σ.next (.cells true el new)).bP (σ.next+1) el k a l.length 1 new) fun r=>∃ a',r.1=.sl a' (l.length+1) ∧ ya r.2 el k row a' (l++[x]) ∧ r.2.next=aj.next ∧ (∀ b,b<σ.next → b∉SA.bk a → r.2.ai b=aj.ai b) ∧ ∀ b∈SA.bk a',σ.next ≤ b ∧ b<r.2.next:=by
 have bS:=ho.lt
 have n1:=C.next
 simp only [bg] at n1
 have e:∀ b∈SA.bk a,(aj.put σ.next (.cells true el new)).ai b=σ.ai b:=fun b hb=>by
  have:=bS b hb
  rw [bu (by omega),C.ai b (by simp only [bg];omega) (fun h=>hK b h hb)];rfl
 have Xk:ya (aj.put σ.next (.cells true el new)) el k row a l:=ho.of (by simp;omega) e
 refine (Xk.alB (nid:=σ.next+1) (fun hm=>by have:=bS _ hm;omega) (by simp;omega) hm).mono fun r ⟨a',g1,g2,g3,g4,g5⟩=>⟨a',g1,g2,g3,fun b hb hm=>(g4 b (by omega) hm).trans (bu (by omega)),fun b hb=>by have:=g5 b hb;have:r.2.next=aj.next:=g3;omega⟩
theorem Iy (f:pJ → Int × pJ):∀ (k:Nat) (s:pJ),(bU f k s).1.length ≤ k
 |0,_=>Nat.le_refl _
 |k+1,s=>by
  rw [Fl]
  split
  ·simp
  ·simp only [List.length_cons]
   have:=Iy f k (f s).2
   omega
theorem YS (s:pJ):(iJ unp s).1.Gk:=by
 obtain ⟨h,e,_,k2,k3⟩:=TD s
 rw [k3 _ rfl]
 obtain ⟨q1,q2,_⟩:=QZ k2
 refine ⟨?_,?_⟩
 ·have:=Iy bj h.p.toNat (bif e == 0 then (aY s).2 else ⟨(aY s).2.left,true⟩)
  simp only;omega
 ·have:=Iy aY h.r.toNat (bU bj h.p.toNat (bif e == 0 then (aY s).2 else ⟨(aY s).2.left,true⟩)).2
  simp only;omega
theorem JG (k:Nat) (s:pJ):cU unp (k+1) s=if s.bad=true then ([],s) else ((iJ unp s).1::(cU unp k (iJ unp s).2).1,(cU unp k (iJ unp s).2).2):=rfl
theorem Mg:∀ (k:Nat) (s:pJ),(cU unp k s).1.length ≤ k ∧ ∀ x∈(cU unp k s).1,x.Gk
 |0,s=>⟨Nat.le_refl _,fun x hx=>by cases hx⟩
 |k+1,s=>by
  rw [JG]
  split
  ·exact ⟨by simp,fun x hx=>by cases hx⟩
  ·obtain ⟨h1,h2⟩:=Mg k (iJ unp s).2
   refine ⟨by simp only [List.length_cons];omega,fun x hx=>?_⟩
   rcases List.mem_cons.1 hx with rfl |hx
   ·exact YS s
   ·exact h2 x hx
theorem YT {σ h26:AH O} {r14:AV × AH O} {s:pJ} {N:Int} {x1 x2:AV} (hx:σ.ai h26.next=some (.cells true 25 [.sl .nil 0,x1,x2])) (hR:eR σ r14.2.next s) (n1:r14.2.next≠h26.next) (l1:r14.2.next<σ.next) (l2:h26.next<σ.next) (hN:0 ≤ N ∧ N ≤ 100000):
  Ok (aQ (S:=List AV × AH O) (T:=List AV × AH O) (lT N r14 h26 cj) ([.i .i64 0],σ)) fun r=>r.1=[] ∧ ∃ a,r.2.ai h26.next=some (.cells true 25 [.sl a (cU unp N.toNat s).1.length,x1,x2]) ∧ ya r.2 50 7 NV.row a (cU unp N.toNat s).1 ∧ (∀ b∈SA.bk a,σ.next ≤ b) ∧ eR r.2 r14.2.next (cU unp N.toNat s).2 ∧ dE [r14.2.next,h26.next] σ r.2:=by
 refine Ok.loop (fun m st=>∃ k a aj pre sk,st=([.i .i64 ((k:Nat):Int)],aj) ∧ m=N.toNat - k ∧ k ≤ N.toNat ∧ pre.length=k ∧ aj.ai h26.next=some (.cells true 25 [.sl a k,x1,x2]) ∧ cU unp N.toNat s=(pre++(cU unp (N.toNat - k) sk).1,(cU unp (N.toNat - k) sk).2) ∧ ya aj 50 7 NV.row a pre ∧ (∀ b∈SA.bk a,σ.next ≤ b) ∧ eR aj r14.2.next sk ∧ dE [r14.2.next,h26.next] σ aj) ?_ N.toNat _ ⟨0,.nil,σ,[],s,rfl,rfl,by omega,rfl,hx,rfl,ya.nil _ _ NV.len,by simp [SA.bk],hR,dE.refl _ _⟩
 rintro _ _ ⟨k,a,aj,pre,sk,rfl,rfl,hk,Dk,Xx,e,own,fr,hR,C⟩
 have nC:=C.next
 have g0:(true == true)=true:=rfl
 have g1':(false == true)=false:=rfl
 obtain ⟨ra,hb,_⟩:=hR.it
 by_cases bS:k<N.toNat
 case neg=>
  have dk:decide ((k:Int)<N)=false:=decide_eq_false (by omega)
  have e0:N.toNat - k=0:=by omega
  rw [e0] at e
  simp only [cU,List.append_nil] at e
  simp (maxSteps:=2000000) -implicitDefEqProofs (disch:=(first |omega |rfl |assumption |(simp only [aK];first |omega |assumption))) only [lT,dk,g1',g0,Nat.reduceAdd,Nat.reduceMul,Nat.reduceLT,Int.reduceToNat,Int.reduceAdd,Int.reduceSub,Int.reduceMul,aB,aX]
  rw [e]
  exact U.2 ⟨rfl,a,by simp only [Dk];exact Xx,own,fr,hR,C⟩
 have dk:decide ((k:Int)<N)=true:=decide_eq_true (by omega)
 have es:N.toNat - k=(N.toNat - (k+1))+1:=by omega
 rw [es,JG] at e
 cases BQ:sk.bad with
 |true=>
  rw [if_pos BQ] at e
  simp only [List.append_nil] at e
  rw [BQ] at hb
  simp (maxSteps:=2000000) -implicitDefEqProofs (disch:=(first |omega |rfl |assumption |(simp only [aK];first |omega |assumption))) only [lT,dk,hb,g0,g1',Nat.reduceAdd,Nat.reduceMul,Nat.reduceLT,Int.reduceToNat,Int.reduceAdd,Int.reduceSub,Int.reduceMul,aB,aX]
  rw [e]
  exact U.2 ⟨rfl,a,by simp only [Dk];exact Xx,own,fr,hR,C⟩
 |false=>
  rw [if_neg (by rw [BQ];decide)] at e
  rw [BQ] at hb
  simp (maxSteps:=2000000) -implicitDefEqProofs (disch:=(first |omega |rfl |assumption |(simp only [aK];first |omega |assumption))) only [lT,dk,hb,g0,g1',Xx,Nat.reduceAdd,Nat.reduceMul,Nat.reduceLT,Int.reduceToNat,Int.reduceAdd,Int.reduceSub,Int.reduceMul,aB,aX]
  refine Ok.step (adP (σ:=aj.bump 2) (hR.of rfl) (by simp;omega)) fun q ⟨⟨c,d,g1,i1,i2⟩,g2,C2⟩=>?_
  obtain ⟨q,aP⟩:=q
  simp only at g1 g2 C2
  subst g1
  have n4:=C2.next
  simp only [bg] at n4
  have hx2:=(C2.ai h26.next (by simp only [bg];omega) (by simp;omega)).trans Xx
  unfold NV.cells
  simp (maxSteps:=2000000) -implicitDefEqProofs (disch:=(first |omega |rfl |assumption |(simp only [aK];first |omega |assumption))) only [hx2,Mc,Nat.reduceAdd,Nat.reduceMul,Nat.reduceLT,Int.reduceToNat,Int.reduceAdd,Int.reduceSub,Int.reduceMul,aB,aX]
  subst Dk
  have im:=NV.mk_ i1 i2
  unfold NV.cells at im
  refine Ok.step (alA own C2 (by simp;intro h;have:=fr _ h;omega) im) fun q ⟨a3,g3,g4,g5,g6,g7⟩=>?_
  obtain ⟨q,cE⟩:=q
  simp only at g3 g4 g5 g6
  subst g3
  have nin:h26.next∉SA.bk a:=fun h=>by have:=fr _ h;omega
  have hx3:=(g6 h26.next (by omega) nin).trans hx2
  simp (maxSteps:=2000000) -implicitDefEqProofs (disch:=(first |omega |rfl |assumption |(simp only [aK];first |omega |assumption))) only [hx3,Nat.reduceAdd,Nat.reduceMul,Nat.reduceLT,Int.reduceToNat,Int.reduceAdd,Int.reduceSub,Int.reduceMul,aB,aX]
  have hrb:cE.ai r14.2.next=aP.ai r14.2.next:=g6 _ (by omega) (fun h=>by have:=fr _ h;omega)
  refine U.2 ⟨N.toNat - (pre.length+1),by omega,pre.length+1,a3,_,pre++[(iJ unp sk).1],(iJ unp sk).2,rfl,rfl,by omega,by simp,cH,?_,?_,fun b hb=>by have:=(g7 b hb).1;omega,g2.of ((bu n1).trans hrb),?_⟩
  ·rw [e,List.append_assoc];rfl
  ·exact g4.of (by simp) fun b hb=>bu (by have:=(g7 b hb).1;omega)
  ·refine dE.put ⟨by omega,fun b hb hm=>?_⟩ (by simp) _
   rw [g6 b (by omega) (fun h=>by have:=fr _ h;omega),C2.ai b (by simp only [bg];omega) (by simp at hm;simp [hm])]
   exact C.ai b hb hm
def JH:FV:=⟨[],[],[]⟩
def Iz (bs:List Int):FV × Int:=bif (eu bs).2 == 0 then (bif (bz (eu bs).1.length (eu bs).1).2 == 0 then abe (bz (eu bs).1.length (eu bs).1).1 else (JH,(bz (eu bs).1.length (eu bs).1).2)) else (JH,(eu bs).2)
theorem adQ {l:List Int} (hw:Words l):abe l=if (lU unp l).2.bad=false ∧ (lU unp l).2.left=[] ∧ ct (lU unp l).1=true then ((lU unp l).1,0) else (JH,5):=by
 have h0:∀ w∈l,0 ≤ w:=fun w hw'=>(hw w hw').1
 have:=abf abg ⟨pck,fun w v _ h=>adR h⟩ l h0
 unfold abe abh
 by_cases c:(lU unp l).2.bad=false ∧ (lU unp l).2.left=[] ∧ ct (lU unp l).1=true
 ·rw [if_pos c] at this
  rw [this,if_pos c]
 ·rw [if_neg c] at this
  rw [this,if_neg c];rfl
theorem TG {σ:AH O} {a:SA} {n:Nat} {bs:List Int} (hr:Rd σ 1 a n (bs.map (AV.i .u8))) (ho:Old σ a) (hb:Bytes bs) (hn:n ≤ 100000):
  Ok (wF [.sl a n] σ) fun r=>(∃ v,r.1=.aS [v,.i .i64 (Iz bs).2] ∧ (Iz bs).1.At v) ∧ Ext σ r.2:=by
 suffices h:Ok (lk rP gj ba cj cK bq [.sl a n] σ) fun r=>∃ vs,r.1=.aS (.agg vs::[.i .i64 (Iz bs).2]) ∧ wG σ r.2 ((Iz bs).1.YU 50) vs from
  (abj (s:=lk rP gj ba cj cK bq) ((Iz bs).1.alC (d:=3)) rfl h).mono fun r ⟨⟨vs,e,hi⟩,E⟩=>⟨⟨.agg vs,e,FV.adS hi⟩,E⟩
 have hl:bs.length=n:=by have:=hr.len;simpa using this
 have Mh:∀ {aj:AH O},Ext σ aj → wG σ aj (JH.YU 50) [.sl .nil 0,.sl .nil 0,.sl .nil 0]:=fun E=>
  wG.im (.cons ((Row.nil NV.len).im _) (.cons (yq (Row.nil (BR _))) (.cons (yq (Row.nil (BR _))) .nil))) E
 simp (maxSteps:=2000000) -implicitDefEqProofs (disch:=(first |omega |rfl |assumption |(simp only [aK];first |omega |assumption))) only [lk,Nat.reduceAdd,Nat.reduceMul,Nat.reduceLT,Int.reduceToNat,Int.reduceAdd,Int.reduceSub,Int.reduceMul,aB,aX]
 generalize dP:(σ.bump 1).put σ.next _=aJ
 obtain ⟨E1,n1,b1⟩:=Ku dP
 clear dP
 refine Ok.step (adT (hr.lt ho E1) (fun b hb=>by have:=ho b hb;omega) hb (by omega)) fun q ⟨⟨a2,g1,i2⟩,E2⟩=>?_
 obtain ⟨q,aP⟩:=q
 simp only at g1 E2
 subst g1
 have n2:=E2.next
 have b2:=(E2.ai _ (by omega)).trans b1
 have E02:=E1.trans E2
 cases he:(eu bs).2 == 0 with
 |false=>
  have eG:Iz bs=(JH,(eu bs).2):=by unfold Iz;rw [he];rfl
  rw [eG]
  simp (maxSteps:=2000000) -implicitDefEqProofs (disch:=(first |omega |rfl |assumption |(simp only [aK];first |omega |assumption))) only [he,b2,Nat.reduceAdd,Nat.reduceMul,Nat.reduceLT,Int.reduceToNat,Int.reduceAdd,Int.reduceSub,Int.reduceMul,aB,aX]
  exact U.2 ⟨_,rfl,Mh (E02.put (Nat.le_refl _) _)⟩
 |true=>
 have hlen:(eu bs).1.length ≤ n:=by
  unfold eu
  split
  ·simp
  ·split
   ·simp only [List.length_take];omega
   ·simp
 have hbo:Bytes (eu bs).1:=by
  unfold eu
  split
  ·intro x hx;cases hx
  ·split
   ·exact fun x hx=>hb x (List.mem_of_mem_take hx)
   ·intro x hx;cases hx
 simp (maxSteps:=2000000) -implicitDefEqProofs (disch:=(first |omega |rfl |assumption |(simp only [aK];first |omega |assumption))) only [he,Nat.reduceAdd,Nat.reduceMul,Nat.reduceLT,Int.reduceToNat,Int.reduceAdd,Int.reduceSub,Int.reduceMul,aB,aX]
 obtain ⟨r2,o2⟩:=Wk (σ:=aP) i2
 refine Ok.step (abk r2 o2 hbo (by omega)) fun q ⟨⟨a3,g1,i3⟩,E3⟩=>?_
 obtain ⟨q,cE⟩:=q
 simp only at g1 E3
 subst g1
 have n3:=E3.next
 have b3:=(E3.ai _ (by omega)).trans b2
 have E03:=E02.trans E3
 cases he2:(bz (eu bs).1.length (eu bs).1).2 == 0 with
 |false=>
  have eG:Iz bs=(JH,(bz (eu bs).1.length (eu bs).1).2):=by unfold Iz;rw [he,he2];rfl
  rw [eG]
  simp (maxSteps:=2000000) -implicitDefEqProofs (disch:=(first |omega |rfl |assumption |(simp only [aK];first |omega |assumption))) only [he2,b3,Nat.reduceAdd,Nat.reduceMul,Nat.reduceLT,Int.reduceToNat,Int.reduceAdd,Int.reduceSub,Int.reduceMul,aB,aX]
  exact U.2 ⟨_,rfl,Mh (E03.put (Nat.le_refl _) _)⟩
 |true=>
 have eG:Iz bs=abe (bz (eu bs).1.length (eu bs).1).1:=by unfold Iz;rw [he,he2];rfl
 obtain ⟨hen,hW⟩:=Mi _ _ hbo (Nat.le_refl _) (beq_iff_eq.1 he2)
 have hwl:=(BS hW).1
 rw [hen] at hwl
 rw [eG,adQ hW]
 generalize (bz (eu bs).1.length (eu bs).1).1=l at*
 simp (maxSteps:=2000000) -implicitDefEqProofs (disch:=(first |omega |rfl |assumption |(simp only [aK];first |omega |assumption))) only [he2,Nat.reduceAdd,Nat.reduceMul,Nat.reduceLT,Int.reduceToNat,Int.reduceAdd,Int.reduceSub,Int.reduceMul,aB,aX]
 generalize dP:(((cE.bump 1).put cE.next _).bump 1).put (cE.next+1) _=ky
 obtain ⟨E4,n4,r4,x4⟩:=alD dP
 clear dP
 have ji:((cE.bump 1).put cE.next (.cells true 82 [.sl a3 l.length,.b false])).next=cE.next+1:=rfl
 generalize (cE.bump 1).put cE.next (.cells true 82 [.sl a3 l.length,.b false])=h26 at*
 have hR4:eR ky cE.next ⟨l,false⟩:=⟨⟨a3,r4,bF.mk i3⟩,hW,by simp only;omega⟩
 have b4:=(E4.ai _ (by omega)).trans b3
 refine Ok.step (Mf hR4) fun q ⟨g1,hR5,C5,p0,p1⟩=>?_
 obtain ⟨q,Dv⟩:=q
 simp only at g1 hR5 C5
 subst g1
 have n5:=C5.next
 have x5:=(C5.ai (cE.next+1) (by omega) (by simp)).trans x4
 have b5:=(C5.ai σ.next (by omega) (by simp;omega)).trans b4
 have hF:lU unp l=(⟨(cU unp (bO ⟨l,false⟩).1.toNat (bO ⟨l,false⟩).2).1,(dv (cU unp (bO ⟨l,false⟩).1.toNat (bO ⟨l,false⟩).2).2).1,(dv (dv (cU unp (bO ⟨l,false⟩).1.toNat (bO ⟨l,false⟩).2).2).2).1⟩,
  (dv (dv (cU unp (bO ⟨l,false⟩).1.toNat (bO ⟨l,false⟩).2).2).2).2):=rfl
 rw [hF]
 generalize (bO ⟨l,false⟩).1=N at*
 generalize (bO ⟨l,false⟩).2=s5 at*
 rw [← ji] at x5
 simp (maxSteps:=2000000) -implicitDefEqProofs (disch:=(first |omega |rfl |assumption |(simp only [aK];first |omega |assumption))) only [Nat.reduceAdd,Nat.reduceMul,Nat.reduceLT,Int.reduceToNat,Int.reduceAdd,Int.reduceSub,Int.reduceMul,aB,aX]
 refine Ok.step (YT (h26:=h26) (r14:=(_,cE)) x5 hR5 (by simp only;omega) (by simp only;omega) (by omega) ⟨p0,p1⟩) fun q ⟨g1,a6,x6,bl6,f6,hR6,C6⟩=>?_
 obtain ⟨q,PM⟩:=q
 simp only at g1 x6 bl6 hR6 C6
 subst g1
 have n6:=C6.next
 obtain ⟨nf1,nf2⟩:=Mg N.toNat s5
 generalize (cU unp N.toNat s5).1=NN at*
 generalize (cU unp N.toNat s5).2=s6 at*
 have b6:=(C6.ai σ.next (by omega) (by simp;omega)).trans b5
 rw [ji] at x6
 simp (maxSteps:=2000000) -implicitDefEqProofs (disch:=(first |omega |rfl |assumption |(simp only [aK];first |omega |assumption))) only [Nat.reduceAdd,Nat.reduceMul,Nat.reduceLT,Int.reduceToNat,Int.reduceAdd,Int.reduceSub,Int.reduceMul,aB,aX]
 refine Ok.step (PL hR6 (by omega)) fun q ⟨⟨a7,g1,i7⟩,hR7,C7,q7⟩=>?_
 obtain ⟨q,Q0⟩:=q
 simp only at g1 hR7 C7
 subst g1
 have n7:=C7.next
 generalize (dv s6).1=R7 at*
 generalize (dv s6).2=s7 at*
 have x7:=(C7.ai (cE.next+1) (by omega) (by simp)).trans x6
 have b7:=(C7.ai σ.next (by omega) (by simp;omega)).trans b6
 have bl7:ya Q0 50 7 NV.row a6 NN:=bl6.of n7 fun b hb=>C7.ai b (bl6.lt b hb) (by have:=f6 b hb;simp;omega)
 simp (maxSteps:=2000000) -implicitDefEqProofs (disch:=(first |omega |rfl |assumption |(simp only [aK];first |omega |assumption))) only [x7,Nat.reduceAdd,Nat.reduceMul,Nat.reduceLT,Int.reduceToNat,Int.reduceAdd,Int.reduceSub,Int.reduceMul,aB,aX]
 generalize dP:Q0.put (cE.next+1) _=TH
 have n8:TH.next=Q0.next:=by rw [← dP];rfl
 have k8:∀ b,b≠cE.next+1 → TH.ai b=Q0.ai b:=fun b hb=>by rw [← dP];exact bu hb
 have x8:TH.ai (cE.next+1)=some (.cells true 25 [.sl a6 NN.length,.sl a7 R7.length,.sl .nil 0]):=by rw [← dP];exact cH
 clear dP
 refine Ok.step (PL (hR7.of (k8 _ (by omega))) (by omega)) fun q ⟨⟨a9,g1,i9⟩,hR9,C9,q9⟩=>?_
 obtain ⟨q,Z5⟩:=q
 simp only at g1 hR9 C9
 subst g1
 have n9:=C9.next
 generalize (dv s7).1=R9 at*
 generalize (dv s7).2=s9 at*
 have x9:=(C9.ai (cE.next+1) (by omega) (by simp)).trans x8
 have b9:=(C9.ai σ.next (by omega) (by simp;omega)).trans ((k8 _ (by omega)).trans b7)
 have bl9:ya Z5 50 7 NV.row a6 NN:=(bl7.of (by omega) fun b hb=>k8 b (by have:=f6 b hb;omega)).of n9 fun b hb=>C9.ai b (by have:=bl7.lt b hb;omega) (by have:=f6 b hb;simp;omega)
 simp (maxSteps:=2000000) -implicitDefEqProofs (disch:=(first |omega |rfl |assumption |(simp only [aK];first |omega |assumption))) only [x9,Nat.reduceAdd,Nat.reduceMul,Nat.reduceLT,Int.reduceToNat,Int.reduceAdd,Int.reduceSub,Int.reduceMul,aB,aX]
 generalize dP:Z5.put (cE.next+1) _=σA
 have nA:σA.next=Z5.next:=by rw [← dP];rfl
 have kA:∀ b,b≠cE.next+1 → σA.ai b=Z5.ai b:=fun b hb=>by rw [← dP];exact bu hb
 have xA:σA.ai (cE.next+1)=some (.cells true 25 [.sl a6 NN.length,.sl a7 R7.length,.sl a9 R9.length]):=by rw [← dP];exact cH
 clear dP
 have hRA:=hR9.of (kA _ (by omega))
 have bA:=(kA σ.next (by omega)).trans b9
 have blA:ya σA 50 7 NV.row a6 NN:=bl9.of (by omega) fun b hb=>kA b (by have:=f6 b hb;omega)
 have E0A:Ext σ σA:=by
  refine ⟨by omega,fun b hb=>?_⟩
  rw [kA b (by omega),C9.ai b (by omega) (by simp;omega),k8 b (by omega),C7.ai b (by omega) (by simp;omega),C6.ai b (by omega) (by simp;omega),C5.ai b (by omega) (by simp;omega)]
  exact (E03.trans E4).ai b hb
 obtain ⟨ra,rdA,_⟩:=hR9.it
 have f0:(false == false)=true:=rfl
 have f1:(true == false)=false:=rfl
 have no:∀ {c:Prop} [Decidable c],¬ c → (if c then ((⟨NN,R7,R9⟩:FV),(0:Int)) else (JH,5))=(JH,5):=fun h=>if_neg h
 cases BQ:s9.bad with
 |true=>
  rw [BQ] at rdA
  rw [no (by simp)]
  simp (maxSteps:=2000000) -implicitDefEqProofs (disch:=(first |omega |rfl |assumption |(simp only [aK];first |omega |assumption))) only [rdA,bA,f0,f1,Nat.reduceAdd,Nat.reduceMul,Nat.reduceLT,Int.reduceToNat,Int.reduceAdd,Int.reduceSub,Int.reduceMul,aB,aX]
  exact U.2 ⟨_,rfl,Mh (E0A.put (Nat.le_refl _) _)⟩
 |false=>
 rw [BQ] at rdA
 by_cases Xy:s9.left=[]
 case neg=>
  have d0:decide ((s9.left.length:Int) > 0)=true:=decide_eq_true (by
   have:s9.left.length≠0:=fun h=>Xy (List.length_eq_zero_iff.1 h)
   omega)
  rw [no (fun h=>Xy h.2.1)]
  simp (maxSteps:=2000000) -implicitDefEqProofs (disch:=(first |omega |rfl |assumption |(simp only [aK];first |omega |assumption))) only [rdA,bA,d0,f0,f1,Nat.reduceAdd,Nat.reduceMul,Nat.reduceLT,Int.reduceToNat,Int.reduceAdd,Int.reduceSub,Int.reduceMul,aB,aX]
  exact U.2 ⟨_,rfl,Mh (E0A.put (Nat.le_refl _) _)⟩
 have d0:decide ((s9.left.length:Int) > 0)=false:=decide_eq_false (by rw [Xy];simp)
 simp (maxSteps:=2000000) -implicitDefEqProofs (disch:=(first |omega |rfl |assumption |(simp only [aK];first |omega |assumption))) only [rdA,xA,d0,f0,f1,Nat.reduceAdd,Nat.reduceMul,Nat.reduceLT,Int.reduceToNat,Int.reduceAdd,Int.reduceSub,Int.reduceMul,aB,aX]
 have fA:FRd σA ⟨NN,R7,R9⟩ (.agg [.sl a6 NN.length,.sl a7 R7.length,.sl a9 R9.length]):=⟨a6,a7,a9,rfl,gk.bld blA,i7,i9⟩
 refine Ok.step (wH fA ⟨by simp only;omega,nf2,q7,q9⟩) fun q ⟨g1,EB⟩=>?_
 obtain ⟨q,σB⟩:=q
 simp only at g1 EB
 subst g1
 have bB:=(EB.ai _ (by omega)).trans bA
 have xB:=(EB.ai _ (by omega)).trans xA
 have E0B:=E0A.trans EB
 cases hr:ct ⟨NN,R7,R9⟩ with
 |false=>
  rw [no (by simp)]
  simp (maxSteps:=2000000) -implicitDefEqProofs (disch:=(first |omega |rfl |assumption |(simp only [aK];first |omega |assumption))) only [bB,f0,f1,Nat.reduceAdd,Nat.reduceMul,Nat.reduceLT,Int.reduceToNat,Int.reduceAdd,Int.reduceSub,Int.reduceMul,aB,aX]
  exact U.2 ⟨_,rfl,Mh (E0B.put (Nat.le_refl _) _)⟩
 |true=>
  rw [if_pos (by simp [Xy])]
  simp (maxSteps:=2000000) -implicitDefEqProofs (disch:=(first |omega |rfl |assumption |(simp only [aK];first |omega |assumption))) only [bB,xB,f0,f1,Nat.reduceAdd,Nat.reduceMul,Nat.reduceLT,Int.reduceToNat,Int.reduceAdd,Int.reduceSub,Int.reduceMul,aB,aX]
  have EF:∀ {x:oM O},Ext σ (σB.put σ.next x):=fun {x}=>E0B.put (Nat.le_refl _) _
  have blF:∀ {x:oM O},ya (σB.put σ.next x) 50 7 NV.row a6 NN:=fun {x}=>(blA.ext EB).of (by simp) fun b hb=>bu (by have:=f6 b hb;omega)
  refine U.2 ⟨_,rfl,?_⟩
  exact (ya.out blF EF fun b hb=>by have:=f6 b hb;omega).app (wG.im (.cons (yq i7) (.cons (yq i9) .nil)) (Ext.refl _))
end Go.Abs.Tryz
