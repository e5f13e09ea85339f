/-
  Layer 18: handles. No conditions.
-/
import Derived.Test.YtncohicmiihjiaaGreatM10
set_option linter.unusedVariables false
set_option linter.unusedSimpArgs false
set_option linter.constructorNameAsVariable false
set_option linter.unusedSimpArgs false
set_option linter.unusedVariables false
set_option linter.unusedSectionVars false
set_option maxHeartbeats 1000000
namespace Go.Abs.Tryz
open Go Go.Abs
variable {O:Type}
theorem Ye {t:Int} (h : -9223372036854775808<=t/\t<=9223372036854775807):bG .and .i64 t 1048575=t % 1048576:=by
 show IntKind.i64.wrap (((BitVec.ofInt 64 t &&& BitVec.ofInt 64 1048575).toNat:Nat):Int)=_
 rw [BitVec.toNat_and,eK (x:=1048575) (by decide) (by decide),BitVec.toNat_ofInt,show (1048575:Int).toNat=2 ^ 20 - 1 from rfl,Nat.and_two_pow_sub_one_eq_mod]
 have h1:0<=t % ((2 ^ 64:Nat):Int):=Int.emod_nonneg _ (by decide)
 have h2:(((t % ((2 ^ 64:Nat):Int)).toNat % 2 ^ 20:Nat):Int)=t % 1048576:=by
  rw [Int.natCast_emod,Int.toNat_of_nonneg h1]
  have:((2 ^ 64:Nat):Int)=18446744073709551616:=by decide
  have:((2 ^ 20:Nat):Int)=1048576:=by decide
  omega
 rw [h2]
 exact cd (by omega)
theorem ais {g i:Nat} (hg:g<4398046511104) (hi:i<1048576):bG .or .i64 ((g:Int)*1048576) (i:Int)=((g*1048576+i:Nat):Int):=by
 show IntKind.i64.wrap (((BitVec.ofInt 64 ((g:Int)*1048576) ||| BitVec.ofInt 64 (i:Int)).toNat:Nat):Int)=_
 rw [BitVec.toNat_or,eK (by omega) (by simp;omega),eK (by omega) (by simp;omega)]
 have:=Nat.two_pow_add_eq_or_of_lt (i:=20) (b:=i) (by simpa using hi) g
 have e:((g:Int)*1048576).toNat=2 ^ 20*g:=by omega
 rw [e,Int.toNat_natCast,<-this]
 rw [cd (by omega)]
 omega
def tok (i g:Nat):Int:=((g*1048576+i:Nat):Int)
theorem NM {i g:Nat} (hi:i<1048576):tok i g % 1048576=i:=by unfold tok;omega
theorem NN {i g:Nat} (hi:i<1048576):tok i g / 1048576=g:=by unfold tok;omega
def vw (E:List PE) (j:Nat):Option (Bool × Nat × Option Int):=(E[j]?).map fun e=>(e.tk,e.gen,e.ws[0]?)
theorem kS {E:List PE} {j:Nat} {t:Bool} {g:Nat} {x:Option Int} (h:vw E j=some (t,g,x)):∃ e,E[j]? = some e/\e.tk=t/\e.gen=g/\e.ws[0]? = x:=by
 unfold vw at h
 obtain ⟨e,h1,h2⟩:=Option.map_eq_some_iff.1 h
 simp only [Prod.mk.injEq] at h2
 exact ⟨e,h1,h2.1,h2.2.1,h2.2.2⟩
theorem qe {E:List PE} {j:Nat} {e:PE} (h:E[j]? = some e):vw E j=some (e.tk,e.gen,e.ws[0]?):=by simp [vw,h]
theorem yR {E:List PE} {j:Nat}:vw E j=none ↔ E[j]? = none:=by simp [vw]
theorem cE.vw {E E':List PE} {nx pv:Nat} (h:cE nx pv E E') (h1:0≠nx) (h2:0≠pv) (j:Nat):vw E' j=vw E j:=by
 cases hj:E[j]? with
 |none=>rw [yR.2 hj,yR.2 (List.getElem?_eq_none (by rw [h.len];exact List.getElem?_eq_none_iff.1 hj))]
 |some x=>
  obtain ⟨y,g1,g2,g3,g4⟩:=h.at_ j x hj
  rw [qe g1,qe hj,g2,g3,g4 0 h1 h2]
structure bS (J:AH O) (hb pb mb:Nat) (M:ah) (P:ao) (C:List Nat) (w:List Int) (X:List Nat):Prop where
 p:aN J pb mb M P w (hb::X)
 words:P.words=3
 b:∃ el,J.aa hb=some (.cells true el [.p (some (.n pb,0)),.i .i64 (rz C:Int),.i .i64 (kB C:Int),.i .i64 (C.length:Int)])
 nx:hb∉X
 l:bz P.E 1 2 C
 all:∀ i e,P.E[i]? = some e->e.tk=true->i∈C
 bW:P.E.length<=1048576
 gen:∀ e∈P.E,e.gen<4398046511104
theorem bS.ce {J:AH O} {hb pb mb:Nat} {M:ah} {P:ao} {C:List Nat} {w:List Int} {X:List Nat} (h:bS J hb pb mb M P C w X):C.length<=P.E.length:=by
 have key:∀ (n:Nat) (l:List Nat),l.Nodup->(∀ x∈l,x<n)->l.length<=n:=by
  intro n
  induction n with
  |zero=>intro l _ hx;cases l with |nil=>simp |cons a l=>exact absurd (hx a List.mem_cons_self) (by omega)
  |succ n ih=>
   intro l hn hx
   by_cases hm:n∈l
   ·have h1:=ih (l.erase n) (hn.erase n) fun x Ey=>by
     have:=hx x (List.mem_of_mem_erase Ey)
     have db:x≠n:=fun e=>by subst e;exact (List.Nodup.not_mem_erase hn) Ey
     omega
    rw [List.length_erase_of_mem hm] at h1;omega
   ·have:=ih l hn fun x Ey=>by
     have:=hx x Ey
     have db:x≠n:=fun e=>hm (e▸Ey)
     omega
    omega
 have:=key P.E.length C h.l.nd fun x hx=>by
  obtain ⟨j,hj⟩:=List.getElem?_of_mem hx
  obtain ⟨e,he,_⟩:=h.l.at_ j x hj
  exact (List.getElem?_eq_some_iff.1 he).1
 exact this
theorem bS.cl {J:AH O} {hb pb mb:Nat} {M:ah} {P:ao} {C:List Nat} {w:List Int} {X:List Nat} (h:bS J hb pb mb M P C w X):C.length<=1048576:=Nat.le_trans h.ce h.bW
section
variable {J:AH O} {hb pb mb:Nat} {M:ah} {P:ao} {C:List Nat} {w:List Int} {X:List Nat} (h:bS J hb pb mb M P C w X)
include h
theorem bS.lt:hb<J.next:=h.p.mi.lt _ (by simp)
theorem bS.kp {J':AH O} {M':ah} (hp:aN J' pb mb M' P w (hb::X)) (hk:aw (hb::X) J J'):bS J' hb pb mb M' P C w X:={h with p:=hp,b:=by obtain ⟨el,hb⟩:=h.b;exact ⟨el,hk.head.trans hb⟩}
theorem Gr:Ok (NO [.p (some (.n hb,0))] J) fun r=>r.1=fL P mb 1 2/\Ext J r.2:=by
 obtain ⟨el,tc⟩:=h.b
 have hw:=h.words
 have bp:=h.lt
 (unfold NO qvf;refine cw tc ?_)
 generalize hJ:(J.az 1).put J.next (.cells true _ _)=J1
 obtain ⟨E1,b1,n1⟩:=boxed hJ
 clear hJ
 have pt:=rB (h.p.ext E1) (nx:=1) (pv:=2) (by omega) (by omega)
 rw [show ((1:Nat):Int)=1 from rfl,show ((2:Nat):Int)=2 from rfl] at pt
 refine Ok.step pt fun r ⟨g1,g2⟩=>?_
 obtain ⟨q,J2⟩:=r
 simp only [fL] at g1 g2
 subst g1
 have b2:J2.aa J.next=_:=(g2.aa _ (by omega)).trans b1
 have n2:=g2.next
 refine cw b2 ?_
 exact U.2 ⟨rfl,(E1.trans g2).put (Nat.le_refl _) _⟩
end
section
variable {J:AH O} {hb pb mb:Nat} {M:ah} {P:ao} {C:List Nat} {w:List Int} {X:List Nat} (h:bS J hb pb mb M P C w X) (hm:M.met.r+1000<85070591730234615865843651857942052864/\M.met.w+1000<85070591730234615865843651857942052864)
include h hm
theorem NP {i g:Nat} {x:Option Int} (hv:vw P.E i=some (true,g,x)):Ok (qw4 [.p (some (.n hb,0)),.i .i64 (tok i g)] J) fun r=>r.1=.aB [.i .i64 ((i:Int)+1),.i .i64 0]/\∃ M',bS r.2 hb pb mb M' P C w X/\fE M M' P.id w 2 0/\aw X J r.2:=by
 obtain ⟨e,he,gj,hg,_⟩:=kS hv
 obtain ⟨el,tc⟩:=h.b
 have JG:=(List.getElem?_eq_some_iff.1 he).1
 have Gs:=h.bW
 have ait:=h.gen e (List.mem_of_getElem? he)
 rw [hg] at ait
 have ht:0<=tok i g/\tok i g<=9223372036854775807:=by unfold tok;omega
 have a1:bG .and .i64 (tok i g) 1048575=i:=by rw [Ye (by omega),NM (by omega)]
 have a2:Int.fdiv (tok i g) (2 ^ 20)=g:=by
  rw [Int.fdiv_eq_ediv_of_nonneg _ (by decide),show (2:Int) ^ 20=1048576 from rfl,NN (by omega)]
 (unfold qw4 qw3;refine jE a1 a2 tc ?_)
 refine Ok.step (xg h.p ⟨by omega,by omega⟩ he) fun r ⟨k1,M1,k2,k3,k4⟩=>?_
 obtain ⟨q,J1⟩:=r
 simp only at k1 k2 k4
 rw [gj] at k1
 subst k1
 have cK:J1.aa hb=_:=k4.head.trans tc
 have r1:=k3.r
 have w1:=k3.w
 refine cw cK ?_
 refine Ok.step (Es k2 ⟨by omega,by omega⟩ he) fun r ⟨q1,M2,q2,q3,q4⟩=>?_
 obtain ⟨q,J2⟩:=r
 simp only at q1 q2 q4
 rw [hg] at q1
 subst q1
 have e1:((g:Int) != (g:Int))=false:=by simp
 have e2:((g:Int) == (g:Int))=true:=by simp
 refine gh e1 e2 ?_
 exact U.2 ⟨rfl,M2,h.kp q2 (k4.trans q4),(k3.trans q3).as rfl (by omega) (by omega),(k4.trans q4).tail⟩
theorem NQ {i g:Nat} {x:Int} (hv:vw P.E i=some (true,g,some x)):Ok (qw9 [.p (some (.n hb,0)),.i .i64 (tok i g)] J) fun r=>r.1=.aB [.i .u64 x,.i .i64 0]/\∃ M',bS r.2 hb pb mb M' P C w X/\fE M M' P.id w 4 0/\aw X J r.2:=by
 obtain ⟨e,he,gj,hg,hx⟩:=kS hv
 have hw:=h.words
 (unfold qw9 qw8;refine bZ ?_)
 refine Ok.step (NP h hm hv) fun r ⟨k1,M1,k2,k3,k4⟩=>?_
 obtain ⟨q,J1⟩:=r
 simp only at k1 k2 k4
 subst k1
 have e1:((0:Int) != 0)=false:=rfl
 obtain ⟨el,cK⟩:=k2.b
 have r1:=k3.r
 have w1:=k3.w
 refine gh e1 cK ?_
 have g0:=yI k2.p ⟨by omega,by omega⟩ (k:=0) he gj (by omega) (by omega)
 rw [show ((0:Nat):Int)=0 from rfl] at g0
 refine Ok.step g0 fun q ⟨q1,M2,q2,q3,q4⟩=>?_
 obtain ⟨q,J2⟩:=q
 simp only at q1 q2 q4
 rw [List.getD_eq_getElem?_getD,hx] at q1
 simp only [Option.getD_some] at q1
 subst q1
 refine bZ ?_
 exact U.2 ⟨rfl,M2,k2.kp q2 q4,(k3.trans q3).as rfl (by omega) (by omega),k4.trans q4.tail⟩
end
end Go.Abs.Tryz
namespace Go.Abs.Tryz
open Go Go.Abs
variable {O:Type}
theorem Kj {J:AH O} {i g:Nat} (hi:i<1048576) (hg:g<4398046511104):qvq [.i .i64 ((i:Int)+1),.i .i64 (g:Int)] J=some (.i .i64 (tok i g),J):=by
 have e1:(i:Int)+1 - 1=i:=by omega
 have e2:(2:Int) ^ 20=1048576:=rfl
 have e3:=ais hg hi
 simp (maxSteps:=2000000) -implicitDefEqProofs (disch:=(first |omega |rfl |assumption |(simp only [aO];first |omega |assumption))) only [qvq,qvp,e1,e2,e3,tok,Nat.reduceAdd,Nat.reduceMul,Nat.reduceLT,Int.reduceToNat,Int.reduceAdd,Int.reduceSub,Int.reduceMul,eA,gM]
structure Yf (P P':ao) (i g:Nat) (x:Int):Prop where
 id:P'.id=P.id
 now:vw P'.E i=some (true,g,some x)
 other:∀ j,j≠i->vw P'.E j=vw P.E j
 was:vw P.E i=none/\g=0 ∨ ∃ y,vw P.E i=some (false,g,y)
 len:P.E.length<=P'.E.length/\P'.E.length<=P.E.length+1
 room:P'.room=P.room ∨ P'.room=P.more
 head:∀ j r,P.free=(j+1)::r->i=j
 fr:P.free=[]/\i=P.E.length/\P'.free=[]/\P'.room=P.more/\P'.E.length=P.E.length+1 ∨ P.free=(i+1)::P'.free/\P'.room=P.room/\P'.E.length=P.E.length
section
variable {J:AH O} {hb pb mb:Nat} {M:ah} {P:ao} {C:List Nat} {w:List Int} {X:List Nat} (h:bS J hb pb mb M P C w X) (hm:M.met.r+1000<85070591730234615865843651857942052864/\M.met.w+1000<85070591730234615865843651857942052864)
include h hm
theorem NR {x:Int} (hE:P.E.length<1048576) (hR:P.more*4<=4194304) (hg:∀ e∈P.E,e.gen<4398046511103):
  Ok (qvv [.p (some (.n hb,0)),.i .u64 x] J) fun r=>∃ i g P',r.1=.aB [.i .i64 (tok i g),.i .i64 0]/\Yf P P' i g x/\∃ M' w' dr dw,bS r.2 hb pb mb M' P' (C++[i]) w' X/\fE M M' P.id w' dr dw/\0<=dr/\0<=dw/\dr+dw<=16/\aw X J r.2:=by
 obtain ⟨el,tc⟩:=h.b
 have hw:=h.words
 have tf:=h.nx
 have Gs:=h.bW
 have sY:=h.cl
 have e0:((0:Int) != 0)=false:=rfl
 have hpn:=h.p.nx
 (unfold qvv qvu;refine cw tc ?_)
 refine Ok.step (Ge h.p ⟨by omega,by omega⟩ hE (by rw [hw];exact hR) ⟨by omega,by omega⟩) fun q ⟨i,g,P1,p1,t,M1,w1,dr,dw,p2,p3,d1,d2,d3,d4,p4⟩=>?_
 obtain ⟨q,J1⟩:=q
 simp only at p1 p2 p4
 subst p1
 have r1:=p3.r
 have v1:=p3.w
 have cK:J1.aa hb=_:=p4.head.trans tc
 have yk:P1.words=3:=t.words.trans hw
 have CZ:P1.E[i]? = some ⟨true,g,[0,0,0]⟩:=by rw [t.now,hw];rfl
 have Hq:=(List.getElem?_eq_some_iff.1 CZ).1
 have hlen:=t.len
 have hg4:g<4398046511103:=by
  cases hE:P.E[i]? with
  |none=>rw [t.new hE];omega
  |some e=>
   obtain ⟨_,h2⟩:=t.was e hE
   rw [<-h2];exact hg e (List.mem_of_getElem? hE)
 have hiC:i∉C:=fun hm=>by
  obtain ⟨j,hj⟩:=List.getElem?_of_mem hm
  obtain ⟨e,he,hl⟩:=h.l.at_ j i hj
  have:=(t.was e he).1
  rw [hl.tk] at this;cases this
 have Il:bz P1.E 1 2 C:=h.l.other fun j hj=>t.other j fun e=>hiC (e▸hj)
 refine gh e0 cK ?_
 have ps:=m9 p2 ⟨by omega,by omega⟩ (k:=0) (x:=x) CZ rfl (by omega) (by omega)
 rw [show ((0:Nat):Int)=0 from rfl] at ps
 refine Ok.step ps fun q ⟨q1,M2,w2,q2,q3,q4⟩=>?_
 obtain ⟨q,J2⟩:=q
 simp only [List.set_cons_zero] at q1 q2 q4
 subst q1
 have r2:=q3.r
 have v2:=q3.w
 have fv:J2.aa hb=_:=q4.head.trans cK
 have QB:(P1.E.set i ⟨true,g,[x,0,0]⟩)[i]? = some ⟨true,g,[x,0,0]⟩:=by rw [List.getElem?_set];simp [Hq]
 have Us:bz (P1.E.set i ⟨true,g,[x,0,0]⟩) 1 2 C:=Il.other fun j hj=>by show (P1.E.set i ⟨true,g,[x,0,0]⟩)[j]? = P1.E[j]?;rw [List.getElem?_set,if_neg (fun e:i=j=>hiC (by rw [e];exact hj))]
 refine cw fv ?_
 have hT:Ok (NO [.p (some (.n hb,0))] J2) fun r=>r.1=fL {P1 with E:=P1.E.set i ⟨true,g,[x,0,0]⟩} mb 1 2/\Ext J2 r.2:=by
  have bp:hb<J2.next:=q2.mi.lt _ (by simp)
  (unfold NO qvf;refine cw fv ?_)
  generalize hJ:(J2.az 1).put J2.next (.cells true _ _)=J3
  obtain ⟨E1,b1,n1⟩:=boxed hJ
  clear hJ
  have pt:=rB (q2.ext E1) (nx:=1) (pv:=2) (by show 1<P1.words;omega) (by show 2<P1.words;omega)
  rw [show ((1:Nat):Int)=1 from rfl,show ((2:Nat):Int)=2 from rfl] at pt
  refine Ok.step pt fun r ⟨g1,g2⟩=>?_
  obtain ⟨q,J4⟩:=r
  simp only [fL] at g1 g2
  subst g1
  have b2:J4.aa J2.next=_:=(g2.aa _ (by omega)).trans b1
  have n2:=g2.next
  refine cw b2 ?_
  exact U.2 ⟨rfl,(E1.trans g2).put (Nat.le_refl _) _⟩
 refine Ok.step hT fun r ⟨g1,g2⟩=>?_
 obtain ⟨q,J3⟩:=r
 simp only [fL] at g1 g2
 subst g1
 have mz:J3.aa hb=_:=(g2.aa _ (q2.mi.lt _ (by simp))).trans fv
 refine cw mz ?_
 have tp:=JL (q2.ext g2) (nx:=1) (pv:=2) (by show 1<P1.words;omega) (by show 2<P1.words;omega) (by decide) Us ⟨by omega,by omega⟩ (by omega) hiC QB rfl
 unfold fL sw at tp
 refine Ok.step tp fun r ⟨s1,M3,w3,E3,dw3,s2,s3,s4,s5,s6,s7,s8⟩=>?_
 obtain ⟨q,J4⟩:=r
 simp only at s1 s2 s8
 subst s1
 have r3:=s5.r
 have v3:=s5.w
 have Et:J4.aa hb=_:=s8.head.trans mz
 have Si:=s2.mi.lt hb (by simp)
 have Uq:pb≠hb:=fun e=>hpn (by simp [e])
 refine cw Et ?_
 generalize hJ:J4.put hb (.cells true _ _)=J5
 have yP:∃ el,J5.aa hb=some (.cells true el [.p (some (.n pb,0)),.i .i64 (rz (C++[i]):Int),.i .i64 (kB (C++[i]):Int),.i .i64 ((C++[i]).length:Int)]):=by rw [<-hJ];exact ⟨_,aH⟩
 have p5:aN J5 pb mb M3 {P1 with E:=E3} w3 (hb::X):=by
  rw [<-hJ]
  exact s2.bF (L:=[hb]) ⟨by simp,fun b dI hm=>aA (by simpa using hm)⟩ (fun b dI=>.inl (by simp at dI;simp [dI])) fun b dI=>.inl dI
 have kx5:aw X J4 J5:=by rw [<-hJ];exact aw.put tf _
 clear hJ
 obtain ⟨el5,yP⟩:=yP
 have sbv:∀ j,vw E3 j=vw (P1.E.set i ⟨true,g,[x,0,0]⟩) j:=s3.vw (by decide) (by decide)
 have hv3:vw E3 i=some (true,g,some x):=by rw [sbv,qe QB];rfl
 obtain ⟨e3,Sn,asb,hg3,XH⟩:=kS hv3
 have pg:=Es p5 ⟨by omega,by omega⟩ (i:=i) (e:=e3) Sn
 rw [hg3] at pg
 refine Ok.step pg fun r ⟨u1,M4,u2,u3,u4⟩=>?_
 obtain ⟨q,J6⟩:=r
 simp only at u1 u2
 subst u1
 have tk:=Kj (J:=J6) (i:=i) (g:=g) (by omega) (by omega)
 refine cw tk ?_
 have jT:P1.id=P.id:=t.id
 have hvo:∀ j,j≠i->vw E3 j=vw P.E j:=fun j hj=>by
  rw [sbv]
  unfold vw
  rw [List.getElem?_set,if_neg (fun e=>hj e.symm),t.other j hj]
 refine U.2 ⟨i,g,{P1 with E:=E3},rfl,⟨jT,hv3,hvo,?_,?_,t.room,t.head,?_⟩,M4,w3,dr+1+0+1,dw+1+dw3+0,⟨u2,yk,⟨el5,u4.head.trans yP⟩,tf,s4,fun j e he gj=>?_,?_,fun e he=>?_⟩,?_,by omega,by omega,?_,(((p4.tail.trans q4.tail).trans ((q2.mi.tail.tail).dD g2)).trans s8.tail).trans (kx5.trans u4.tail)⟩
 ·cases hE:P.E[i]? with
  |none=>exact .inl ⟨yR.2 hE,t.new hE⟩
  |some e=>
   obtain ⟨h1,h2⟩:=t.was e hE
   exact .inr ⟨e.ws[0]?,by rw [qe hE,h1,h2]⟩
 ·show P.E.length<=E3.length/\E3.length<=_
  rw [s3.len,List.length_set];exact hlen
 ·show P.free=[]/\i=P.E.length/\P1.free=[]/\P1.room=P.more/\E3.length=P.E.length+1 ∨ P.free=(i+1)::P1.free/\P1.room=P.room/\E3.length=P.E.length
  rw [s3.len,List.length_set];exact t.fr
 ·by_cases c:j=i
  ·subst c;simp
  ·have h1:=qe he
   rw [hvo j c] at h1
   obtain ⟨e',lU,pd,_⟩:=kS h1
   exact List.mem_append_left _ (h.all j e' lU (pd.trans gj))
 ·show E3.length<=_
  rw [s3.len,List.length_set];omega
 ·obtain ⟨j,hj⟩:=List.getElem?_of_mem he
  have h1:=qe hj
  by_cases c:j=i
  ·rw [c,hv3] at h1
   simp only [Option.some.injEq,Prod.mk.injEq] at h1
   rw [<-h1.2.1];omega
  ·rw [hvo j c] at h1
   obtain ⟨e',lU,_,hg',_⟩:=kS h1
   rw [<-hg']
   have:=hg e' (List.mem_of_getElem? lU);omega
 ·have q3':fE M1 M2 P.id w2 1 1:=by rw [<-jT];exact q3
  have s5':fE M2 M3 P.id w3 0 dw3:=by rw [<-jT];exact s5
  have u3':fE M3 M4 P.id w3 1 0:=by rw [<-jT];exact u3
  exact (((p3.trans q3').trans s5').trans u3').as rfl (by omega) (by omega)
 ·omega
end
theorem bS.bF {J J':AH O} {hb pb mb:Nat} {M:ah} {P:ao} {C:List Nat} {w:List Int} {X Y L:List Nat} (h:bS J hb pb mb M P C w X) (hc:ei L J J') (hl:∀ b∈L,b∈X ∨ J.next<=b) (hY:∀ b∈Y,b∈X ∨ (J.next<=b/\b<J'.next)):bS J' hb pb mb M P C w Y:=by
 have bp:=h.lt
 have gK:hb∉L:=fun hm=>by
  rcases hl hb hm with g |g
  ·exact h.nx g
  ·omega
 refine {h with p:=h.p.bF hc (fun b hb=>(hl b hb).imp (List.mem_cons_of_mem _) fun g=>g) fun b hb=>?_,b:=by obtain ⟨el,tc⟩:=h.b;exact ⟨el,(hc.aa hb h.lt gK).trans tc⟩,nx:=fun hm=>?_}
 ·rcases List.mem_cons.1 hb with rfl |hb
  ·exact .inl List.mem_cons_self
  ·exact (hY b hb).imp (List.mem_cons_of_mem _) fun g=>g
 ·rcases hY hb hm with g |g
  ·exact h.nx g
  ·omega
theorem bS.by {J J':AH O} {hb pb mb:Nat} {M M':ah} {P:ao} {C:List Nat} {w:List Int} {X:List Nat} (h:bS J hb pb mb M P C w X) (mi:bu J' mb M' (pb::hb::X)) (h1:J'.aa hb=J.aa hb) (h2:J'.aa pb=J.aa pb) (hw:ak M'.sp P.id=ak M.sp P.id):bS J' hb pb mb M' P C w X:=
 {h with p:={h.p with mi:=mi,b:=h2.trans h.p.b,now:=hw.trans h.p.now},b:=by obtain ⟨el,hb⟩:=h.b;exact ⟨el,h1.trans hb⟩}
theorem bS.mono {J:AH O} {hb pb mb:Nat} {M:ah} {P:ao} {C:List Nat} {w:List Int} {X Y:List Nat} (h:bS J hb pb mb M P C w X) (hs:∀ b∈Y,b∈X):bS J hb pb mb M P C w Y:=
 {h with p:=h.p.mono (fun b hb=>(List.mem_cons.1 hb).elim (fun e=>by rw [e];exact List.mem_cons_self) fun hb=>List.mem_cons_of_mem _ (hs b hb)),nx:=fun hm=>h.nx (hs _ hm)}
theorem EB {J:AH O} {mb:Nat} {M:ah} {X:List Nat} (h:bu J mb M X) (hc:M.calm) (je:M.count<262144):
  Ok (qu6 [.p (some (.n mb,0))] J) fun r=>∃ hb pb,r.1=.aB [.p (some (.n hb,0)),.i .i64 0]/\bS r.2 hb pb mb (M.iv (ff M.sp) 0) ⟨ff M.sp,3,0,[],[],0⟩ [] [] X/\J.next<=hb/\aw X J r.2:=by
 (unfold qu6 qu5;refine bZ ?_)
 have pn:=Eu h hc je (n:=3) ⟨by decide,by decide⟩
 rw [show ((3:Nat):Int)=3 from rfl] at pn
 refine Ok.step pn fun r ⟨pb,g1,g2,g3,g4⟩=>?_
 obtain ⟨q,J1⟩:=r
 simp only at g1 g2 g4
 subst g1
 have e0:((0:Int) != 0)=false:=rfl
 refine cw e0 ?_
 refine U.2 ⟨J1.next,pb,rfl,⟨g2.new (eB _ _) (Nat.le_refl _) (by simp),rfl,⟨_,aH⟩,fun hm=>by have:=g2.mi.lt _ (List.mem_cons_of_mem _ hm);omega,bz.nil _ _ _,fun i e he=>by simp at he,by simp,fun e he=>by simp at he⟩,g4.next,g4.trans (g2.mi.tail.dD (eB _ _))⟩
end Go.Abs.Tryz
set_option maxHeartbeats 2000000
namespace Go.Abs.Tryz
open Go Go.Abs
variable {O:Type}
theorem Kk {ky:Sm O} {b pb mb nx pv:Nat} {id:Int} {W:Nat} {C:List Nat} {cb tb:Nat} (I:Nat->AH O->ah->Prop)
  (h1:nx<W) (h2:pv<W) (db:nx≠pv) (hC:C.length<=4194304)
  (
   hy:∀ (k i:Nat) (J:AH O) (M:ah),C[k]? = some i->I k J M->Ok (ky [.p (some (.n b,0)),.i .i64 ((i:Int)+1)] J) fun r=>r.1=.b true/\∃ M' S w X,aN r.2 pb mb M' S w X/\S.id=id/\S.words=W/\bz S.E nx pv C/\M'.calm/\(∃ el,r.2.aa tb=some (.cells true el [.p (some (.n mb,0)),.i .i64 id,.i .i64 ((W:Int)+1),.i .i64 ((nx:Int)+1),.i .i64 ((pv:Int)+1)]))/\
   ∀ J' Gi,aN J' pb mb Gi S w X->fE M' Gi S.id w 1 0->aw X r.2 J'->I (k+1) J' Gi)
  {J:AH O} {M:ah} {el:TypeId} (vO:J.aa cb=some (.cells true el (JM C))) (h0:I 0 J M) {x y:List AV}:
  Ok (Va ky [.fn (some (.yield b,x,y)),.p (some (.n cb,0)),.p (some (.n tb,0))] J) fun r=>r.1=.aB []/\∃ M',I C.length r.2 M':=by
 simp only [JM] at vO
 (unfold Va qwa;refine cw vO ?_)
 refine Ok.cv (Q:=fun r=>∃ J' M',r=.inl ([],J')/\I C.length J' M') ?_ ?_ ?_
 ·refine Ok.count C.length (fun k s=>∃ J' M',s=([.i .i64 (match C[k]? with |some i=>(i:Int)+1 |none=>0),.i .i64 (k:Int)],J')/\I k J' M') ?_ ?_ ⟨J,M,?_,h0⟩
  ·rintro k s hk ⟨J1,M1,rfl,hI⟩
   have hx:=List.getElem?_eq_getElem hk
   generalize C[k]=i at hx
   rw [hx]
   (unfold qv9 pB ny jK;refine bZ ?_)
   refine Ok.step (hy k i J1 M1 hx hI) fun r ⟨g1,M2,S,w,X2,g2,jT,hW,hL,PR,⟨vQ,htb⟩,g7⟩=>?_
   obtain ⟨q,J2⟩:=r
   simp only at g1 g2 htb g7
   subst g1
   subst jT
   subst hW
   have Nw:S.E.length<=4194304:=by
    have Gc:=g2.p.made
    have hlen:=g2.p.len
    have BD:=g2.L9
    have h3:S.room*1<=S.room*(S.words+1):=Nat.mul_le_mul_left _ (by omega)
    omega
   obtain ⟨s1,s2,s3⟩:=hL.small (B:=4194304) Nw
   obtain ⟨e,he,hl⟩:=hL.at_ k i hx
   refine cw htb ?_
   have ta:=rI g2 h1 h2 db PR (i:=i) (x:=nid C k) he hl.n (by have:=(s3 k).1;omega)
   unfold fL at ta
   refine Ok.step ta fun r ⟨g3,M3,g4,g5,g6⟩=>?_
   obtain ⟨q,J3⟩:=r
   simp only at g3 g4 g6
   subst g3
   have e0:((0:Int) != 0)=false:=rfl
   refine cw e0 ?_
   have hn:((nid C k:Nat):Int)=(match C[k+1]? with |some i=>(i:Int)+1 |none=>0):=by
    unfold nid
    cases C[k+1]? with
    |none=>rfl
    |some i=>simp
   exact U.2 ⟨J3,M3,by rw [hn];rfl,g7 J3 M3 g4 g5 g6⟩
  ·rintro s ⟨J1,M1,rfl,hI⟩
   have hx:C[C.length]? = none:=by simp
   rw [hx]
   (unfold qv9;refine bZ ?_)
   exact U.2 ⟨J1,M1,rfl,hI⟩
  ·cases C with
   |nil=>simp [rz]
   |cons c C=>simp [rz]
 ·rintro s ⟨J1,M1,e,hI⟩
  simp only [Sum.inl.injEq] at e
  subst e
  refine bZ ?_
  exact U.2 ⟨rfl,M1,hI⟩
 ·rintro s ⟨J1,M1,e,hI⟩
  cases e
structure nE (P P':ao):Prop where
 id:P'.id=P.id
 words:P'.words=P.words
 free:P'.free=P.free
 room:P'.room=P.room
 len:P'.E.length=P.E.length
 vw:∀ i,(vw P'.E i).map (fun y=>(y.1,y.2.1))=(vw P.E i).map (fun y=>(y.1,y.2.1))
theorem nE.refl (P:ao):nE P P:=⟨rfl,rfl,rfl,rfl,rfl,fun _=>rfl⟩
theorem nE.trans {P P' P'':ao} (h:nE P P') (g:nE P' P''):nE P P'':=⟨g.id.trans h.id,g.words.trans h.words,g.free.trans h.free,g.room.trans h.room,g.len.trans h.len,fun i=>(g.vw i).trans (h.vw i)⟩
theorem bS.Sj {J J':AH O} {hb pb mb:Nat} {M M':ah} {P:ao} {C:List Nat} {w w':List Int} {X:List Nat} (h:bS J hb pb mb M P C w X) {i:Nat} {e:PE} {y:Int} (he:P.E[i]? = some e) (gj:e.tk=true)
  (p:aN J' pb mb M' {P with E:=P.E.set i {e with ws:=e.ws.set 0 y}} w' (hb::X)) (k:J'.aa hb=J.aa hb):bS J' hb pb mb M' {P with E:=P.E.set i {e with ws:=e.ws.set 0 y}} C w' X/\nE P {P with E:=P.E.set i {e with ws:=e.ws.set 0 y}}/\vw (P.E.set i {e with ws:=e.ws.set 0 y}) i=some (true,e.gen,some y)/\∀ j,j≠i->vw (P.E.set i {e with ws:=e.ws.set 0 y}) j=vw P.E j:=by
 have hw:=h.words
 have hi:=(List.getElem?_eq_some_iff.1 he).1
 have BD:=h.p.p.wl e (List.mem_of_getElem? he)
 have CZ:(P.E.set i {e with ws:=e.ws.set 0 y})[i]? = some {e with ws:=e.ws.set 0 y}:=by rw [List.getElem?_set];simp [hi]
 have Gl:∀ j,j≠i->(P.E.set i {e with ws:=e.ws.set 0 y})[j]? = P.E[j]? := fun j hj=>by rw [List.getElem?_set,if_neg (fun e=>hj e.symm)]
 have hv:vw (P.E.set i {e with ws:=e.ws.set 0 y}) i=some (true,e.gen,some y):=by
  rw [qe CZ,gj]
  have h0:0<e.ws.length:=by omega
  simp [h0]
 have ho:∀ j,j≠i->vw (P.E.set i {e with ws:=e.ws.set 0 y}) j=vw P.E j:=fun j hj=>by
  unfold vw
  rw [Gl j hj]
 obtain ⟨el,tc⟩:=h.b
 refine ⟨⟨p,hw,⟨el,k.trans tc⟩,h.nx,h.l.words he (by decide) (by decide),fun j z hz ht=>?_,?_,fun z hz=>?_⟩,⟨rfl,rfl,rfl,rfl,List.length_set ..,fun j=>?_⟩,hv,ho⟩
 ·by_cases c:j=i
  ·subst c;exact h.all j e he gj
  ·simp only at hz
   rw [Gl j c] at hz;exact h.all j z hz ht
 ·show (P.E.set _ _).length<=_
  rw [List.length_set];exact h.bW
 ·rcases fV hz with rfl |hz
  ·exact h.gen e (List.mem_of_getElem? he)
  ·exact h.gen z hz
 ·by_cases c:j=i
  ·subst c
   simp only
   rw [hv,qe he,gj];rfl
  ·simp only
   rw [ho j c]
end Go.Abs.Tryz
namespace Go.Abs.Tryz
open Go Go.Abs
variable {O:Type}
theorem aiD {J J1:AH O} {x y:eY O} (hJ:((J.az 2).put J.next x).put (J.next+1) y=J1):Ext J J1/\J1.next=J.next+2/\J1.aa J.next=some x/\J1.aa (J.next+1)=some y:=by
 subst hJ
 exact ⟨((((Ext.refl J).az 2).put (Nat.le_refl _) _).put (by omega) _),rfl,(aA (by omega)).trans aH,aH⟩
noncomputable abbrev QC:List (Nat × Sm O):=[(119,BF),(130,Gd),(81,Kl)]
structure Km (hb pb mb:Nat) (P0:ao) (C:List Nat) (V:List (Nat × Int)) (f:Fn × List AV × List AV) (I:List Int->Int->AH O->ah->List Nat->Prop):Prop where
 calm:∀ {Z n J M X},I Z n J M X->0<=n->n<=5*Z.length+5->Z.length<=V.length->M.met.r+1000<85070591730234615865843651857942052864/\M.met.w+1000<85070591730234615865843651857942052864
 fr:∀ {Z n J M X J' M' P w P' w' dr dw},I Z n J M X->bS J hb pb mb M P C w X->bS J' hb pb mb M' P' C w' X->P.id=P0.id->P'.id=P.id->fE M M' P.id w' dr dw->aw X J J'->0<=dr->0<=dw->I Z (n+(dr+dw)) J' M' X
 skip:∀ {Z n J M X g},V[Z.length]? = some (g,0)->I Z n J M X->I (Z++[0]) n J M X
 call:∀ {fx Z n J M P w X g x},V[Z.length]? = some (g,x)->x≠0->nE P0 P->bS J hb pb mb M P C w (fx++X)->I Z n J M X->(∀ q∈fx,q∉X)->0<=n->n<=5*Z.length+5->Ok (pB QC (some f) [.i .u64 x] J) fun r=>∃ y,r.1=.i .u64 y/\∃ M' X',bS r.2 hb pb mb M' P C w (fx++X')/\(∀ q∈fx,q∉X'/\r.2.aa q=J.aa q)/\I (Z++[y]) n r.2 M' X'
section
variable {hb pb mb:Nat} {P0:ao} {C:List Nat} {V:List (Nat × Int)} {f:Fn × List AV × List AV} {I:List Int->Int->AH O->ah->List Nat->Prop} (T:Km hb pb mb P0 C V f I)
include T
theorem C9 {J:AH O} {M:ah} {P:ao} {w:List Int} {X:List Nat} {b x0 x1 tb:Nat} {Z:List Int} {n:Int} (h:bS J hb pb mb M P C w (b::x0::x1::tb::X)) (L:nE P0 P) (hI:I Z n J M X) (hX:∀ q∈[b,x0,x1,tb],q∉X)
  (n0:b≠x0) (n1:b≠x1) (n2:b≠tb) (lb:J.aa b=some (.loop 135000 [(2,.p (some (.n x0,0))),(3,.p (some (.n x1,0)))] .ready)) {e0 e1:TypeId} (l0:J.aa x0=some (.cells true e0 [.p (some (.n hb,0))])) (l1:J.aa x1=some (.cells true e1 [.fn (some f)]))
  (hn:0<=n/\n<=5*Z.length) {g i:Nat} {x:Int} (hZ:V[Z.length]? = some (g,x)) (hv:vw P.E i=some (true,g,some x)):
  Ok (SJ [.p (some (.n b,0)),.i .i64 ((i:Int)+1)] J) fun r=>r.1=.b true/\∃ y n' M' P' w' X',bS r.2 hb pb mb M' P' C w' (b::x0::x1::tb::X')/\nE P P'/\vw P'.E i=some (true,g,some y)/\(∀ j,j≠i->vw P'.E j=vw P.E j)/\I (Z++[y]) n' r.2 M' X'/\n<=n'/\n'<=n+4/\(∀ q∈[b,x0,x1,tb],q∉X'/\r.2.aa q=J.aa q):=by
 have NS:Nat.beq 3 2=false:=rfl
 have hZl:=(List.getElem?_eq_some_iff.1 hZ).1
 have gK:∀ q∈[b,x0,x1,tb],q≠hb:=fun q hq e=>h.nx (by subst e;simp at hq ⊢;omega)
 have tc:=gK b (by simp)
 have bp:∀ q∈b::x0::x1::tb::X,q<J.next:=fun q hq=>h.p.mi.lt q (by simp only [List.mem_cons] at hq ⊢;simp only [hq,or_true])
 simp (maxSteps:=2000000) -implicitDefEqProofs (disch:=(first |omega |rfl |assumption |(simp only [aO];first |omega |assumption))) only [SJ,qwk,x8,zX,lb,tQ,NS,l0,Nat.reduceAdd,Nat.reduceMul,Nat.reduceLT,Int.reduceToNat,Int.reduceAdd,Int.reduceSub,Int.reduceMul,eA,gM]
 generalize hJ:J.put b (.loop _ _ _)=J1
 have m1:J1.next=J.next:=by rw [<-hJ];rfl
 have lb1:J1.aa b=some (.loop 135000 [(2,.p (some (.n x0,0))),(3,.p (some (.n x1,0)))] .busy):=by rw [<-hJ];exact aH
 have o1:∀ q,q≠b->J1.aa q=J.aa q:=fun q hq=>by rw [<-hJ];exact aA hq
 clear hJ
 have c1:ei [b] J J1:=⟨by omega,fun q hq hm=>o1 q (by simpa using hm)⟩
 have h1:bS J1 hb pb mb M P C w (b::x0::x1::tb::X):=h.bF c1 (fun q hq=>.inl (by simp at hq;simp [hq])) fun q hq=>.inl hq
 have I1:I Z (n+(0+0)) J1 M X:=T.fr hI (h.mono (by simp +contextual)) (h1.mono (by simp +contextual)) L.id rfl (fE.refl h.p.now) ⟨by omega,fun q hq=>o1 q fun e=>hX b (by simp) (e▸hq)⟩ (by decide) (by decide)
 rw [Int.add_zero,Int.add_zero] at I1
 have cm:=T.calm I1 hn.1 (by omega) (by omega)
 obtain ⟨e,he,gj,hg,hx⟩:=kS hv
 have hw:=h.words
 obtain ⟨el,aiE⟩:=h.b
 refine cw aiE ?_
 have g0:=yI h1.p ⟨by omega,by omega⟩ (k:=0) he gj (by omega) (by omega)
 rw [show ((0:Nat):Int)=0 from rfl] at g0
 refine Ok.step g0 fun q ⟨q1,M2,q2,q3,q4⟩=>?_
 obtain ⟨q,J2⟩:=q
 simp only at q1 q2 q4
 rw [List.getD_eq_getElem?_getD,hx] at q1
 simp only [Option.getD_some] at q1
 subst q1
 have h2:=h1.kp q2 q4
 have I2:I Z (n+(2+0)) J2 M2 X:=T.fr I1 (h1.mono (by simp +contextual)) (h2.mono (by simp +contextual)) L.id rfl q3 (q4.mono (by simp +contextual)) (by decide) (by decide)
 have k2:∀ q∈[b,x0,x1,tb],J2.aa q=J1.aa q:=fun q hq=>q4.aa q (by simp only [List.mem_cons,List.not_mem_nil,or_false] at hq ⊢;rcases hq with rfl |rfl |rfl |rfl<;>simp)
 have fin:∀ (J4:AH O) (M4:ah) (P4:ao) (w4:List Int) (X4:List Nat) (y:Int) (n4:Int),bS J4 hb pb mb M4 P4 C w4 (b::x0::x1::tb::X4)->nE P P4->vw P4.E i=some (true,g,some y)->(∀ j,j≠i->vw P4.E j=vw P.E j)->I (Z++[y]) n4 J4 M4 X4->n<=n4->n4<=n+4->(∀ q∈[b,x0,x1,tb],q∉X4/\J4.aa q=J1.aa q)->
   Ok (((pE J4 b .ready).bind fun J=>some (AV.b true,J):Option (AV × AH O))) fun r=>r.1=.b true/\∃ y n' M' P' w' X',bS r.2 hb pb mb M' P' C w' (b::x0::x1::tb::X')/\nE P P'/\vw P'.E i=some (true,g,some y)/\(∀ j,j≠i->vw P'.E j=vw P.E j)/\I (Z++[y]) n' r.2 M' X'/\n<=n'/\n'<=n+4/\(∀ q∈[b,x0,x1,tb],q∉X'/\r.2.aa q=J.aa q):=by
  intro J4 M4 P4 w4 X4 y n4 a1 a2 a3 a4 a5 a6 a7 a8
  have lb4:=(a8 b (by simp)).2.trans lb1
  (unfold pE;refine cw lb4 ?_)
  have c4:ei [b] J4 (J4.put b (.loop 135000 [(2,.p (some (.n x0,0))),(3,.p (some (.n x1,0)))] .ready)):=⟨by simp,fun q hq hm=>aA (by simpa using hm)⟩
  have h4:=a1.bF (Y:=b::x0::x1::tb::X4) c4 (fun q hq=>.inl (by simp at hq;simp [hq])) fun q hq=>.inl hq
  have I4:=T.fr a5 (a1.mono (by simp +contextual)) (h4.mono (by simp +contextual)) (a2.id.trans L.id) rfl (fE.refl a1.p.now) (show aw X4 J4 (J4.put b (.loop 135000 [(2,.p (some (.n x0,0))),(3,.p (some (.n x1,0)))] .ready)) from ⟨by simp,fun q hq=>aA fun e=>(a8 b (by simp)).1 (e▸hq)⟩) (by decide) (by decide)
  rw [Int.add_zero,Int.add_zero] at I4
  refine U.2 ⟨rfl,y,n4,M4,P4,w4,X4,h4,a2,a3,a4,I4,a6,a7,fun q hq=>⟨(a8 q hq).1,?_⟩⟩
  by_cases c:q=b
  ·subst c
   show (J4.put q _).aa q=_
   rw [aH,lb]
  ·show (J4.put b _).aa q=_
   rw [aA c,(a8 q hq).2,o1 q c]
 by_cases hz:x=0
 ·have d0:=II hz
  refine cw d0 ?_
  rw [hz] at hZ hv
  exact fin J2 M2 P w X 0 (n+(2+0)) h2 (nE.refl P) hv (fun _ _=>rfl) (T.skip hZ I2) (by omega) (by omega) fun q hq=>⟨hX q hq,k2 q hq⟩
 ·have d0:=Eh hz
  have c0:=(k2 x0 (by simp)).trans ((o1 x0 (fun e=>n0 e.symm)).trans l0)
  have c1':=(k2 x1 (by simp)).trans ((o1 x1 (fun e=>n1 e.symm)).trans l1)
  obtain ⟨vQ,aiF⟩:=h2.b
  refine BA d0 c0 c1' aiF ?_
  refine Ok.step (T.call (fx:=[b,x0,x1,tb]) hZ hz L h2 I2 hX (by omega) (by omega)) fun r ⟨y,g1,M3,X3,h3,g3,I3⟩=>?_
  obtain ⟨q,J3⟩:=r
  simp only at g1 h3 g3 I3
  subst g1
  have e0':=(g3 x0 (by simp)).2.trans c0
  obtain ⟨Hz,aiG⟩:=h3.b
  have cm3:=T.calm I3 (by omega) (by simp;omega) (by simp;omega)
  refine gh e0' aiG ?_
  have gs:=m9 h3.p ⟨by omega,by omega⟩ (k:=0) (x:=y) he gj (by omega) (by omega)
  rw [show ((0:Nat):Int)=0 from rfl] at gs
  refine Ok.step gs fun q ⟨s1,M4,w4,s2,s3,s4⟩=>?_
  obtain ⟨q,J4⟩:=q
  simp only at s1 s2 s4
  subst s1
  obtain ⟨h4,k4,v4,o4⟩:=h3.Sj he gj s2 s4.head
  rw [show (some (true,e.gen,some y):Option (Bool × Nat × Option Int))=some (true,g,some y) by rw [hg]] at v4
  refine bZ ?_
  have I4:=T.fr I3 (h3.mono (by simp +contextual)) (h4.mono (by simp +contextual)) L.id rfl s3 (s4.mono (by simp +contextual)) (by decide) (by decide)
  refine fin J4 M4 _ w4 X3 y _ h4 k4 v4 o4 I4 (by omega) (by omega) fun q hq=>⟨(g3 q hq).1,?_⟩
  rw [s4.aa q (by simp only [List.mem_cons,List.not_mem_nil,or_false,List.cons_append,List.nil_append] at hq ⊢;rcases hq with rfl |rfl |rfl |rfl<;>simp),(g3 q hq).2,k2 q hq]
theorem Kn {J:AH O} {M:ah} {w:List Int} {X:List Nat} (h:bS J hb pb mb M P0 C w X) (hVv:∀ (j i:Nat),C[j]? = some i->∃ g x,V[j]? = some (g,x)/\vw P0.E i=some (true,g,some x)) (hI:I [] 0 J M X):
  Ok (qwp [.p (some (.n hb,0)),.fn (some f)] J) fun r=>r.1=.aB []/\∃ Z n M' P' w' X',Z.length=C.length/\bS r.2 hb pb mb M' P' C w' X'/\nE P0 P'/\(∀ (j i:Nat),C[j]? = some i->vw P'.E i=some (true,(V.getD j (0,0)).1,Z[j]?))/\I Z n r.2 M' X'/\0<=n/\n<=5*C.length:=by
 obtain ⟨el,tc⟩:=h.b
 have bp:=h.lt
 have Yg:∀ b∈X,b<J.next:=fun b hb=>h.p.mi.lt b (by simp [hb])
 have hw:=h.words
 have sY:=h.cl
 (unfold qwp qwo;refine cw tc ?_)
 generalize hJ:((J.az 2).put J.next (.cells true _ _)).put (J.next+1) (.cells true _ _)=J1
 obtain ⟨E1,m1,b0,b1⟩:=aiD hJ
 clear hJ
 have h1:bS J1 hb pb mb M P0 C w X:=h.bF (L:=[]) E1.yz (by simp) fun b hb=>.inl hb
 refine Ok.step (Gr h1) fun r ⟨s1,E2⟩=>?_
 obtain ⟨q,J2⟩:=r
 simp only [fL] at s1 E2
 subst s1
 have m2:=E2.next
 have c0:J2.aa J.next=_:=(E2.aa _ (by omega)).trans b0
 have c1:J2.aa (J.next+1)=_:=(E2.aa _ (by omega)).trans b1
 have cb:J2.aa hb=_:=(E2.aa _ (by omega)).trans ((E1.aa _ bp).trans tc)
 have ta:=Ny (J:=J2) (S:=P0) (mb:=mb) (nx:=1) (pv:=2) (C:=C)
 simp only [fL,sw] at ta
 simp (maxSteps:=2000000) -implicitDefEqProofs (disch:=(first |omega |rfl |assumption |(simp only [aO];first |omega |assumption))) only [c0,cb,ta,IT,ny,agh,Nat.reduceAdd,Nat.reduceMul,Nat.reduceLT,Int.reduceToNat,Int.reduceAdd,Int.reduceSub,Int.reduceMul,eA,gM]
 generalize hJ:((((J2.az 2).put J2.next (.cells true _ _)).put (J2.next+1) (.cells true _ _)).az 1).put (J2.next+2) (.loop _ _ _)=J3
 have m3:J3.next=J2.next+3:=by rw [<-hJ];rfl
 have o3:∀ b,b<J2.next->J3.aa b=J2.aa b:=fun b hb=>by rw [<-hJ];exact hU
 have dt:J3.aa J2.next=some (.cells true qav (Sq P0 mb 1 2)):=by rw [<-hJ];exact hU
 have dc:J3.aa (J2.next+1)=some (.cells true qau (JM C)):=by rw [<-hJ];exact hU
 have dl:J3.aa (J2.next+2)=some (.loop 135000 [(2,.p (some (.n J.next,0))),(3,.p (some (.n (J.next+1),0)))] .ready):=by rw [<-hJ];exact aH
 clear hJ
 have E3:Ext J2 J3:=cN (by omega) o3
 have E13:=(E1.trans E2).trans E3
 have h3:bS J3 hb pb mb M P0 C w ((J2.next+2)::J.next::(J.next+1)::J2.next::X):=h.bF (L:=[]) E13.yz (by simp) fun b hb=>by
  simp only [List.mem_cons] at hb
  rcases hb with rfl |rfl |rfl |rfl |hb
  ·exact .inr (by omega)
  ·exact .inr (by omega)
  ·exact .inr (by omega)
  ·exact .inr (by omega)
  ·exact .inl hb
 have hX3:∀ q∈[J2.next+2,J.next,J.next+1,J2.next],q∉X:=fun q hq hm=>by
  have:=Yg q hm
  simp at hq
  omega
 have I3:I [] 0 J3 M X:=by
  have:=T.fr hI h (h3.mono (by simp +contextual)) rfl rfl (fE.refl h.p.now) ⟨E13.next,fun q hq=>E13.aa q (Yg q hq)⟩ (by decide) (by decide)
  simpa using this
 have vz:∀ (j i:Nat),C[j]? = some i->V[j]? = some (V.getD j (0,0))/\vw P0.E i=some (true,(V.getD j (0,0)).1,some (V.getD j (0,0)).2):=fun j i hj=>by
  obtain ⟨g,x,hg,hv⟩:=hVv j i hj
  rw [List.getD_eq_getElem?_getD,hg]
  exact ⟨rfl,hv⟩
 have tx:=Kk (ky:=SJ) (b:=J2.next+2) (pb:=pb) (mb:=mb) (nx:=1) (pv:=2) (id:=P0.id) (W:=P0.words) (C:=C) (cb:=J2.next+1) (tb:=J2.next)
  (fun k J' M'=>∃ Z n P' w' X',Z.length=k/\bS J' hb pb mb M' P' C w' ((J2.next+2)::J.next::(J.next+1)::J2.next::X')/\nE P0 P'/\(∀ (j i:Nat),C[j]? = some i->vw P'.E i=some (true,(V.getD j (0,0)).1,if j<k then Z[j]? else some (V.getD j (0,0)).2))/\I Z n J' M' X'/\0<=n/\n<=5*k/\∀ q∈[J2.next+2,J.next,J.next+1,J2.next],q∉X'/\J'.aa q=J3.aa q)
  (
   by omega) (by omega) (by decide) (by omega) (fun k i J4 M4 hk ⟨Z,n,P4,w4,X4,a1,a2,a3,a4,a5,a6,a7,a8⟩=>by
   subst a1
   obtain ⟨hz,_⟩:=vz _ _ hk
   have hv:=a4 _ _ hk
   rw [if_neg (Nat.lt_irrefl _)] at hv
   have k0:=(a8 J.next (by simp)).2.trans ((E3.aa _ (by omega)).trans c0)
   have k1:=(a8 (J.next+1) (by simp)).2.trans ((E3.aa _ (by omega)).trans c1)
   have kl:=(a8 (J2.next+2) (by simp)).2.trans dl
   have kt:=(a8 J2.next (by simp)).2.trans dt
   refine (C9 T a2 a3 a5 (fun q hq=>(a8 q hq).1) (by omega) (by omega) (by omega) kl k0 k1 ⟨a6,a7⟩ hz hv).mono fun r ⟨g1,y,n',M5,P5,w5,X5,g2,g3,g4,g5,g6,g7,g8,g9⟩=>?_
   have RL:=(List.getElem?_eq_some_iff.1 hz).1
   have cm:=T.calm g6 (by omega) (by simp;omega) (by simp;omega)
   refine ⟨g1,M5,P5,w5,_,g2.p,(a3.trans g3).id,(a3.trans g3).words,g2.l,⟨by omega,by omega⟩,⟨qav,?_⟩,fun J' Gi p q kp=>?_⟩
   ·rw [(g9 J2.next (by simp)).2,kt];rfl
   ·have h6:=g2.kp p kp
    have HA:aw ((J2.next+2)::J.next::(J.next+1)::J2.next::X5) r.2 J':=kp.tail
    have I6:=T.fr g6 (g2.mono (by simp +contextual)) (h6.mono (by simp +contextual)) (a3.trans g3).id rfl q (HA.mono (by simp +contextual)) (by decide) (by decide)
    refine ⟨Z++[y],_,P5,w5,X5,by simp,h6,a3.trans g3,fun j i' hj=>?_,I6,by omega,by push_cast;omega,fun q hq=>⟨(g9 q hq).1,?_⟩⟩
    ·by_cases c:j=Z.length
     ·subst c
      rw [hk] at hj
      cases hj
      rw [g4,if_pos (Nat.lt_succ_self _),List.getElem?_append_right (Nat.le_refl _),Nat.sub_self];rfl
     ·have db:i'≠i:=fun e=>by
       subst e
       exact c (fW h.l.nd hj hk)
      rw [g5 _ db,a4 _ _ hj]
      by_cases cj:j<Z.length
      ·rw [if_pos cj,if_pos (by omega),List.getElem?_append_left cj]
      ·rw [if_neg cj,if_neg (by omega)]
    ·rw [HA.aa q (by simp only [List.mem_cons,List.not_mem_nil,or_false] at hq ⊢;rcases hq with rfl |rfl |rfl |rfl<;>simp),(g9 q hq).2,(a8 q hq).2])
  dc ⟨[],0,P0,w,X,rfl,h3,nE.refl P0,fun j i hj=>by rw [(vz j i hj).2];simp,I3,by decide,by simp,fun q hq=>⟨hX3 q hq,rfl⟩⟩ (x:=[]) (y:=[])
 refine Ok.step tx fun r ⟨u1,M6,Z,n,P6,w6,X6,a1,a2,a3,a4,a5,a6,a7,a8⟩=>?_
 obtain ⟨q,J6⟩:=r
 simp only at u1 a2 a5 a8
 subst u1
 have bl6:=(a8 (J2.next+2) (by simp)).2.trans dl
 (unfold MG Fs.code;refine cw bl6 ?_)
 have ck:ei [J2.next+2] J6 (J6.kill (J2.next+2)):=⟨by simp,fun q hq hm=>bA (by simpa using hm)⟩
 have h7:bS (J6.kill (J2.next+2)) hb pb mb M6 P6 C w6 X6:=a2.bF ck (fun q hq=>.inl (by simp at hq;simp [hq])) fun q hq=>.inl (by simp [hq])
 have I7:=T.fr a5 (a2.mono (by simp +contextual)) h7 a3.id rfl (fE.refl a2.p.now) (show aw X6 J6 (J6.kill (J2.next+2)) from ⟨by simp,fun q hq=>bA fun e=>(a8 (J2.next+2) (by simp)).1 (e▸hq)⟩) (by decide) (by decide)
 rw [Int.add_zero,Int.add_zero] at I7
 refine U.2 ⟨rfl,Z,n,M6,P6,w6,X6,a1,h7,a3,fun j i hj=>?_,I7,a6,a7⟩
 rw [a4 j i hj,if_pos (List.getElem?_eq_some_iff.1 hj).1]
end
end Go.Abs.Tryz
