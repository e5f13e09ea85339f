/-
  Layer 21: a graph is laid: pointers are set. No conditions.
-/
import Derived.Test.YtncohicmiihjiaaGreatL21
import Derived.Test.YtncohicmiihjiaaGreatR16
import Derived.Test.YtncohicmiihjiaaGreatM21
import Derived.Test.YtncohicmiihjiaaGreatL20
import Derived.Test.YtncohicmiihjiaaGreatR21
set_option linter.unusedVariables false
set_option linter.unusedSimpArgs false
set_option linter.constructorNameAsVariable false
set_option linter.unusedSimpArgs false
set_option linter.unusedVariables false
set_option linter.unusedSectionVars false
set_option maxHeartbeats 8000000
namespace Go.Abs.Tryz
open Go Go.Abs
variable {O:Type}
theorem Jp {x:Int} (h:0<=x/\x<=255) {n:Nat} (hn:0<n):Int.tmod x (n:Int)=((x.toNat % n:Nat):Int):=by
 rw [Int.tmod_eq_emod_of_nonneg h.1,Int.natCast_emod,Int.toNat_of_nonneg h.1]
structure Nn (D0 Ds:List DO):Prop where
 len:Ds.length=D0.length
 it:∀ (i:Nat) (d0:DO),D0[i]? = some d0->∃ d,Ds[i]? = some d/\d.ref=d0.ref/\d.P.length=d0.P.length
theorem Nn.refl (Ds:List DO):Nn Ds Ds:=⟨rfl,fun i d h=>⟨d,h,rfl,rfl⟩⟩
def DO.kj (d:DO) (k:Nat) (x:Int):DO:={d with P:=d.P.set k x}
theorem DO.Np {d:DO} {k:Nat} (hk:k<d.P.length) (x:Int):(d.kj k x).ws=d.ws.set (1+k) x:=by
 unfold DO.ws DO.kj
 simp only
 rw [Nat.add_comm,List.set_cons_succ,List.set_append_left _ _ hk]
theorem Nn.set {D0 Ds:List DO} (h:Nn D0 Ds) {i:Nat} {d:DO} (hd:Ds[i]? = some d) (k:Nat) (x:Int):Nn D0 (Ds.set i (d.kj k x)):=by
 have hi:=(List.getElem?_eq_some_iff.1 hd).1
 refine ⟨by rw [List.length_set];exact h.len,fun j d0 hj=>?_⟩
 obtain ⟨b,b1,b2,b3⟩:=h.it j d0 hj
 by_cases c:i=j
 ·subst c
  rw [hd] at b1;cases b1
  exact ⟨d.kj k x,by rw [List.getElem?_set,if_pos rfl,if_pos hi],b2,by simpa [DO.kj] using b3⟩
 ·exact ⟨b,by rw [List.getElem?_set,if_neg c];exact b1,b2,b3⟩
theorem PV.set {Ds:List DO} (h:PV Ds) {i j:Nat} {d b:DO} (hd:Ds[i]? = some d) (hb:Ds[j]? = some b) (k:Nat):PV (Ds.set i (d.kj k b.ref)):=by
 have hi:=(List.getElem?_eq_some_iff.1 hd).1
 have get:∀ (j:Nat) (c:DO),Ds[j]? = some c->∃ c',(Ds.set i (d.kj k b.ref))[j]? = some c'/\c'.ref=c.ref:=fun j c hc=>by
  by_cases e:i=j
  ·subst e
   rw [hd] at hc;cases hc
   exact ⟨d.kj k b.ref,by rw [List.getElem?_set,if_pos rfl,if_pos hi],rfl⟩
  ·exact ⟨c,by rw [List.getElem?_set,if_neg e];exact hc,rfl⟩
 have cO:∀ w:Int,(w=0 ∨ ∃ (j:Nat) (b:DO),Ds[j]? = some b/\b.ref=w)->w=0 ∨ ∃ (j:Nat) (c:DO),(Ds.set i (d.kj k b.ref))[j]? = some c/\c.ref=w:=by
  rintro w (e |⟨u,c,hu,rfl⟩)
  ·exact .inl e
  ·obtain ⟨c',h1,h2⟩:=get u c hu
   exact .inr ⟨u,c',h1,h2⟩
 intro e he w hw
 obtain ⟨u,hu⟩:=List.getElem?_of_mem he
 rw [List.getElem?_set] at hu
 by_cases ce:i=u
 ·subst ce
  rw [if_pos rfl,if_pos hi] at hu
  cases hu
  have hw:w∈d.P.set k b.ref:=hw
  rcases List.mem_or_eq_of_mem_set hw with hw |rfl
  ·exact cO w (h d (List.mem_of_getElem? hd) w hw)
  ·exact cO _ (.inr ⟨j,b,hb,rfl⟩)
 ·rw [if_neg ce] at hu
  exact cO w (h e (List.mem_of_getElem? hu) w hw)
def e3 (e:Int × Int × Int):List AV:=[.i .u8 e.1,.i .u8 e.2.1,.i .u8 e.2.2]
def U8 (x:Int):Prop:=0<=x/\x<=255
set_option maxRecDepth 100000 in
theorem F5 {J:AH O} {sb nb lb pb mb gx wx:Nat} {M:ah} {S:ao} {w:List Int} {L:aP} {T:bn} {X:List Nat} {D0 Ds:List DO} {N:Nat} {c:Int} (m:lI J sb nb lb pb mb M S w L T (gx::wx::X) Ds N c) (hc:c<=100000) (hx:wx∉X/\gx≠wx) (UN:Nn D0 Ds) (pv:PV Ds) (vS:D0.length<=20) {al a:SA} (eT:ss al (D0.map DO.ov)) (ha:ss a (Ds.map DO.ov)) {q1 q2:AV} {sE:SA} {E:List (Int × Int × Int)} (iE:iu 3 sE E.length (E.flatMap e3)) (rE:∀ e∈E,U8 e.1/\U8 e.2.1/\U8 e.2.2) (hE:E.length<=100) (hg:J.aa gx=some (.cells true 78 [q1,.sl sE E.length,q2])) (hw:J.aa wx=some (.cells true 105 [.i .i64 8,.i .i64 0,.i .i64 0,.i .i64 0,.sl a Ds.length])) {h:AH O} {r8:AV × AH O} (eh:h.next=gx) (e8:r8.2.next=wx) {i:Nat} (hi:i<E.length) (hn:0<D0.length):
  Ok (R6 h (al,D0.length) R8 (some (.n sb,0)) r8 UO ([.i .i64 (i:Int)],J)) fun q=>∃ J',q=.inl ([.i .i64 ((i+1:Nat):Int)],J')/\∃ M' L' T' AE a',lI J' sb nb lb pb mb M' S w L' T' (gx::wx::X) AE N (c+6)/\Nn D0 AE/\PV AE/\ss a' (AE.map DO.ov)/\J'.aa wx=some (.cells true 105 [.i .i64 8,.i .i64 0,.i .i64 0,.i .i64 0,.sl a' AE.length])/\aw (gx::X) J J':=by
 obtain ⟨⟨ea,eb,ec⟩,he⟩:∃ e,E[i]? = some e:=⟨_,List.getElem?_eq_getElem hi⟩
 obtain ⟨r1,r2,r3⟩:=rE _ (List.mem_of_getElem? he)
 simp only at r1 r2 r3
 obtain ⟨b1,o1,rfl,Xf⟩:=iu.row (enc:=e3) (fun _=>rfl) iE he (by decide)
 have le0:=fun J:AH O=>Xf O J 0 (by decide)
 have le1:=fun J:AH O=>Xf O J 1 (by decide)
 have le2:=fun J:AH O=>Xf O J 2 (by decide)
 simp only [e3,Nat.add_zero,List.getElem?_cons_zero,List.getElem?_cons_succ] at le0 le1 le2
 have m1:=Jp r1 hn
 have m3:=Jp r3 hn
 generalize F6:ea.toNat % D0.length=fr at m1
 generalize hto:ec.toNat % D0.length=to at m3
 have agE:fr<D0.length:=by rw [<-F6];exact Nat.mod_lt _ hn
 have agF:to<D0.length:=by rw [<-hto];exact Nat.mod_lt _ hn
 obtain ⟨LX,Xg⟩:∃ d,D0[fr]? = some d:=⟨_,List.getElem?_eq_getElem agE⟩
 obtain ⟨LY,Xh⟩:∃ d,D0[to]? = some d:=⟨_,List.getElem?_eq_getElem agF⟩
 obtain ⟨df,Xi,agG,afo⟩:=UN.it fr LX Xg
 obtain ⟨dt,hdt,Xj,afp⟩:=UN.it to LY Xh
 have Ql:=List.mem_of_getElem? Xi
 obtain ⟨okf,okP,okR⟩:=m.ok df Ql
 obtain ⟨okt,_,_⟩:=m.ok dt (List.mem_of_getElem? hdt)
 obtain ⟨bb,oo,cP,cR,rfl,_,_,ld⟩:=eT.obj (i:=fr) (x:=LX.ov) (by rw [List.getElem?_map,Xg];rfl)
 obtain ⟨bb',oo',_,_,e',_,_,ld'⟩:=eT.obj (i:=to) (x:=LY.ov) (by rw [List.getElem?_map,Xh];rfl)
 cases e'
 have l5:∀ J:AH O,J.ld bb (oo+fr*8+5)=some (.sl cP LX.P.length):=fun J=>(ld O J).2.2.2.2.2.1
 have l7:∀ J:AH O,J.ld bb (oo+fr*8+7)=some (.i .u64 LX.ref):=fun J=>(ld O J).2.2.2.2.2.2.2
 have l7':∀ J:AH O,J.ld bb (oo+to*8+7)=some (.i .u64 LY.ref):=fun J=>(ld' O J).2.2.2.2.2.2.2
 have t0:(true == true)=true:=rfl
 have z0:((0:Int) == 0)=true:=rfl
 have i1:decide ((i:Int)<(E.length:Int))=true:=decide_eq_true (by omega)
 have i0:decide ((0:Int)<=(i:Int))=true:=decide_eq_true (by omega)
 have n0:decide ((D0.length:Int) > 0)=true:=decide_eq_true (by omega)
 have nz:((D0.length:Int) == 0)=false:=by rw [beq_eq_false_iff_ne];omega
 have f0:decide ((0:Int)<=(fr:Int))=true:=decide_eq_true (by omega)
 have f1:decide ((fr:Int)<(D0.length:Int))=true:=decide_eq_true (by omega)
 have g0:decide ((0:Int)<=(to:Int))=true:=decide_eq_true (by omega)
 have g1:decide ((to:Int)<(D0.length:Int))=true:=decide_eq_true (by omega)
 have wa:IntKind.i64.wrap ea=ea:=cd (by unfold U8 at r1;omega)
 have wb:IntKind.i64.wrap eb=eb:=cd (by unfold U8 at r2;omega)
 have wc:IntKind.i64.wrap ec=ec:=cd (by unfold U8 at r3;omega)
 have w1:IntKind.i64.wrap ((i:Int)+1)=((i+1:Nat):Int):=by rw [cd (by omega)];omega
 by_cases pz:LX.P.length=0
 ·have pz':((LX.P.length:Int) == 0)=true:=by simp [pz]
  (unfold R6 SA.ref;refine tg eh hg i0 i1 (cj t0 (cj n0 (cj @Bool.and_true (cj @Int.toNat_natCast (cj le0 (cj le1 (cj le2 (cj nz (cj wa (cj wb (cj wc (cj m1 (cj m3 (cj f0 (cj f1 (cj l5 (cj pz' (cj @cH w1)))))))))))))))))) ?_)
  exact U.2 ⟨J,rfl,M,L,T,Ds,a,{m with bW:=m.bW.le (by omega) (Int.le_refl _)},UN,pv,ha,hw,aw.refl _ _⟩
 ·have pz':((LX.P.length:Int) == 0)=false:=by rw [beq_eq_false_iff_ne];omega
  have m2:=Jp r2 (show 0<LX.P.length by omega)
  generalize hkk:eb.toNat % LX.P.length=kk at m2
  have aq7:kk<LX.P.length:=by rw [<-hkk];exact Nat.mod_lt _ (by omega)
  (unfold R6 SA.ref;refine tg eh hg i0 i1 (cj t0 (cj n0 (cj @Bool.and_true (cj @Int.toNat_natCast (cj le0 (cj le1 (cj le2 (cj nz (cj wa (cj wb (cj wc (cj m1 (cj m3 (cj f0 (cj f1 (cj l5 (cj pz' (cj l7 (cj g0 (cj g1 (cj l7' (cj m2 @jh)))))))))))))))))))))) ?_)
  have hf:M.cT 2000:=m.bW.cT m.a.l.p.mi.ok (by omega)
  have hkd:∃ kd:Int,(∀ J:AH O,BE [.i .u64 LY.ref] J=some (.i .i64 kd,J))/\kd≠3:=by
   rw [<-Xj]
   unfold DO.ref DO.to
   cases hl:dt.h.l with
   |true=>exact ⟨2,fun J=>(by simp only [if_true];exact jF J (m.a.vR (m.l0 dt (List.mem_of_getElem? hdt) hl))),by decide⟩
   |false=>
    have:=m.sm dt (List.mem_of_getElem? hdt) hl
    have tb:=m.F0
    have n1:1<=dt.n:=by unfold DO.n;omega
    have sl:=UN.len
    exact ⟨1,fun J=>(by simp only [Bool.false_eq_true,if_false];exact jG J (by omega)),by decide⟩
  obtain ⟨kd,agJ,agK⟩:=hkd
  have sp:=uL m.a hf (m.has Ql) (kk:Int) LY.ref agJ agK
  have hkr:(0:Int)<=kk/\(kk:Int)<df.h.p:=by rw [okf.p];omega
  simp only [if_pos hkr,Int.toNat_natCast] at sp
  rw [DO.Xk,agG] at sp
  refine Ok.step sp fun q ⟨p1,M',p2,p3,_,p4⟩=>?_
  obtain ⟨rv,J1⟩:=q
  simp only at p1 p2 p4
  subst p1
  have yk:=(p4.aa wx (by simp)).trans hw
  have hof:(Ds.map DO.ov)[fr]? = some df.ov:=by rw [List.getElem?_map,Xi];rfl
  have sr:=CQ (J:=J1) (s:=⟨0,0,0,Ds.map DO.ov⟩) (a:=a) ha (by simp;have:=UN.len;omega) hof (by show df.P.length<=1000;omega) (k:=kk) (by show kk<df.P.length;omega) LY.ref
  simp only [gi.cells,List.length_map] at sr
  simp -implicitDefEqProofs only [bne,z0,Bool.not_true,e8,yk,g0,g1,Bool.and_true,SA.ref,Int.toNat_natCast,l7',wa,wb,wc,m1,m2,m3,jh,Nat.reduceAdd,Nat.reduceMul,Nat.reduceLT,Int.reduceToNat,Int.reduceAdd,Int.reduceSub,Int.reduceMul,eA,dK,dL,dM,dN,dO,dQ,dS,cM,Nat.reduceLeDiff,decide_true,decide_false]
  refine Ok.step sr fun q ⟨⟨a2,s1,s2⟩,s3⟩=>?_
  obtain ⟨rv,J2⟩:=q
  simp only at s1 s2 s3
  subst s1
  have W5:wx<J1.next:=p2.lt wx (by simp)
  have UL:=(s3.aa wx W5).trans yk
  have R4:(Ds.map DO.ov).getD fr ⟨⟨0,0,0,0,false⟩,[],[],0⟩=df.ov:=by rw [List.getD_eq_getElem?_getD,hof];rfl
  have F3:(gi.kj ⟨0,0,0,Ds.map DO.ov⟩ fr kk LY.ref)=⟨0,0,0,(Ds.set fr (df.kj kk LY.ref)).map DO.ov⟩:=by
   unfold gi.kj
   simp only
   rw [R4,List.map_set]
   rfl
  rw [F3] at s2
  simp only [F3,List.length_map,List.length_set]
  refine UD e8 UL @cH w1 ?_
  have bp:=p2.lt
  have kn:1+kk<df.n:=by unfold DO.n;omega
  have mk:=m.ym (d':=df.kj kk LY.ref) Xi kn LY.ref rfl rfl (by simp [DO.kj]) rfl (DO.Np (by omega) _) p2 (c':=c+6) ((p3.bW m.bW).le (by omega) (by omega))
  have ch:ei [wx] J1 (J2.put wx (.cells true 105 [.i .i64 8,.i .i64 0,.i .i64 0,.i .i64 0,.sl a2 Ds.length])):=⟨s3.next,fun b hb hm=>(aA (by simpa using hm)).trans (s3.aa b hb)⟩
  have mk2:=mk.bF ch (fun b hb=>.inl (by simp at hb;simp [hb])) (fun b hb=>.inl hb)
  refine U.2 ⟨_,rfl,M',_,_,_,a2,mk2,UN.set Xi kk _,?_,s2,?_,⟨Nat.le_trans p4.next s3.next,fun b hb=>?_⟩⟩
  ·rw [<-Xj];exact pv.set Xi hdt kk
  ·rw [List.length_set];exact aH
  ·have db:b≠wx:=by
    rintro rfl
    rcases List.mem_cons.1 hb with h |h
    ·exact hx.2 h.symm
    ·exact hx.1 h
   have dI:b∈gx::wx::X:=by
    rcases List.mem_cons.1 hb with h |h
    ·simp [h]
    ·simp [h]
   rw [aA db,s3.aa b (bp b dI),p4.aa b dI]
end Go.Abs.Tryz
namespace Go.Abs.Tryz
open Go Go.Abs
variable {O:Type}
theorem Jq {J:AH O} {el:TypeId} {a:SA} {n:Nat} {cs:List AV} {v:AV} (ho:aY J el 1 a n cs):
  Ok (((J.az 2).put J.next (.cells true el [v])).cF (J.next+1) el 1 a n 1 [v]) fun r=>∃ a',r.1=.sl a' (n+1)/\aY r.2 el 1 a' (n+1) (cs++[v])/\ei (SA.bk a) J r.2/\∀ b∈SA.bk a',J.next<=b/\b<r.2.next:=by
 have bp:=ho.lt
 generalize hJ:(J.az 2).put J.next (.cells true el [v])=J1
 have n1:J1.next=J.next+2:=by rw [<-hJ];rfl
 have b1:∀ b,b<J.next->J1.aa b=J.aa b:=fun b hb=>by rw [<-hJ,aA (by omega)];rfl
 clear hJ
 have Uv:aY J1 el 1 a n cs:=ho.of (by omega) fun b hb=>b1 b (bp b hb)
 refine (jf (nid:=J.next+1) Uv (fun hm=>by have:=bp _ hm;omega) (by omega) (show ([v]:List AV).length=1*1 from rfl)).mono fun r ⟨a',g1,g2,g3,g4,g5⟩=>⟨a',g1,g2,⟨by omega,fun b hb hm=>(g4 b (by omega) hm).trans (b1 b hb)⟩,fun b hb=>by have:=g5 b hb;omega⟩
def mD (l:List Nat):List AV:=l.map fun (i:Nat)=>.i .i64 (i:Int)
def pq (n:Nat) (F:List Int):List Nat:=if n=0 then [] else F.map fun x=>x.toNat % n
theorem R9 {n:Nat} {F:List Int}:∀ i∈pq n F,i<n:=by
 unfold pq
 intro i hi
 split at hi
 ·cases hi
 ·simp at hi
  obtain ⟨x,_,rfl⟩:=hi
  exact Nat.mod_lt _ (by omega)
theorem Nq {n:Nat} {F:List Int}:(pq n F).length<=F.length:=by
 unfold pq;split<;>simp
theorem F7 {J:AH O} {gx:Nat} {sF a:SA} {F:List Int} (iF:Ints .u8 sF F) (rF:∀ x∈F,U8 x) (hF:F.length<=100) {q1 q2:AV} (hg:J.aa gx=some (.cells true 78 [q1,q2,.sl sF F.length])) {h:AH O} (eh:h.next=gx) {al:SA} {n k:Nat} (hn:0<n) (hk:k<F.length) (own:aY J 3 1 a k (mD ((pq n F).take k))) (hga:gx∉SA.bk a) (hgl:gx<J.next):
  Ok (UP h (al,n) ([.sl a k,.i .i64 (k:Int)],J)) fun q=>∃ a' J',q=.inl ([.sl a' (k+1),.i .i64 ((k+1:Nat):Int)],J')/\aY J' 3 1 a' (k+1) (mD ((pq n F).take (k+1)))/\ei (SA.bk a) J J'/\∀ b∈SA.bk a',J.next<=b/\b<J'.next:=by
 have hx:F[k]? = some F[k]:=List.getElem?_eq_getElem hk
 generalize F[k]=x at hx
 have rx:=rF x (List.mem_of_getElem? hx)
 obtain ⟨b,o,rfl,ld⟩:=iF.at hx
 have ld0:=fun J:AH O=>ld O J
 have m1:=Jp rx hn
 have wx:IntKind.i64.wrap x=x:=cd (by unfold U8 at rx;omega)
 have w1:IntKind.i64.wrap ((k:Int)+1)=((k+1:Nat):Int):=by rw [cd (by omega)];omega
 have i1:decide ((k:Int)<(F.length:Int))=true:=decide_eq_true (by omega)
 have i0:decide ((0:Int)<=(k:Int))=true:=decide_eq_true (by omega)
 have n0:decide ((n:Int) > 0)=true:=decide_eq_true (by omega)
 have nz:((n:Int) == 0)=false:=by rw [beq_eq_false_iff_ne];omega
 have t0:(true == true)=true:=rfl
 have b9:decide ((k+1)*9<=35184372088832)=true:=decide_eq_true (by omega)
 have hg2:(J.az 2).aa gx=some (.cells true 78 [q1,q2,.sl (.loc b o 1) F.length]):=hg
 (unfold UP SA.ref;refine tg eh hg hg2 i0 (cj i1 (cj t0 (cj n0 (cj @Bool.and_true (cj @Int.toNat_natCast (cj @Nat.mul_one (cj ld0 (cj nz (cj wx m1))))))))) ?_)
 refine kf b9 ?_
 refine Ok.step (Jq own) fun r ⟨a',g1,g2,g3,g4⟩=>?_
 obtain ⟨rv,J'⟩:=r
 simp only at g1 g2 g3 g4
 subst g1
 refine kf w1 ?_
 have e:mD ((pq n F).take (k+1))=mD ((pq n F).take k)++[.i .i64 ((x.toNat % n:Nat):Int)]:=by
  have:(pq n F)[k]? = some (x.toNat % n):=by
   unfold pq
   rw [if_neg (by omega),List.getElem?_map,hx];rfl
  unfold mD
  rw [List.take_add_one,this,List.map_append];rfl
 exact U.2 ⟨a',J',rfl,by rw [e];exact g2,g3,g4⟩
theorem Nr {J:AH O} {X:List Nat} (hX:∀ b∈X,b<J.next) {sa sE sF:SA} {zs:List MZ} {E:List (Int × Int × Int)} {F:List Int} (iz:iu 4 sa zs.length (zs.flatMap MZ.cs)) (oz:∀ z∈zs,z.ok) (hz:zs.length<=14) (iE:iu 3 sE E.length (E.flatMap e3)) (rE:∀ e∈E,U8 e.1/\U8 e.2.1/\U8 e.2.2) (hE:E.length<=40) (iF:Ints .u8 sF F) (rF:∀ x∈F,U8 x) (hF:F.length<=10):
  Ok (qst [.agg [.sl sa zs.length,.sl sE E.length,.sl sF F.length]] J) fun q=>∃ sb nb lb pb mb M S w L T Ds a af,q.1=.aB [.p (some (.n sb,0)),.sl a Ds.length,.sl af (pq zs.length F).length,.b true]/\lI q.2 sb nb lb pb mb M S w L T (SA.bk af++X) Ds zs.length 3000/\PV Ds/\Ds.length=zs.length/\ss a (Ds.map DO.ov)/\aY q.2 3 1 af (pq zs.length F).length (mD (pq zs.length F))/\(∀ b∈SA.bk af,b∉X)/\aw X J q.2:=by
 (unfold qst qss;refine zE ?_)
 generalize hJ:AH.put _ J.next _=J0
 have n0:J0.next=J.next+1:=by rw [<-hJ];rfl
 have bg:J0.aa J.next=some (.cells true 78 [.sl sa zs.length,.sl sE E.length,.sl sF F.length]):=by rw [<-hJ];exact aH
 have k0:aw X J J0:=⟨by omega,fun b hb=>by have:=hX b hb;rw [<-hJ,aA (by omega)];rfl⟩
 clear hJ
 refine Ok.step (Ji (X:=J.next::X) (J:=J0) (fun b hb=>by
  rcases List.mem_cons.1 hb with rfl |hb
  ·omega
  ·have:=hX b hb;omega) (Jl iz) (by omega) oz) fun q ⟨sb,nb,lb,pb,mb,M,S,w,L,T,Ds,al,g1,m0,hl,eT,k1,zP⟩=>?_
 obtain ⟨q,J1⟩:=q
 simp only at g1 m0 k1
 subst g1
 have lt1:=m0.a.lt
 have f0:(!true)=false:=rfl
 refine kf f0 ?_
 generalize hJ:AH.put _ J1.next _=J3
 have bw:J3.aa J1.next=some (.cells true 105 [.i .i64 8,.i .i64 0,.i .i64 0,.i .i64 0,.sl al Ds.length]):=by rw [<-hJ];exact aH
 have n3:J3.next=J1.next+1:=by rw [<-hJ];rfl
 have e3':∀ b,b<J1.next->J3.aa b=J1.aa b:=fun b hb=>by rw [<-hJ,aA (by omega)];exact hU
 clear hJ
 have Hu:J.next<J1.next:=lt1 _ (by simp)
 have hXl:∀ b∈X,b<J.next:=hX
 have LZ:J1.next∉X/\J.next≠J1.next:=⟨fun h=>by have:=hX _ h;omega,by omega⟩
 have m1:lI J3 sb nb lb pb mb M S w L T (J.next::J1.next::X) Ds zs.length (120*Ds.length):=m0.bF (K:=[]) ⟨by omega,fun b hb _=>e3' b hb⟩ (by simp) (fun b hb=>by
  simp only [List.mem_cons] at hb ⊢
  rcases hb with rfl |rfl |hb
  ·exact .inl (.inl rfl)
  ·exact .inr ⟨Nat.le_refl _,by omega⟩
  ·exact .inl (.inr hb))
 have k3:aw (J.next::X) J0 J3:=⟨Nat.le_trans k1.next (by omega),fun b hb=>(e3' b (lt1 b hb)).trans (k1.aa b hb)⟩
 have bg3:=(k3.aa J.next (by simp)).trans bg
 have pv0:PV Ds:=fun d hd w hw=>.inl (zP d hd w hw)
 have lp:Ok (bC (S:=List AV × AH O) (T:=(List AV × AH O) ⊕ (AV × AH O)) (R6 J (al,Ds.length) R8 (some (.n sb,0)) (.aB [.p (some (.n sb,0)),.sl al Ds.length,.b true],J1) UO) ([.i .i64 0],J3)) fun q=>∃ J' M' L' T' AE a',q=.inl ([],J')/\lI J' sb nb lb pb mb M' S w L' T' (J.next::J1.next::X) AE zs.length 3000/\AE.length=Ds.length/\PV AE/\ss a' (AE.map DO.ov)/\J'.aa J1.next=some (.cells true 105 [.i .i64 8,.i .i64 0,.i .i64 0,.i .i64 0,.sl a' AE.length])/\aw (J.next::X) J3 J':=by
  have ex:∀ (k:Nat) (J':AH O),J'.aa J.next=some (.cells true 78 [.sl sa zs.length,.sl sE E.length,.sl sF F.length])->(k=E.length ∨ Ds.length=0)->R6 J (al,Ds.length) R8 (some (.n sb,0)) (.aB [.p (some (.n sb,0)),.sl al Ds.length,.b true],J1) UO ([.i .i64 (k:Int)],J')=some (.inr (.inl ([],J'))):=fun k J' hb hk=>by
   (unfold R6;refine kf hb ?_)
   by_cases c:(k:Int)<(E.length:Int)
   ·have i1:decide ((k:Int)<(E.length:Int))=true:=decide_eq_true c
    have n0:decide ((Ds.length:Int) > 0)=false:=decide_eq_false (by omega)
    have t0:(true == true)=true:=rfl
    exact zO3 i1 n0 t0
   ·have i1:decide ((k:Int)<(E.length:Int))=false:=decide_eq_false c
    have t0:(false == true)=false:=rfl
    exact zO2 i1 t0
  by_cases hn:Ds.length=0
  ·refine Ok.count 0 (fun k s=>s=([.i .i64 ((0:Nat):Int)],J3)) (fun k s hk=>absurd hk (by omega)) (fun s h=>?_) rfl
   subst h
   rw [ex 0 J3 bg3 (.inr hn)]
   exact U.2 ⟨J3,M,L,T,Ds,al,rfl,{m1 with bW:=m1.bW.le (by omega) (Int.le_refl _)},rfl,pv0,eT,bw,aw.refl _ _⟩
  refine Ok.count E.length (fun k s=>∃ J' M' L' T' AE a',s=([.i .i64 (k:Int)],J')/\lI J' sb nb lb pb mb M' S w L' T' (J.next::J1.next::X) AE zs.length (120*Ds.length+6*k)/\Nn Ds AE/\PV AE/\ss a' (AE.map DO.ov)/\J'.aa J1.next=some (.cells true 105 [.i .i64 8,.i .i64 0,.i .i64 0,.i .i64 0,.sl a' AE.length])/\aw (J.next::X) J3 J') ?_ ?_ ⟨J3,M,L,T,Ds,al,rfl,by simpa using m1,Nn.refl _,pv0,eT,bw,aw.refl _ _⟩
  ·rintro k _ hk ⟨J4,M4,L4,T4,D4,a4,rfl,m4,s4,Xl,Xm,R5,k4⟩
   have Sa:=(k4.aa J.next (by simp)).trans bg3
   refine (F5 m4 (by omega) LZ s4 Xl (by omega) eT Xm iE rE (by omega) Sa R5 rfl rfl hk (by omega)).mono ?_
   rintro _ ⟨J5,rfl,M5,L5,T5,D5,a5,m5,s5,pv5,oa5,bw5,k5⟩
   exact ⟨J5,M5,L5,T5,D5,a5,rfl,{m5 with bW:=m5.bW.le (by omega) (Int.le_refl _)},s5,pv5,oa5,bw5,k4.trans k5⟩
  ·rintro _ ⟨J4,M4,L4,T4,D4,a4,rfl,m4,s4,Xl,Xm,R5,k4⟩
   have Sa:=(k4.aa J.next (by simp)).trans bg3
   rw [ex E.length J4 Sa (.inl rfl)]
   exact U.2 ⟨J4,M4,L4,T4,D4,a4,rfl,{m4 with bW:=m4.bW.le (by omega) (Int.le_refl _)},s4.len,Xl,Xm,R5,k4⟩
 refine Ok.cv lp ?_ (fun q hq=>by obtain ⟨_,_,_,_,_,_,e,_⟩:=hq;cases e)
 rintro _ ⟨J4,M4,L4,T4,D4,a4,e,m4,l4,Xl,Xm,R5,k4⟩
 simp only [Sum.inl.injEq] at e
 subst e
 have Sa:=(k4.aa J.next (by simp)).trans bg3
 have Sb:=m4.a.lt
 have lp2:Ok (bC (S:=List AV × AH O) (T:=List AV × AH O) (UP J (al,Ds.length)) ([.sl .nil 0,.i .i64 0],J4)) fun r=>∃ af J',r=([.sl af (pq zs.length F).length],J')/\aY J' 3 1 af (pq zs.length F).length (mD (pq zs.length F))/\ei [] J4 J'/\∀ b∈SA.bk af,J4.next<=b/\b<J'.next:=by
  have ex:∀ (k:Nat) (a:SA) (J':AH O),J'.aa J.next=some (.cells true 78 [.sl sa zs.length,.sl sE E.length,.sl sF F.length])->(k=F.length ∨ Ds.length=0)->UP J (al,Ds.length) ([.sl a k,.i .i64 (k:Int)],J')=some (.inr ([.sl a k],J')):=fun k a J' hb hk=>by
   (unfold UP;refine kf hb ?_)
   by_cases c:(k:Int)<(F.length:Int)
   ·have i1:decide ((k:Int)<(F.length:Int))=true:=decide_eq_true c
    have n0:decide ((Ds.length:Int) > 0)=false:=decide_eq_false (by omega)
    have t0:(true == true)=true:=rfl
    exact zO3 i1 n0 t0
   ·have i1:decide ((k:Int)<(F.length:Int))=false:=decide_eq_false c
    have t0:(false == true)=false:=rfl
    exact zO2 i1 t0
  by_cases hn:Ds.length=0
  ·have ef:pq zs.length F=[]:=by unfold pq;rw [if_pos (by omega)]
   rw [ef]
   refine Ok.count 0 (fun k s=>s=([.sl .nil 0,.i .i64 ((0:Nat):Int)],J4)) (fun k s hk=>absurd hk (by omega)) (fun s h=>?_) rfl
   subst h
   rw [ex 0 .nil J4 Sa (.inr hn)]
   exact U.2 ⟨.nil,J4,rfl,aY.nil _ _ _,⟨Nat.le_refl _,fun _ _ _=>rfl⟩,by simp [SA.bk]⟩
  have fl:(pq zs.length F).length=F.length:=by unfold pq;rw [if_neg (by omega)];simp
  rw [fl,hl]
  refine Ok.count F.length (fun k s=>∃ a J',s=([.sl a k,.i .i64 (k:Int)],J')/\aY J' 3 1 a k (mD ((pq zs.length F).take k))/\ei [] J4 J'/\∀ b∈SA.bk a,J4.next<=b/\b<J'.next) ?_ ?_ ⟨.nil,J4,rfl,aY.nil _ _ _,⟨Nat.le_refl _,fun _ _ _=>rfl⟩,by simp [SA.bk]⟩
  ·rintro k _ hk ⟨a,J5,rfl,o5,c5,b5⟩
   have hg4:J.next<J4.next:=Sb _ (by simp)
   have c5n:=c5.next
   refine (F7 (J:=J5) iF rF (by omega) ((c5.aa J.next hg4 (by simp)).trans Sa) rfl (al:=al) (n:=zs.length) (by omega) hk o5 (fun h=>by have:=b5 _ h;omega) (by omega)).mono ?_
   rintro _ ⟨a',J6,rfl,o6,c6,b6⟩
   exact ⟨a',J6,rfl,o6,⟨Nat.le_trans c5.next c6.next,fun b hb _=>(c6.aa b (by omega) (fun h=>by have:=b5 b h;omega)).trans (c5.aa b hb (by simp))⟩,fun b hb=>by have:=b6 b hb;omega⟩
  ·rintro _ ⟨a,J5,rfl,o5,c5,b5⟩
   have hg4:J.next<J4.next:=Sb _ (by simp)
   rw [<-hl,ex F.length a J5 ((c5.aa J.next hg4 (by simp)).trans Sa) (.inl rfl)]
   have tk:(pq zs.length F).take F.length=pq zs.length F:=List.take_of_length_le (by omega)
   rw [hl]
   rw [tk] at o5
   exact U.2 ⟨a,J5,rfl,o5,c5,b5⟩
 refine Ok.step lp2 ?_
 rintro _ ⟨af,J5,rfl,o5,c5,b5⟩
 have hw4:J1.next<J4.next:=Sb _ (by simp)
 have bw5:=(c5.aa J1.next hw4 (by simp)).trans R5
 refine kf bw5 ?_
 have m5:lI J5 sb nb lb pb mb M4 S w L4 T4 (SA.bk af++X) D4 zs.length 3000:=m4.bF c5 (by simp) (fun b hb=>by
  rcases List.mem_append.1 hb with hb |hb
  ·exact .inr (b5 b hb)
  ·exact .inl (by simp [hb]))
 refine U.2 ⟨sb,nb,lb,pb,mb,M4,S,w,L4,T4,D4,a4,af,rfl,m5,Xl,l4.trans hl,Xm,o5,fun b hb hx=>?_,k0.trans (k3.tail.trans (k4.tail.trans ⟨c5.next,fun b hb=>c5.aa b (Sb b (by simp [hb])) (by simp)⟩))⟩
 have:=b5 b hb
 have:=Sb b (by simp [hx])
 omega
end Go.Abs.Tryz
namespace Go.Abs.Tryz
open Go Go.Abs
variable {O:Type}
theorem lI.eg {J:AH O} {sb nb lb pb mb:Nat} {M:ah} {S:ao} {w:List Int} {L:aP} {T:bn} {X:List Nat} {Ds:List DO} {N:Nat} {c:Int} (m:lI J sb nb lb pb mb M S w L T X Ds N c) (i:Nat) (C:Nat->DO):EG Ds (fun _=>none) C L.fresh (T.flip i) T.ws T.top where
 ok:=fun d hd=>(m.ok d hd).1
 sm:=m.sm
 ap:=m.ap
 vl:=m.a.top
 top:=(oL (fun j=>rfl) _).symm
 Jj:=m.top
 wl:=List.length_replicate
 c:=fun i d t _ h=>by cases h
 s0:=fun i d hd hl _=>m.s0 d (List.mem_of_getElem? hd) hl
 s1:=fun i d t hd hl h=>by cases h
 l0:=fun i d hd hl _=>⟨by simp [aP.fresh],m.l0 d (List.mem_of_getElem? hd) hl⟩
 l1:=fun i d t hd hl h=>by cases h
 dj:=fun i j a b t u _ _ _ _ _ h _=>by cases h
 only:=fun j h=>by
  obtain ⟨d,hd,h1,h2⟩:=m.only j h
  obtain ⟨i,hi⟩:=List.getElem?_of_mem hd
  exact ⟨i,d,hi,h1,h2⟩
theorem DM.wide {Ds:List DO} {p:PS} {sc sc':Nat->Prop} {s:ft} (h:DM Ds p sc s) (hs:∀ i,sc i->sc' i):DM Ds p sc' s:=⟨h.len,fun i d hd=>by
 obtain ⟨o,h1,h2,h3,h4,h5,h6⟩:=h.l i d hd
 exact ⟨o,h1,h2,h3,h4,h5,fun n=>h6 fun q=>n (hs i q)⟩,h.nw,h.top,h.mv⟩
abbrev AF:List Hd->AH O->List Nat->Prop:=fun _ _ Z=>Z=[]
structure RS (J:AH O) (wx eb sb nb lb pb mb:Nat) (M:ah) (S:ao) (w:List Int) (L:aP) (T:bn) (X:List Nat) (aW:Int) (v:List Int) (ot:Nat) (hs:List Hd) (Ds:List DO) (p:PS) (C:Nat->DO) (s:dE) (a b c e d:SA) (vb:List Nat) (k:Nat):Prop where
 g:GC CR AF J eb sb nb lb pb mb M S w L T (wx::(vb++X)) aW v ot hs [] Ds p C
 bx:J.aa wx=some (.cells true 81 (s.cells a b c e d))
 raw:Raw Ds p C Ds.length
 dm:DM Ds p (fun _=>False) s.m
 at_:s.At a b c e d
 cO:s.cO=Ds.map DO.ov
 dn:s.dn=[]
 st:0<=s.m.steps/\s.m.steps<=120*k
 sd:p.sd=0/\p.ld=0
 bW:M.bW (4000+300*k) 100
theorem RS.dg {J:AH O} {wx eb sb nb lb pb mb:Nat} {M:ah} {S:ao} {w:List Int} {L:aP} {T:bn} {X:List Nat} {aW:Int} {v:List Int} {ot:Nat} {hs:List Hd} {Ds:List DO} {p:PS} {C:Nat->DO} {s:dE} {a b c e d:SA} {vb:List Nat} {k:Nat} (r:RS J wx eb sb nb lb pb mb M S w L T X aW v ot hs Ds p C s a b c e d vb k) (hk:k<=20):DG Ds p s 1:=⟨r.dm.wide fun _ h=>h.elim,r.cO,⟨[],r.dn,by have:=r.sd;simp;omega,fun i=>by
 unfold PS.oM
 rw [r.sd.1,r.sd.2]
 simp⟩,by have:=r.st;omega⟩
theorem Jr {J:AH O} {wx eb sb nb lb pb mb:Nat} {M:ah} {S:ao} {w:List Int} {L:aP} {T:bn} {X:List Nat} {aW:Int} {v:List Int} {ot:Nat} {hs:List Hd} {Ds:List DO} {p:PS} {C:Nat->DO} {s:dE} {a b c e d:SA} {af al:SA} {k:Nat} (r:RS J wx eb sb nb lb pb mb M S w L T X aW v ot hs Ds p C s a b c e d (SA.bk af) k) {fr:List Nat} (eT:ss al (Ds.map DO.ov)) (own:aY J 3 1 af fr.length (mD fr)) (hk:k<fr.length) (hfl:fr.length<=20) (F6:∀ i∈fr,i<Ds.length) (vS:Ds.length<=20) (oN:∀ d∈Ds,d.n<=31) (Hv:ot<=1000) {r36:AV × AH O} (e36:r36.2.next=wx) (LZ:wx∉SA.bk af++X):
  Ok (Xn (af,fr.length) r36 CS (al,Ds.length) zG (some (.n eb,0)) ([.i .i64 (k:Int)],J)) fun q=>∃ J',q=.inl ([.i .i64 ((k+1:Nat):Int)],J')/\∃ M' S' w' L' T' v' iU p' C' s' a' b' c' e' d',RS J' wx eb sb nb lb pb mb M' S' w' L' T' X aW v' ot iU Ds p' C' s' a' b' c' e' d' (SA.bk af) (k+1)/\v'.length=v.length/\aw (SA.bk af++X) J J':=by
 obtain ⟨j,hj⟩:∃ j,fr[k]? = some j:=⟨_,List.getElem?_eq_getElem hk⟩
 have jl:=F6 j (List.mem_of_getElem? hj)
 obtain ⟨dj,hdj⟩:∃ d,Ds[j]? = some d:=⟨_,List.getElem?_eq_getElem jl⟩
 obtain ⟨vb,rfl,hvb,Qk⟩:=own.loc (by omega)
 have hvn:(mD fr)[k]? = some (.i .i64 (j:Int)):=by unfold mD;rw [List.getElem?_map,hj];rfl
 obtain ⟨bb,oo,_,_,rfl,_,_,ld⟩:=eT.obj (i:=j) (x:=dj.ov) (by rw [List.getElem?_map,hdj];rfl)
 have l7:∀ J:AH O,J.ld bb (oo+j*8+7)=some (.i .u64 dj.ref):=fun J=>(ld O J).2.2.2.2.2.2.2
 have i1:decide ((k:Int)<(fr.length:Int))=true:=decide_eq_true (by omega)
 have i0:decide ((0:Int)<=(k:Int))=true:=decide_eq_true (by omega)
 have f0:decide ((0:Int)<=(j:Int))=true:=decide_eq_true (by omega)
 have f1:decide ((j:Int)<(Ds.length:Int))=true:=decide_eq_true (by omega)
 have w1:IntKind.i64.wrap ((k:Int)+1)=((k+1:Nat):Int):=by rw [cd (by omega)];omega
 have hb:=r.bx
 simp only [dE.cells] at hb
 (unfold Xn SA.ref;refine tg e36 hb i0 i1 (cj @Bool.and_true (cj @Int.toNat_natCast (cj @Nat.mul_one (cj @Nat.zero_add (cj hvb hvn))))) ?_)
 have pi:=r.g.pi
 have arc:p.top<=1000:=by
  rw [<-r.g.top]
  have h1:=r.g.h.t.s.top
  have h2:=r.g.e.wl
  omega
 have st:=r.st
 have sa:=r.at_
 refine Ok.step (Eo r.dm sa.m pi (fun i h=>h.elim) r.g.e.ok (by omega) (fun d hd=>by have:=oN d hd;omega) (by omega) (by omega) (.inr ⟨j,dj,rfl,hdj,rfl⟩)) fun q ⟨s',a',b',c',x,g1,g2,g3,g4,g5,g6⟩=>?_
 obtain ⟨q,J1⟩:=q
 simp only at g1 g6
 subst g1
 have ltx:=r.g.h.lX
 have cK:=(g6.aa wx (ltx wx (by simp))).trans hb
 have agQ:=(g6.aa vb (ltx vb (by simp [SA.bk]))).trans hvb
 simp only [ft.cells]
 refine kf cK ?_
 generalize hJ:AH.put _ wx _=J2
 have n2:J2.next=J1.next:=by rw [<-hJ];rfl
 have b2:J2.aa wx=some (.cells true 81 (dE.cells ⟨s',s.cO,s.dn⟩ a' b' c' e d)):=by rw [<-hJ];exact aH
 have o2:∀ y,y≠wx->J2.aa y=J1.aa y:=fun y hy=>by rw [<-hJ];exact aA hy
 clear hJ
 have lF:vb≠wx:=fun e=>LZ (by rw [<-e];simp [SA.bk])
 have agR:=(o2 vb lF).trans agQ
 simp -implicitDefEqProofs only [i0,i1,f0,f1,Bool.and_true,SA.ref,Int.toNat_natCast,Nat.mul_one,Nat.zero_add,agR,hvn,l7,Nat.reduceAdd,Nat.reduceMul,Nat.reduceLT,Int.reduceToNat,Int.reduceAdd,Int.reduceSub,Int.reduceMul,eA,dK,dL,dM,dN,dO,dQ,dS,cM,Nat.reduceLeDiff,decide_true,decide_false]
 have ch:ei [wx] J J2:=⟨by rw [n2];exact g6.next,fun y hy hm=>(o2 y (by simpa using hm)).trans (g6.aa y hy)⟩
 have g2':GC CR AF J2 eb sb nb lb pb mb M S w L T (wx::(SA.bk (.loc (.n vb) 0 1)++X)) aW v ot hs [] Ds p C:=r.g.sub (r.g.h.bF AG ch (by simp) (fun y hy=>.inl hy))
 refine Ok.step (Ep AG g2' (r.bW.cT r.g.h.t.s.l.p.mi.ok (by omega)) (by omega) (fun d hd=>by have:=oN d hd;omega) hdj) fun q ⟨t,h1,h2,M3,S3,w3,L3,T3,v3,Sc,Z3,C3,h3,h4,h5,h6,h7,h8,h9⟩=>?_
 obtain ⟨q,J3⟩:=q
 simp only at h1 h3 h9
 subst h1
 have hZ:Z3=[]:=h3.h.j
 subst hZ
 refine kf w1 ?_
 have mm:=km (Ds:=Ds) (p:=p) (i:=j)
 refine U.2 ⟨J3,rfl,M3,S3,w3,L3,T3,v3,Sc,p.move Ds j,C3,⟨s',s.cO,s.dn⟩,a',b',c',e,d,⟨h3,(h9.aa wx (by simp)).trans b2,fun i di RV F8 Xo Hs=>?_,g3,⟨g2,sa.cO,sa.dn⟩,r.cO,r.dn,by simp only;omega,⟨mm.sd.trans r.sd.1,mm.ld.trans r.sd.2⟩,(h8.bW r.bW).le (by omega) (by omega)⟩,h4,⟨Nat.le_trans ch.next h9.next,fun y hy=>?_⟩⟩
 ·cases hp:p.now i with
  |none=>exact h6 i di RV hp F8
  |some u=>
   rw [h5 i (by rw [hp];simp)]
   exact r.raw i di RV (by rw [hp];simp) Xo fun q=>Hs ((mm.oM pi i).2 q)
 ·rw [h9.aa y (by simp at hy ⊢;exact .inr hy)]
  exact ch.aa y (ltx y (by simp at hy ⊢;exact .inr hy)) (by simp;rintro rfl;exact LZ hy)
end Go.Abs.Tryz
namespace Go.Abs.Tryz
open Go Go.Abs
variable {O:Type}
theorem F9 {Ds:List DO} {l:List Nat} (h:∀ d∈Ds,d.n<=31):∀ j,fP Ds l j<=31*l.length:=fun j=>by
 unfold fP
 have:∀ m:List Nat,(m.map (Qm Ds)).sum<=31*m.length:=fun m=>by
  induction m with
  |nil=>simp
  |cons i m ih=>
   simp only [List.map_cons,List.sum_cons,List.length_cons]
   have:Qm Ds i<=31:=by
    unfold Qm
    cases hd:Ds[i]? with
    |none=>simp
    |some d=>simp only;exact h d (List.mem_of_getElem? hd)
   omega
 have h1:=this (l.take j)
 have h2:(l.take j).length<=l.length:=by simp;omega
 omega
theorem Js {Ds:List DO} (vS:Ds.length<=20) (h:∀ d∈Ds,d.n<=31) (q:PS) (pi:PI Ds q):q.top<=1000:=by
 rw [pi.top]
 have h1:=F9 h (l:=q.sm Ds) (q.sm Ds).length
 have h2:=pi.bW.1
 have h3:(q.sm Ds).length<=q.mv.length:=by unfold PS.sm;exact List.length_filter_le _ _
 omega
set_option maxRecDepth 100000 in
theorem Jt {J:AH O} {X:List Nat} (hX:∀ b∈X,b<J.next) {sa sE sF:SA} {zs:List MZ} {E:List (Int × Int × Int)} {F:List Int} (iz:iu 4 sa zs.length (zs.flatMap MZ.cs)) (oz:∀ z∈zs,z.ok) (hz:zs.length<=14) (iE:iu 3 sE E.length (E.flatMap e3)) (rE:∀ e∈E,U8 e.1/\U8 e.2.1/\U8 e.2.2) (hE:E.length<=40) (iF:Ints .u8 sF F) (rF:∀ x∈F,U8 x) (hF:F.length<=10):
  Ok (quw [.agg [.sl sa zs.length,.sl sE E.length,.sl sF F.length]] J) fun q=>∃ eb sb nb lb pb mb M S w L T aW v ot hs Ds p C s a b c e d,q.1=.aB [.p (some (.n sb,0)),.p (some (.n eb,0)),.agg (dE.cells s a b c e d),.b true]/\GC CR AF q.2 eb sb nb lb pb mb M S w L T X aW v ot hs [] Ds p C/\dE.At s a b c e d/\DG Ds p s 30/\M.bW 400000 200/\Ds.length=zs.length/\v.length=8*zs.length/\ot<=1000/\(∀ d∈Ds,d.n<=31)/\aw X J q.2:=by
 have t0:(!true)=false:=rfl
 have z0:((0:Int) == 0)=true:=rfl
 (unfold quw quv;refine zE ?_)
 generalize hJ:AH.put _ (J.next+1) _=J0
 have n0:J0.next=J.next+2:=by rw [<-hJ];rfl
 have br:J0.aa (J.next+1)=some (.cells true 81 [.sl .nil 0,.sl .nil 0,.i .i64 0,.sl .nil 0,.i .i64 0,.sl .nil 0,.sl .nil 0]):=by rw [<-hJ];exact aH
 have bg:J0.aa J.next=some (.cells true 78 [.sl sa zs.length,.sl sE E.length,.sl sF F.length]):=by rw [<-hJ,aA (by omega)];exact aH
 have k0:aw X J J0:=⟨by omega,fun b hb=>by have:=hX b hb;rw [<-hJ,aA (by omega),aA (by omega)];rfl⟩
 clear hJ
 refine kf bg ?_
 generalize hrx:J.next+1=rx at br n0 ⊢
 refine Ok.step (Nr (X:=rx::X) (J:=J0) (fun b hb=>by
  rcases List.mem_cons.1 hb with rfl |hb
  ·omega
  ·have:=hX b hb;omega) iz oz hz iE rE hE iF rF hF) fun q ⟨sb,nb,lb,pb,mb,M,S,w,L,T,Ds,al,af,g1,m1,pv,hl,eT,Xp,hax,k1⟩=>?_
 obtain ⟨q,J1⟩:=q
 simp only at g1 m1 Xp k1
 subst g1
 have oN:∀ d∈Ds,d.n<=31:=fun d hd=>by obtain ⟨_,h1,h2⟩:=m1.ok d hd;unfold DO.n;omega
 have Hv:T.top<=1000:=by have:=m1.F0;omega
 have hTw:=m1.ws
 have lt1:=m1.a.lt
 refine kf t0 ?_
 refine Ok.step (Ns J1 sb) fun q ⟨e1,e2,e3,e4⟩=>?_
 obtain ⟨q,J2⟩:=q
 simp only at e1 e2 e3 e4
 subst e1
 have m2:bq J2 sb nb lb pb mb M S w L T (J1.next::([]++(SA.bk af++rx::X))) []:=m1.a.beside e4 (fun b hb=>by
  rcases List.mem_cons.1 hb with rfl |hb
  ·exact .inr ⟨Nat.le_refl _,by omega⟩
  ·exact .inl hb)
 have fw:M.bW 3000 20:=m1.bW.le (by omega) (by omega)
 refine zE ?_
 refine Ok.step (Ju AG m2 e2 ⟨by simp,fun h=>by have:=lt1 _ h;omega⟩ (by simp) rfl (fw.cT m2.l.p.mi.ok (by decide)) (by have:=fw.2;omega) m1.cO (by rw [m1.ep];decide)) fun q ⟨p1,M3,S3,w3,h3,al3,y3,k3⟩=>?_
 obtain ⟨q,J3⟩:=q
 simp only at p1 h3 k3
 subst p1
 have Xq:=h3.lX
 simp -implicitDefEqProofs only [z0,bne,Bool.not_true,Nat.reduceAdd,Nat.reduceMul,Nat.reduceLT,Int.reduceToNat,Int.reduceAdd,Int.reduceSub,Int.reduceMul,eA,dK,dL,dM,dN,dO,dQ,dS,cM,Nat.reduceLeDiff,decide_true,decide_false]
 refine Ok.step (Ga (J:=J3.az 1) eT (by omega)) fun q ⟨⟨s,a,b,c,e,d,j1,j2,j3⟩,j4⟩=>?_
 obtain ⟨q,J4⟩:=q
 simp only at j1 j4
 subst j1
 have j4n:=j4.next
 simp only [dE.cells]
 refine zE ?_
 generalize hJ:AH.put _ J3.next _=J5
 have n5:J5.next=J4.next:=by rw [<-hJ];rfl
 have b5:J5.aa J3.next=some (.cells true 81 (s.cells a b c e d)):=by rw [<-hJ];exact aH
 have o5:∀ y,y<J3.next->J5.aa y=J3.aa y:=fun y hy=>by
  have wV:y<(J3.az 1).next:=by show y<J3.next+1;omega
  rw [<-hJ]
  first
   |rw [aA (by omega),j4.aa y wV];rfl
   |(rw [aA (by omega),aA (by omega),j4.aa y wV];rfl)
 clear hJ
 have l5:J3.next<J5.next:=by
  have:(J3.az 1).next=J3.next+1:=rfl
  omega
 generalize LZ:J3.next=wx at b5 o5 l5 ⊢
 have hwX:wx∉SA.bk af++(rx::X):=fun h=>by have:=Xq _ h;omega
 have h5:bd CR AF J5 J1.next sb nb lb pb mb M3 S3 w3 L.fresh (T.flip (ff M.sp)) (wx::(SA.bk af++rx::X)) [] T.id T.ws T.top [] []:=h3.bF AG (K:=[]) ⟨by omega,fun y hy _=>o5 y (by omega)⟩ (by simp) (fun y hy=>by
  rcases List.mem_cons.1 hy with rfl |hy
  ·exact .inr ⟨by omega,by omega⟩
  ·exact .inl hy)
 have r0:RS J5 wx J1.next sb nb lb pb mb M3 S3 w3 L.fresh (T.flip (ff M.sp)) (rx::X) T.id T.ws T.top [] Ds PS.zero (fun _=>cQ 0 0 0 0) s a b c e d (SA.bk af) 0:=by
  obtain ⟨dl,d1,d2,d3⟩:=j3.dn
  have dl0:dl=[]:=List.eq_nil_of_length_eq_zero d2
  subst dl0
  refine ⟨⟨h5,m1.eg _ _,PI.zero Ds,rfl,rfl,rfl,rfl,al3.g0 m1.gen⟩,b5,fun i di _ h=>absurd rfl h,j3.m.wide fun i h=>?_,j2,j3.cO,d1,?_,⟨rfl,rfl⟩,(y3.bW fw).le (by omega) (by omega)⟩
  ·unfold PS.oM at h
   simp [PS.zero,PS.sm,PS.lg] at h
  ·have:=j3.st;omega
 have agT:aY J5 3 1 af (pq zs.length F).length (mD (pq zs.length F)):=Xp.of (by have:=e4.next;have:=k3.next;omega) fun y hy=>by
  have wV:y∈SA.bk af++rx::X:=by simp [hy]
  have hy2:=lt1 y wV
  have hy3:=Xq y wV
  rw [o5 y (by omega),k3.aa y wV,e4.aa y hy2]
 have frl:=Nq (n:=zs.length) (F:=F)
 have lp:Ok (bC (S:=List AV × AH O) (T:=List AV × AH O) (Xn (af,(pq zs.length F).length) (.i .i64 0,J3) CS (al,Ds.length) zG (some (.n J1.next,0))) ([.i .i64 0],J5)) fun x=>∃ J',x=([],J')/\∃ M' S' w' L' T' v' iU p' C' s' a' b' c' e' d',RS J' wx J1.next sb nb lb pb mb M' S' w' L' T' (rx::X) T.id v' T.top iU Ds p' C' s' a' b' c' e' d' (SA.bk af) (pq zs.length F).length/\v'.length=T.ws.length/\aw (SA.bk af++(rx::X)) J5 J':=by
  refine Ok.count (pq zs.length F).length (fun k x=>∃ J',x=([.i .i64 (k:Int)],J')/\∃ M' S' w' L' T' v' iU p' C' s' a' b' c' e' d',RS J' wx J1.next sb nb lb pb mb M' S' w' L' T' (rx::X) T.id v' T.top iU Ds p' C' s' a' b' c' e' d' (SA.bk af) k/\v'.length=T.ws.length/\aw (SA.bk af++(rx::X)) J5 J') ?_ ?_ ⟨J5,rfl,M3,S3,w3,_,_,_,_,_,_,s,a,b,c,e,d,r0,rfl,aw.refl _ _⟩
  ·rintro k _ hk ⟨J6,rfl,M6,S6,w6,L6,T6,v6,Nt,p6,C6,s6,a6,b6,c6,e6,d6,r6,Xr,k6⟩
   refine (Jr r6 eT (agT.of k6.next fun y hy=>k6.aa y (by simp [hy])) hk (by omega) (fun i hi=>by have:=R9 i hi;omega) (by omega) oN Hv (r36:=(.i .i64 0,J3)) LZ hwX).mono ?_
   rintro _ ⟨J7,rfl,M7,S7,w7,L7,T7,v7,hs7,p7,C7,s7,a7,b7,c7,e7,d7,r7,v7l,k7⟩
   exact ⟨J7,rfl,M7,S7,w7,L7,T7,v7,hs7,p7,C7,s7,a7,b7,c7,e7,d7,r7,v7l.trans Xr,k6.trans k7⟩
  ·rintro _ ⟨J6,rfl,M6,S6,w6,L6,T6,v6,Nt,p6,C6,s6,a6,b6,c6,e6,d6,r6,Xr,k6⟩
   have i1:decide (((pq zs.length F).length:Int)<((pq zs.length F).length:Int))=false:=decide_eq_false (by omega)
   (unfold Xn;refine kf i1 ?_)
   exact U.2 ⟨J6,rfl,M6,S6,w6,L6,T6,v6,Nt,p6,C6,s6,a6,b6,c6,e6,d6,r6,Xr,k6⟩
 refine Ok.step lp ?_
 rintro _ ⟨J6,rfl,M6,S6,w6,L6,T6,v6,Nt,p6,C6,s6,a6,b6,c6,e6,d6,r6,Xr,k6⟩
 (unfold qs3 qs2;refine kf @Option.isNone_some.{0} ?_)
 generalize hJ:AH.put _ J6.next _=J7
 have n7:J7.next=J6.next+1:=by rw [<-hJ];rfl
 have b7:J7.aa J6.next=some (.cells true 205 [.p (some (.n J1.next,0)),.i .i64 0,.i .i64 0]):=by rw [<-hJ];exact aH
 have o7:∀ y,y<J6.next->J7.aa y=J6.aa y:=fun y hy=>by rw [<-hJ,aA (by omega)];rfl
 clear hJ
 have UQ:=r6.g.h.lX
 have g7:GC CR AF J7 J1.next sb nb lb pb mb M6 S6 w6 L6 T6 (J6.next::(wx::(SA.bk af++rx::X))) T.id v6 T.top Nt [] Ds p6 C6:=r6.g.sub (r6.g.h.bF AG (K:=[]) ⟨by omega,fun y hy _=>o7 y hy⟩ (by simp) (fun y hy=>by
  rcases List.mem_cons.1 hy with rfl |hy
  ·exact .inr ⟨Nat.le_refl _,by omega⟩
  ·exact .inl hy))
 have G7:GQ CR AF J7 J6.next J1.next sb nb lb pb mb M6 S6 w6 L6 T6 (wx::(SA.bk af++rx::X)) T.id v6 T.top Nt [] Ds p6 C6 0:=⟨g7,by rw [r6.sd.1];simpa [fP] using b7,r6.raw⟩
 have dg6:=r6.dg (by omega)
 have at6:=r6.at_
 have bx6:=r6.bx
 refine Ok.step (Sd AG G7 (fun h=>by have:=UQ _ h;omega) (by omega) r6.bW (by omega) (by omega) (fun d hd=>by have:=oN d hd;omega) pv rfl) fun q ⟨⟨xq,hxq⟩,n,st,M8,S8,w8,L8,T8,v8,hs8,Z8,C8,g8,v8l,f8,k8⟩=>?_
 obtain ⟨q,J8⟩:=q
 have hZ:Z8=[]:=g8.h.j
 subst hZ
 simp only at g8 k8 hxq
 subst hxq
 have b8:J8.aa wx=some (.cells true 81 (s6.cells a6 b6 c6 e6 d6)):=(k8.aa wx (by simp)).trans ((o7 wx (UQ wx (by simp))).trans bx6)
 simp only [dE.cells] at b8
 refine kf b8 ?_
 have rr:=Gb (J:=J8) dg6 r6.g.pi g8.e.ok g8.e.ap (by omega) (fun d hd=>by have:=oN d hd;omega) (fun q pi=>by have:=Js (by omega) oN q pi;omega) pv (by omega) at6
 simp only [dE.cells] at rr
 refine Ok.step rr fun q ⟨⟨n',s9,a9,b9,c9,e9,d9,st9,u1,at9,UR⟩,u2⟩=>?_
 obtain ⟨q,J9⟩:=q
 simp only at u1 u2
 subst u1
 have lt8:=g8.h.lX
 have hrl:rx<J9.next:=by have:=lt8 rx (by simp);have:=u2.next;omega
 have b9r:J9.aa rx=some (.cells true 81 [.sl .nil 0,.sl .nil 0,.i .i64 0,.sl .nil 0,.i .i64 0,.sl .nil 0,.sl .nil 0]):=by
  have i1:rx∈SA.bk af++rx::X:=by simp
  rw [u2.aa rx (lt8 rx (by simp)),k8.aa rx (by simp),o7 rx (UQ rx (by simp)),k6.aa rx i1,o5 rx (by have:=Xq rx i1;omega),k3.aa rx i1,e4.aa rx (lt1 rx i1),k1.aa rx (by simp)]
  exact br
 refine kf b9r ?_
 generalize hJ:AH.put _ rx _=JF
 have nF:JF.next=J9.next:=by rw [<-hJ];rfl
 have oF:∀ y,y≠rx->JF.aa y=J9.aa y:=fun y hy=>by rw [<-hJ];exact aA hy
 clear hJ
 have same:=Er st9 st
 rw [same] at UR
 have hrX:rx∉X:=fun h=>by have:=hX _ h;omega
 have chF:ei [rx] J8 JF:=⟨by rw [nF];exact u2.next,fun y hy hm=>(oF y (by simpa using hm)).trans (u2.aa y hy)⟩
 have gF:GC CR AF JF J1.next sb nb lb pb mb M8 S8 w8 L8 T8 X T.id v8 T.top hs8 [] Ds (PS.run Ds n p6) C8:=g8.sub (g8.h.bF AG chF (by simp) (fun y hy=>.inl (by simp [hy])))
 refine U.2 ⟨J1.next,sb,nb,lb,pb,mb,M8,S8,w8,L8,T8,T.id,v8,T.top,hs8,Ds,PS.run Ds n p6,C8,s9,a9,b9,c9,e9,d9,rfl,gF,at9,⟨UR.m,UR.cO,UR.dn,UR.st.1,by have:=UR.st.2;omega⟩,f8.le (by omega) (by omega),hl,by rw [v8l,Xr,hTw],Hv,oN,⟨?_,fun y hy=>?_⟩⟩
 ·have h1:=k0.next
  have h2:=k1.next
  have h3:=e4.next
  have h4:=k3.next
  have h6:=k6.next
  have h8:=k8.next
  have h9:=u2.next
  show J.next<=JF.next
  omega
 ·have hy0:=hX y hy
  have i1:y∈SA.bk af++rx::X:=by simp [hy]
  have db:y≠rx:=by rintro rfl;exact hrX hy
  rw [oF y db,u2.aa y (lt8 y (by simp [hy])),k8.aa y (by simp [hy]),o7 y (UQ y (by simp [hy])),k6.aa y i1,o5 y (by have:=Xq y i1;omega),k3.aa y i1,e4.aa y (lt1 y i1),k1.aa y (by simp [hy]),k0.aa y hy]
end Go.Abs.Tryz
