/-
  Layer 21: a graph is laid: pointers are set. No conditions.
-/
import Derived.Test.YtncohicmiihjiaaGreatL21
import Derived.Test.YtncohicmiihjiaaGreatR16
import Derived.Test.YtncohicmiihjiaaGreatM21
import Derived.Test.YtncohicmiihjiaaGreatL20
import Derived.Test.YtncohicmiihjiaaGreatR21
import Derived.Test.YtncohicmiihjiaaGreatM15
import Derived.Test.YtncohicmiihjiaaGreatS9s
import Derived.Test.YtncohicmiihjiaaGreatAbsIn
set_option linter.unusedVariables false
set_option linter.unusedSimpArgs false
set_option linter.constructorNameAsVariable false
set_option linter.unusedSimpArgs false
set_option linter.unusedVariables false
set_option linter.unusedSectionVars false
set_option maxHeartbeats 8000000
namespace Go.Abs.Tryz
open Go Go.Abs
variable {O:Type}
theorem NW {x:Int} (h:0<=x/\x<=255) {n:Nat} (hn:0<n):Int.tmod x (n:Int)=((x.toNat % n:Nat):Int):=by
 rw [Int.tmod_eq_emod_of_nonneg h.1,Int.natCast_emod,Int.toNat_of_nonneg h.1]
structure NX (D0 Ds:List DO):Prop where
 len:Ds.length=D0.length
 it:∀ (i:Nat) (d0:DO),D0[i]? = some d0->∃ d,Ds[i]? = some d/\d.ref=d0.ref/\d.P.length=d0.P.length
theorem NX.refl (Ds:List DO):NX Ds Ds:=⟨rfl,fun i d h=>⟨d,h,rfl,rfl⟩⟩
def DO.ke (d:DO) (k:Nat) (x:Int):DO:={d with P:=d.P.set k x}
theorem DO.NY {d:DO} {k:Nat} (hk:k<d.P.length) (x:Int):(d.ke k x).ws=d.ws.set (1+k) x:=by
 unfold DO.ws DO.ke
 simp only
 rw [Nat.add_comm,List.set_cons_succ,List.set_append_left _ _ hk]
theorem NX.set {D0 Ds:List DO} (h:NX D0 Ds) {i:Nat} {d:DO} (hd:Ds[i]? = some d) (k:Nat) (x:Int):NX D0 (Ds.set i (d.ke k x)):=by
 have hi:=(List.getElem?_eq_some_iff.1 hd).1
 refine ⟨by rw [List.length_set];exact h.len,fun j d0 hj=>?_⟩
 obtain ⟨b,b1,b2,b3⟩:=h.it j d0 hj
 by_cases c:i=j
 ·subst c
  rw [hd] at b1;cases b1
  exact ⟨d.ke k x,by rw [List.getElem?_set,if_pos rfl,if_pos hi],b2,by simpa [DO.ke] using b3⟩
 ·exact ⟨b,by rw [List.getElem?_set,if_neg c];exact b1,b2,b3⟩
theorem PV.set {Ds:List DO} (h:PV Ds) {i j:Nat} {d b:DO} (hd:Ds[i]? = some d) (hb:Ds[j]? = some b) (k:Nat):PV (Ds.set i (d.ke k b.ref)):=by
 have hi:=(List.getElem?_eq_some_iff.1 hd).1
 have get:∀ (j:Nat) (c:DO),Ds[j]? = some c->∃ c',(Ds.set i (d.ke k b.ref))[j]? = some c'/\c'.ref=c.ref:=fun j c hc=>by
  by_cases e:i=j
  ·subst e
   rw [hd] at hc;cases hc
   exact ⟨d.ke k b.ref,by rw [List.getElem?_set,if_pos rfl,if_pos hi],rfl⟩
  ·exact ⟨c,by rw [List.getElem?_set,if_neg e];exact hc,rfl⟩
 have cA:∀ w:Int,(w=0 ∨ ∃ (j:Nat) (b:DO),Ds[j]? = some b/\b.ref=w)->w=0 ∨ ∃ (j:Nat) (c:DO),(Ds.set i (d.ke k b.ref))[j]? = some c/\c.ref=w:=by
  rintro w (e |⟨u,c,hu,rfl⟩)
  ·exact .inl e
  ·obtain ⟨c',h1,h2⟩:=get u c hu
   exact .inr ⟨u,c',h1,h2⟩
 intro e he w hw
 obtain ⟨u,hu⟩:=List.getElem?_of_mem he
 rw [List.getElem?_set] at hu
 by_cases ce:i=u
 ·subst ce
  rw [if_pos rfl,if_pos hi] at hu
  cases hu
  have hw:w∈d.P.set k b.ref:=hw
  rcases List.mem_or_eq_of_mem_set hw with hw |rfl
  ·exact cA w (h d (List.mem_of_getElem? hd) w hw)
  ·exact cA _ (.inr ⟨j,b,hb,rfl⟩)
 ·rw [if_neg ce] at hu
  exact cA w (h e (List.mem_of_getElem? hu) w hw)
def e3 (e:Int × Int × Int):List AV:=[.i .u8 e.1,.i .u8 e.2.1,.i .u8 e.2.2]
def U8 (x:Int):Prop:=0<=x/\x<=255
set_option maxRecDepth 100000 in
theorem Gj {J:AH O} {sb nb lb pb mb gx wx:Nat} {M:ae} {S:ao} {w:List Int} {L:aP} {T:bn} {X:List Nat} {D0 Ds:List DO} {N:Nat} {c:Int} (m:lF J sb nb lb pb mb M S w L T (gx::wx::X) Ds N c) (hc:c<=100000) (hx:wx∉X/\gx≠wx) (VB:NX D0 Ds) (pv:PV Ds) (uL:D0.length<=20) {al a:SA} (eI:rX al (D0.map DO.ov)) (ha:rX a (Ds.map DO.ov)) {q1 q2:AV} {sE:SA} {E:List (Int × Int × Int)} (iE:iq 3 sE E.length (E.flatMap e3)) (rE:∀ e∈E,U8 e.1/\U8 e.2.1/\U8 e.2.2) (hE:E.length<=100) (hg:J.aa gx=some (.cells true 78 [q1,.sl sE E.length,q2])) (hw:J.aa wx=some (.cells true 105 [.i .i64 8,.i .i64 0,.i .i64 0,.i .i64 0,.sl a Ds.length])) {h:AH O} {r8:AV × AH O} (eh:h.next=gx) (e8:r8.2.next=wx) {i:Nat} (hi:i<E.length) (hn:0<D0.length):
  Ok (Ta h (al,D0.length) Tb (some (.n sb,0)) r8 VC ([.i .i64 (i:Int)],J)) fun q=>∃ J',q=.inl ([.i .i64 ((i+1:Nat):Int)],J')/\∃ M' L' T' A0 a',lF J' sb nb lb pb mb M' S w L' T' (gx::wx::X) A0 N (c+6)/\NX D0 A0/\PV A0/\rX a' (A0.map DO.ov)/\J'.aa wx=some (.cells true 105 [.i .i64 8,.i .i64 0,.i .i64 0,.i .i64 0,.sl a' A0.length])/\ay (gx::X) J J':=by
 obtain ⟨⟨ea,eb,ec⟩,he⟩:∃ e,E[i]? = some e:=⟨_,List.getElem?_eq_getElem hi⟩
 obtain ⟨r1,r2,r3⟩:=rE _ (List.mem_of_getElem? he)
 simp only at r1 r2 r3
 obtain ⟨b1,o1,rfl,X2⟩:=iq.row (enc:=e3) (fun _=>rfl) iE he (by decide)
 have le0:=fun J:AH O=>X2 O J 0 (by decide)
 have le1:=fun J:AH O=>X2 O J 1 (by decide)
 have le2:=fun J:AH O=>X2 O J 2 (by decide)
 simp only [e3,Nat.add_zero,List.getElem?_cons_zero,List.getElem?_cons_succ] at le0 le1 le2
 have m1:=NW r1 hn
 have m3:=NW r3 hn
 generalize NZ:ea.toNat % D0.length=fr at m1
 generalize hto:ec.toNat % D0.length=to at m3
 have agW:fr<D0.length:=by rw [<-NZ];exact Nat.mod_lt _ hn
 have agX:to<D0.length:=by rw [<-hto];exact Nat.mod_lt _ hn
 obtain ⟨Mu,X3⟩:∃ d,D0[fr]? = some d:=⟨_,List.getElem?_eq_getElem agW⟩
 obtain ⟨Mv,X4⟩:∃ d,D0[to]? = some d:=⟨_,List.getElem?_eq_getElem agX⟩
 obtain ⟨df,X5,agY,afQ⟩:=VB.it fr Mu X3
 obtain ⟨dt,hdt,X6,afR⟩:=VB.it to Mv X4
 have Mw:=List.mem_of_getElem? X5
 obtain ⟨okf,okP,okR⟩:=m.ok df Mw
 obtain ⟨okt,_,_⟩:=m.ok dt (List.mem_of_getElem? hdt)
 obtain ⟨bb,oo,cP,cR,rfl,_,_,ld⟩:=eI.obj (i:=fr) (x:=Mu.ov) (by rw [List.getElem?_map,X3];rfl)
 obtain ⟨bb',oo',_,_,e',_,_,ld'⟩:=eI.obj (i:=to) (x:=Mv.ov) (by rw [List.getElem?_map,X4];rfl)
 cases e'
 have l5:∀ J:AH O,J.ld bb (oo+fr*8+5)=some (.sl cP Mu.P.length):=fun J=>(ld O J).2.2.2.2.2.1
 have l7:∀ J:AH O,J.ld bb (oo+fr*8+7)=some (.i .u64 Mu.ref):=fun J=>(ld O J).2.2.2.2.2.2.2
 have l7':∀ J:AH O,J.ld bb (oo+to*8+7)=some (.i .u64 Mv.ref):=fun J=>(ld' O J).2.2.2.2.2.2.2
 have t0:(true == true)=true:=rfl
 have z0:((0:Int) == 0)=true:=rfl
 have i1:decide ((i:Int)<(E.length:Int))=true:=decide_eq_true (by omega)
 have i0:decide ((0:Int)<=(i:Int))=true:=decide_eq_true (by omega)
 have n0:decide ((D0.length:Int) > 0)=true:=decide_eq_true (by omega)
 have nz:((D0.length:Int) == 0)=false:=by rw [beq_eq_false_iff_ne];omega
 have f0:decide ((0:Int)<=(fr:Int))=true:=decide_eq_true (by omega)
 have f1:decide ((fr:Int)<(D0.length:Int))=true:=decide_eq_true (by omega)
 have g0:decide ((0:Int)<=(to:Int))=true:=decide_eq_true (by omega)
 have g1:decide ((to:Int)<(D0.length:Int))=true:=decide_eq_true (by omega)
 have wa:IntKind.i64.wrap ea=ea:=bG (by unfold U8 at r1;omega)
 have wb:IntKind.i64.wrap eb=eb:=bG (by unfold U8 at r2;omega)
 have wc:IntKind.i64.wrap ec=ec:=bG (by unfold U8 at r3;omega)
 have w1:IntKind.i64.wrap ((i:Int)+1)=((i+1:Nat):Int):=by rw [bG (by omega)];omega
 by_cases pz:Mu.P.length=0
 ·have pz':((Mu.P.length:Int) == 0)=true:=by simp [pz]
  (unfold Ta SA.ref;refine sy eh hg i0 i1 (cj t0 (cj n0 (cj @Bool.and_true (cj @Int.toNat_natCast (cj le0 (cj le1 (cj le2 (cj nz (cj wa (cj wb (cj wc (cj m1 (cj m3 (cj f0 (cj f1 (cj l5 (cj pz' (cj @bW w1)))))))))))))))))) ?_)
  exact U.2 ⟨J,rfl,M,L,T,Ds,a,{m with cH:=m.cH.le (by omega) (Int.le_refl _)},VB,pv,ha,hw,ay.refl _ _⟩
 ·have pz':((Mu.P.length:Int) == 0)=false:=by rw [beq_eq_false_iff_ne];omega
  have m2:=NW r2 (show 0<Mu.P.length by omega)
  generalize hkk:eb.toNat % Mu.P.length=kk at m2
  have ary:kk<Mu.P.length:=by rw [<-hkk];exact Nat.mod_lt _ (by omega)
  (unfold Ta SA.ref;refine sy eh hg i0 i1 (cj t0 (cj n0 (cj @Bool.and_true (cj @Int.toNat_natCast (cj le0 (cj le1 (cj le2 (cj nz (cj wa (cj wb (cj wc (cj m1 (cj m3 (cj f0 (cj f1 (cj l5 (cj pz' (cj l7 (cj g0 (cj g1 (cj l7' (cj m2 @jc)))))))))))))))))))))) ?_)
  have hf:M.cC 2000:=m.cH.cC m.a.l.p.mi.ok (by omega)
  have hkd:∃ kd:Int,(∀ J:AH O,De [.i .u64 Mv.ref] J=some (.i .i64 kd,J))/\kd≠3:=by
   rw [<-X6]
   unfold DO.ref DO.to
   cases hl:dt.h.l with
   |true=>exact ⟨2,fun J=>(by simp only [if_true];exact kM J (m.a.yE (m.l0 dt (List.mem_of_getElem? hdt) hl))),by decide⟩
   |false=>
    have:=m.sm dt (List.mem_of_getElem? hdt) hl
    have tb:=m.Ge
    have n1:1<=dt.n:=by unfold DO.n;omega
    have sl:=VB.len
    exact ⟨1,fun J=>(by simp only [Bool.false_eq_true,if_false];exact kO J (by omega)),by decide⟩
  obtain ⟨kd,ag1,ag2⟩:=hkd
  have sp:=uM m.a hf (m.has Mw) (kk:Int) Mv.ref ag1 ag2
  have hkr:(0:Int)<=kk/\(kk:Int)<df.h.p:=by rw [okf.p];omega
  simp only [if_pos hkr,Int.toNat_natCast] at sp
  rw [DO.X7,agY] at sp
  refine Ok.step sp fun q ⟨p1,M',p2,p3,_,p4⟩=>?_
  obtain ⟨rv,J1⟩:=q
  simp only at p1 p2 p4
  subst p1
  have sV:=(p4.aa wx (by simp)).trans hw
  have hof:(Ds.map DO.ov)[fr]? = some df.ov:=by rw [List.getElem?_map,X5];rfl
  have sr:=Df (J:=J1) (s:=⟨0,0,0,Ds.map DO.ov⟩) (a:=a) ha (by simp;have:=VB.len;omega) hof (by show df.P.length<=1000;omega) (k:=kk) (by show kk<df.P.length;omega) Mv.ref
  simp only [gi.cells,List.length_map] at sr
  simp -implicitDefEqProofs only [bne,z0,Bool.not_true,e8,sV,g0,g1,Bool.and_true,SA.ref,Int.toNat_natCast,l7',wa,wb,wc,m1,m2,m3,jc,Nat.reduceAdd,Nat.reduceMul,Nat.reduceLT,Int.reduceToNat,Int.reduceAdd,Int.reduceSub,Int.reduceMul,dH,cY,cZ,db,dd,dp,dq,du,cv,Nat.reduceLeDiff,decide_true,decide_false]
  refine Ok.step sr fun q ⟨⟨a2,s1,s2⟩,s3⟩=>?_
  obtain ⟨rv,J2⟩:=q
  simp only at s1 s2 s3
  subst s1
  have XR:wx<J1.next:=p2.lt wx (by simp)
  have HD:=(s3.aa wx XR).trans sV
  have SX:(Ds.map DO.ov).getD fr ⟨⟨0,0,0,0,false⟩,[],[],0⟩=df.ov:=by rw [List.getD_eq_getElem?_getD,hof];rfl
  have Ay:(gi.ke ⟨0,0,0,Ds.map DO.ov⟩ fr kk Mv.ref)=⟨0,0,0,(Ds.set fr (df.ke kk Mv.ref)).map DO.ov⟩:=by
   unfold gi.ke
   simp only
   rw [SX,List.map_set]
   rfl
  rw [Ay] at s2
  simp only [Ay,List.length_map,List.length_set]
  refine Vu e8 HD @bW w1 ?_
  have aY:=p2.lt
  have kn:1+kk<df.n:=by unfold DO.n;omega
  have mk:=m.Aj (d':=df.ke kk Mv.ref) X5 kn Mv.ref rfl rfl (by simp [DO.ke]) rfl (DO.NY (by omega) _) p2 (c':=c+6) ((p3.cH m.cH).le (by omega) (by omega))
  have ch:eA [wx] J1 (J2.put wx (.cells true 105 [.i .i64 8,.i .i64 0,.i .i64 0,.i .i64 0,.sl a2 Ds.length])):=⟨s3.next,fun b hb hm=>(aq (by simpa using hm)).trans (s3.aa b hb)⟩
  have mk2:=mk.bI ch (fun b hb=>.inl (by simp at hb;simp [hb])) (fun b hb=>.inl hb)
  refine U.2 ⟨_,rfl,M',_,_,_,a2,mk2,VB.set X5 kk _,?_,s2,?_,⟨Nat.le_trans p4.next s3.next,fun b hb=>?_⟩⟩
  ·rw [<-X6];exact pv.set X5 hdt kk
  ·rw [List.length_set];exact aE
  ·have cJ:b≠wx:=by
    rintro rfl
    rcases List.mem_cons.1 hb with h |h
    ·exact hx.2 h.symm
    ·exact hx.1 h
   have dJ:b∈gx::wx::X:=by
    rcases List.mem_cons.1 hb with h |h
    ·simp [h]
    ·simp [h]
   rw [aq cJ,s3.aa b (aY b dJ),p4.aa b dJ]
end Go.Abs.Tryz
namespace Go.Abs.Tryz
open Go Go.Abs
variable {O:Type}
theorem X8 {J:AH O} {el:TypeId} {a:SA} {n:Nat} {cs:List AV} {v:AV} (ho:ba J el 1 a n cs):
  Ok (((J.ax 2).put J.next (.cells true el [v])).cL (J.next+1) el 1 a n 1 [v]) fun r=>∃ a',r.1=.sl a' (n+1)/\ba r.2 el 1 a' (n+1) (cs++[v])/\eA (SA.bk a) J r.2/\∀ b∈SA.bk a',J.next<=b/\b<r.2.next:=by
 have aY:=ho.lt
 generalize hJ:(J.ax 2).put J.next (.cells true el [v])=J1
 have n1:J1.next=J.next+2:=by rw [<-hJ];rfl
 have b1:∀ b,b<J.next->J1.aa b=J.aa b:=fun b hb=>by rw [<-hJ,aq (by omega)];rfl
 clear hJ
 have Vk:ba J1 el 1 a n cs:=ho.of (by omega) fun b hb=>b1 b (aY b hb)
 refine (ja (nid:=J.next+1) Vk (fun hm=>by have:=aY _ hm;omega) (by omega) (show ([v]:List AV).length=1*1 from rfl)).mono fun r ⟨a',g1,g2,g3,g4,g5⟩=>⟨a',g1,g2,⟨by omega,fun b hb hm=>(g4 b (by omega) hm).trans (b1 b hb)⟩,fun b hb=>by have:=g5 b hb;omega⟩
def sB (l:List Nat):List AV:=l.map fun (i:Nat)=>.i .i64 (i:Int)
def oV (n:Nat) (F:List Int):List Nat:=if n=0 then [] else F.map fun x=>x.toNat % n
theorem Tc {n:Nat} {F:List Int}:∀ i∈oV n F,i<n:=by
 unfold oV
 intro i hi
 split at hi
 ·cases hi
 ·simp at hi
  obtain ⟨x,_,rfl⟩:=hi
  exact Nat.mod_lt _ (by omega)
theorem N0 {n:Nat} {F:List Int}:(oV n F).length<=F.length:=by
 unfold oV;split<;>simp
theorem Gk {J:AH O} {gx:Nat} {sF a:SA} {F:List Int} (iF:eZ .u8 sF F) (rF:∀ x∈F,U8 x) (hF:F.length<=100) {q1 q2:AV} (hg:J.aa gx=some (.cells true 78 [q1,q2,.sl sF F.length])) {h:AH O} (eh:h.next=gx) {al:SA} {n k:Nat} (hn:0<n) (hk:k<F.length) (own:ba J 3 1 a k (sB ((oV n F).take k))) (hga:gx∉SA.bk a) (hgl:gx<J.next):
  Ok (VD h (al,n) ([.sl a k,.i .i64 (k:Int)],J)) fun q=>∃ a' J',q=.inl ([.sl a' (k+1),.i .i64 ((k+1:Nat):Int)],J')/\ba J' 3 1 a' (k+1) (sB ((oV n F).take (k+1)))/\eA (SA.bk a) J J'/\∀ b∈SA.bk a',J.next<=b/\b<J'.next:=by
 have hx:F[k]? = some F[k]:=List.getElem?_eq_getElem hk
 generalize F[k]=x at hx
 have rx:=rF x (List.mem_of_getElem? hx)
 obtain ⟨b,o,rfl,ld⟩:=iF.at hx
 have ld0:=fun J:AH O=>ld O J
 have m1:=NW rx hn
 have wx:IntKind.i64.wrap x=x:=bG (by unfold U8 at rx;omega)
 have w1:IntKind.i64.wrap ((k:Int)+1)=((k+1:Nat):Int):=by rw [bG (by omega)];omega
 have i1:decide ((k:Int)<(F.length:Int))=true:=decide_eq_true (by omega)
 have i0:decide ((0:Int)<=(k:Int))=true:=decide_eq_true (by omega)
 have n0:decide ((n:Int) > 0)=true:=decide_eq_true (by omega)
 have nz:((n:Int) == 0)=false:=by rw [beq_eq_false_iff_ne];omega
 have t0:(true == true)=true:=rfl
 have b9:decide ((k+1)*9<=35184372088832)=true:=decide_eq_true (by omega)
 have hg2:(J.ax 2).aa gx=some (.cells true 78 [q1,q2,.sl (.loc b o 1) F.length]):=hg
 (unfold VD SA.ref;refine sy eh hg hg2 i0 (cj i1 (cj t0 (cj n0 (cj @Bool.and_true (cj @Int.toNat_natCast (cj @Nat.mul_one (cj ld0 (cj nz (cj wx m1))))))))) ?_)
 refine lk b9 ?_
 refine Ok.step (X8 own) fun r ⟨a',g1,g2,g3,g4⟩=>?_
 obtain ⟨rv,J'⟩:=r
 simp only at g1 g2 g3 g4
 subst g1
 refine lk w1 ?_
 have e:sB ((oV n F).take (k+1))=sB ((oV n F).take k)++[.i .i64 ((x.toNat % n:Nat):Int)]:=by
  have:(oV n F)[k]? = some (x.toNat % n):=by
   unfold oV
   rw [if_neg (by omega),List.getElem?_map,hx];rfl
  unfold sB
  rw [List.take_add_one,this,List.map_append];rfl
 exact U.2 ⟨a',J',rfl,by rw [e];exact g2,g3,g4⟩
theorem N2 {J:AH O} {X:List Nat} (hX:∀ b∈X,b<J.next) {sa sE sF:SA} {zs:List MZ} {E:List (Int × Int × Int)} {F:List Int} (iz:iq 4 sa zs.length (zs.flatMap MZ.cs)) (oz:∀ z∈zs,z.ok) (hz:zs.length<=14) (iE:iq 3 sE E.length (E.flatMap e3)) (rE:∀ e∈E,U8 e.1/\U8 e.2.1/\U8 e.2.2) (hE:E.length<=40) (iF:eZ .u8 sF F) (rF:∀ x∈F,U8 x) (hF:F.length<=10):
  Ok (qtg [.agg [.sl sa zs.length,.sl sE E.length,.sl sF F.length]] J) fun q=>∃ sb nb lb pb mb M S w L T Ds a af,q.1=.aG [.p (some (.n sb,0)),.sl a Ds.length,.sl af (oV zs.length F).length,.b true]/\lF q.2 sb nb lb pb mb M S w L T (SA.bk af++X) Ds zs.length 3000/\PV Ds/\Ds.length=zs.length/\rX a (Ds.map DO.ov)/\ba q.2 3 1 af (oV zs.length F).length (sB (oV zs.length F))/\(∀ b∈SA.bk af,b∉X)/\ay X J q.2:=by
 (unfold qtg qtf;refine yx ?_)
 generalize hJ:AH.put _ J.next _=J0
 have n0:J0.next=J.next+1:=by rw [<-hJ];rfl
 have bg:J0.aa J.next=some (.cells true 78 [.sl sa zs.length,.sl sE E.length,.sl sF F.length]):=by rw [<-hJ];exact aE
 have k0:ay X J J0:=⟨by omega,fun b hb=>by have:=hX b hb;rw [<-hJ,aq (by omega)];rfl⟩
 clear hJ
 refine Ok.step (Jp (X:=J.next::X) (J:=J0) (fun b hb=>by
  rcases List.mem_cons.1 hb with rfl |hb
  ·omega
  ·have:=hX b hb;omega) (Ju iz) (by omega) oz) fun q ⟨sb,nb,lb,pb,mb,M,S,w,L,T,Ds,al,g1,m0,hl,eI,k1,zP⟩=>?_
 obtain ⟨q,J1⟩:=q
 simp only at g1 m0 k1
 subst g1
 have HH:=m0.a.lt
 have f0:(!true)=false:=rfl
 refine lk f0 ?_
 generalize hJ:AH.put _ J1.next _=J3
 have bw:J3.aa J1.next=some (.cells true 105 [.i .i64 8,.i .i64 0,.i .i64 0,.i .i64 0,.sl al Ds.length]):=by rw [<-hJ];exact aE
 have n3:J3.next=J1.next+1:=by rw [<-hJ];rfl
 have e3':∀ b,b<J1.next->J3.aa b=J1.aa b:=fun b hb=>by rw [<-hJ,aq (by omega)];exact iZ
 clear hJ
 have HJ:J.next<J1.next:=HH _ (by simp)
 have hXl:∀ b∈X,b<J.next:=hX
 have N3:J1.next∉X/\J.next≠J1.next:=⟨fun h=>by have:=hX _ h;omega,by omega⟩
 have m1:lF J3 sb nb lb pb mb M S w L T (J.next::J1.next::X) Ds zs.length (120*Ds.length):=m0.bI (K:=[]) ⟨by omega,fun b hb _=>e3' b hb⟩ (by simp) (fun b hb=>by
  simp only [List.mem_cons] at hb ⊢
  rcases hb with rfl |rfl |hb
  ·exact .inl (.inl rfl)
  ·exact .inr ⟨Nat.le_refl _,by omega⟩
  ·exact .inl (.inr hb))
 have k3:ay (J.next::X) J0 J3:=⟨Nat.le_trans k1.next (by omega),fun b hb=>(e3' b (HH b hb)).trans (k1.aa b hb)⟩
 have bg3:=(k3.aa J.next (by simp)).trans bg
 have pv0:PV Ds:=fun d hd w hw=>.inl (zP d hd w hw)
 have lp:Ok (bu (S:=List AV × AH O) (T:=(List AV × AH O) ⊕ (AV × AH O)) (Ta J (al,Ds.length) Tb (some (.n sb,0)) (.aG [.p (some (.n sb,0)),.sl al Ds.length,.b true],J1) VC) ([.i .i64 0],J3)) fun q=>∃ J' M' L' T' A0 a',q=.inl ([],J')/\lF J' sb nb lb pb mb M' S w L' T' (J.next::J1.next::X) A0 zs.length 3000/\A0.length=Ds.length/\PV A0/\rX a' (A0.map DO.ov)/\J'.aa J1.next=some (.cells true 105 [.i .i64 8,.i .i64 0,.i .i64 0,.i .i64 0,.sl a' A0.length])/\ay (J.next::X) J3 J':=by
  have ex:∀ (k:Nat) (J':AH O),J'.aa J.next=some (.cells true 78 [.sl sa zs.length,.sl sE E.length,.sl sF F.length])->(k=E.length ∨ Ds.length=0)->Ta J (al,Ds.length) Tb (some (.n sb,0)) (.aG [.p (some (.n sb,0)),.sl al Ds.length,.b true],J1) VC ([.i .i64 (k:Int)],J')=some (.inr (.inl ([],J'))):=fun k J' hb hk=>by
   (unfold Ta;refine lk hb ?_)
   by_cases c:(k:Int)<(E.length:Int)
   ·have i1:decide ((k:Int)<(E.length:Int))=true:=decide_eq_true c
    have n0:decide ((Ds.length:Int) > 0)=false:=decide_eq_false (by omega)
    have t0:(true == true)=true:=rfl
    exact zO3 i1 n0 t0
   ·have i1:decide ((k:Int)<(E.length:Int))=false:=decide_eq_false c
    have t0:(false == true)=false:=rfl
    exact zO2 i1 t0
  by_cases hn:Ds.length=0
  ·refine Ok.count 0 (fun k s=>s=([.i .i64 ((0:Nat):Int)],J3)) (fun k s hk=>absurd hk (by omega)) (fun s h=>?_) rfl
   subst h
   rw [ex 0 J3 bg3 (.inr hn)]
   exact U.2 ⟨J3,M,L,T,Ds,al,rfl,{m1 with cH:=m1.cH.le (by omega) (Int.le_refl _)},rfl,pv0,eI,bw,ay.refl _ _⟩
  refine Ok.count E.length (fun k s=>∃ J' M' L' T' A0 a',s=([.i .i64 (k:Int)],J')/\lF J' sb nb lb pb mb M' S w L' T' (J.next::J1.next::X) A0 zs.length (120*Ds.length+6*k)/\NX Ds A0/\PV A0/\rX a' (A0.map DO.ov)/\J'.aa J1.next=some (.cells true 105 [.i .i64 8,.i .i64 0,.i .i64 0,.i .i64 0,.sl a' A0.length])/\ay (J.next::X) J3 J') ?_ ?_ ⟨J3,M,L,T,Ds,al,rfl,by simpa using m1,NX.refl _,pv0,eI,bw,ay.refl _ _⟩
  ·rintro k _ hk ⟨J4,M4,L4,T4,D4,a4,rfl,m4,s4,X9,Ya,SY,k4⟩
   have Td:=(k4.aa J.next (by simp)).trans bg3
   refine (Gj m4 (by omega) N3 s4 X9 (by omega) eI Ya iE rE (by omega) Td SY rfl rfl hk (by omega)).mono ?_
   rintro _ ⟨J5,rfl,M5,L5,T5,D5,a5,m5,s5,pv5,oa5,bw5,k5⟩
   exact ⟨J5,M5,L5,T5,D5,a5,rfl,{m5 with cH:=m5.cH.le (by omega) (Int.le_refl _)},s5,pv5,oa5,bw5,k4.trans k5⟩
  ·rintro _ ⟨J4,M4,L4,T4,D4,a4,rfl,m4,s4,X9,Ya,SY,k4⟩
   have Td:=(k4.aa J.next (by simp)).trans bg3
   rw [ex E.length J4 Td (.inl rfl)]
   exact U.2 ⟨J4,M4,L4,T4,D4,a4,rfl,{m4 with cH:=m4.cH.le (by omega) (Int.le_refl _)},s4.len,X9,Ya,SY,k4⟩
 refine Ok.cE lp ?_ (fun q hq=>by obtain ⟨_,_,_,_,_,_,e,_⟩:=hq;cases e)
 rintro _ ⟨J4,M4,L4,T4,D4,a4,e,m4,l4,X9,Ya,SY,k4⟩
 simp only [Sum.inl.injEq] at e
 subst e
 have Td:=(k4.aa J.next (by simp)).trans bg3
 have Te:=m4.a.lt
 have lp2:Ok (bu (S:=List AV × AH O) (T:=List AV × AH O) (VD J (al,Ds.length)) ([.sl .nil 0,.i .i64 0],J4)) fun r=>∃ af J',r=([.sl af (oV zs.length F).length],J')/\ba J' 3 1 af (oV zs.length F).length (sB (oV zs.length F))/\eA [] J4 J'/\∀ b∈SA.bk af,J4.next<=b/\b<J'.next:=by
  have ex:∀ (k:Nat) (a:SA) (J':AH O),J'.aa J.next=some (.cells true 78 [.sl sa zs.length,.sl sE E.length,.sl sF F.length])->(k=F.length ∨ Ds.length=0)->VD J (al,Ds.length) ([.sl a k,.i .i64 (k:Int)],J')=some (.inr ([.sl a k],J')):=fun k a J' hb hk=>by
   (unfold VD;refine lk hb ?_)
   by_cases c:(k:Int)<(F.length:Int)
   ·have i1:decide ((k:Int)<(F.length:Int))=true:=decide_eq_true c
    have n0:decide ((Ds.length:Int) > 0)=false:=decide_eq_false (by omega)
    have t0:(true == true)=true:=rfl
    exact zO3 i1 n0 t0
   ·have i1:decide ((k:Int)<(F.length:Int))=false:=decide_eq_false c
    have t0:(false == true)=false:=rfl
    exact zO2 i1 t0
  by_cases hn:Ds.length=0
  ·have ef:oV zs.length F=[]:=by unfold oV;rw [if_pos (by omega)]
   rw [ef]
   refine Ok.count 0 (fun k s=>s=([.sl .nil 0,.i .i64 ((0:Nat):Int)],J4)) (fun k s hk=>absurd hk (by omega)) (fun s h=>?_) rfl
   subst h
   rw [ex 0 .nil J4 Td (.inr hn)]
   exact U.2 ⟨.nil,J4,rfl,ba.nil _ _ _,⟨Nat.le_refl _,fun _ _ _=>rfl⟩,by simp [SA.bk]⟩
  have fl:(oV zs.length F).length=F.length:=by unfold oV;rw [if_neg (by omega)];simp
  rw [fl,hl]
  refine Ok.count F.length (fun k s=>∃ a J',s=([.sl a k,.i .i64 (k:Int)],J')/\ba J' 3 1 a k (sB ((oV zs.length F).take k))/\eA [] J4 J'/\∀ b∈SA.bk a,J4.next<=b/\b<J'.next) ?_ ?_ ⟨.nil,J4,rfl,ba.nil _ _ _,⟨Nat.le_refl _,fun _ _ _=>rfl⟩,by simp [SA.bk]⟩
  ·rintro k _ hk ⟨a,J5,rfl,o5,c5,b5⟩
   have hg4:J.next<J4.next:=Te _ (by simp)
   have c5n:=c5.next
   refine (Gk (J:=J5) iF rF (by omega) ((c5.aa J.next hg4 (by simp)).trans Td) rfl (al:=al) (n:=zs.length) (by omega) hk o5 (fun h=>by have:=b5 _ h;omega) (by omega)).mono ?_
   rintro _ ⟨a',J6,rfl,o6,c6,b6⟩
   exact ⟨a',J6,rfl,o6,⟨Nat.le_trans c5.next c6.next,fun b hb _=>(c6.aa b (by omega) (fun h=>by have:=b5 b h;omega)).trans (c5.aa b hb (by simp))⟩,fun b hb=>by have:=b6 b hb;omega⟩
  ·rintro _ ⟨a,J5,rfl,o5,c5,b5⟩
   have hg4:J.next<J4.next:=Te _ (by simp)
   rw [<-hl,ex F.length a J5 ((c5.aa J.next hg4 (by simp)).trans Td) (.inl rfl)]
   have tk:(oV zs.length F).take F.length=oV zs.length F:=List.take_of_length_le (by omega)
   rw [hl]
   rw [tk] at o5
   exact U.2 ⟨a,J5,rfl,o5,c5,b5⟩
 refine Ok.step lp2 ?_
 rintro _ ⟨af,J5,rfl,o5,c5,b5⟩
 have VE:J1.next<J4.next:=Te _ (by simp)
 have bw5:=(c5.aa J1.next VE (by simp)).trans SY
 refine lk bw5 ?_
 have m5:lF J5 sb nb lb pb mb M4 S w L4 T4 (SA.bk af++X) D4 zs.length 3000:=m4.bI c5 (by simp) (fun b hb=>by
  rcases List.mem_append.1 hb with hb |hb
  ·exact .inr (b5 b hb)
  ·exact .inl (by simp [hb]))
 refine U.2 ⟨sb,nb,lb,pb,mb,M4,S,w,L4,T4,D4,a4,af,rfl,m5,X9,l4.trans hl,Ya,o5,fun b hb hx=>?_,k0.trans (k3.tail.trans (k4.tail.trans ⟨c5.next,fun b hb=>c5.aa b (Te b (by simp [hb])) (by simp)⟩))⟩
 have:=b5 b hb
 have:=Te b (by simp [hx])
 omega
end Go.Abs.Tryz
namespace Go.Abs.Tryz
open Go Go.Abs
variable {O:Type}
theorem lF.eg {J:AH O} {sb nb lb pb mb:Nat} {M:ae} {S:ao} {w:List Int} {L:aP} {T:bn} {X:List Nat} {Ds:List DO} {N:Nat} {c:Int} (m:lF J sb nb lb pb mb M S w L T X Ds N c) (i:Nat) (C:Nat->DO):EG Ds (fun _=>none) C L.fresh (T.flip i) T.ws T.top where
 ok:=fun d hd=>(m.ok d hd).1
 sm:=m.sm
 ap:=m.ap
 vl:=m.a.top
 top:=(oB (fun j=>rfl) _).symm
 HI:=m.top
 wl:=List.length_replicate
 c:=fun i d t _ h=>by cases h
 s0:=fun i d hd hl _=>m.s0 d (List.mem_of_getElem? hd) hl
 s1:=fun i d t hd hl h=>by cases h
 l0:=fun i d hd hl _=>⟨by simp [aP.fresh],m.l0 d (List.mem_of_getElem? hd) hl⟩
 l1:=fun i d t hd hl h=>by cases h
 dj:=fun i j a b t u _ _ _ _ _ h _=>by cases h
 only:=fun j h=>by
  obtain ⟨d,hd,h1,h2⟩:=m.only j h
  obtain ⟨i,hi⟩:=List.getElem?_of_mem hd
  exact ⟨i,d,hi,h1,h2⟩
theorem DM.wide {Ds:List DO} {p:PS} {sc sc':Nat->Prop} {s:fj} (h:DM Ds p sc s) (hs:∀ i,sc i->sc' i):DM Ds p sc' s:=⟨h.len,fun i d hd=>by
 obtain ⟨o,h1,h2,h3,h4,h5,h6⟩:=h.l i d hd
 exact ⟨o,h1,h2,h3,h4,h5,fun n=>h6 fun q=>n (hs i q)⟩,h.nw,h.top,h.mv⟩
abbrev sC:List Hd->AH O->List Nat->Prop:=fun _ _ Z=>Z=[]
structure RS (J:AH O) (wx eb sb nb lb pb mb:Nat) (M:ae) (S:ao) (w:List Int) (L:aP) (T:bn) (X:List Nat) (bE:Int) (v:List Int) (ot:Nat) (hs:List Hd) (Ds:List DO) (p:PS) (C:Nat->DO) (s:dD) (a b c e d:SA) (vb:List Nat) (k:Nat):Prop where
 g:GC EA sC J eb sb nb lb pb mb M S w L T (wx::(vb++X)) bE v ot hs [] Ds p C
 bx:J.aa wx=some (.cells true 81 (s.cells a b c e d))
 raw:Raw Ds p C Ds.length
 dm:DM Ds p (fun _=>False) s.m
 at_:s.At a b c e d
 cA:s.cA=Ds.map DO.ov
 dn:s.dn=[]
 st:0<=s.m.steps/\s.m.steps<=120*k
 sd:p.sd=0/\p.ld=0
 cH:M.cH (4000+300*k) 100
theorem RS.dg {J:AH O} {wx eb sb nb lb pb mb:Nat} {M:ae} {S:ao} {w:List Int} {L:aP} {T:bn} {X:List Nat} {bE:Int} {v:List Int} {ot:Nat} {hs:List Hd} {Ds:List DO} {p:PS} {C:Nat->DO} {s:dD} {a b c e d:SA} {vb:List Nat} {k:Nat} (r:RS J wx eb sb nb lb pb mb M S w L T X bE v ot hs Ds p C s a b c e d vb k) (hk:k<=20):DG Ds p s 1:=⟨r.dm.wide fun _ h=>h.elim,r.cA,⟨[],r.dn,by have:=r.sd;simp;omega,fun i=>by
 unfold PS.oC
 rw [r.sd.1,r.sd.2]
 simp⟩,by have:=r.st;omega⟩
theorem Jz {J:AH O} {wx eb sb nb lb pb mb:Nat} {M:ae} {S:ao} {w:List Int} {L:aP} {T:bn} {X:List Nat} {bE:Int} {v:List Int} {ot:Nat} {hs:List Hd} {Ds:List DO} {p:PS} {C:Nat->DO} {s:dD} {a b c e d:SA} {af al:SA} {k:Nat} (r:RS J wx eb sb nb lb pb mb M S w L T X bE v ot hs Ds p C s a b c e d (SA.bk af) k) {fr:List Nat} (eI:rX al (Ds.map DO.ov)) (own:ba J 3 1 af fr.length (sB fr)) (hk:k<fr.length) (hfl:fr.length<=20) (NZ:∀ i∈fr,i<Ds.length) (uL:Ds.length<=20) (lx:∀ d∈Ds,d.n<=31) (Dg:ot<=1000) {r36:AV × AH O} (e36:r36.2.next=wx) (N3:wx∉SA.bk af++X):
  Ok (Yb (af,fr.length) r36 Dh (al,Ds.length) zG (some (.n eb,0)) ([.i .i64 (k:Int)],J)) fun q=>∃ J',q=.inl ([.i .i64 ((k+1:Nat):Int)],J')/\∃ M' S' w' L' T' v' ik p' C' s' a' b' c' e' d',RS J' wx eb sb nb lb pb mb M' S' w' L' T' X bE v' ot ik Ds p' C' s' a' b' c' e' d' (SA.bk af) (k+1)/\v'.length=v.length/\ay (SA.bk af++X) J J':=by
 obtain ⟨j,hj⟩:∃ j,fr[k]? = some j:=⟨_,List.getElem?_eq_getElem hk⟩
 have jl:=NZ j (List.mem_of_getElem? hj)
 obtain ⟨dj,hdj⟩:∃ d,Ds[j]? = some d:=⟨_,List.getElem?_eq_getElem jl⟩
 obtain ⟨vb,rfl,hvb,S9⟩:=own.loc (by omega)
 have hvn:(sB fr)[k]? = some (.i .i64 (j:Int)):=by unfold sB;rw [List.getElem?_map,hj];rfl
 obtain ⟨bb,oo,_,_,rfl,_,_,ld⟩:=eI.obj (i:=j) (x:=dj.ov) (by rw [List.getElem?_map,hdj];rfl)
 have l7:∀ J:AH O,J.ld bb (oo+j*8+7)=some (.i .u64 dj.ref):=fun J=>(ld O J).2.2.2.2.2.2.2
 have i1:decide ((k:Int)<(fr.length:Int))=true:=decide_eq_true (by omega)
 have i0:decide ((0:Int)<=(k:Int))=true:=decide_eq_true (by omega)
 have f0:decide ((0:Int)<=(j:Int))=true:=decide_eq_true (by omega)
 have f1:decide ((j:Int)<(Ds.length:Int))=true:=decide_eq_true (by omega)
 have w1:IntKind.i64.wrap ((k:Int)+1)=((k+1:Nat):Int):=by rw [bG (by omega)];omega
 have hb:=r.bx
 simp only [dD.cells] at hb
 (unfold Yb SA.ref;refine sy e36 hb i0 i1 (cj @Bool.and_true (cj @Int.toNat_natCast (cj @Nat.mul_one (cj @Nat.zero_add (cj hvb hvn))))) ?_)
 have pi:=r.g.pi
 have arF:p.top<=1000:=by
  rw [<-r.g.top]
  have h1:=r.g.h.t.s.top
  have h2:=r.g.e.wl
  omega
 have st:=r.st
 have sa:=r.at_
 refine Ok.step (EB r.dm sa.m pi (fun i h=>h.elim) r.g.e.ok (by omega) (fun d hd=>by have:=lx d hd;omega) (by omega) (by omega) (.inr ⟨j,dj,rfl,hdj,rfl⟩)) fun q ⟨s',a',b',c',x,g1,g2,g3,g4,g5,g6⟩=>?_
 obtain ⟨q,J1⟩:=q
 simp only at g1 g6
 subst g1
 have ltx:=r.g.h.lX
 have cy:=(g6.aa wx (ltx wx (by simp))).trans hb
 have ag9:=(g6.aa vb (ltx vb (by simp [SA.bk]))).trans hvb
 simp only [fj.cells]
 refine lk cy ?_
 generalize hJ:AH.put _ wx _=J2
 have n2:J2.next=J1.next:=by rw [<-hJ];rfl
 have b2:J2.aa wx=some (.cells true 81 (dD.cells ⟨s',s.cA,s.dn⟩ a' b' c' e d)):=by rw [<-hJ];exact aE
 have o2:∀ y,y≠wx->J2.aa y=J1.aa y:=fun y hy=>by rw [<-hJ];exact aq hy
 clear hJ
 have lD:vb≠wx:=fun e=>N3 (by rw [<-e];simp [SA.bk])
 have ag':=(o2 vb lD).trans ag9
 simp -implicitDefEqProofs only [i0,i1,f0,f1,Bool.and_true,SA.ref,Int.toNat_natCast,Nat.mul_one,Nat.zero_add,ag',hvn,l7,Nat.reduceAdd,Nat.reduceMul,Nat.reduceLT,Int.reduceToNat,Int.reduceAdd,Int.reduceSub,Int.reduceMul,dH,cY,cZ,db,dd,dp,dq,du,cv,Nat.reduceLeDiff,decide_true,decide_false]
 have ch:eA [wx] J J2:=⟨by rw [n2];exact g6.next,fun y hy hm=>(o2 y (by simpa using hm)).trans (g6.aa y hy)⟩
 have VF:GC EA sC J2 eb sb nb lb pb mb M S w L T (wx::(SA.bk (.loc (.n vb) 0 1)++X)) bE v ot hs [] Ds p C:=r.g.sub (r.g.h.bI Gl ch (by simp) (fun y hy=>.inl hy))
 refine Ok.step (EC Gl VF (r.cH.cC r.g.h.t.s.l.p.mi.ok (by omega)) (by omega) (fun d hd=>by have:=lx d hd;omega) hdj) fun q ⟨t,h1,h2,M3,S3,w3,L3,T3,v3,N4,Z3,C3,h3,h4,h5,h6,h7,h8,h9⟩=>?_
 obtain ⟨q,J3⟩:=q
 simp only at h1 h3 h9
 subst h1
 have hZ:Z3=[]:=h3.h.j
 subst hZ
 refine lk w1 ?_
 have mm:=kf (Ds:=Ds) (p:=p) (i:=j)
 refine U.2 ⟨J3,rfl,M3,S3,w3,L3,T3,v3,N4,p.move Ds j,C3,⟨s',s.cA,s.dn⟩,a',b',c',e,d,⟨h3,(h9.aa wx (by simp)).trans b2,fun i di Yc BX Yd HG=>?_,g3,⟨g2,sa.cA,sa.dn⟩,r.cA,r.dn,by simp only;omega,⟨mm.sd.trans r.sd.1,mm.ld.trans r.sd.2⟩,(h8.cH r.cH).le (by omega) (by omega)⟩,h4,⟨Nat.le_trans ch.next h9.next,fun y hy=>?_⟩⟩
 ·cases hp:p.now i with
  |none=>exact h6 i di Yc hp BX
  |some u=>
   rw [h5 i (by rw [hp];simp)]
   exact r.raw i di Yc (by rw [hp];simp) Yd fun q=>HG ((mm.oC pi i).2 q)
 ·rw [h9.aa y (by simp at hy ⊢;exact .inr hy)]
  exact ch.aa y (ltx y (by simp at hy ⊢;exact .inr hy)) (by simp;rintro rfl;exact N3 hy)
end Go.Abs.Tryz
namespace Go.Abs.Tryz
open Go Go.Abs
variable {O:Type}
theorem Gm {Ds:List DO} {l:List Nat} (h:∀ d∈Ds,d.n<=31):∀ j,fQ Ds l j<=31*l.length:=fun j=>by
 unfold fQ
 have:∀ m:List Nat,(m.map (A3 Ds)).sum<=31*m.length:=fun m=>by
  induction m with
  |nil=>simp
  |cons i m ih=>
   simp only [List.map_cons,List.sum_cons,List.length_cons]
   have:A3 Ds i<=31:=by
    unfold A3
    cases hd:Ds[i]? with
    |none=>simp
    |some d=>simp only;exact h d (List.mem_of_getElem? hd)
   omega
 have h1:=this (l.take j)
 have h2:(l.take j).length<=l.length:=by simp;omega
 omega
theorem JA {Ds:List DO} (uL:Ds.length<=20) (h:∀ d∈Ds,d.n<=31) (q:PS) (pi:PI Ds q):q.top<=1000:=by
 rw [pi.top]
 have h1:=Gm h (l:=q.sm Ds) (q.sm Ds).length
 have h2:=pi.cH.1
 have h3:(q.sm Ds).length<=q.mv.length:=by unfold PS.sm;exact List.length_filter_le _ _
 omega
set_option maxRecDepth 100000 in
theorem JB {J:AH O} {X:List Nat} (hX:∀ b∈X,b<J.next) {sa sE sF:SA} {zs:List MZ} {E:List (Int × Int × Int)} {F:List Int} (iz:iq 4 sa zs.length (zs.flatMap MZ.cs)) (oz:∀ z∈zs,z.ok) (hz:zs.length<=14) (iE:iq 3 sE E.length (E.flatMap e3)) (rE:∀ e∈E,U8 e.1/\U8 e.2.1/\U8 e.2.2) (hE:E.length<=40) (iF:eZ .u8 sF F) (rF:∀ x∈F,U8 x) (hF:F.length<=10):
  Ok (qvj [.agg [.sl sa zs.length,.sl sE E.length,.sl sF F.length]] J) fun q=>∃ eb sb nb lb pb mb M S w L T bE v ot hs Ds p C s a b c e d,q.1=.aG [.p (some (.n sb,0)),.p (some (.n eb,0)),.agg (dD.cells s a b c e d),.b true]/\GC EA sC q.2 eb sb nb lb pb mb M S w L T X bE v ot hs [] Ds p C/\dD.At s a b c e d/\DG Ds p s 30/\M.cH 400000 200/\Ds.length=zs.length/\v.length=8*zs.length/\ot<=1000/\(∀ d∈Ds,d.n<=31)/\ay X J q.2:=by
 have t0:(!true)=false:=rfl
 have z0:((0:Int) == 0)=true:=rfl
 (unfold qvj qvi;refine yx ?_)
 generalize hJ:AH.put _ (J.next+1) _=J0
 have n0:J0.next=J.next+2:=by rw [<-hJ];rfl
 have br:J0.aa (J.next+1)=some (.cells true 81 [.sl .nil 0,.sl .nil 0,.i .i64 0,.sl .nil 0,.i .i64 0,.sl .nil 0,.sl .nil 0]):=by rw [<-hJ];exact aE
 have bg:J0.aa J.next=some (.cells true 78 [.sl sa zs.length,.sl sE E.length,.sl sF F.length]):=by rw [<-hJ,aq (by omega)];exact aE
 have k0:ay X J J0:=⟨by omega,fun b hb=>by have:=hX b hb;rw [<-hJ,aq (by omega),aq (by omega)];rfl⟩
 clear hJ
 refine lk bg ?_
 generalize hrx:J.next+1=rx at br n0 ⊢
 refine Ok.step (N2 (X:=rx::X) (J:=J0) (fun b hb=>by
  rcases List.mem_cons.1 hb with rfl |hb
  ·omega
  ·have:=hX b hb;omega) iz oz hz iE rE hE iF rF hF) fun q ⟨sb,nb,lb,pb,mb,M,S,w,L,T,Ds,al,af,g1,m1,pv,hl,eI,Ye,hax,k1⟩=>?_
 obtain ⟨q,J1⟩:=q
 simp only at g1 m1 Ye k1
 subst g1
 have lx:∀ d∈Ds,d.n<=31:=fun d hd=>by obtain ⟨_,h1,h2⟩:=m1.ok d hd;unfold DO.n;omega
 have Dg:T.top<=1000:=by have:=m1.Ge;omega
 have hTw:=m1.ws
 have HH:=m1.a.lt
 refine lk t0 ?_
 refine Ok.step (N5 J1 sb) fun q ⟨e1,e2,e3,e4⟩=>?_
 obtain ⟨q,J2⟩:=q
 simp only at e1 e2 e3 e4
 subst e1
 have m2:aW J2 sb nb lb pb mb M S w L T (J1.next::([]++(SA.bk af++rx::X))) []:=m1.a.beside e4 (fun b hb=>by
  rcases List.mem_cons.1 hb with rfl |hb
  ·exact .inr ⟨Nat.le_refl _,by omega⟩
  ·exact .inl hb)
 have fw:M.cH 3000 20:=m1.cH.le (by omega) (by omega)
 refine yx ?_
 refine Ok.step (JC Gl m2 e2 ⟨by simp,fun h=>by have:=HH _ h;omega⟩ (by simp) rfl (fw.cC m2.l.p.mi.ok (by decide)) (by have:=fw.2;omega) m1.cA (by rw [m1.ep];decide)) fun q ⟨p1,M3,S3,w3,h3,al3,y3,k3⟩=>?_
 obtain ⟨q,J3⟩:=q
 simp only at p1 h3 k3
 subst p1
 have Yf:=h3.lX
 simp -implicitDefEqProofs only [z0,bne,Bool.not_true,Nat.reduceAdd,Nat.reduceMul,Nat.reduceLT,Int.reduceToNat,Int.reduceAdd,Int.reduceSub,Int.reduceMul,dH,cY,cZ,db,dd,dp,dq,du,cv,Nat.reduceLeDiff,decide_true,decide_false]
 refine Ok.step (Gn (J:=J3.ax 1) eI (by omega)) fun q ⟨⟨s,a,b,c,e,d,j1,j2,j3⟩,j4⟩=>?_
 obtain ⟨q,J4⟩:=q
 simp only at j1 j4
 subst j1
 have j4n:=j4.next
 simp only [dD.cells]
 refine yx ?_
 generalize hJ:AH.put _ J3.next _=J5
 have n5:J5.next=J4.next:=by rw [<-hJ];rfl
 have b5:J5.aa J3.next=some (.cells true 81 (s.cells a b c e d)):=by rw [<-hJ];exact aE
 have o5:∀ y,y<J3.next->J5.aa y=J3.aa y:=fun y hy=>by
  have w9:y<(J3.ax 1).next:=by show y<J3.next+1;omega
  rw [<-hJ]
  first
   |rw [aq (by omega),j4.aa y w9];rfl
   |(rw [aq (by omega),aq (by omega),j4.aa y w9];rfl)
 clear hJ
 have l5:J3.next<J5.next:=by
  have:(J3.ax 1).next=J3.next+1:=rfl
  omega
 generalize N3:J3.next=wx at b5 o5 l5 ⊢
 have hwX:wx∉SA.bk af++(rx::X):=fun h=>by have:=Yf _ h;omega
 have h5:bR EA sC J5 J1.next sb nb lb pb mb M3 S3 w3 L.fresh (T.flip (ff M.sp)) (wx::(SA.bk af++rx::X)) [] T.id T.ws T.top [] []:=h3.bI Gl (K:=[]) ⟨by omega,fun y hy _=>o5 y (by omega)⟩ (by simp) (fun y hy=>by
  rcases List.mem_cons.1 hy with rfl |hy
  ·exact .inr ⟨by omega,by omega⟩
  ·exact .inl hy)
 have r0:RS J5 wx J1.next sb nb lb pb mb M3 S3 w3 L.fresh (T.flip (ff M.sp)) (rx::X) T.id T.ws T.top [] Ds PS.zero (fun _=>cG 0 0 0 0) s a b c e d (SA.bk af) 0:=by
  obtain ⟨dl,d1,d2,d3⟩:=j3.dn
  have dl0:dl=[]:=List.eq_nil_of_length_eq_zero d2
  subst dl0
  refine ⟨⟨h5,m1.eg _ _,PI.zero Ds,rfl,rfl,rfl,rfl,al3.g0 m1.gen⟩,b5,fun i di _ h=>absurd rfl h,j3.m.wide fun i h=>?_,j2,j3.cA,d1,?_,⟨rfl,rfl⟩,(y3.cH fw).le (by omega) (by omega)⟩
  ·unfold PS.oC at h
   simp [PS.zero,PS.sm,PS.lg] at h
  ·have:=j3.st;omega
 have ahb:ba J5 3 1 af (oV zs.length F).length (sB (oV zs.length F)):=Ye.of (by have:=e4.next;have:=k3.next;omega) fun y hy=>by
  have w9:y∈SA.bk af++rx::X:=by simp [hy]
  have hy2:=HH y w9
  have hy3:=Yf y w9
  rw [o5 y (by omega),k3.aa y w9,e4.aa y hy2]
 have frl:=N0 (n:=zs.length) (F:=F)
 have lp:Ok (bu (S:=List AV × AH O) (T:=List AV × AH O) (Yb (af,(oV zs.length F).length) (.i .i64 0,J3) Dh (al,Ds.length) zG (some (.n J1.next,0))) ([.i .i64 0],J5)) fun x=>∃ J',x=([],J')/\∃ M' S' w' L' T' v' ik p' C' s' a' b' c' e' d',RS J' wx J1.next sb nb lb pb mb M' S' w' L' T' (rx::X) T.id v' T.top ik Ds p' C' s' a' b' c' e' d' (SA.bk af) (oV zs.length F).length/\v'.length=T.ws.length/\ay (SA.bk af++(rx::X)) J5 J':=by
  refine Ok.count (oV zs.length F).length (fun k x=>∃ J',x=([.i .i64 (k:Int)],J')/\∃ M' S' w' L' T' v' ik p' C' s' a' b' c' e' d',RS J' wx J1.next sb nb lb pb mb M' S' w' L' T' (rx::X) T.id v' T.top ik Ds p' C' s' a' b' c' e' d' (SA.bk af) k/\v'.length=T.ws.length/\ay (SA.bk af++(rx::X)) J5 J') ?_ ?_ ⟨J5,rfl,M3,S3,w3,_,_,_,_,_,_,s,a,b,c,e,d,r0,rfl,ay.refl _ _⟩
  ·rintro k _ hk ⟨J6,rfl,M6,S6,w6,L6,T6,v6,N6,p6,C6,s6,a6,b6,c6,e6,d6,r6,Yg,k6⟩
   refine (Jz r6 eI (ahb.of k6.next fun y hy=>k6.aa y (by simp [hy])) hk (by omega) (fun i hi=>by have:=Tc i hi;omega) (by omega) lx Dg (r36:=(.i .i64 0,J3)) N3 hwX).mono ?_
   rintro _ ⟨J7,rfl,M7,S7,w7,L7,T7,v7,hs7,p7,C7,s7,a7,b7,c7,e7,d7,r7,v7l,k7⟩
   exact ⟨J7,rfl,M7,S7,w7,L7,T7,v7,hs7,p7,C7,s7,a7,b7,c7,e7,d7,r7,v7l.trans Yg,k6.trans k7⟩
  ·rintro _ ⟨J6,rfl,M6,S6,w6,L6,T6,v6,N6,p6,C6,s6,a6,b6,c6,e6,d6,r6,Yg,k6⟩
   have i1:decide (((oV zs.length F).length:Int)<((oV zs.length F).length:Int))=false:=decide_eq_false (by omega)
   (unfold Yb;refine lk i1 ?_)
   exact U.2 ⟨J6,rfl,M6,S6,w6,L6,T6,v6,N6,p6,C6,s6,a6,b6,c6,e6,d6,r6,Yg,k6⟩
 refine Ok.step lp ?_
 rintro _ ⟨J6,rfl,M6,S6,w6,L6,T6,v6,N6,p6,C6,s6,a6,b6,c6,e6,d6,r6,Yg,k6⟩
 (unfold qtq qtp;refine lk @Option.isNone_some.{0} ?_)
 generalize hJ:AH.put _ J6.next _=J7
 have n7:J7.next=J6.next+1:=by rw [<-hJ];rfl
 have b7:J7.aa J6.next=some (.cells true 205 [.p (some (.n J1.next,0)),.i .i64 0,.i .i64 0]):=by rw [<-hJ];exact aE
 have o7:∀ y,y<J6.next->J7.aa y=J6.aa y:=fun y hy=>by rw [<-hJ,aq (by omega)];rfl
 clear hJ
 have VG:=r6.g.h.lX
 have g7:GC EA sC J7 J1.next sb nb lb pb mb M6 S6 w6 L6 T6 (J6.next::(wx::(SA.bk af++rx::X))) T.id v6 T.top N6 [] Ds p6 C6:=r6.g.sub (r6.g.h.bI Gl (K:=[]) ⟨by omega,fun y hy _=>o7 y hy⟩ (by simp) (fun y hy=>by
  rcases List.mem_cons.1 hy with rfl |hy
  ·exact .inr ⟨Nat.le_refl _,by omega⟩
  ·exact .inl hy))
 have G7:GQ EA sC J7 J6.next J1.next sb nb lb pb mb M6 S6 w6 L6 T6 (wx::(SA.bk af++rx::X)) T.id v6 T.top N6 [] Ds p6 C6 0:=⟨g7,by rw [r6.sd.1];simpa [fQ] using b7,r6.raw⟩
 have dg6:=r6.dg (by omega)
 have at6:=r6.at_
 have bx6:=r6.bx
 refine Ok.step (Tf Gl G7 (fun h=>by have:=VG _ h;omega) (by omega) r6.cH (by omega) (by omega) (fun d hd=>by have:=lx d hd;omega) pv rfl) fun q ⟨⟨xq,hxq⟩,n,st,M8,S8,w8,L8,T8,v8,hs8,Z8,C8,g8,v8l,f8,k8⟩=>?_
 obtain ⟨q,J8⟩:=q
 have hZ:Z8=[]:=g8.h.j
 subst hZ
 simp only at g8 k8 hxq
 subst hxq
 have b8:J8.aa wx=some (.cells true 81 (s6.cells a6 b6 c6 e6 d6)):=(k8.aa wx (by simp)).trans ((o7 wx (VG wx (by simp))).trans bx6)
 simp only [dD.cells] at b8
 refine lk b8 ?_
 have rr:=Gp (J:=J8) dg6 r6.g.pi g8.e.ok g8.e.ap (by omega) (fun d hd=>by have:=lx d hd;omega) (fun q pi=>by have:=JA (by omega) lx q pi;omega) pv (by omega) at6
 simp only [dD.cells] at rr
 refine Ok.step rr fun q ⟨⟨n',s9,a9,b9,c9,e9,d9,st9,u1,at9,VH⟩,u2⟩=>?_
 obtain ⟨q,J9⟩:=q
 simp only at u1 u2
 subst u1
 have lt8:=g8.h.lX
 have hrl:rx<J9.next:=by have:=lt8 rx (by simp);have:=u2.next;omega
 have b9r:J9.aa rx=some (.cells true 81 [.sl .nil 0,.sl .nil 0,.i .i64 0,.sl .nil 0,.i .i64 0,.sl .nil 0,.sl .nil 0]):=by
  have i1:rx∈SA.bk af++rx::X:=by simp
  rw [u2.aa rx (lt8 rx (by simp)),k8.aa rx (by simp),o7 rx (VG rx (by simp)),k6.aa rx i1,o5 rx (by have:=Yf rx i1;omega),k3.aa rx i1,e4.aa rx (HH rx i1),k1.aa rx (by simp)]
  exact br
 refine lk b9r ?_
 generalize hJ:AH.put _ rx _=JF
 have nF:JF.next=J9.next:=by rw [<-hJ];rfl
 have oF:∀ y,y≠rx->JF.aa y=J9.aa y:=fun y hy=>by rw [<-hJ];exact aq hy
 clear hJ
 have same:=ED st9 st
 rw [same] at VH
 have hrX:rx∉X:=fun h=>by have:=hX _ h;omega
 have chF:eA [rx] J8 JF:=⟨by rw [nF];exact u2.next,fun y hy hm=>(oF y (by simpa using hm)).trans (u2.aa y hy)⟩
 have gF:GC EA sC JF J1.next sb nb lb pb mb M8 S8 w8 L8 T8 X T.id v8 T.top hs8 [] Ds (PS.run Ds n p6) C8:=g8.sub (g8.h.bI Gl chF (by simp) (fun y hy=>.inl (by simp [hy])))
 refine U.2 ⟨J1.next,sb,nb,lb,pb,mb,M8,S8,w8,L8,T8,T.id,v8,T.top,hs8,Ds,PS.run Ds n p6,C8,s9,a9,b9,c9,e9,d9,rfl,gF,at9,⟨VH.m,VH.cA,VH.dn,VH.st.1,by have:=VH.st.2;omega⟩,f8.le (by omega) (by omega),hl,by rw [v8l,Yg,hTw],Dg,lx,⟨?_,fun y hy=>?_⟩⟩
 ·have h1:=k0.next
  have h2:=k1.next
  have h3:=e4.next
  have h4:=k3.next
  have h6:=k6.next
  have h8:=k8.next
  have h9:=u2.next
  show J.next<=JF.next
  omega
 ·have hy0:=hX y hy
  have i1:y∈SA.bk af++rx::X:=by simp [hy]
  have cJ:y≠rx:=by rintro rfl;exact hrX hy
  rw [oF y cJ,u2.aa y (lt8 y (by simp [hy])),k8.aa y (by simp [hy]),o7 y (VG y (by simp [hy])),k6.aa y i1,o5 y (by have:=Yf y i1;omega),k3.aa y i1,e4.aa y (HH y i1),k1.aa y (by simp [hy]),k0.aa y hy]
end Go.Abs.Tryz
set_option maxHeartbeats 4000000
namespace Go.Abs.Tryz
open Go Go.Abs
variable {O:Type}
def sY (Ds:List DO) (now:Nat->Option Nat) (i:Nat):Nat:=match now i with |some _=>0 |none=>if lG Ds i then 1 else 0
def sZ (Ds:List DO) (now:Nat->Option Nat) (i:Nat):Nat:=match now i with |some _=>0 |none=>if lG Ds i then A3 Ds i else 0
def tc (Ds:List DO) (now:Nat->Option Nat) (i:Nat):Nat:=match now i with |some _=>0 |none=>if lG Ds i then 0 else A3 Ds i
theorem fI {g:Nat->Nat} {m:Nat} (h:∀ j,g j<=m):∀ n,aS g n<=m*n
 |0=>Nat.le_refl _
 |n+1=>by
  have:=fI h n
  have:=h n
  simp only [aS,Nat.mul_add,Nat.mul_one];omega
theorem pM {Ds:List DO} (h:∀ d∈Ds,d.n<=50) (i:Nat):A3 Ds i<=50:=by
 unfold A3
 cases hd:Ds[i]? with
 |none=>simp
 |some d=>exact h d (List.mem_of_getElem? hd)
set_option maxRecDepth 100000 in
theorem Tg {J:AH O} {Ds:List DO} {p:PS} {sc:Nat->Prop} {s:dD} {a b c e d:SA} (h:s.At a b c e d) (cA:s.cA=Ds.map DO.ov) (dm:DM Ds p sc s.m) (uL:Ds.length<=100) (lx:∀ d∈Ds,d.n<=50):
  Ok (qv4 [.agg (s.cells a b c e d)] J) fun q=>q.1=.agg [.i .i64 (aS (sY Ds p.now) Ds.length:Nat),.i .i64 (aS (sZ Ds p.now) Ds.length:Nat),.i .i64 (aS (tc Ds p.now) Ds.length:Nat)]/\Ext J q.2:=by
 have m1:∀ n,aS (sY Ds p.now) n<=1*n:=fI fun j=>by unfold sY;split<;>first |omega |(split<;>omega)
 have m2:∀ n,aS (sZ Ds p.now) n<=50*n:=fI fun j=>by have:=pM lx j;unfold sZ;split<;>first |omega |(split<;>omega)
 have m3:∀ n,aS (tc Ds p.now) n<=50*n:=fI fun j=>by have:=pM lx j;unfold tc;split<;>first |omega |(split<;>omega)
 have eo:s.cA.length=Ds.length:=by rw [cA];simp
 have en:=dm.len.2
 have BY:∀ (τ:AH O) (x:dL O),(τ.put (J.next+1) x).aa J.next=τ.aa J.next:=fun τ x=>aq (by omega)
 have Th:∀ (τ:AH O) (x:dL O),(τ.put (J.next+2) x).aa J.next=τ.aa J.next:=fun τ x=>aq (by omega)
 have VI:∀ (τ:AH O) (x:dL O),(τ.put (J.next+2) x).aa (J.next+1)=τ.aa (J.next+1):=fun τ x=>aq (by omega)
 simp only [dD.cells]
 (unfold qv4 qv3;refine yx ?_)
 generalize hJ:AH.put _ (J.next+2) _=J1
 have n1:J1.next=J.next+3:=by rw [<-hJ];rfl
 have b0:J1.aa J.next=some (.cells true 81 (s.cells a b c e d)):=by rw [<-hJ,Th];show AH.aa (AH.put _ _ _) _=_;rw [BY];exact aE
 have b1:J1.aa (J.next+1)=some (.cells true 90 [.i .i64 0,.i .i64 0,.i .i64 0]):=by rw [<-hJ,VI];exact aE
 have b2:J1.aa (J.next+2)=some (.cells true 90 [.i .i64 0,.i .i64 0,.i .i64 0]):=by rw [<-hJ];exact aE
 have E1:Ext J J1:=⟨by omega,fun b hb=>by rw [<-hJ];exact iZ⟩
 clear hJ
 refine Ok.step (Ok.count (Q:=fun r=>∃ J',r=([],J')/\Ext J J'/\J'.aa (J.next+1)=some (.cells true 90 [.i .i64 0,.i .i64 0,.i .i64 0])/\J'.aa (J.next+2)=some (.cells true 90 [.i .i64 (aS (sY Ds p.now) Ds.length:Nat),.i .i64 (aS (sZ Ds p.now) Ds.length:Nat),.i .i64 (aS (tc Ds p.now) Ds.length:Nat)])/\J1.next<=J'.next) Ds.length
  (fun k r=>∃ J',r=([.i .i64 (k:Int)],J')/\Ext J J'/\J'.aa J.next=some (.cells true 81 (s.cells a b c e d))/\J'.aa (J.next+1)=some (.cells true 90 [.i .i64 0,.i .i64 0,.i .i64 0])/\J'.aa (J.next+2)=some (.cells true 90 [.i .i64 (aS (sY Ds p.now) k:Nat),.i .i64 (aS (sZ Ds p.now) k:Nat),.i .i64 (aS (tc Ds p.now) k:Nat)])/\J1.next<=J'.next) ?_ ?_ ⟨J1,rfl,E1,b0,b1,b2,Nat.le_refl _⟩) ?_
 ·rintro k _ hk ⟨J2,rfl,E2,c0,c1,c2,l2⟩
  obtain ⟨dk,Ah⟩:∃ x,Ds[k]? = some x:=⟨_,List.getElem?_eq_getElem hk⟩
  have Mw:=List.mem_of_getElem? Ah
  have JD:=dm.nw k dk Ah
  obtain ⟨bb,oo,rfl,ldn⟩:=h.m.now.at JD
  have ho:=h.cA
  rw [cA] at ho
  obtain ⟨be,oe,cP,cR,rfl,_,_,N7⟩:=ho.obj (i:=k) (x:=dk.ov) (by rw [List.getElem?_map,Ah];rfl)
  have l4:∀ J:AH O,J.ld be (oe+k*8+4)=some (.b dk.h.l):=fun J=>(N7 O J).2.2.2.2.1
  have l5:∀ J:AH O,J.ld be (oe+k*8+5)=some (.sl cP dk.P.length):=fun J=>(N7 O J).2.2.2.2.2.1
  have l6:∀ J:AH O,J.ld be (oe+k*8+6)=some (.sl cR dk.R.length):=fun J=>(N7 O J).2.2.2.2.2.2.1
  have ln:∀ J:AH O,J.ld bb (oo+k)=some (.i .u64 (sD dk (p.now k))):=fun J=>ldn O J
  have i1:decide ((k:Int)<(Ds.length:Int))=true:=decide_eq_true (by omega)
  have i0:decide ((0:Int)<=(k:Int))=true:=decide_eq_true (by omega)
  have w1:IntKind.i64.wrap ((k:Int)+1)=((k+1:Nat):Int):=by rw [bG (by omega)];omega
  have d50:=lx dk Mw
  have dn:1+dk.P.length+dk.R.length=dk.n:=rfl
  have wn:IntKind.i64.wrap (IntKind.i64.wrap (1+(dk.P.length:Int))+(dk.R.length:Int))=(dk.n:Int):=by
   have w0:IntKind.i64.wrap (1+(dk.P.length:Int))=1+(dk.P.length:Int):=bG (by omega)
   rw [w0,bG (by omega)];omega
  have Q0:lG Ds k=dk.h.l:=by unfold lG;rw [Ah]
  have szn:A3 Ds k=dk.n:=by unfold A3;rw [Ah]
  have q1:=m1 k
  have q2:=m2 k
  have q3:=m3 k
  have g1:∀ g:Nat->Nat,aS g (k+1)=aS g k+g k:=fun g=>rfl
  simp only [dD.cells] at c0
  cases hp:p.now k with
  |some t=>
   rw [hp] at ln
   have nz:(sD dk (some t) == 0)=false:=by simpa [sD] using A4 dk t
   have e1:sY Ds p.now k=0:=by unfold sY;rw [hp]
   have e2:sZ Ds p.now k=0:=by unfold sZ;rw [hp]
   have e3:tc Ds p.now k=0:=by unfold tc;rw [hp]
   (unfold Yh SA.ref;refine sy c0 eo en i0 (cj i1 (cj @Bool.and_true (cj @Int.toNat_natCast (cj @Nat.mul_one (cj l5 (cj l6 (cj wn (cj ln (cj nz (cj @Bool.not_false w1)))))))))) ?_)
   exact U.2 ⟨J2,rfl,E2,c0,c1,by rw [g1,g1,g1,e1,e2,e3];exact c2,l2⟩
  |none=>
   rw [hp] at ln
   have nz:(sD dk none == 0)=true:=rfl
   have Yi:∀ (τ:AH O) (x:dL O),(τ.put (J.next+2) x).aa J.next=τ.aa J.next:=fun τ x=>aq (by omega)
   cases hl:dk.h.l with
   |true=>
    rw [hl] at l4 Q0
    have e1:sY Ds p.now k=1:=by unfold sY;rw [hp];simp [Q0]
    have e2:sZ Ds p.now k=dk.n:=by unfold sZ;rw [hp];simp [Q0,szn]
    have e3:tc Ds p.now k=0:=by unfold tc;rw [hp];simp [Q0]
    have wa:IntKind.i64.wrap (((aS (sY Ds p.now) k:Nat):Int)+1)=((aS (sY Ds p.now) (k+1):Nat):Int):=by rw [g1,e1,bG (by omega)];omega
    have wb:IntKind.i64.wrap (((aS (sZ Ds p.now) k:Nat):Int)+(dk.n:Int))=((aS (sZ Ds p.now) (k+1):Nat):Int):=by rw [g1,e2,bG (by omega)];omega
    have wc:aS (tc Ds p.now) k=aS (tc Ds p.now) (k+1):=by rw [g1,e3];rfl
    (unfold Yh SA.ref;refine sy c0 eo en i0 (cj i1 (cj @Bool.and_true (cj @Int.toNat_natCast (cj @Nat.mul_one (cj l4 (cj l5 (cj l6 (cj wn (cj ln (cj nz (cj @Bool.not_true (cj c2 (cj wa (cj wb w1)))))))))))))) ?_)
    refine U.2 ⟨_,rfl,⟨E2.next,fun y hy=>by rw [aq (by omega)];exact E2.aa y hy⟩,(Yi _ _).trans c0,(VI _ _).trans c1,?_,l2⟩
    rw [<-wc];exact aE
   |false=>
    rw [hl] at l4 Q0
    have e1:sY Ds p.now k=0:=by unfold sY;rw [hp];simp [Q0]
    have e2:sZ Ds p.now k=0:=by unfold sZ;rw [hp];simp [Q0]
    have e3:tc Ds p.now k=dk.n:=by unfold tc;rw [hp];simp [Q0,szn]
    have wb:IntKind.i64.wrap (((aS (tc Ds p.now) k:Nat):Int)+(dk.n:Int))=((aS (tc Ds p.now) (k+1):Nat):Int):=by rw [g1,e3,bG (by omega)];omega
    have wa:aS (sY Ds p.now) k=aS (sY Ds p.now) (k+1):=by rw [g1,e1];rfl
    have wc:aS (sZ Ds p.now) k=aS (sZ Ds p.now) (k+1):=by rw [g1,e2];rfl
    (unfold Yh SA.ref;refine sy c0 eo en i0 (cj i1 (cj @Bool.and_true (cj @Int.toNat_natCast (cj @Nat.mul_one (cj l4 (cj l5 (cj l6 (cj wn (cj ln (cj nz (cj @Bool.not_true (cj c2 (cj wb w1))))))))))))) ?_)
    refine U.2 ⟨_,rfl,⟨E2.next,fun y hy=>by rw [aq (by omega)];exact E2.aa y hy⟩,(Yi _ _).trans c0,(VI _ _).trans c1,?_,l2⟩
    rw [<-wa,<-wc];exact aE
 ·rintro _ ⟨J2,rfl,E2,c0,c1,c2,l2⟩
  have i1:decide ((Ds.length:Int)<(Ds.length:Int))=false:=decide_eq_false (by omega)
  simp only [dD.cells] at c0
  (unfold Yh;refine SP c0 eo i1 ?_)
  exact U.2 ⟨J2,rfl,E2,c1,c2,l2⟩
 ·rintro _ ⟨J2,rfl,E2,c1,c2,l2⟩
  refine HF c1 c2 ?_
  refine U.2 ⟨rfl,?_⟩
  exact ⟨E2.next,fun y hy=>by rw [aq (by omega)];exact E2.aa y hy⟩
end Go.Abs.Tryz
namespace Go.Abs.Tryz
open Go Go.Abs
variable {O:Type}
def bn.done (T:bn):bn:={T with cA:=[.i .i64 0,.i .i64 0,.b false]}
theorem fx.N8 {M M':ae} {V:Nat->Option (Int × Int × Int)} {mZ:Int} {ob:Nat->Option (List Int)} {ep:Int} {H:List Nat} {Z Z':List Int} {id:Int} (h:fx M V mZ ob ep H Z) (hz:id∈Z) (hs:∀ y∈Z',y∈Z/\y≠id) (hw:∀ y v,y≠id->aj M.sp y=some v->aj M'.sp y=some v):fx M' V mZ ob ep H Z':=
 ⟨h.HK,fun i ws ho=>by
  obtain ⟨sp,mk,a1,a2,a3,a4,a5,a6,a7⟩:=h.at_ i ws ho
  exact ⟨sp,mk,a1,a2,a3,a4,hw sp ws (fun e=>a7 (by rw [e];exact hz)) a5,a6,fun q=>a7 (hs sp q).1⟩,h.apart,fun y hy=>by
  obtain ⟨h1,h2⟩:=hs y hy
  obtain ⟨g1,g2⟩:=h.others y h1
  refine ⟨?_,g2⟩
  cases hv:aj M.sp y with
  |none=>exact absurd hv g1
  |some v=>rw [hw y v h2 hv];simp⟩
section
variable {J:AH O} {sb nb lb pb mb:Nat} {M:ae} {S:ao} {w:List Int} {L:aP} {T:bn} {X:List Nat} {Y:List Int} {bE:Int} {v:List Int} {ot:Nat} (h:eK J sb nb lb pb mb M S w L T X Y bE v ot)
include h
theorem N9 (hf:M.cC 100) (hY:bE∉Y):Ok (qr5 [.p (some (.n nb,0))] J) fun r=>r.1=.i .i64 0/\∃ M',aW r.2 sb nb lb pb mb M' S w L T.done X Y/\cz Y M M' 0 (-(v.length:Int)) (-1)/\ay X J r.2:=by
 obtain ⟨el,hb⟩:=h.n
 have sp:=m7 h.s.l.p.mi.ok h.w
 (unfold qr5 qr4;refine gg hb @Bool.not_true ?_)
 refine Ok.step (JE h.s.l.p.mi (hf.calm (by decide)) h.w (by omega)) fun r ⟨p1,p2,p3⟩=>?_
 obtain ⟨q,J1⟩:=r
 simp only at p1 p2 p3
 subst p1
 have cy:=(p3.aa nb (by simp)).trans hb
 simp (maxSteps:=2000000) -implicitDefEqProofs (disch:=(first |omega |rfl |assumption |(simp only [aN];first |omega |assumption))) only [cy,Nat.reduceAdd,Nat.reduceMul,Nat.reduceLT,Int.reduceToNat,Int.reduceAdd,Int.reduceSub,Int.reduceMul,dH,fU]
 have dV:∀ y u,y≠bE->aj M.sp y=some u->aj (M.close bE.toNat v).sp y=some u:=fun y u hy hu=>(qZ sp.1 hy).trans hu
 have cJ:S.id≠bE:=(h.s.l.o.others bE (by simp)).2.symm
 obtain ⟨zF,eO⟩:=h.s.l.b
 obtain ⟨Mx,mC⟩:=h.s.s
 have L1:bB J1 lb pb mb (M.close bE.toNat v) S w L (nb::sb::X) (T.id::Y):=
  {h.s.l with p:={h.s.l.p with mi:=p2,b:=(p3.aa _ (by simp)).trans h.s.l.p.b,now:=dV _ _ cJ h.s.l.p.now},b:=⟨zF,(p3.aa _ (by simp)).trans eO⟩,o:=h.s.l.o.N8 (id:=bE) (by simp) (fun y hy=>by
   rcases List.mem_cons.1 hy with rfl |hy
   ·exact ⟨by simp,h.ne⟩
   ·exact ⟨by simp [hy],fun e=>hY (e▸hy)⟩) dV}
 refine U.2 ⟨rfl,_,⟨L1.bI (K:=[nb]) ⟨by simp,fun c hc hm=>aq (by simpa using hm)⟩ (fun c hc=>.inl (by simp at hc;simp [hc])) (fun b hb=>.inl hb),⟨el,aE⟩,⟨Mx,(aq h.s.nd.1.symm).trans ((p3.aa _ (by simp)).trans mC)⟩,dV _ _ h.ne h.s.now,h.s.top,h.s.nd,fun hm=>h.s.oY (List.mem_cons_of_mem _ hm)⟩,cz.close sp.1 hY,?_⟩
 exact (p3.mono fun b hb=>by simp [hb]).trans (ay.put h.s.nd.2.1 _)
def aP.ly (L:aP):aP:={L with W:=[],words:=L.words - ((L.W.map L.len).sum:Nat),ob:=fun j=>if j∈L.W then none else L.ob j}
theorem JG (hf:M.cC 20000000) (hY:bE∉Y) (hg:∀ e∈S.E,e.gen<4611686018427387903) (hto:T.top<=ot):Ok (Yj [.p (some (.n sb,0))] J) fun r=>r.1=.agg [.i .i64 (L.W.length:Int),.i .i64 (((L.W.map L.len).sum:Nat):Int),.i .i64 ((ot - T.top:Nat):Int)]/\∃ M' w',aW r.2 sb nb lb pb mb M' (S.dE L.W) w' L.ly T.done X Y/\cz Y M M' (8*L.W.length) (-(((L.W.map L.len).sum:Nat):Int) - (v.length:Int)) (-(L.W.length:Int) - 1)/\ay X J r.2:=by
 obtain ⟨el,hs⟩:=h.s.s
 obtain ⟨zF,hn⟩:=h.n
 have lt:=h.s.lt
 have Ct:=h.s.slt
 have SR:=h.s.N'
 have hWl:L.W.length<=1048576:=by
  have:=h.s.l.hw
  have:=h.s.l.el
  omega
 have Dg:ot<=4194304:=by have:=h.vl;have:=h.top;omega
 have w1:IntKind.i64.wrap ((ot:Int) - (T.top:Int))=((ot - T.top:Nat):Int):=by rw [bG (by omega)];omega
 have c1:¬ (0 > ((ot - T.top:Nat):Int)):=by omega
 have ns:sb≠J.next/\sb≠J.next+1:=by omega
 have nn:nb≠J.next/\nb≠J.next+1:=by omega
 simp (maxSteps:=2000000) -implicitDefEqProofs (disch:=(first |omega |rfl |assumption |(simp only [aN];first |omega |assumption))) only [Yj,qr9,xj,Gi,Ti,Yk,Oa,Tj,BW,Jq,hs,hn,w1,if_neg c1,Nat.reduceAdd,Nat.reduceMul,Nat.reduceLT,Int.reduceToNat,Int.reduceAdd,Int.reduceSub,Int.reduceMul,dH,fU]
 generalize hJ:AH.put _ (J.next+1) _=J1
 have n1:J1.next=J.next+2:=by rw [<-hJ];rfl
 have a1:J1.aa (J.next+1)=some (.cells true 88 [.i .i64 0,.i .i64 0,.i .i64 ((ot - T.top:Nat):Int)]):=by rw [<-hJ];exact aE
 have b1:J1.aa J.next=some (.cells true 88 [.i .i64 0,.i .i64 0,.i .i64 0]):=by rw [<-hJ,aq (by omega)];exact aE
 have o1:∀ y,y<J.next->J1.aa y=J.aa y:=fun y hy=>by rw [<-hJ,aq (by omega)];show AH.aa (AH.put _ _ _) y=_;rw [aq (by omega)];rfl
 clear hJ
 have t1:eK J1 sb nb lb pb mb M S w L T (J.next::(J.next+1)::X) Y bE v ot:=⟨h.s.bI (K:=[]) ⟨by omega,fun y hy _=>o1 y hy⟩ (by simp) (fun y hy=>by
  simp only [List.mem_cons] at hy
  rcases hy with rfl |rfl |hy
  ·exact .inr ⟨by omega,by omega⟩
  ·exact .inr ⟨by omega,by omega⟩
  ·exact .inl hy),h.cA,h.w,h.top⟩
 have Yl:J.next≠J.next+1:=by omega
 have hXl:∀ y∈X,y<J.next:=fun y hy=>lt y hy
 have hq2:J.next<J.next+1:=by omega
 generalize J.next+1=q2 at a1 t1 Yl hq2 ns nn ⊢
 refine Ok.step (Gq t1.s.l hf hg) fun r ⟨g1,M2,w2,g2,g3,g4⟩=>?_
 obtain ⟨r,J2⟩:=r
 simp only at g1 g2 g4
 subst g1
 have t2:eK J2 sb nb lb pb mb M2 (S.dE L.W) w2 L.ly T (J.next::q2::X) Y bE v ot:=t1.fW g2 g3 g4
 have a2:=(g4.aa q2 (by simp)).trans a1
 have b2:=(g4.aa J.next (by simp)).trans b1
 refine cO a2 ?_
 generalize hJ:AH.put _ q2 _=J3
 have n3:J3.next=J2.next:=by rw [<-hJ];rfl
 have a3:J3.aa q2=some (.cells true 88 [.i .i64 (L.W.length:Int),.i .i64 (((L.W.map L.len).sum:Nat):Int),.i .i64 ((ot - T.top:Nat):Int)]):=by rw [<-hJ];exact aE
 have o3:∀ y,y≠q2->J3.aa y=J2.aa y:=fun y hy=>by rw [<-hJ];exact aq hy
 clear hJ
 have t3:eK J3 sb nb lb pb mb M2 (S.dE L.W) w2 L.ly T (J.next::q2::X) Y bE v ot:=⟨t2.s.bI (K:=[q2]) ⟨by omega,fun y hy hm=>o3 y (by simpa using hm)⟩ (by simp) (fun y hy=>.inl hy),t2.cA,t2.w,t2.top⟩
 have b3:=(o3 J.next Yl).trans b2
 obtain ⟨Mx,N4⟩:=t2.s.s
 refine cO N4 ?_
 refine Ok.step (N9 t3 (g3.cC (hf.less (by have:=hWl;omega))) hY) fun r ⟨e1,M4,e2,e3,e4⟩=>?_
 obtain ⟨r,J4⟩:=r
 simp only at e1 e2 e4
 subst e1
 have a4:=(e4.aa q2 (by simp)).trans a3
 have b4:=(e4.aa J.next (by simp)).trans b3
 refine gg a4 b4 ?_
 have nx:J.next∉X:=fun q=>by have:=hXl _ q;omega
 have n2:q2∉X:=fun q=>by have:=t1.s.nd;have:=t1.s.lt;exact absurd (hXl _ q) (by omega)
 refine U.2 ⟨rfl,M4,w2,e2.bI (K:=[J.next]) ⟨by simp,fun y hy hm=>aq (by simpa using hm)⟩ (by simp) (fun y hy=>.inl (by simp [hy])),(g3.mono (fun y hy=>by simp [hy])).trans e3 |>.as (by omega) (by omega) (by omega),⟨?_,fun y hy=>?_⟩⟩
 ·have:=g4.next
  have:=e4.next
  show J.next<=J4.next
  omega
 ·have cJ:y≠q2:=by rintro rfl;exact n2 hy
  have Ei:y≠J.next:=by rintro rfl;exact nx hy
  rw [aq Ei,e4.aa y (by simp [hy]),o3 y cJ,g4.aa y (by simp [hy]),o1 y (hXl y hy)]
end
end Go.Abs.Tryz
set_option maxHeartbeats 1000000
namespace Go.Abs.Tryz
open Go Go.Abs
variable {O:Type}
theorem uN {f:Nat->Bool} {g:Nat->Nat}:∀ n,(((List.range n).filter f).map g).sum=aS (fun i=>if f i then g i else 0) n
 |0=>rfl
 |n+1=>by
  rw [List.range_succ,List.filter_append,List.map_append,List.sum_append,uN n]
  simp only [aS]
  congr 1
  cases h:f n<;>simp [h]
theorem uO {f:Nat->Bool}:∀ n,((List.range n).filter f).length=aS (fun i=>if f i then 1 else 0) n
 |0=>rfl
 |n+1=>by
  rw [List.range_succ,List.filter_append,List.length_append,uO n]
  simp only [aS]
  congr 1
  cases h:f n<;>simp [h]
def se (Ds:List DO) (now:Nat->Option Nat) (i:Nat):Bool:=lG Ds i && (now i).isNone
theorem xk {f g:Nat->Nat}:∀ n,aS (fun i=>f i+g i) n=aS f n+aS g n
 |0=>rfl
 |n+1=>by simp only [aS,xk n];omega
section
variable {f:Fn × List AV × List AV} {Tw:List Hd->AH O->List Nat->Prop} {J:AH O} {eb sb nb lb pb mb:Nat} {M:ae} {S:ao} {w:List Int} {L:aP} {T:bn} {X Z:List Nat} {bE:Int} {v:List Int} {ot:Nat} {hs:List Hd} {Ds:List DO} {p:PS} {C:Nat->DO} (g:GC f Tw J eb sb nb lb pb mb M S w L T X bE v ot hs Z Ds p C)
include g
theorem EE:L.W.Perm (((List.range Ds.length).filter (se Ds p.now)).map (VJ Ds)):=by
 have hl:=g.h.t.s.l
 have EF:∀ i,i∈(List.range Ds.length).filter (se Ds p.now) ↔ ∃ d,Ds[i]? = some d/\d.h.l=true/\p.now i=none:=fun i=>by
  rw [List.mem_filter,List.mem_range]
  unfold se lG
  constructor
  ·rintro ⟨h1,h2⟩
   rw [List.getElem?_eq_getElem h1] at h2
   simp only [Bool.and_eq_true,Option.isNone_iff_eq_none] at h2
   exact ⟨_,List.getElem?_eq_getElem h1,h2.1,h2.2⟩
  ·rintro ⟨d,h1,h2,h3⟩
   exact ⟨(List.getElem?_eq_some_iff.1 h1).1,by rw [h1];simp [h2,h3]⟩
 refine (List.perm_ext_iff_of_nodup hl.lW.nd ?_).2 fun j=>⟨fun hj=>?_,fun hj=>?_⟩
 ·unfold List.Nodup
  rw [List.pairwise_map]
  refine List.Pairwise.imp_of_mem ?_ (List.Pairwise.filter _ List.nodup_range)
  intro i k hi hk cJ
  obtain ⟨a,ha,eI,_⟩:=(EF i).1 hi
  obtain ⟨b,hb,bY,_⟩:=(EF k).1 hk
  have:=g.e.apart cJ ha hb (by rw [eI,bY])
  rw [eI,if_pos rfl] at this
  rw [oE ha,oE hb]
  exact this
 ·obtain ⟨e0,ws,BQ,Ym,VK⟩:=hl.mem (.inr hj)
  obtain ⟨i,d,hd,mB,Vh⟩:=g.e.only j (by rw [VK];simp)
  refine List.mem_map.2 ⟨i,(EF i).2 ⟨d,hd,mB,?_⟩,by rw [oE hd];exact Vh⟩
  cases hn:p.now i with
  |none=>rfl
  |some t=>
   obtain ⟨_,q2,_⟩:=g.e.l1 i d t hd mB hn
   exact absurd hj (hl.JH j (Vh▸q2))
 ·obtain ⟨i,hi,rfl⟩:=List.mem_map.1 hj
  obtain ⟨d,hd,mB,hn⟩:=(EF i).1 hi
  obtain ⟨q1,q2⟩:=g.e.l0 i d hd mB hn
  rw [oE hd]
  exact (hl.all d.at_ (by rw [q2];simp)).resolve_left q1
theorem JI:L.W.length=aS (sY Ds p.now) Ds.length:=by
 rw [(EE g).length_eq,List.length_map,uO]
 congr 1
 funext i
 unfold se sY
 cases p.now i<;>cases lG Ds i<;>rfl
theorem JK:(L.W.map L.len).sum=aS (sZ Ds p.now) Ds.length:=by
 rw [((EE g).map L.len).sum_nat,List.map_map]
 have e:((List.range Ds.length).filter (se Ds p.now)).map (L.len ∘ VJ Ds)=((List.range Ds.length).filter (se Ds p.now)).map (A3 Ds):=by
  apply List.map_congr_left
  intro i hi
  rw [List.mem_filter,List.mem_range] at hi
  obtain ⟨h1,h2⟩:=hi
  have hd:=List.getElem?_eq_getElem h1
  generalize Ds[i]=d at hd
  unfold se lG at h2
  rw [hd] at h2
  simp only [Bool.and_eq_true,Option.isNone_iff_eq_none] at h2
  obtain ⟨q1,q2⟩:=g.e.l0 i d hd h2.1 h2.2
  simp only [Function.comp]
  unfold aP.len A3
  rw [oE hd,q2,hd,Option.getD_some,d.Mr]
 rw [e,uN]
 congr 1
 funext i
 unfold se sZ
 cases p.now i<;>cases lG Ds i<;>rfl
theorem JL:T.top+aS (tc Ds p.now) Ds.length=ot:=by
 rw [g.e.top,g.e.HI,<-xk]
 congr 1
 funext i
 unfold lv tc uI lG A3
 cases p.now i with
 |some t=>simp
 |none=>
  cases hd:Ds[i]? with
  |none=>simp
  |some d=>cases hl:d.h.l<;>simp [hl]
end
end Go.Abs.Tryz
set_option maxRecDepth 100000
set_option maxHeartbeats 4000000
namespace Go.Abs.Tryz
open Go Go.Abs Go.Proofs
variable {O:Type}
theorem Oc (el:Nat) (c:List AV):∃ J':AH O,Yn (O:=O) [] (((startH:AH O).ax 1).put 0 (.cells true el c))=some (.b true,J')/\J'.aa 0=some (.cells true el c)/\0<J'.next:=by
 have h:(Yn (O:=O) [] (((startH:AH O).ax 1).put 0 (.cells true el c))).map (fun r=>(r.1,r.2.aa 0,Nat.blt 0 r.2.next))=some (.b true,some (.cells true el c),true):=by kernel_rfl
 cases e:Yn (O:=O) [] (((startH:AH O).ax 1).put 0 (.cells true el c)) with
 |none=>rw [e] at h;cases h
 |some r=>
  rw [e] at h
  obtain ⟨v,J'⟩:=r
  simp only [Option.map_some,Option.some.injEq,Prod.mk.injEq] at h
  obtain ⟨rfl,h2,h3⟩:=h
  exact ⟨J',rfl,h2,Nat.le_of_ble_eq_true h3⟩
theorem JM (J:AH O) (a b c:SA) (n m k:Nat):Ok (VL [.agg [.sl a n,.sl b m,.sl c k]] J) fun q=>q.1=.b (decide (n<=14/\m<=40/\k<=10))/\Ext J q.2:=by
 by_cases h1:n<=14
 ·have i1:decide ((n:Int)<=14)=true:=decide_eq_true (by omega)
  by_cases h2:m<=40
  ·have i2:decide ((m:Int)<=40)=true:=decide_eq_true (by omega)
   (unfold VL Yo;refine SP i1 i2 @beq_self_eq_true.{0} ?_)
   refine U.2 ⟨?_,ku⟩
   by_cases h3:k<=10
   ·have i3:decide ((k:Int)<=10)=true:=decide_eq_true (by omega)
    simp [i3,h1,h2,h3]
    try omega
   ·have i3:decide ((k:Int)<=10)=false:=decide_eq_false (by omega)
    simp [i3,h1,h2,h3]
    try omega
  ·have i2:decide ((m:Int)<=40)=false:=decide_eq_false (by omega)
   have ff:(false == true)=false:=rfl
   simp -implicitDefEqProofs only [VL,Yo,i1,i2,ff,beq_self_eq_true,Nat.reduceAdd,Nat.reduceMul,Nat.reduceLT,Int.reduceToNat,Int.reduceAdd,Int.reduceSub,Int.reduceMul,dH,cY,cZ,db,dd,dp,dq,du,cv,Nat.reduceLeDiff,decide_true,decide_false]
   exact U.2 ⟨by simp [h2],ku⟩
 ·have i1:decide ((n:Int)<=14)=false:=decide_eq_false (by omega)
  have ff:(false == true)=false:=rfl
  simp -implicitDefEqProofs only [VL,Yo,i1,ff,Nat.reduceAdd,Nat.reduceMul,Nat.reduceLT,Int.reduceToNat,Int.reduceAdd,Int.reduceSub,Int.reduceMul,dH,cY,cZ,db,dd,dp,dq,du,cv,Nat.reduceLeDiff,decide_true,decide_false]
  exact U.2 ⟨by simp [h1],ku⟩
theorem JN {f:Fn × List AV × List AV} {Tw:List Hd->AH O->List Nat->Prop} {J:AH O} {eb sb nb lb pb mb:Nat} {M:ae} {S:ao} {w:List Int} {L:aP} {T:bn} {X Z:List Nat} {bE:Int} {v:List Int} {ot:Nat} {hs:List Hd} {Ds:List DO} {p:PS} {C:Nat->DO} (g:GC f Tw J eb sb nb lb pb mb M S w L T X bE v ot hs Z Ds p C) {i:Nat} {d:DO} (hd:Ds[i]? = some d) {t:Nat} (hn:p.now i=some t):(d.dv t).has T.done L.ly d.h.aH:=by
 obtain ⟨hi,hnn,hw,jr⟩:=(g.e.has hd hn).1
 have same:d.h.l=true->L.ly.ob t=L.ob t:=fun hl=>by
  obtain ⟨q1,q2,_⟩:=g.e.l1 i d t hd hl hn
  show (if t∈L.W then none else L.ob t)=_
  rw [if_neg (by rw [q1];exact g.h.t.s.l.JH d.at_ q2)]
 refine ⟨?_,hnn,?_,jr⟩
 ·unfold Ob.is at hi ⊢
  cases hl:d.h.l with
  |true=>
   rw [show (d.dv t).lg=d.h.l from rfl,hl,if_pos rfl] at hi ⊢
   rw [show (d.dv t).at_=t from rfl] at hi ⊢
   rw [same hl];exact hi
  |false=>
   rw [show (d.dv t).lg=d.h.l from rfl,hl] at hi ⊢
   exact hi
 ·rw [<-hw]
  unfold Gf
  cases hl:d.h.l with
  |true=>
   rw [show (d.dv t).lg=d.h.l from rfl,hl]
   rw [show (d.dv t).at_=t from rfl,same hl]
   rfl
  |false=>
   rw [show (d.dv t).lg=d.h.l from rfl,hl]
   rfl
theorem Gr {J:AH O} {wx sb nb lb pb mb:Nat} {M:ae} {S:ao} {w:List Int} {L:aP} {T:bn} {X:List Nat} (st:aW J sb nb lb pb mb M S w L T (wx::X) []) (hf:M.cC 1000) {Ds:List DO} {p:PS} {sc:Nat->Prop} {s:dD} {a b c e d:SA} (hb:J.aa wx=some (.cells true 81 (s.cells a b c e d))) (h:s.At a b c e d) (cA:s.cA=Ds.map DO.ov) (dm:DM Ds p sc s.m) (uL:Ds.length<=100) (ok:∀ d∈Ds,d.ok) (has:∀ i d t,Ds[i]? = some d->p.now i=some t->(d.dv t).has T L d.h.aH) {k:Nat} (hk:k<Ds.length) {ej:AV × AH O} (e14:ej.2.next=wx):
  Ok (VM ej Q1 (some (.n sb,0)) ([.i .i64 (k:Int)],J)) fun q=>∃ J' M',q=.inl ([.i .i64 ((k+1:Nat):Int)],J')/\aW J' sb nb lb pb mb M' S w L T (wx::X) []/\cz [] M M' 3 0 0/\ay (wx::X) J J':=by
 obtain ⟨dk,Ah⟩:∃ x,Ds[k]? = some x:=⟨_,List.getElem?_eq_getElem hk⟩
 have eo:s.cA.length=Ds.length:=by rw [cA];simp
 have el:=dm.len.1
 have en:=dm.len.2
 have JD:=dm.nw k dk Ah
 obtain ⟨bb,oo,rfl,ldn⟩:=h.m.now.at JD
 have ln:∀ J:AH O,J.ld bb (oo+k)=some (.i .u64 (sD dk (p.now k))):=fun J=>ldn O J
 have i1:decide ((k:Int)<(Ds.length:Int))=true:=decide_eq_true (by omega)
 have i0:decide ((0:Int)<=(k:Int))=true:=decide_eq_true (by omega)
 have w1:IntKind.i64.wrap ((k:Int)+1)=((k+1:Nat):Int):=by rw [bG (by omega)];omega
 simp only [dD.cells] at hb
 cases hp:p.now k with
 |none=>
  rw [hp] at ln
  have nz:(sD dk none == 0)=true:=rfl
  (unfold VM SA.ref;refine sy e14 hb eo en (cj i0 (cj i1 (cj @Bool.and_true (cj @Int.toNat_natCast (cj @Nat.mul_one (cj ln (cj nz (cj @jc (cj @bW w1))))))))) ?_)
  exact U.2 ⟨J,M,rfl,st,(cz.refl _ _).as (by decide) rfl rfl,ay.refl _ _⟩
 |some t=>
  rw [hp] at ln
  have nz:(sD dk (some t) == 0)=false:=by simpa [sD] using A4 dk t
  have eO:(J.ax 1).aa wx=_:=hb
  (unfold VM SA.ref;refine sy e14 hb eO eo (cj en (cj i0 (cj i1 (cj @Bool.and_true (cj @Int.toNat_natCast (cj @Nat.mul_one (cj ln (cj nz @jc)))))))) ?_)
  have AD:aW (J.ax 1) sb nb lb pb mb M S w L T (J.next::(wx::X)) []:=st.beside ⟨by simp,fun _ _=>rfl⟩ (fun y hy=>by
   rcases List.mem_cons.1 hy with rfl |hy
   ·exact .inr ⟨Nat.le_refl _,by simp⟩
   ·exact .inl hy)
  have hs:=has k dk t Ah hp
  have hd:=oG AD hf hs
  rw [DO.S5] at hd
  have en':sD dk (some t)=dk.to t:=rfl
  rw [en']
  refine Ok.step hd fun q ⟨g1,M',g2,g3,_,g4⟩=>?_
  obtain ⟨q,J1⟩:=q
  simp only at g1 g2 g4
  subst g1
  obtain ⟨o,o1,o2,_⟩:=dm.l k dk Ah
  rw [hp] at o2
  obtain ⟨be,oe,cP,cR,rfl,_,_,N7⟩:=h.m.l.obj (i:=k) (x:=o) o1
  have a0:=fun J:AH O=>(N7 O J).1
  have a1:=fun J:AH O=>(N7 O J).2.1
  have a2:=fun J:AH O=>(N7 O J).2.2.1
  have a3:=fun J:AH O=>(N7 O J).2.2.2.1
  have a4:=fun J:AH O=>(N7 O J).2.2.2.2.1
  have o2':o.h=dk.h.aH:=o2
  simp only [o2'] at a0 a1 a2 a3 a4
  have cJ:wx≠J.next:=by have:=st.lt wx (by simp);omega
  have cy:=(g4.aa wx (by simp)).trans eO
  have hbw:∀ x y:dL O,((J1.put J.next x).put J.next y).aa wx=_:=fun x y=>(aq cJ).trans ((aq cJ).trans cy)
  have ahk:∀ x:dL O,(J1.put J.next x).aa wx=_:=fun x=>(aq cJ).trans cy
  have q1:∀ z:Int,(z == z)=true:=fun z=>by simp
  have q2:∀ z:Bool,(z == z)=true:=fun z=>by simp
  have z0:((0:Int) == 0)=true:=rfl
  have t0:(false == false)=true:=rfl
  simp only [Hd.av]
  simp -implicitDefEqProofs only [hbw,ahk,el,i0,i1,Bool.and_true,SA.ref,Int.toNat_natCast,Nat.mul_one,a0,a1,a2,a3,a4,q1,q2,Bool.not_true,t0,bne,z0,jc,bW,w1,Nat.reduceAdd,Nat.reduceMul,Nat.reduceLT,Int.reduceToNat,Int.reduceAdd,Int.reduceSub,Int.reduceMul,dH,cY,cZ,db,dd,dp,dq,du,cv,Nat.reduceLeDiff,decide_true,decide_false]
  have VF:aW (J1.put J.next (.cells true 39 [.i .i64 (dk.h.aH.p:Int),.i .i64 (dk.h.aH.r:Int),.i .i64 (dk.h.aH.s:Int),.i .i64 (dk.h.aH.g:Int),.b dk.h.aH.l])) sb nb lb pb mb M' S w L T (wx::X) []:=g2.bI (K:=[J.next]) ⟨by simp,fun y hy hm=>aq (by simpa using hm)⟩ (by simp) (fun y hy=>.inl (List.mem_cons_of_mem _ hy))
  refine U.2 ⟨_,M',rfl,VF,g3,⟨Nat.le_trans (by simp) g4.next,fun y hy=>?_⟩⟩
  have hy2:=st.lt y hy
  rw [aq (by omega),g4.aa y (List.mem_cons_of_mem _ hy)];rfl
theorem JO {J:AH O} {sb nb lb pb mb:Nat} {M:ae} {S:ao} {w:List Int} {L:aP} {T:bn} {X:List Nat} {Y:List Int} {bE:Int} {v:List Int} {ot:Nat} (h:eK J sb nb lb pb mb M S w L T X Y bE v ot) {a b c:SA} {n m k:Nat} (hn:n<=100) (Dg:ot<=1000):Ok (qvy [.agg [.sl a n,.sl b m,.sl c k],.p (some (.n sb,0))] J) fun r=>r.1=.i .i64 (8*(n:Int) - (ot:Int))/\Ext J r.2:=by
 obtain ⟨el,hs⟩:=h.s.s
 obtain ⟨en,hnn⟩:=h.n
 have ls:=h.s.slt
 have ln:=h.s.N'
 have us:∀ x:dL O,((J.ax 1).put J.next x).aa sb=J.aa sb:=fun x=>aq (by omega)
 have un:∀ x:dL O,((J.ax 1).put J.next x).aa nb=J.aa nb:=fun x=>aq (by omega)
 have w1:IntKind.i64.wrap (8*(n:Int))=8*(n:Int):=bG (by omega)
 have w2:IntKind.i64.wrap (8*(n:Int) - (ot:Int))=8*(n:Int) - (ot:Int):=bG (by omega)
 (unfold qvy qvx xj Gi Ti Yk;refine sy us hs un hnn (cj w1 w2) ?_)
 exact U.2 ⟨rfl,ku⟩
theorem Gs (J:AH O) (x:Int) {y z:Int} (hy:0<=y/\y<=1000000) (hz:0<=z/\z<=1000000):Ok (Yp [.agg [.i .i64 x,.i .i64 y,.i .i64 z]] J) fun r=>r.1=.i .i64 (y+z)/\Ext J r.2:=by
 have w1:IntKind.i64.wrap (y+z)=y+z:=bG (by omega)
 (unfold Yp qse;refine lk w1 ?_)
 exact U.2 ⟨rfl,ku⟩
end Go.Abs.Tryz
set_option maxHeartbeats 16000000
namespace Go.Abs.Tryz
open Go Go.Abs Go.Proofs
variable {O:Type}
theorem vT {sa sE sF:SA} {zs:List MZ} {E:List (Int × Int × Int)} {F:List Int} (iz:iq 4 sa zs.length (zs.flatMap MZ.cs)) (oz:∀ z∈zs,z.ok) (iE:iq 3 sE E.length (E.flatMap e3)) (rE:∀ e∈E,U8 e.1/\U8 e.2.1/\U8 e.2.2) (iF:eZ .u8 sF F) (rF:∀ x∈F,U8 x):Ok (law22_SweepRests (O:=O) [.agg [.sl sa zs.length,.sl sE E.length,.sl sF F.length]] startH) fun r=>r.1=.b true:=by
 have t1:(!true)=false:=rfl
 have z0:((0:Int) == 0)=true:=rfl
 have s0:(startH:AH O).next=0:=rfl
 (unfold law22_SweepRests qv9;refine lk s0 ?_)
 obtain ⟨J1,ea,hb0,Ee⟩:=Oc (O:=O) 78 [.sl sa zs.length,.sl sE E.length,.sl sF F.length]
 rw [ea]
 refine HF t1 hb0 ?_
 refine Ok.step (JM J1 sa sE sF zs.length E.length F.length) fun q ⟨g1,g2⟩=>?_
 obtain ⟨q,J2⟩:=q
 simp only at g1 g2
 subst g1
 have My:=g2.next
 by_cases Od:zs.length<=14/\E.length<=40/\F.length<=10
 case neg=>
  have d0:decide (zs.length<=14/\E.length<=40/\F.length<=10)=false:=decide_eq_false Od
  refine HF d0 @Bool.not_false ?_
  exact U.2 rfl
 obtain ⟨f1,f2,f3⟩:=Od
 have d0:decide (zs.length<=14/\E.length<=40/\F.length<=10)=true:=decide_eq_true ⟨f1,f2,f3⟩
 have eO:J2.aa 0=_:=(g2.aa 0 Ee).trans hb0
 have JP:(J2.ax 1).aa 0=_:=eO
 refine SP d0 t1 eO ?_
 have Ss:J2.next≠0:=by omega
 refine Ok.step (JB (J:=J2.ax 1) (X:=[0,J2.next]) (fun y hy=>by
  have e:(J2.ax 1).next=J2.next+1:=rfl
  simp at hy
  rcases hy with rfl |rfl<;>omega) iz oz f1 iE rE f2 iF rF f3) fun q ⟨eb,sb,nb,lb,pb,mb,M,S,w,L,T,bE,v,ot,hs,Ds,p,C,s,a,b,c,e,d,h1,g3,at3,Tl,Tm,hl,hv,Dg,lx,k3⟩=>?_
 obtain ⟨q,J3⟩:=q
 simp only at h1 g3 k3
 subst h1
 generalize N3:J2.next=wx at g3 Ss k3 ⊢
 have mC:=(k3.aa 0 (by simp)).trans JP
 have Yf:=g3.h.lX
 simp only [dD.cells]
 refine lk t1 ?_
 generalize hJ:AH.put _ wx _=J4
 have n4:J4.next=J3.next:=by rw [<-hJ];rfl
 have b4:J4.aa wx=some (.cells true 81 (s.cells a b c e d)):=by rw [<-hJ];exact aE
 have o4:∀ y,y≠wx->J4.aa y=J3.aa y:=fun y hy=>by
  rw [<-hJ]
  first
   |exact aq hy
   |exact (aq hy).trans (aq hy)
 clear hJ
 have g4:GC EA sC J4 eb sb nb lb pb mb M S w L T [0,wx] bE v ot hs [] Ds p C:=g3.sub (g3.h.bI Gl (K:=[wx]) ⟨by omega,fun y hy hm=>o4 y (by simpa using hm)⟩ (by simp) (fun y hy=>.inl hy))
 have yG:=(o4 0 (fun e=>Ss e.symm)).trans mC
 generalize hA:J3.next=A at n4 ⊢
 have h5:bR EA sC (J4.ax 1) eb sb nb lb pb mb M S w L T [A,0,wx] [] bE v ot hs []:=g4.h.bI Gl (K:=[]) ⟨by simp,fun _ _ _=>rfl⟩ (by simp) (fun y hy=>by
  rcases List.mem_cons.1 hy with rfl |hy
  ·exact .inr ⟨by omega,by show _<J4.next+1;omega⟩
  ·exact .inl hy)
 obtain ⟨el5,tb5,em5,anB,hs5,hm5,mt5⟩:=h5.t.s.mem
 simp only [ak] at hs5 hm5
 have tM:=ae.t0 h5.t.s.l.p.mi.ok
 have tM':M.t<=400000:=Tm.1
 (unfold QY SZ;refine HF hs5 hm5 ?_)
 refine Ok.step (XY mt5 h5.t.s.l.p.mi.ok (by omega)) fun q ⟨j1,j2⟩=>?_
 obtain ⟨q,J6⟩:=q
 simp only at j1 j2
 subst j1
 have g5:GC EA sC (J4.ax 1) eb sb nb lb pb mb M S w L T [A,0,wx] bE v ot hs [] Ds p C:=g4.sub h5
 have hA0:A≠0/\A≠wx:=by
  have:=h5.nx
  have h0:=g4.h.lX 0 (by simp)
  have h1:=g4.h.lX wx (by simp)
  omega
 have j2n:=j2.next
 have e5:(J4.ax 1).next=J4.next+1:=rfl
 have lA:A<J6.next:=by omega
 have JQ:J6.aa 0=_:=(j2.aa 0 (by have:=g4.h.lX 0 (by simp);omega)).trans yG
 have b6:J6.aa wx=_:=(j2.aa wx (by have:=g4.h.lX wx (by simp);omega)).trans b4
 refine yx ?_
 generalize hJ:AH.put _ A _=J7
 have n7:J7.next=J6.next:=by rw [<-hJ];rfl
 have bA7:J7.aa A=some (.cells true 51 [.i .u64 0,.i .u64 M.t]):=by rw [<-hJ];exact aE
 have o7:∀ y,y≠A->J7.aa y=J6.aa y:=fun y hy=>by rw [<-hJ];exact aq hy
 clear hJ
 have VN:=(o7 0 (fun e=>hA0.1 e.symm)).trans JQ
 have b7:=(o7 wx (fun e=>hA0.2 e.symm)).trans b6
 have h7:bR EA sC J7 eb sb nb lb pb mb M S w L T [A,0,wx] [] bE v ot hs []:=(h5.ext Gl j2).bI Gl (K:=[A]) ⟨by omega,fun y hy hm=>o7 y (by simpa using hm)⟩ (by simp) (fun y hy=>.inl hy)
 obtain ⟨el7,tb7,em7,anE,hs7,hm7,mt7⟩:=h7.t.s.mem
 have Q2:=EH mt7
 have lw7:=xm h7.t.s.l
 have sz7:=uP h7.t.s
 obtain ⟨en7,hn7⟩:=h7.t.n
 simp -implicitDefEqProofs only [VN,QY,SZ,hs7,hm7,Q2,BW,Jq,lw7,xj,Gi,sz7,Ti,Yk,hn7,Nat.reduceAdd,Nat.reduceMul,Nat.reduceLT,Int.reduceToNat,Int.reduceAdd,Int.reduceSub,Int.reduceMul,dH,cY,cZ,db,dd,dp,dq,du,cv,Nat.reduceLeDiff,decide_true,decide_false]
 refine Ok.step (JO h7.t (by omega) Dg) fun q ⟨j3,j4⟩=>?_
 obtain ⟨q,J8⟩:=q
 simp only at j3 j4
 subst j3
 have h8:=h7.ext Gl j4
 have hb8:=(j4.aa 0 (h7.lX 0 (by simp))).trans VN
 have b8:=(j4.aa wx (h7.lX wx (by simp))).trans b7
 have bA8:=(j4.aa A (h7.lX A (by simp))).trans bA7
 have l8:=h8.lX
 generalize hB:J8.next=B at*
 have hBA:B≠A/\B≠0/\B≠wx:=by
  have h0:=l8 A (by simp)
  have h1:=l8 0 (by simp)
  have h2:=l8 wx (by simp)
  omega
 have h9:bR EA sC (J8.ax 1) eb sb nb lb pb mb M S w L T [B,A,0,wx] [] bE v ot hs []:=h8.bI Gl (K:=[]) ⟨by simp,fun _ _ _=>rfl⟩ (by simp) (fun y hy=>by
  rcases List.mem_cons.1 hy with rfl |hy
  ·exact .inr ⟨by omega,by show _<J8.next+1;omega⟩
  ·exact .inl hy)
 have sm:=JL g4
 have dl1:=JI g4
 have dw1:=JK g4
 refine yx ?_
 refine Ok.step (JG h9.t (Tm.cC h9.t.s.l.p.mi.ok (by decide)) (by simp) (fun e he=>by rw [g4.gen e he];decide) (by omega)) fun q ⟨r1,M',w',r2,r3,r4⟩=>?_
 obtain ⟨q,J9⟩:=q
 simp only at r1 r2 r4
 subst r1
 rw [dl1,dw1,show ot - T.top=aS (tc Ds p.now) Ds.length by omega]
 have hb9:=(r4.aa 0 (by simp)).trans hb8
 have b9:=(r4.aa wx (by simp)).trans b8
 have bA9:=(r4.aa A (by simp)).trans bA8
 have b9':=b9
 simp only [dD.cells] at b9'
 have ub:∀ x:dL O,(J9.put B x).aa wx=_:=fun x=>(aq (fun e=>hBA.2.2 e.symm)).trans b9'
 refine lk ub ?_
 generalize hJ:AH.put J9 B _=HL
 have eu:HL.next=J9.next:=by rw [<-hJ];rfl
 have ahs:HL.aa B=some (.cells true 88 [.i .i64 (aS (sY Ds p.now) Ds.length:Nat),.i .i64 (aS (sZ Ds p.now) Ds.length:Nat),.i .i64 (aS (tc Ds p.now) Ds.length:Nat)]):=by rw [<-hJ];exact aE
 have o10:∀ y,y≠B->HL.aa y=J9.aa y:=fun y hy=>by rw [<-hJ];exact aq hy
 clear hJ ub
 have Yq:aW HL sb nb lb pb mb M' (S.dE L.W) w' L.ly T.done (eb::([]++[B,A,0,wx])) []:=r2.bI (K:=[B]) ⟨by omega,fun y hy hm=>o10 y (by simpa using hm)⟩ (by simp) (fun y hy=>.inl hy)
 have Gt:=Yq.lt
 have rof:=Tg (J:=HL.ax 1) at3 Tl.cA Tl.m (by omega) (fun d hd=>by have:=lx d hd;omega)
 simp only [dD.cells] at rof
 refine Ok.step rof fun q ⟨u1,u2⟩=>?_
 obtain ⟨q,J11⟩:=q
 simp only at u1 u2
 subst u1
 have u2n:=u2.next
 have e10:(HL.ax 1).next=HL.next+1:=rfl
 generalize hD:J9.next=D at*
 refine yx ?_
 generalize hJ:AH.put _ D _=Oe
 have eB:Oe.next=J11.next:=by rw [<-hJ];rfl
 have ahu:Oe.aa D=some (.cells true 90 [.i .i64 (aS (sY Ds p.now) Ds.length:Nat),.i .i64 (aS (sZ Ds p.now) Ds.length:Nat),.i .i64 (aS (tc Ds p.now) Ds.length:Nat)]):=by rw [<-hJ];exact aE
 have o12:∀ y,y<D->Oe.aa y=HL.aa y:=fun y hy=>by rw [<-hJ,aq (by omega),u2.aa y (by omega)];rfl
 clear hJ
 have ahv:=(o12 A (by have:=Gt A (by simp);omega)).trans ((o10 A (fun e=>hBA.1 e.symm)).trans bA9)
 have ahw:=(o12 B (by have:=Gt B (by simp);omega)).trans ahs
 have uQ:=(o12 wx (by have:=Gt wx (by simp);omega)).trans ((o10 wx (fun e=>hBA.2.2 e.symm)).trans b9)
 generalize hG:J11.next=G at*
 have Tn:aW (Oe.ax 1) sb nb lb pb mb M' (S.dE L.W) w' L.ly T.done (G::D::(eb::([]++[B,A,0,wx]))) []:=Yq.bI (K:=[]) ⟨by show HL.next<=Oe.next+1;omega,fun y hy _=>o12 y (by omega)⟩ (by simp) (fun y hy=>by
  have e:(Oe.ax 1).next=Oe.next+1:=rfl
  rcases List.mem_cons.1 hy with rfl |hy
  ·exact .inr ⟨by omega,by omega⟩
  ·rcases List.mem_cons.1 hy with rfl |hy
   ·exact .inr ⟨by omega,by omega⟩
   ·exact .inl hy)
 obtain ⟨ar8,ar9,ar',ahx,Yr,Ys,ahy⟩:=Tn.mem
 simp only [ak] at Yr Ys
 obtain ⟨tt1,tt2⟩:=r3.X0
 simp -implicitDefEqProofs only [ahv,QY,SZ,Yr,Ys,Nat.reduceAdd,Nat.reduceMul,Nat.reduceLT,Int.reduceToNat,Int.reduceAdd,Int.reduceSub,Int.reduceMul,dH,cY,cZ,db,dd,dp,dq,du,cv,Nat.reduceLeDiff,decide_true,decide_false]
 have dwb:=fI (g:=sZ Ds p.now) (m:=50) (fun j=>by have:=pM (fun d hd=>by have:=lx d hd;omega) j;unfold sZ;split<;>first |omega |(split<;>omega)) Ds.length
 have dsb:=fI (g:=tc Ds p.now) (m:=50) (fun j=>by have:=pM (fun d hd=>by have:=lx d hd;omega) j;unfold tc;split<;>first |omega |(split<;>omega)) Ds.length
 have dlb:=fI (g:=sY Ds p.now) (m:=1) (fun j=>by unfold sY;split<;>first |omega |(split<;>omega)) Ds.length
 have tM0:M'.t<18446744073709551616:=by omega
 refine Ok.step (S0 ahy Tn.l.p.mi.ok tM0 tM tt1) fun q ⟨v1,v2⟩=>?_
 obtain ⟨q,To⟩:=q
 simp only at v1 v2
 subst v1
 have v2n:=v2.next
 have e12:(Oe.ax 1).next=Oe.next+1:=rfl
 have asc:=Gt A (by simp)
 have asd:=Gt B (by simp)
 have ase:=Gt wx (by simp)
 have ahz:To.aa B=_:=(v2.aa B (by omega)).trans ahw
 have Yt:To.aa D=_:=(v2.aa D (by omega)).trans ahu
 have Of:To.aa wx=_:=(v2.aa wx (by omega)).trans uQ
 have uB:∀ x:dL O,(To.put G x).aa B=_:=fun x=>(aq (by omega)).trans ahz
 have uD:∀ x:dL O,(To.put G x).aa D=_:=fun x=>(aq (by omega)).trans Yt
 have q1:∀ z:Int,(z == z)=true:=fun z=>by simp
 have q2:∀ z:Bool,(z == z)=true:=fun z=>by simp
 have t0:(false == false)=true:=rfl
 refine sy uB uD q1 @Bool.and_true (cj t1 t0) ?_
 generalize hJ:AH.put _ G _=J15
 have dU:J15.next=To.next:=by rw [<-hJ];rfl
 have ahA:J15.aa G=some (.cells true 51 [.i .u64 0,.i .u64 (M'.t - M.t)]):=by rw [<-hJ];exact aE
 have o15:∀ y,y≠G->J15.aa y=To.aa y:=fun y hy=>by rw [<-hJ];exact aq hy
 clear hJ uB uD
 have ahC:=(o15 D (by omega)).trans Yt
 have JR:=(o15 wx (by omega)).trans Of
 refine Ok.step (Gs J15 _ (by omega) (by omega)) fun q ⟨v3,v4⟩=>?_
 obtain ⟨q,J16⟩:=q
 simp only at v3 v4
 subst v3
 have ahE:=(v4.aa D (by omega)).trans ahC
 have ahF:=(v4.aa G (by omega)).trans ahA
 have Yu:=(v4.aa wx (by omega)).trans JR
 have ahG:IntKind.i64.wrap (((aS (sZ Ds p.now) Ds.length:Nat):Int)+((aS (tc Ds p.now) Ds.length:Nat):Int))=((aS (sZ Ds p.now) Ds.length:Nat):Int)+((aS (tc Ds p.now) Ds.length:Nat):Int):=bG (by omega)
 have wk:IntKind.u64.wrap (IntKind.i64.wrap (16*((aS (sY Ds p.now) Ds.length:Nat):Int)))=16*((aS (sY Ds p.now) Ds.length:Nat):Int):=by rw [bG (by omega),j8 (by omega)]
 have gt:decide (M'.t - M.t > 16*((aS (sY Ds p.now) Ds.length:Nat):Int))=false:=decide_eq_false (by omega)
 refine sy ahE ahF ahG q1 (cj z0 (cj t1 (cj wk (cj gt @Bool.not_false)))) ?_
 have ahH:aW J16 sb nb lb pb mb M' (S.dE L.W) w' L.ly T.done (wx::[]) []:=((Tn.ext v2).bI (K:=[G]) (Z:=G::D::(eb::([]++[B,A,0,wx]))) ⟨by omega,fun y hy hm=>o15 y (by simpa using hm)⟩ (by simp) (fun y hy=>.inl hy)).bI (K:=[]) ⟨v4.next,fun y hy _=>v4.aa y hy⟩ (by simp) (fun y hy=>.inl (by simp at hy;simp [hy]))
 have Yv:M'.cH 401000 200:=(r3.cH Tm).le (by omega) (by omega)
 have lp:Ok (bu (S:=List AV × AH O) (T:=(List AV × AH O) ⊕ (AV × AH O)) (VM (AV.b true,J2) Q1 (some (.n sb,0))) ([.i .i64 0],J16)) fun q=>∃ J' Mk,q=.inl ([],J')/\aW J' sb nb lb pb mb Mk (S.dE L.W) w' L.ly T.done (wx::[]) []/\cz [] M' Mk (3*Ds.length) 0 0:=by
  refine Ok.count Ds.length (fun k x=>∃ J' Mk,x=([.i .i64 (k:Int)],J')/\aW J' sb nb lb pb mb Mk (S.dE L.W) w' L.ly T.done (wx::[]) []/\cz [] M' Mk (3*k) 0 0/\J'.aa wx=some (.cells true 81 (s.cells a b c e d))) ?_ ?_ ⟨J16,M',rfl,ahH,(cz.refl _ _).as (by omega) rfl rfl,Yu⟩
  ·rintro k _ hk ⟨J',Mk,rfl,stk,bk,vN⟩
   refine (Gr stk ((bk.cH Yv).cC stk.l.p.mi.ok (by omega)) vN at3 Tl.cA Tl.m (by omega) g4.e.ok (fun i d t hd hn=>JN g4 hd hn) hk N3).mono ?_
   rintro _ ⟨oO,Mk2,rfl,AD,b2,k2⟩
   exact ⟨oO,Mk2,rfl,AD,(bk.trans b2).as (by omega) (by omega) (by omega),(k2.aa wx (by simp)).trans vN⟩
  ·rintro _ ⟨J',Mk,rfl,stk,bk,vN⟩
   have eo:s.cA.length=Ds.length:=by rw [Tl.cA];simp
   have i1:decide ((Ds.length:Int)<(Ds.length:Int))=false:=decide_eq_false (by omega)
   simp only [dD.cells] at vN
   (unfold VM;refine Vu N3 vN eo i1 ?_)
   exact U.2 ⟨J',Mk,rfl,stk,bk⟩
 refine Ok.cE lp ?_ (fun q hq=>by obtain ⟨_,_,e,_⟩:=hq;cases e)
 rintro _ ⟨J17,M17,e,JS,ahI⟩
 simp only [Sum.inl.injEq] at e
 subst e
 obtain ⟨asi,asj,asl,ahJ,ahK,ahL,ahM⟩:=JS.mem
 have JT:=EH ahM
 have Yw:=xm JS.l
 have Yx:=uP JS
 simp -implicitDefEqProofs only [QY,SZ,ahK,ahL,JT,BW,Jq,Yw,xj,Gi,Yx,Nat.reduceAdd,Nat.reduceMul,Nat.reduceLT,Int.reduceToNat,Int.reduceAdd,Int.reduceSub,Int.reduceMul,dH,cY,cZ,db,dd,dp,dq,du,cv,Nat.reduceLeDiff,decide_true,decide_false]
 have wb1:=h7.t.s.l.wb
 have wb2:=JS.l.wb
 have HM:=h7.t.s.l.p.mi.ok.met.held
 have Yy:=JS.l.p.mi.ok.met.held
 have eH1:=r3.held
 have eH2:=ahI.held
 have eW:L.ly.words=L.words - ((aS (sZ Ds p.now) Ds.length:Nat):Int):=by
  show L.words - _=_
  rw [dw1]
 have tl:=h7.t.s.tl
 have eT:T.done.ws.length=T.ws.length:=rfl
 rw [eT]
 rw [dw1] at eH1
 clear JT Yw Yx Q2 lw7 sz7
 generalize L.ly.words=Yz at eW wb2 ⊢
 generalize M17.met.held=kC at eH2 Yy ⊢
 have x1:IntKind.i64.wrap (M.met.held - L.words)=M.met.held - L.words:=bG (by omega)
 have x2:IntKind.i64.wrap (M.met.held - L.words - (T.ws.length:Int))=M.met.held - L.words - (T.ws.length:Int):=bG (by omega)
 have x3:IntKind.i64.wrap (M.met.held - L.words - (T.ws.length:Int) - (ot:Int))=M.met.held - L.words - (T.ws.length:Int) - (ot:Int):=bG (by omega)
 have x4:IntKind.i64.wrap (M.met.held - L.words - (T.ws.length:Int) - (ot:Int) - (8*(zs.length:Int) - (ot:Int)))=M.met.held - L.words - (T.ws.length:Int) - (ot:Int) - (8*(zs.length:Int) - (ot:Int)):=bG (by omega)
 have x5:IntKind.i64.wrap (M.met.held - L.words - (T.ws.length:Int) - (ot:Int) - (8*(zs.length:Int) - (ot:Int))+Yz)=M.met.held - L.words - (T.ws.length:Int) - (ot:Int) - (8*(zs.length:Int) - (ot:Int))+Yz:=bG (by omega)
 have x6:IntKind.i64.wrap (M.met.held - L.words - (T.ws.length:Int) - (ot:Int) - (8*(zs.length:Int) - (ot:Int))+Yz+(T.ws.length:Int))=M.met.held - L.words - (T.ws.length:Int) - (ot:Int) - (8*(zs.length:Int) - (ot:Int))+Yz+(T.ws.length:Int):=bG (by omega)
 rw [x1,x2,x3,x4,x5,x6]
 have fin:(kC == M.met.held - L.words - (T.ws.length:Int) - (ot:Int) - (8*(zs.length:Int) - (ot:Int))+Yz+(T.ws.length:Int))=true:=by rw [beq_iff_eq];omega
 rw [fin]
 exact U.2 rfl
end Go.Abs.Tryz
namespace Go.Abs.Tryz
open Go Go.Abs Go.Proofs
variable {O:Type}
theorem JU {d:Nat} {cs:List AV} (h:nH Tryz.prog (d+4) 22 cs):∃ (a:SA) (zs:List MZ),cs=[.sl a zs.length]/\iq 4 a zs.length (zs.flatMap MZ.cs)/\∀ z∈zs,z.ok:=by
 have c4:Tryz.prog.cellsOf 73=4:=by kernel_rfl
 obtain ⟨a,els,e,_,ia,ha⟩:=IJ (d:=d+3) Tryz.underlying22 h (fun el tE=>by obtain ⟨z,rfl,_⟩:=Ey (d:=d) tE;rw [c4];rfl)
 obtain ⟨zs,h1,h2,h3⟩:=AY (d:=d) ha
 rw [c4,<-h1,<-h2] at ia
 exact ⟨a,zs,by rw [e,h1],ia,h3⟩
theorem EI {d:Nat} {cs:List AV} (h:nH Tryz.prog (d+1) 202 cs):∃ e:Int × Int × Int,cs=e3 e/\U8 e.1/\U8 e.2.1/\U8 e.2.2:=by
 obtain ⟨ns,rfl,hl,hr⟩:=agj (k:=.u8) Tryz.underlying202 Tryz.underlying5 h
 match ns,hl,hr with
 |[a,b,c],_,hr=>exact ⟨(a,b,c),rfl,hr a (by simp),hr b (by simp),hr c (by simp)⟩
theorem A5 {d:Nat}:∀ {els:List (List AV)},(∀ el∈els,nH Tryz.prog (d+1) 202 el)->∃ es:List (Int × Int × Int),es.length=els.length/\es.flatMap e3=els.flatten/\∀ e∈es,U8 e.1/\U8 e.2.1/\U8 e.2.2
 |[],_=>⟨[],rfl,rfl,by simp⟩
 |x::els,h=>by
  obtain ⟨e,rfl,he⟩:=EI (h x List.mem_cons_self)
  obtain ⟨es,h1,h2,h3⟩:=A5 (d:=d) (els:=els) fun y hy=>h y (List.mem_cons_of_mem _ hy)
  refine ⟨e::es,by simp [h1],by rw [List.flatMap_cons,List.flatten_cons,h2],fun y hy=>?_⟩
  rcases List.mem_cons.1 hy with rfl |hy
  ·exact he
  ·exact h3 y hy
theorem JV {d:Nat} {cs:List AV} (h:nH Tryz.prog (d+2) 76 cs):∃ (a:SA) (es:List (Int × Int × Int)),cs=[.sl a es.length]/\iq 3 a es.length (es.flatMap e3)/\∀ e∈es,U8 e.1/\U8 e.2.1/\U8 e.2.2:=by
 have c3:Tryz.prog.cellsOf 202=3:=by kernel_rfl
 obtain ⟨a,els,e,_,ia,ha⟩:=IJ (d:=d+1) Tryz.underlying76 h (fun el tE=>by obtain ⟨z,rfl,_⟩:=EI (d:=d) tE;rw [c3];rfl)
 obtain ⟨es,h1,h2,h3⟩:=A5 (d:=d) ha
 rw [c3,<-h1,<-h2] at ia
 exact ⟨a,es,by rw [e,h1],ia,h3⟩
theorem JW {x:AV} (h:ArgIs Tryz.prog 78 x):∃ (sa sE sF:SA) (zs:List MZ) (E:List (Int × Int × Int)) (F:List Int),x=.agg [.sl sa zs.length,.sl sE E.length,.sl sF F.length]/\(iq 4 sa zs.length (zs.flatMap MZ.cs)/\∀ z∈zs,z.ok)/\(iq 3 sE E.length (E.flatMap e3)/\∀ e∈E,U8 e.1/\U8 e.2.1/\U8 e.2.2)/\eZ .u8 sF F/\∀ x∈F,U8 x:=by
 obtain ⟨cs,rfl,hc⟩:=Xo Tryz.underlying78 h
 obtain ⟨parts,rfl,hl,hp⟩:=Da (d:=11) Tryz.underlying78 hc
 match parts,hl,hp with
 |[p0,p1,p2],_,hp=>
  obtain ⟨sa,zs,rfl,h1,h2⟩:=JU (d:=7) (hp 0 _ p0 rfl rfl)
  obtain ⟨sE,E,rfl,h3,h4⟩:=JV (d:=9) (hp 1 _ p1 rfl rfl)
  obtain ⟨sF,F,rfl,_,h5,h6⟩:=Xn (d:=10) (k:=.u8) Tryz.underlying47 Tryz.underlying5 (by kernel_rfl) (hp 2 _ p2 rfl rfl)
  exact ⟨sa,sE,sF,zs,E,F,rfl,⟨h1,h2⟩,⟨h3,h4⟩,eZ.mk h5,h6⟩
theorem sweepRests_in {x:AV} (h:ArgIs Tryz.prog 78 x):Ok (law22_SweepRests (O:=O) [x] startH) fun r=>r.1=.b true:=by
 obtain ⟨sa,sE,sF,zs,E,F,rfl,⟨h1,h2⟩,⟨h3,h4⟩,h5,h6⟩:=JW h
 exact vT h1 h2 h3 h4 h5 h6
end Go.Abs.Tryz
