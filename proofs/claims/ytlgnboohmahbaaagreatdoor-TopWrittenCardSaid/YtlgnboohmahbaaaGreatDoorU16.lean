/-
  Forms as texts: lines.Text, haymowref46.Text. No conditions.
-/
import Derived.Test.YtlgnboohmahbaaaGreatDoorU10
import Derived.Test.YtlgnboohmahbaaaGreatDoorM12
set_option linter.unusedVariables false
set_option linter.unusedSimpArgs false
set_option linter.constructorNameAsVariable false
set_option linter.unusedSimpArgs false
set_option linter.unusedVariables false
set_option maxHeartbeats 2000000
namespace Go.Abs.Tryz
open Go Go.Abs
variable {O:Type}
theorem N3 (r w:Bs):∀ ws:List Bs,bL 10 (ws++[r,w,[]])=ws.flatMap (· ++ [10])++r++[10]++w++[10]
  |[]=>by simp [bL]
  |v::ws=>by
    rw [List.cons_append,ti 10 v (by simp),N3 r w ws];simp
theorem Dh (F:FV):tk F=F.nodes.flatMap (fun x=>eH x++[10])++gI fV F.roots++[10]++gI lH F.bn++[10]:=by
  unfold tk Gc
  rw [N3,List.flatMap_map]
structure _root_.Go.Abs.FV.lin (F:FV):Prop where
  n:F.nodes.length ≤ 1300
  x:∀ x∈F.nodes,x.Me ∧ x.P.length ≤ 1200 ∧ x.R.length ≤ 1200
  r:F.roots.length ≤ 1200
  w:F.bn.length ≤ 1200
  ri:∀ n∈F.roots,Kf n
  wi:∀ n∈F.bn,Kf n
theorem _root_.Go.Abs.FV.lin.Gk {F:FV} (h:F.lin):F.Gk:=⟨by have:=h.n;omega,fun x hx=>⟨by have:=(h.x x hx).2.1;omega,by have:=(h.x x hx).2.2;omega⟩,by have:=h.r;omega,by have:=h.w;omega⟩
theorem U9 {N:List NV} (h:∀ x∈N,x.Me ∧ x.P.length ≤ 1200 ∧ x.R.length ≤ 1200):(N.flatMap fun x=>eH x++[10]).length ≤ N.length*60001:=by
  induction N with
  |nil=>simp
  |cons x N ih=>
    have h1:=h x (by simp)
    have:=Gi h1.1 h1.2.1 h1.2.2
    have:=ih fun y hy=>h y (List.mem_cons_of_mem _ hy)
    simp only [List.flatMap_cons,List.length_append,List.length_cons,List.length_nil,Nat.add_mul];omega
theorem agw {aJ:AH O} {v0:AV} {a:SA} {N:List NV} {σ:AH O} (hN:JJ a N) (hx:∀ x∈N,x.Me ∧ x.P.length ≤ 1200 ∧ x.R.length ≤ 1200) (hn:N.length ≤ 1300) (L0:xY aJ.next aJ σ) (B0:xX σ aJ.next []):
    Ok (aQ (S:=List AV × AH O) (T:=List AV × AH O) (Ey (a,N.length) rX __strings_Builder__WriteString (v0,aJ) __strings_Builder__WriteByte) ([.i .i64 0],σ)) fun r=>r.1=[] ∧ xY aJ.next aJ r.2 ∧ xX r.2 aJ.next (N.flatMap fun x=>eH x++[10]):=by
  refine Ok.count N.length (fun k q=>∃ aj,q=([.i .i64 (k:Int)],aj) ∧ xY aJ.next aJ aj ∧ xX aj aJ.next ((N.take k).flatMap fun x=>eH x++[10])) ?_ ?_ ⟨_,rfl,L0,by simpa using B0⟩
  · rintro k _ hk ⟨aj,rfl,L,B⟩
    have hk1:N[k]? = some N[k]:=List.getElem?_eq_getElem hk
    have hm:=hx _ (List.getElem_mem hk)
    have htk:N.take (k+1)=N.take k++[N[k]]:=by rw [List.take_add_one,hk1];rfl
    have Gk:=U9 (N:=N.take k) fun x h=>hx x (List.mem_of_mem_take h)
    have ltk:(N.take k).length=k:=by rw [List.length_take];omega
    rw [ltk] at Gk
    generalize N[k]=x at*
    obtain ⟨bb,oo,cc,dd,rfl,ic,id,we⟩:=Row.node hN hk1
    have we:=fun σ=>we O σ
    have dk:decide ((k:Int)<(N.length:Int))=true:=decide_eq_true (by omega)
    have d0:decide ((0:Int) ≤ (k:Int))=true:=decide_eq_true (by omega)
    have e1:IntKind.i64.wrap ((k:Int)+1)=((k+1:Nat):Int):=by rw [bJ (by omega) (by omega)];omega
    have lt:=Gi hm.1 hm.2.1 hm.2.2
    refine Ok.to (x:=(k:Int)) rfl ?_
    refine Ok.cT dk ?_
    refine Ok.cT (by rw [d0,dk];rfl) ?_
    refine Ok.to (x:=(bb,oo)) rfl ?_
    refine Ok.to (x:=.i .i64 x.h.p) ((we _).1) (Ok.to (x:=x.h.p) rfl ?_)
    refine Ok.to (x:=.i .i64 x.h.r) ((we _).2.1) (Ok.to (x:=x.h.r) rfl ?_)
    refine Ok.to (x:=.i .i64 x.h.site) ((we _).2.2.1) (Ok.to (x:=x.h.site) rfl ?_)
    refine Ok.to (x:=.i .i64 x.h.pR) ((we _).2.2.2.1) (Ok.to (x:=x.h.pR) rfl ?_)
    refine Ok.to (x:=.b x.h.bW) ((we _).2.2.2.2.1) (Ok.to (x:=x.h.bW) rfl ?_)
    refine Ok.to (x:=.sl cc x.P.length) ((we _).2.2.2.2.2.1) (Ok.to (x:=(cc,x.P.length)) rfl ?_)
    refine Ok.to (x:=.sl dd x.R.length) ((we _).2.2.2.2.2.2) (Ok.to (x:=(dd,x.R.length)) rfl ?_)
    generalize ajn:(aj.bump 1).put aj.next (.cells true 50 [.i .i64 x.h.p,.i .i64 x.h.r,.i .i64 x.h.site,.i .i64 x.h.pR,.b x.h.bW,.sl cc x.P.length,.sl dd x.R.length])=cE
    have lP:((aj.bump 1).put aj.next (.cells true 50 [.i .i64 0,.i .i64 0,.i .i64 0,.i .i64 0,.b false,.sl .nil 0,.sl .nil 0])).st (.n aj.next) 0 [.i .i64 x.h.p,.i .i64 x.h.r,.i .i64 x.h.site,.i .i64 x.h.pR,.b x.h.bW,.sl cc x.P.length,.sl dd x.R.length]=some cE:=by
      rw [← ajn]
      simp -implicitDefEqProofs only [Nat.reduceAdd,Nat.reduceMul,Nat.reduceLT,Int.reduceToNat,Int.reduceAdd,Int.reduceSub,Int.reduceMul,aB,ak,ao,au,aw,ax,ay,az,ah,Nat.reduceLeDiff,decide_true,decide_false]
    refine Ok.to (x:=cE) lP ?_
    have c3:cE.ai aj.next=some (.cells true 50 [.i .i64 x.h.p,.i .i64 x.h.r,.i .i64 x.h.site,.i .i64 x.h.pR,.b x.h.bW,.sl cc x.P.length,.sl dd x.R.length]):=by rw [← ajn];exact cH
    have E3:Ext aj cE:=by rw [← ajn];exact ((Ext.refl aj).bump 1).put (Nat.le_refl _) _
    refine Ok.to (x:=.i .i64 x.h.p) (by simp -implicitDefEqProofs only [c3,Nat.reduceAdd,Nat.reduceMul,Nat.reduceLT,Int.reduceToNat,Int.reduceAdd,Int.reduceSub,Int.reduceMul,aB,ak,ao,au,aw,ax,ay,az,ah,Nat.reduceLeDiff,decide_true,decide_false]) (Ok.to (x:=x.h.p) rfl ?_)
    refine Ok.to (x:=.i .i64 x.h.r) (by simp -implicitDefEqProofs only [c3,Nat.reduceAdd,Nat.reduceMul,Nat.reduceLT,Int.reduceToNat,Int.reduceAdd,Int.reduceSub,Int.reduceMul,aB,ak,ao,au,aw,ax,ay,az,ah,Nat.reduceLeDiff,decide_true,decide_false]) (Ok.to (x:=x.h.r) rfl ?_)
    refine Ok.to (x:=.i .i64 x.h.site) (by simp -implicitDefEqProofs only [c3,Nat.reduceAdd,Nat.reduceMul,Nat.reduceLT,Int.reduceToNat,Int.reduceAdd,Int.reduceSub,Int.reduceMul,aB,ak,ao,au,aw,ax,ay,az,ah,Nat.reduceLeDiff,decide_true,decide_false]) (Ok.to (x:=x.h.site) rfl ?_)
    refine Ok.to (x:=.i .i64 x.h.pR) (by simp -implicitDefEqProofs only [c3,Nat.reduceAdd,Nat.reduceMul,Nat.reduceLT,Int.reduceToNat,Int.reduceAdd,Int.reduceSub,Int.reduceMul,aB,ak,ao,au,aw,ax,ay,az,ah,Nat.reduceLeDiff,decide_true,decide_false]) (Ok.to (x:=x.h.pR) rfl ?_)
    refine Ok.to (x:=.b x.h.bW) (by simp -implicitDefEqProofs only [c3,Nat.reduceAdd,Nat.reduceMul,Nat.reduceLT,Int.reduceToNat,Int.reduceAdd,Int.reduceSub,Int.reduceMul,aB,ak,ao,au,aw,ax,ay,az,ah,Nat.reduceLeDiff,decide_true,decide_false]) (Ok.to (x:=x.h.bW) rfl ?_)
    refine Ok.to (x:=.sl cc x.P.length) (by simp -implicitDefEqProofs only [c3,Nat.reduceAdd,Nat.reduceMul,Nat.reduceLT,Int.reduceToNat,Int.reduceAdd,Int.reduceSub,Int.reduceMul,aB,ak,ao,au,aw,ax,ay,az,ah,Nat.reduceLeDiff,decide_true,decide_false]) (Ok.to (x:=(cc,x.P.length)) rfl ?_)
    refine Ok.to (x:=.sl dd x.R.length) (by simp -implicitDefEqProofs only [c3,Nat.reduceAdd,Nat.reduceMul,Nat.reduceLT,Int.reduceToNat,Int.reduceAdd,Int.reduceSub,Int.reduceMul,aB,ak,ao,au,aw,ax,ay,az,ah,Nat.reduceLeDiff,decide_true,decide_false]) (Ok.to (x:=(dd,x.R.length)) rfl ?_)
    refine Ok.step (acz (x:=x) ic id hm.1 hm.2.1 hm.2.2) ?_
    rintro ⟨v,ky⟩ ⟨v1,E4⟩
    simp only at v1 E4
    subst v1
    refine Ok.to (x:=eH x) rfl ?_
    have E4:=E3.trans E4
    refine Ok.step (Ls (B.ext E4) (s:=eH x) (by omega)) ?_
    rintro ⟨v,Dv⟩ ⟨v1,L5,B5⟩
    simp only at v1 L5 B5
    subst v1
    refine Ok.to (x:=[.i .i64 (eH x).length,.DC]) rfl ?_
    refine Ok.to (x:=((eH x).length:Int)) rfl ?_
    refine Ok.step (HX (c:=10) B5 (by simp only [List.length_append];omega)) ?_
    rintro ⟨v,PM⟩ ⟨v1,L6,B6⟩
    simp only at v1 L6 B6
    refine U.2 ⟨PM,by rw [e1],((L.trans (xY.of L.next E4)).trans L5).trans L6,?_⟩
    rw [htk,List.flatMap_append]
    simpa using B6
  · rintro _ ⟨aj,rfl,L,B⟩
    refine Ok.to (x:=(N.length:Int)) rfl ?_
    refine Ok.cF (decide_eq_false (by omega)) (U.2 ⟨rfl,L,?_⟩)
    rw [List.take_length] at B;exact B
theorem N4 {σ:AH O} {F:FV} {v:AV} (hF:F.At v) (hl:F.lin):Ok (oi [v] σ) fun r=>r.1=.s (if ct F=true then tk F else []) ∧ Ext σ r.2:=by
  have hF0:=hF
  obtain ⟨a,b,c,rfl,iN,iR,iW⟩:=hF.it
  unfold oi yD
  refine Ok.cT rfl ?_
  refine Ok.to (x:=[.sl a F.nodes.length,.sl b F.roots.length,.sl c F.bn.length]) rfl ?_
  refine Ok.to (x:=(a,F.nodes.length)) rfl ?_
  refine Ok.to (x:=(b,F.roots.length)) rfl ?_
  refine Ok.to (x:=(c,F.bn.length)) rfl ?_
  refine Ok.to (x:=.sl a F.nodes.length) (by simp -implicitDefEqProofs only [Nat.reduceAdd,Nat.reduceMul,Nat.reduceLT,Int.reduceToNat,Int.reduceAdd,Int.reduceSub,Int.reduceMul,aB,ak,ao,au,aw,ax,ay,az,ah,Nat.reduceLeDiff,decide_true,decide_false]) (Ok.to (x:=(a,F.nodes.length)) rfl ?_)
  refine Ok.to (x:=.sl b F.roots.length) (by simp -implicitDefEqProofs only [Nat.reduceAdd,Nat.reduceMul,Nat.reduceLT,Int.reduceToNat,Int.reduceAdd,Int.reduceSub,Int.reduceMul,aB,ak,ao,au,aw,ax,ay,az,ah,Nat.reduceLeDiff,decide_true,decide_false]) (Ok.to (x:=(b,F.roots.length)) rfl ?_)
  refine Ok.to (x:=.sl c F.bn.length) (by simp -implicitDefEqProofs only [Nat.reduceAdd,Nat.reduceMul,Nat.reduceLT,Int.reduceToNat,Int.reduceAdd,Int.reduceSub,Int.reduceMul,aB,ak,ao,au,aw,ax,ay,az,ah,Nat.reduceLeDiff,decide_true,decide_false]) (Ok.to (x:=(c,F.bn.length)) rfl ?_)
  generalize HW:(σ.bump 1).put σ.next _=aP
  have b2:aP.ai σ.next=some (.cells true 25 [.sl a F.nodes.length,.sl b F.roots.length,.sl c F.bn.length]):=by rw [← HW];exact cH
  have E2:Ext σ aP:=by rw [← HW];exact ((Ext.refl σ).bump 1).put (Nat.le_refl _) _
  have n2:aP.next=σ.next+1:=by rw [← HW];rfl
  clear HW
  refine Ok.step (wH (FRd.im hF0 _) hl.Gk) ?_
  rintro ⟨v,cE⟩ ⟨v1,E3⟩
  simp only at v1 E3
  subst v1
  refine Ok.to (x:=ct F) rfl ?_
  cases hR:ct F with
  |false=>exact Ok.cT rfl (U.2 ⟨by simp,E2.trans E3⟩)
  |true=>
    rw [if_pos rfl]
    refine Ok.cF rfl ?_
    have n3:=E3.next
    have b3:cE.ai σ.next=some (.cells true 25 [.sl a F.nodes.length,.sl b F.roots.length,.sl c F.bn.length]):=by rw [E3.ai _ (by omega)];exact b2
    have b3':∀ y,(((cE.bump 1)).put cE.next y).ai σ.next=some (.cells true 25 [.sl a F.nodes.length,.sl b F.roots.length,.sl c F.bn.length]):=fun y=>by rw [bu (by omega)];exact b3
    refine Ok.to (x:=.sl a F.nodes.length) (by simp -implicitDefEqProofs only [b3',Nat.reduceAdd,Nat.reduceMul,Nat.reduceLT,Int.reduceToNat,Int.reduceAdd,Int.reduceSub,Int.reduceMul,aB,ak,ao,au,aw,ax,ay,az,ah,Nat.reduceLeDiff,decide_true,decide_false]) (Ok.to (x:=(a,F.nodes.length)) rfl ?_)
    have hfl:=U9 hl.x
    have hn:=hl.n
    refine Ok.step (agw (aJ:=cE) iN hl.x hl.n ⟨by simp,fun k hk=>by show ((cE.bump 1).put cE.next _).ai k=_;rw [bu (Nat.ne_of_lt hk)];rfl⟩ (xX.new cH (by simp))) ?_
    rintro ⟨v,ky⟩ ⟨v1,L4,B4⟩
    simp only at v1 L4 B4
    subst v1
    have b4:ky.ai σ.next=some (.cells true 25 [.sl a F.nodes.length,.sl b F.roots.length,.sl c F.bn.length]):=by rw [L4.ai _ (by omega)];exact b3
    refine Ok.to (x:=.sl b F.roots.length) (by simp -implicitDefEqProofs only [b4,Nat.reduceAdd,Nat.reduceMul,Nat.reduceLT,Int.reduceToNat,Int.reduceAdd,Int.reduceSub,Int.reduceMul,aB,ak,ao,au,aw,ax,ay,az,ah,Nat.reduceLeDiff,decide_true,decide_false]) (Ok.to (x:=(b,F.roots.length)) rfl ?_)
    have hTF:=Dh F
    generalize (F.nodes.flatMap fun x=>eH x++[10])=t1 at*
    refine Ok.step (Kj (w:=fV) iR hl.ri hl.r (by decide)) ?_
    rintro ⟨v,Dv⟩ ⟨v1,E5⟩
    simp only at v1 E5
    subst v1
    have fr:=zC (w:=fV) hl.ri hl.r (by decide)
    have fw:=zC (w:=lH) hl.wi hl.w (by decide)
    generalize gI fV F.roots=t2 at*
    refine Ok.to (x:=t2) rfl ?_
    refine Ok.step (Ls (B4.ext E5) (s:=t2) (by omega)) ?_
    rintro ⟨v,PM⟩ ⟨v1,L6,B6⟩
    simp only at v1 L6 B6
    subst v1
    refine Ok.to (x:=[.i .i64 t2.length,.DC]) rfl ?_
    refine Ok.to (x:=(t2.length:Int)) rfl ?_
    have f6:(t1++t2).length ≤ 100000000:=by simp only [List.length_append];omega
    generalize t1++t2=t3 at*
    refine Ok.step (HX (c:=10) B6 (by omega)) ?_
    rintro ⟨v,Q0⟩ ⟨v1,L7,B7⟩
    simp only at v1 L7 B7
    have f7:(t3++[10]).length ≤ 100000001:=by simp;omega
    have b7:Q0.ai σ.next=some (.cells true 25 [.sl a F.nodes.length,.sl b F.roots.length,.sl c F.bn.length]):=by rw [L7.ai _ (by omega),L6.ai _ (by omega),E5.ai _ (by have:=L4.next;omega)];exact b4
    have L37:xY cE.next cE Q0:=((L4.trans (xY.of L4.next E5)).trans L6).trans L7
    refine Ok.to (x:=.sl c F.bn.length) (by simp -implicitDefEqProofs only [b7,Nat.reduceAdd,Nat.reduceMul,Nat.reduceLT,Int.reduceToNat,Int.reduceAdd,Int.reduceSub,Int.reduceMul,aB,ak,ao,au,aw,ax,ay,az,ah,Nat.reduceLeDiff,decide_true,decide_false]) (Ok.to (x:=(c,F.bn.length)) rfl ?_)
    generalize t3++[10]=t4 at*
    refine Ok.step (Kj (w:=lH) iW hl.wi hl.w (by decide)) ?_
    rintro ⟨v,TH⟩ ⟨v1,E8⟩
    simp only at v1 E8
    subst v1
    generalize gI lH F.bn=t5 at*
    refine Ok.to (x:=t5) rfl ?_
    refine Ok.step (Ls (B7.ext E8) (s:=t5) (by omega)) ?_
    rintro ⟨v,Z5⟩ ⟨v1,L9,B9⟩
    simp only at v1 L9 B9
    subst v1
    refine Ok.to (x:=[.i .i64 t5.length,.DC]) rfl ?_
    refine Ok.to (x:=(t5.length:Int)) rfl ?_
    refine Ok.step (HX (c:=10) B9 (by simp only [List.length_append];omega)) ?_
    rintro ⟨v,GL⟩ ⟨v1,L10,B10⟩
    simp only at v1 L10 B10
    refine Ok.step (N2 B10 (by simp)) ?_
    rintro ⟨v,WZ⟩ ⟨v1,L11⟩
    simp only at v1 L11
    subst v1
    refine Ok.to (x:=t4++t5++[10]) rfl ?_
    have LL:xY cE.next cE WZ:=(((L37.trans (xY.of L37.next E8)).trans L9).trans L10).trans L11
    refine U.2 ⟨by rw [hTF],?_⟩
    have:=LL.next
    exact ⟨by show σ.next ≤ WZ.next;omega,fun k hk=>(LL.ai k (by have:=E2.next;omega)).trans ((E2.trans E3).ai k hk)⟩
end Go.Abs.Tryz
namespace Go.Abs.Tryz
open Go Go.Abs
variable {O:Type}
theorem Ok.acA {S T:Type} {f:S → Option (S ⊕ T)} {s:S} {Q:T → Prop} (h:Ok (f s) fun r=>match r with |.inl s'=>Ok (aQ f s') Q |.inr t=>Q t):Ok (aQ f s) Q:=by
  obtain ⟨r,e,h⟩:=h
  cases r with
  |inl s'=>
    obtain ⟨t,e',hq⟩:=h
    obtain ⟨n,hn⟩:=ye e'
    exact ⟨t,BK (n:=n+1) (by simp only [iF,e];exact hn),hq⟩
  |inr t=>exact ⟨t,BK (n:=1) (by simp only [iF,e];rfl),h⟩
theorem ajp {σ:AH O} {el b es:Nat} {cs:List AV} (h:cs.length=es):(σ.put b (.cells true el cs)).bC (.loc (.n b) 0 es) 1 es=some cs:=by
  have:Rd (σ.put b (.cells true el cs)) es (.loc (.n b) 0 es) 1 cs:=⟨by omega,rfl,cs,by simp [AH.cs],by omega,by rw [List.drop_zero,List.take_of_length_le (by omega)]⟩
  exact this.bC
theorem anD {σ:AH O} {el:TypeId} {es:Nat} {a:SA} {n:Nat} {cs vs:List AV} (ho:aN σ el es a n cs) (hv:vs.length=es):
    Ok (((σ.bump 2).put σ.next (.cells true el vs)).bP (σ.next+1) el es a n 1 vs) fun r=>∃ a',r.1=.sl a' (n+1) ∧ aN r.2 el es a' (n+1) (cs++vs) ∧ dE (SA.bk a) σ r.2 ∧ ∀ b∈SA.bk a',σ.next ≤ b ∧ b<r.2.next:=by
  have bS:=ho.lt
  generalize dP:(σ.bump 2).put σ.next (.cells true el vs)=aJ
  have n1:aJ.next=σ.next+2:=by rw [← dP];rfl
  have b1:∀ b,b<σ.next → aJ.ai b=σ.ai b:=fun b hb=>by rw [← dP,bu (by omega)];rfl
  clear dP
  have Xk:aN aJ el es a n cs:=ho.of (by omega) fun b hb=>b1 b (bS b hb)
  refine (nW (nid:=σ.next+1) Xk (fun hm=>by have:=bS _ hm;omega) (by omega) (show vs.length=1*es by omega)).mono fun r ⟨a',g1,g2,g3,g4,g5⟩=>⟨a',g1,g2,⟨by omega,fun b hb hm=>(g4 b (by omega) hm).trans (b1 b hb)⟩,fun b hb=>by have:=g5 b hb;omega⟩
def agx (r:FV × Nat × Nat) (v:AV):Prop:=∃ f,v=.aS [f,.i .i64 (r.2.1:Int),.i .i64 (r.2.2:Int)] ∧ r.1.At f
theorem W1:HS.At (.agg [.sl .nil 0,.sl .nil 0,.sl .nil 0]):=⟨.nil,.nil,.nil,rfl,⟨fun _=>rfl,[],nh.nil _,.nil⟩,bF.mk (nh.nil _),bF.mk (nh.nil _)⟩
theorem agy {k c:Nat}:agx (HS,k,c) (.aS [.agg [.sl .nil 0,.sl .nil 0,.sl .nil 0],.i .i64 (k:Int),.i .i64 (c:Int)]):=⟨_,rfl,W1⟩
theorem W2 {σ:AH O} {k c:Int}:FZ 8 σ.ai [] (.aS [.agg [.sl .nil 0,.sl .nil 0,.sl .nil 0],.i .i64 k,.i .i64 c]) (.aS [.agg [.sl .nil 0,.sl .nil 0,.sl .nil 0],.i .i64 k,.i .i64 c]):=by
  have:=re.cons (FZ.agg (re.flat (H:=σ.ai) (d:=5) (vs:=[.sl .nil 0,.sl .nil 0,.sl .nil 0]) rfl)) (re.flat (H:=σ.ai) (d:=6) (vs:=[.i .i64 k,.i .i64 c]) rfl) (by simp)
  exact FZ.aS this
theorem agz {σ:AH O} {el:TypeId} {N:List NV} {a b c:SA} {R W:List Int} {vs:List AV} {k m:Int} (own:aN σ el 7 a N.length vs) (im:ng (N.flatMap NV.row) vs) (hb:bF .i64 b R) (hc:bF .i64 c W):
    ∃ f,FZ 8 σ.ai (SA.bk a) (.aS [.agg [.sl a N.length,.sl b R.length,.sl c W.length],.i .i64 k,.i .i64 m]) (.aS [f,.i .i64 k,.i .i64 m]) ∧ (⟨N,R,W⟩:FV).At f:=by
  obtain ⟨d,f1,f2⟩:=FZ.sl (d:=4) (L:=[]) own (fun _ _=>rfl) (re.flat im.flat) rfl (by simp)
  rw [List.append_nil] at f1
  have fb:=hb.imm.flat
  have fc:=hc.imm.flat
  have h1:=re.cons f1 (re.flat (H:=σ.ai) (d:=5) (vs:=[.sl b R.length,.sl c W.length]) (by simp only [List.all_cons,List.all_nil,fb,fc];rfl)) (by simp)
  have h2:=re.cons (FZ.agg h1) (re.flat (H:=σ.ai) (d:=6) (vs:=[.i .i64 k,.i .i64 m]) rfl) (by simp)
  have h3:=FZ.aS h2
  rw [List.append_nil,List.append_nil] at h3
  exact ⟨_,h3,d,b,c,rfl,⟨fun _=>rfl,_,f2,im⟩,hb,hc⟩
theorem W3 {x:NV} {c d:SA} (hc:bF .i64 c x.P) (hd:bF .u64 d x.R):ng x.row (x.cells c d):=NV.mk_ hc hd
theorem agA {σ h:AH O} {r3:AV × AH O} {B0 Bf M:Nat} (hB0:h.next=B0) (Yz:r3.2.next=Bf) (bS:B0<Bf) {A:SA} {L:List Bs} (hA:Gg A L) (hf:∀ s∈L,s.length ≤ M) (hM:M ≤ 90000) (hn:L.length ≤ 1000000)
    (b0:σ.ai B0=some (.cells true 25 [.sl .nil 0,.sl .nil 0,.sl .nil 0])) (bf:σ.ai Bf=some (.cells true 25 [.sl .nil 0,.sl .nil 0,.sl .nil 0])) (nf:Bf<σ.next):
    Ok (aQ (S:=List AV × AH O) (T:=(List AV × AH O) ⊕ (AV × AH O)) (Cd (A,L.length) cx strings_Split dB h r3) ([.i .i64 0],σ)) fun r=>match r with
      |.inl q=>∃ (k:Nat) (N:List NV) (a:SA) (vs:List AV),De 0 [] L=.inl (N,k,L.drop k) ∧ k ≤ L.length ∧ N.length ≤ k ∧ (∀ x∈N,x.P.length ≤ M ∧ x.R.length ≤ M) ∧ q.1=[.i .i64 (k:Int)] ∧ q.2.ai Bf=some (.cells true 25 [.sl a N.length,.sl .nil 0,.sl .nil 0]) ∧ aN q.2 50 7 a N.length vs ∧ ng (N.flatMap NV.row) vs ∧ (∀ b∈SA.bk a,Bf<b) ∧ xY Bf σ q.2
      |.inr q=>∃ m:Nat,De 0 [] L=.inr m ∧ q.1=.aS [.agg [.sl .nil 0,.sl .nil 0,.sl .nil 0],.i .i64 (m:Int),.i .i64 61] ∧ xY B0 σ q.2:=by
  refine Ok.count (L.length+1) (fun k s=>∃ (N:List NV) (a:SA) (vs:List AV) (aj:AH O),k ≤ L.length ∧ De 0 [] L=De k N (L.drop k) ∧ N.length ≤ k ∧ (∀ x∈N,x.P.length ≤ M ∧ x.R.length ≤ M) ∧ s=([.i .i64 (k:Int)],aj) ∧ aj.ai Bf=some (.cells true 25 [.sl a N.length,.sl .nil 0,.sl .nil 0]) ∧ aN aj 50 7 a N.length vs ∧ ng (N.flatMap NV.row) vs ∧ (∀ b∈SA.bk a,Bf<b) ∧ xY Bf σ aj) ?_ ?_ ⟨[],.nil,[],σ,Nat.zero_le _,rfl,Nat.le_refl _,by simp,rfl,bf,aN.nil _ _ _,.nil,by simp [SA.bk],xY.refl _ _⟩
  · rintro k _ hk ⟨N,a,vs,aj,hkl,hgo,hNk,hNx,rfl,c1,own,im,fr,LW⟩
    have t1:(true == true)=true:=rfl
    have t2:(false == true)=false:=rfl
    have n1:=LW.next
    have c0:aj.ai B0=some (.cells true 25 [.sl .nil 0,.sl .nil 0,.sl .nil 0]):=by rw [LW.ai _ bS];exact b0
    refine Ok.to (x:=(k:Int)) rfl ?_
    refine Ok.step (Q:=fun r=>∃ b,r=([.b b],aj) ∧ (b=true ↔ ∃ l,L[k]? = some l ∧ zB l=true)) ?_ ?_
    · by_cases hkn:k<L.length
      · have dk:decide ((k:Int)<(L.length:Int))=true:=decide_eq_true (by omega)
        have hx:L[k]? = some L[k]:=List.getElem?_eq_getElem hkn
        generalize L[k]=l at*
        obtain ⟨bb,oo,r1,ld⟩:=gQ hA hx
        have ld:=ld O aj
        refine Ok.cT (by rw [dk];rfl) ?_
        refine Ok.cT (by rw [dk,decide_eq_true (show (0:Int) ≤ (k:Int) by omega)];rfl) ?_
        refine Ok.to (x:=(bb,oo)) r1 ?_
        refine Ok.to (x:=.s l) (by rw [Int.toNat_natCast,Nat.mul_one];exact ld) (Ok.to (x:=l) rfl ?_)
        refine Ok.step ajd ?_
        rintro _ rfl
        refine U.2 ⟨_,rfl,?_⟩
        rw [hx]
        simp only [Option.some.injEq,decide_eq_true_eq]
        exact ⟨fun h=>⟨l,rfl,decide_eq_true h⟩,fun ⟨_,e,h⟩=>by subst e;exact of_decide_eq_true h⟩
      · have dk:decide ((k:Int)<(L.length:Int))=false:=decide_eq_false (by omega)
        refine Ok.cF (by rw [dk];rfl) (U.2 ⟨false,rfl,?_⟩)
        rw [List.getElem?_eq_none (by omega)];simp
    · rintro _ ⟨b,rfl,hb⟩
      refine Ok.to (x:=b) rfl ?_
      cases b with
      |false=>
        refine Ok.cF rfl (U.2 ⟨k,N,a,vs,?_,hkl,hNk,hNx,rfl,c1,own,im,fr,LW⟩)
        rw [hgo]
        cases hd:L.drop k with
        |nil=>rfl
        |cons l ls=>
          have hx:L[k]? = some l:=by have:=congrArg List.head? hd;rwa [List.head?_drop] at this
          have hnb:zB l=false:=by
            cases e:zB l with
            |false=>rfl
            |true=>cases hb.2 ⟨l,hx,e⟩
          simp only [De,hnb];rfl
      |true=>
        obtain ⟨l,hx,hbl⟩:=hb.1 rfl
        have hkn:k<L.length:=(List.getElem?_eq_some_iff.1 hx).1
        have agB:De 0 [] L=match kZ (dK 32 l) with |none=>.inr (k+1) |some x=>De (k+1) (N++[x]) (L.drop (k+1)):=by
          have:L.drop k=l::L.drop (k+1):=by
            rw [List.drop_eq_getElem_cons hkn]
            rw [List.getElem?_eq_getElem hkn] at hx
            rw [Option.some.inj hx]
          rw [hgo,this]
          simp only [De,hbl,if_true];rfl
        have hl:=hf l (List.mem_of_getElem? hx)
        obtain ⟨bb,oo,r1,ld⟩:=gQ hA hx
        have ld:=ld O (aj.bump 1)
        have dk:decide ((k:Int)<(L.length:Int))=true:=decide_eq_true (by omega)
        refine Ok.cT rfl ?_
        refine Ok.cT (by rw [dk,decide_eq_true (show (0:Int) ≤ (k:Int) by omega)];rfl) ?_
        refine Ok.to (x:=(bb,oo)) r1 ?_
        refine Ok.to (x:=.s l) (by rw [Int.toNat_natCast,Nat.mul_one];exact ld) (Ok.to (x:=l) rfl ?_)
        refine Ok.step (Ju (c:=32) (by omega)) ?_
        rintro _ ⟨a',rfl,ha'⟩
        refine Ok.to (x:=(a',(dK 32 l).length)) rfl ?_
        have Jy:=yz 32 l
        refine Ok.step (SB ha' (fun v hv=>X7 (c:=32) (w:=v) (show l.length ≤ 1000000 by omega) hv) (by omega)) ?_
        rintro ⟨v,cE⟩ ⟨v1,E3⟩
        simp only at v1 E3
        have n3:aj.next+1 ≤ cE.next:=by simpa using E3.next
        have q3:∀ b,b<aj.next → cE.ai b=aj.ai b:=fun b hb=>E3.ai b (by simp;omega)
        cases hR:kZ (dK 32 l) with
        |none=>
          rw [hR] at v1 agB
          have v1:v=_:=v1
          subst v1
          have c3:∀ y,(cE.put aj.next y).ai B0=some (.cells true 25 [.sl .nil 0,.sl .nil 0,.sl .nil 0]):=fun y=>by rw [bu (by omega),q3 _ (by omega)];exact c0
          have e1:IntKind.i64.wrap ((k:Int)+1)=((k+1:Nat):Int):=by rw [bJ (by omega) (by omega)];omega
          simp -implicitDefEqProofs only [hB0,Bool.not_false,c3,e1,Nat.reduceAdd,Nat.reduceMul,Nat.reduceLT,Int.reduceToNat,Int.reduceAdd,Int.reduceSub,Int.reduceMul,aB,ak,ao,au,aw,ax,ay,az,ah,Nat.reduceLeDiff,decide_true,decide_false]
          refine U.2 ⟨k+1,agB,rfl,⟨by show σ.next ≤ cE.next;omega,fun b hb=>?_⟩⟩
          show ((cE.put aj.next _).put B0 _).ai b=_
          rw [bu (by omega),bu (by omega),q3 _ (by omega),LW.ai _ (by omega)]
        |some x=>
          rw [hR] at v1 agB
          obtain ⟨cc,dd,rfl,ic,id⟩:=v1
          have anG:=UW hR
          have hlen:(cr x).length=4+x.P.length+(x.R.length+1):=by simp [cr];omega
          rw [anG.1] at hlen
          refine Ok.to (x:=[.agg (x.cells cc dd),.b true]) rfl ?_
          refine Ok.to (x:=x.cells cc dd) rfl ?_
          refine Ok.to (x:=x.h.p) rfl ?_
          refine Ok.to (x:=x.h.r) rfl ?_
          refine Ok.to (x:=x.h.site) rfl ?_
          refine Ok.to (x:=x.h.pR) rfl ?_
          refine Ok.to (x:=x.h.bW) rfl ?_
          refine Ok.to (x:=(cc,x.P.length)) rfl ?_
          refine Ok.to (x:=(dd,x.R.length)) rfl ?_
          refine Ok.to (x:=true) rfl ?_
          generalize N5:cE.put aj.next (.cells true 50 [.i .i64 x.h.p,.i .i64 x.h.r,.i .i64 x.h.site,.i .i64 x.h.pR,.b x.h.bW,.sl cc x.P.length,.sl dd x.R.length])=ky
          have lP:(cE.put aj.next (.cells true 50 [.i .i64 0,.i .i64 0,.i .i64 0,.i .i64 0,.b false,.sl .nil 0,.sl .nil 0])).st (.n aj.next) 0 [.i .i64 x.h.p,.i .i64 x.h.r,.i .i64 x.h.site,.i .i64 x.h.pR,.b x.h.bW,.sl cc x.P.length,.sl dd x.R.length]=some ky:=by
            rw [← N5]
            simp -implicitDefEqProofs only [Nat.reduceAdd,Nat.reduceMul,Nat.reduceLT,Int.reduceToNat,Int.reduceAdd,Int.reduceSub,Int.reduceMul,aB,ak,ao,au,aw,ax,ay,az,ah,Nat.reduceLeDiff,decide_true,decide_false]
          refine Ok.to (x:=ky) lP ?_
          have d4:ky.ai aj.next=some (.cells true 50 [.i .i64 x.h.p,.i .i64 x.h.r,.i .i64 x.h.site,.i .i64 x.h.pR,.b x.h.bW,.sl cc x.P.length,.sl dd x.R.length]):=by rw [← N5];exact cH
          have q4:∀ b,b<aj.next → ky.ai b=aj.ai b:=fun b hb=>by rw [← N5,bu (by omega)];exact q3 b hb
          have n4:ky.next=cE.next:=by rw [← N5];rfl
          have c4:ky.ai Bf=some (.cells true 25 [.sl a N.length,.sl .nil 0,.sl .nil 0]):=by rw [q4 _ (by omega)];exact c1
          refine Ok.cF rfl ?_
          refine Ok.to (x:=.sl a N.length) (by simp -implicitDefEqProofs only [Yz,c4,Nat.reduceAdd,Nat.reduceMul,Nat.reduceLT,Int.reduceToNat,Int.reduceAdd,Int.reduceSub,Int.reduceMul,aB,ak,ao,au,aw,ax,ay,az,ah,Nat.reduceLeDiff,decide_true,decide_false]) (Ok.to (x:=(a,N.length)) rfl ?_)
          refine Ok.to (x:=.i .i64 x.h.p) (by simp -implicitDefEqProofs only [d4,Nat.reduceAdd,Nat.reduceMul,Nat.reduceLT,Int.reduceToNat,Int.reduceAdd,Int.reduceSub,Int.reduceMul,aB,ak,ao,au,aw,ax,ay,az,ah,Nat.reduceLeDiff,decide_true,decide_false]) (Ok.to (x:=x.h.p) rfl ?_)
          refine Ok.to (x:=.i .i64 x.h.r) (by simp -implicitDefEqProofs only [d4,Nat.reduceAdd,Nat.reduceMul,Nat.reduceLT,Int.reduceToNat,Int.reduceAdd,Int.reduceSub,Int.reduceMul,aB,ak,ao,au,aw,ax,ay,az,ah,Nat.reduceLeDiff,decide_true,decide_false]) (Ok.to (x:=x.h.r) rfl ?_)
          refine Ok.to (x:=.i .i64 x.h.site) (by simp -implicitDefEqProofs only [d4,Nat.reduceAdd,Nat.reduceMul,Nat.reduceLT,Int.reduceToNat,Int.reduceAdd,Int.reduceSub,Int.reduceMul,aB,ak,ao,au,aw,ax,ay,az,ah,Nat.reduceLeDiff,decide_true,decide_false]) (Ok.to (x:=x.h.site) rfl ?_)
          refine Ok.to (x:=.i .i64 x.h.pR) (by simp -implicitDefEqProofs only [d4,Nat.reduceAdd,Nat.reduceMul,Nat.reduceLT,Int.reduceToNat,Int.reduceAdd,Int.reduceSub,Int.reduceMul,aB,ak,ao,au,aw,ax,ay,az,ah,Nat.reduceLeDiff,decide_true,decide_false]) (Ok.to (x:=x.h.pR) rfl ?_)
          refine Ok.to (x:=.b x.h.bW) (by simp -implicitDefEqProofs only [d4,Nat.reduceAdd,Nat.reduceMul,Nat.reduceLT,Int.reduceToNat,Int.reduceAdd,Int.reduceSub,Int.reduceMul,aB,ak,ao,au,aw,ax,ay,az,ah,Nat.reduceLeDiff,decide_true,decide_false]) (Ok.to (x:=x.h.bW) rfl ?_)
          refine Ok.to (x:=.sl cc x.P.length) (by simp -implicitDefEqProofs only [d4,Nat.reduceAdd,Nat.reduceMul,Nat.reduceLT,Int.reduceToNat,Int.reduceAdd,Int.reduceSub,Int.reduceMul,aB,ak,ao,au,aw,ax,ay,az,ah,Nat.reduceLeDiff,decide_true,decide_false]) (Ok.to (x:=(cc,x.P.length)) rfl ?_)
          refine Ok.to (x:=.sl dd x.R.length) (by simp -implicitDefEqProofs only [d4,Nat.reduceAdd,Nat.reduceMul,Nat.reduceLT,Int.reduceToNat,Int.reduceAdd,Int.reduceSub,Int.reduceMul,aB,ak,ao,au,aw,ax,ay,az,ah,Nat.reduceLeDiff,decide_true,decide_false]) (Ok.to (x:=(dd,x.R.length)) rfl ?_)
          refine Ok.to (x:=[.i .i64 x.h.p,.i .i64 x.h.r,.i .i64 x.h.site,.i .i64 x.h.pR,.b x.h.bW,.sl cc x.P.length,.sl dd x.R.length]) (ajp rfl) ?_
          refine Ok.cT (Nat.ble_eq_true_of_le (show (N.length+1)*89 ≤ _ by omega)) ?_
          have ahT:=own.lt
          have Wu:aN ky 50 7 a N.length vs:=own.of (by omega) fun b hb=>q4 b (ahT b hb)
          refine Ok.step (anD Wu rfl) ?_
          rintro ⟨v,Dv⟩ ⟨a2,v1,g2,g3,g4⟩
          simp only at v1 g2 g3 g4
          subst v1
          refine Ok.to (x:=(a2,N.length+1)) rfl ?_
          have n5:=g3.next
          have c5:Dv.ai Bf=some (.cells true 25 [.sl a N.length,.sl .nil 0,.sl .nil 0]):=by rw [g3.ai _ (by omega) (fun hm=>by have:=fr _ hm;omega)];exact c4
          refine Ok.to (x:=Dv.put Bf (.cells true 25 [.sl a2 (N.length+1),.sl .nil 0,.sl .nil 0])) (by simp -implicitDefEqProofs only [Yz,c5,Nat.reduceAdd,Nat.reduceMul,Nat.reduceLT,Int.reduceToNat,Int.reduceAdd,Int.reduceSub,Int.reduceMul,aB,ak,ao,au,aw,ax,ay,az,ah,Nat.reduceLeDiff,decide_true,decide_false]) ?_
          have e1:IntKind.i64.wrap ((k:Int)+1)=((k+1:Nat):Int):=by rw [bJ (by omega) (by omega)];omega
          have ln:(N++[x]).length=N.length+1:=by simp
          refine U.2 ⟨N++[x],a2,vs++[.i .i64 x.h.p,.i .i64 x.h.r,.i .i64 x.h.site,.i .i64 x.h.pR,.b x.h.bW,.sl cc x.P.length,.sl dd x.R.length],_,hkn,agB,by omega,?_,by rw [e1],by rw [ln];exact cH,?_,?_,fun b hb=>by have:=g4 b hb;omega,LW.trans ⟨by show aj.next ≤ Dv.next;omega,fun b hb=>?_⟩⟩
          · intro y hy
            rcases List.mem_append.1 hy with hy |hy
            · exact hNx y hy
            · rw [List.mem_singleton.1 hy];omega
          · rw [ln]
            exact g2.of (Nat.le_refl _) fun b hb=>by have:=g4 b hb;exact bu (by omega)
          · rw [List.flatMap_append,List.flatMap_singleton]
            exact im.app (W3 ic id)
          · rw [bu (by omega),g3.ai _ (by omega) (fun hm=>by have:=fr _ hm;omega),q4 _ (by omega)]
  · rintro _ ⟨N,a,vs,aj,hkl,_⟩
    omega
end Go.Abs.Tryz
namespace Go.Abs.Tryz
open Go Go.Abs
variable {O:Type}
theorem gk.own {σ:AH O} {el:TypeId} {a:SA} {N:List NV} {vs:List AV} (own:aN σ el 7 a N.length vs) (im:ng (N.flatMap NV.row) vs):gk σ a N:=by
  refine ⟨⟨vs,own.rd,fun i x hx=>?_⟩,own.lt⟩
  obtain ⟨c,d,h3,_,h5⟩:=MB im hx
  exact ⟨c,d,h3,h5⟩
theorem ajr {σ h:AH O} {r3:AV × AH O} {r64:List AV × AH O} {B0 Bf Bw at':Nat} (hB0:h.next=B0) (Yz:r3.2.next=Bf) (hBw:r64.2.next=Bw) {A:SA} {L:List Bs} (hA:Gg A L) (hf:∀ s∈L,s.length ≤ 100000) (hn:L.length ≤ 1000000) (fx:at' ≤ L.length)
    {x0 x1 x2:AV} (b0:σ.ai B0=some (.cells true 25 [.sl .nil 0,.sl .nil 0,.sl .nil 0])) (bf:σ.ai Bf=some (.cells true 25 [x0,x1,x2])) (bw:σ.ai Bw=some (.cells true 9 [.s fV,.s lH])) (h1:B0<Bf) (h2:Bf<Bw) (h3:Bw<σ.next):
    Ok (mn r64 (A,L.length) h bM r3 ([.i .i64 (at':Int),.i .i64 0],σ)) fun r=>match (L[at']?).bind (gg fV) with
      |none=>∃ aP,r=.inr (.inr (.aS [.agg [.sl .nil 0,.sl .nil 0,.sl .nil 0],.i .i64 ((at'+1:Nat):Int),.i .i64 61],aP)) ∧ xY B0 σ aP
      |some l=>∃ e aP,r=.inl ([.i .i64 ((at'+1:Nat):Int),.i .i64 1],aP) ∧ bF .i64 e l ∧ dE [Bf] σ aP ∧ aP.ai Bf=some (.cells true 25 [x0,.sl e l.length,x2]):=by
  have e1:IntKind.i64.wrap ((at':Int)+1)=((at'+1:Nat):Int):=by rw [bJ (by omega) (by omega)];omega
  refine Ok.to (x:=(at':Int)) rfl ?_
  refine Ok.to (x:=0) rfl ?_
  refine Ok.cT rfl ?_
  refine Ok.cT rfl ?_
  refine Ok.to (x:=.s fV) (by simp -implicitDefEqProofs only [hBw,Nat.reduceAdd,Nat.reduceMul,Nat.reduceLT,Int.reduceToNat,Int.reduceAdd,Int.reduceSub,Int.reduceMul,aB,ak,ao,au,aw,ax,ay,az,ah,Nat.reduceLeDiff,decide_true,decide_false];simp only [AH.ld,bw];rfl) ?_
  refine Ok.to (x:=fV) rfl ?_
  by_cases hk:at'<L.length
  · have dk:decide ((at':Int) ≥ (L.length:Int))=false:=decide_eq_false (by omega)
    have dk':decide ((at':Int)<(L.length:Int))=true:=decide_eq_true (by omega)
    have hx:L[at']? = some L[at']:=List.getElem?_eq_getElem hk
    have hl:=hf _ (List.getElem_mem hk)
    generalize L[at']=s at*
    rw [hx]
    obtain ⟨bb,oo,r1,ld⟩:=gQ hA hx
    have ld:=ld O σ
    refine Ok.cF dk ?_
    refine Ok.cT (by rw [dk',decide_eq_true (show (0:Int) ≤ (at':Int) by omega)];rfl) ?_
    refine Ok.to (x:=(bb,oo)) r1 ?_
    refine Ok.to (x:=.s s) (by rw [Int.toNat_natCast,Nat.mul_one];exact ld) (Ok.to (x:=s) rfl ?_)
    refine Ok.step (U5 (w:=fV) (by omega)) ?_
    rintro ⟨v,aP⟩ ⟨v1,E⟩
    simp only at v1 E
    show Ok _ fun r=>match gg fV s with |none=>_ |some l=>_
    have n2:=E.next
    cases hR:gg fV s with
    |none=>
      rw [hR] at v1
      subst v1
      have c0:aP.ai B0=some (.cells true 25 [.sl .nil 0,.sl .nil 0,.sl .nil 0]):=by rw [E.ai _ (by omega)];exact b0
      simp -implicitDefEqProofs only [hB0,Bool.not_false,c0,e1,Nat.reduceAdd,Nat.reduceMul,Nat.reduceLT,Int.reduceToNat,Int.reduceAdd,Int.reduceSub,Int.reduceMul,aB,ak,ao,au,aw,ax,ay,az,ah,Nat.reduceLeDiff,decide_true,decide_false]
      exact U.2 ⟨_,rfl,n2,fun b hb=>by rw [bu (by omega),E.ai _ (by omega)]⟩
    |some l=>
      rw [hR] at v1
      obtain ⟨e,rfl,he⟩:=v1
      have c1:aP.ai Bf=some (.cells true 25 [x0,x1,x2]):=by rw [E.ai _ (by omega)];exact bf
      refine Ok.to (x:=[.sl e l.length,.b true]) rfl ?_
      refine Ok.to (x:=(e,l.length)) rfl ?_
      refine Ok.to (x:=true) rfl ?_
      refine Ok.cF rfl ?_
      refine Ok.step (Q:=fun r=>r=([],aP.put Bf (.cells true 25 [x0,.sl e l.length,x2]))) ?_ ?_
      · refine Ok.cT rfl ?_
        refine Ok.to (x:=aP.put Bf (.cells true 25 [x0,.sl e l.length,x2])) (by simp -implicitDefEqProofs only [Yz,c1,Nat.reduceAdd,Nat.reduceMul,Nat.reduceLT,Int.reduceToNat,Int.reduceAdd,Int.reduceSub,Int.reduceMul,aB,ak,ao,au,aw,ax,ay,az,ah,Nat.reduceLeDiff,decide_true,decide_false]) ?_
        exact U.2 rfl
      · rintro _ rfl
        exact U.2 ⟨e,aP.put Bf (.cells true 25 [x0,.sl e l.length,x2]),by rw [e1];rfl,he,⟨n2,fun b hb jL=>by rw [bu (by simpa using jL),E.ai _ hb]⟩,cH⟩
  · have dk:decide ((at':Int) ≥ (L.length:Int))=true:=decide_eq_true (by omega)
    rw [List.getElem?_eq_none (by omega)]
    refine Ok.cT dk ?_
    simp -implicitDefEqProofs only [hB0,b0,e1,Nat.reduceAdd,Nat.reduceMul,Nat.reduceLT,Int.reduceToNat,Int.reduceAdd,Int.reduceSub,Int.reduceMul,aB,ak,ao,au,aw,ax,ay,az,ah,Nat.reduceLeDiff,decide_true,decide_false]
    exact U.2 ⟨_,rfl,Nat.le_refl _,fun b hb=>bu (by omega)⟩
theorem ajs {σ h:AH O} {r3:AV × AH O} {r64:List AV × AH O} {B0 Bf Bw at':Nat} (hB0:h.next=B0) (Yz:r3.2.next=Bf) (hBw:r64.2.next=Bw) {A:SA} {L:List Bs} (hA:Gg A L) (hf:∀ s∈L,s.length ≤ 100000) (hn:L.length ≤ 1000000) (fx:at' ≤ L.length)
    {x0 x1 x2:AV} (b0:σ.ai B0=some (.cells true 25 [.sl .nil 0,.sl .nil 0,.sl .nil 0])) (bf:σ.ai Bf=some (.cells true 25 [x0,x1,x2])) (bw:σ.ai Bw=some (.cells true 9 [.s fV,.s lH])) (h1:B0<Bf) (h2:Bf<Bw) (h3:Bw<σ.next):
    Ok (mn r64 (A,L.length) h bM r3 ([.i .i64 (at':Int),.i .i64 1],σ)) fun r=>match (L[at']?).bind (gg lH) with
      |none=>∃ aP,r=.inr (.inr (.aS [.agg [.sl .nil 0,.sl .nil 0,.sl .nil 0],.i .i64 ((at'+1:Nat):Int),.i .i64 61],aP)) ∧ xY B0 σ aP
      |some l=>∃ e aP,r=.inl ([.i .i64 ((at'+1:Nat):Int),.i .i64 2],aP) ∧ bF .i64 e l ∧ dE [Bf] σ aP ∧ aP.ai Bf=some (.cells true 25 [x0,x1,.sl e l.length]):=by
  have e1:IntKind.i64.wrap ((at':Int)+1)=((at'+1:Nat):Int):=by rw [bJ (by omega) (by omega)];omega
  refine Ok.to (x:=(at':Int)) rfl ?_
  refine Ok.to (x:=1) rfl ?_
  refine Ok.cT rfl ?_
  refine Ok.cT rfl ?_
  refine Ok.to (x:=.s lH) (by simp -implicitDefEqProofs only [hBw,Nat.reduceAdd,Nat.reduceMul,Nat.reduceLT,Int.reduceToNat,Int.reduceAdd,Int.reduceSub,Int.reduceMul,aB,ak,ao,au,aw,ax,ay,az,ah,Nat.reduceLeDiff,decide_true,decide_false];simp only [AH.ld,bw];rfl) ?_
  refine Ok.to (x:=lH) rfl ?_
  by_cases hk:at'<L.length
  · have dk:decide ((at':Int) ≥ (L.length:Int))=false:=decide_eq_false (by omega)
    have dk':decide ((at':Int)<(L.length:Int))=true:=decide_eq_true (by omega)
    have hx:L[at']? = some L[at']:=List.getElem?_eq_getElem hk
    have hl:=hf _ (List.getElem_mem hk)
    generalize L[at']=s at*
    rw [hx]
    obtain ⟨bb,oo,r1,ld⟩:=gQ hA hx
    have ld:=ld O σ
    refine Ok.cF dk ?_
    refine Ok.cT (by rw [dk',decide_eq_true (show (0:Int) ≤ (at':Int) by omega)];rfl) ?_
    refine Ok.to (x:=(bb,oo)) r1 ?_
    refine Ok.to (x:=.s s) (by rw [Int.toNat_natCast,Nat.mul_one];exact ld) (Ok.to (x:=s) rfl ?_)
    refine Ok.step (U5 (w:=lH) (by omega)) ?_
    rintro ⟨v,aP⟩ ⟨v1,E⟩
    simp only at v1 E
    show Ok _ fun r=>match gg lH s with |none=>_ |some l=>_
    have n2:=E.next
    cases hR:gg lH s with
    |none=>
      rw [hR] at v1
      subst v1
      have c0:aP.ai B0=some (.cells true 25 [.sl .nil 0,.sl .nil 0,.sl .nil 0]):=by rw [E.ai _ (by omega)];exact b0
      simp -implicitDefEqProofs only [hB0,Bool.not_false,c0,e1,Nat.reduceAdd,Nat.reduceMul,Nat.reduceLT,Int.reduceToNat,Int.reduceAdd,Int.reduceSub,Int.reduceMul,aB,ak,ao,au,aw,ax,ay,az,ah,Nat.reduceLeDiff,decide_true,decide_false]
      exact U.2 ⟨_,rfl,n2,fun b hb=>by rw [bu (by omega),E.ai _ (by omega)]⟩
    |some l=>
      rw [hR] at v1
      obtain ⟨e,rfl,he⟩:=v1
      have c1:aP.ai Bf=some (.cells true 25 [x0,x1,x2]):=by rw [E.ai _ (by omega)];exact bf
      refine Ok.to (x:=[.sl e l.length,.b true]) rfl ?_
      refine Ok.to (x:=(e,l.length)) rfl ?_
      refine Ok.to (x:=true) rfl ?_
      refine Ok.cF rfl ?_
      refine Ok.step (Q:=fun r=>r=([],aP.put Bf (.cells true 25 [x0,x1,.sl e l.length]))) ?_ ?_
      · refine Ok.cF rfl ?_
        refine Ok.to (x:=aP.put Bf (.cells true 25 [x0,x1,.sl e l.length])) (by simp -implicitDefEqProofs only [Yz,c1,Nat.reduceAdd,Nat.reduceMul,Nat.reduceLT,Int.reduceToNat,Int.reduceAdd,Int.reduceSub,Int.reduceMul,aB,ak,ao,au,aw,ax,ay,az,ah,Nat.reduceLeDiff,decide_true,decide_false]) ?_
        exact U.2 rfl
      · rintro _ rfl
        exact U.2 ⟨e,aP.put Bf (.cells true 25 [x0,x1,.sl e l.length]),by rw [e1];rfl,he,⟨n2,fun b hb jL=>by rw [bu (by simpa using jL),E.ai _ hb]⟩,cH⟩
  · have dk:decide ((at':Int) ≥ (L.length:Int))=true:=decide_eq_true (by omega)
    rw [List.getElem?_eq_none (by omega)]
    refine Ok.cT dk ?_
    simp -implicitDefEqProofs only [hB0,b0,e1,Nat.reduceAdd,Nat.reduceMul,Nat.reduceLT,Int.reduceToNat,Int.reduceAdd,Int.reduceSub,Int.reduceMul,aB,ak,ao,au,aw,ax,ay,az,ah,Nat.reduceLeDiff,decide_true,decide_false]
    exact U.2 ⟨_,rfl,Nat.le_refl _,fun b hb=>bu (by omega)⟩
theorem ajt {σ:AH O} {h:AH O} {r3:AV × AH O} {r64:List AV × AH O} {A:SA} {n:Nat} {a:Int}:
    Ok (mn r64 (A,n) h bM r3 ([.i .i64 a,.i .i64 2],σ)) fun r=>r=.inr (.inl ([.i .i64 a],σ)):=by
  refine Ok.to (x:=a) rfl ?_
  refine Ok.to (x:=2) rfl ?_
  exact Ok.cF rfl (U.2 rfl)
theorem aju {c:UInt8} {s w:Bs} (h:w∈dK c s):w.length ≤ s.length:=by
  have h1:∀ (ws:List Bs),∀ w∈ws,w.length ≤ (bL c ws).length:=fun ws=>by
    induction ws with
    |nil=>intro w hw;cases hw
    |cons x ws ih=>
      intro w hw
      cases ws with
      |nil=>
       rcases List.mem_cons.1 hw with rfl |hw
       · simp [bL]
       · cases hw
      |cons y ws=>
        rw [ti c x (by simp),List.length_append,List.length_cons]
        rcases List.mem_cons.1 hw with rfl |hw
        · omega
        · have:=ih w hw;omega
  have:=h1 _ w h
  rw [HQ] at this;omega
theorem Jw {α:Type} {L:List α} {k:Nat} {l:α} (h:L[k]? = some l):L.drop k=l::L.drop (k+1):=by
  have hk:=(List.getElem?_eq_some_iff.1 h).1
  rw [List.drop_eq_getElem_cons hk]
  rw [List.getElem?_eq_getElem hk] at h
  rw [Option.some.inj h]
theorem ZW {σ:AH O} {t:Bs} (ht:t.length ≤ 90000):Ok (lu [.s t] σ) fun r=>agx (oL t) r.1 ∧ Ext σ r.2:=by
  unfold lu
  refine yp (s:=j7 strings_Split cx dB bM bq) (Q:=agx (oL t)) ?_
  have fin:∀ {k c:Nat} {r:AV × AH O},oL t=(HS,k,c) → r.1=.aS [.agg [.sl .nil 0,.sl .nil 0,.sl .nil 0],.i .i64 (k:Int),.i .i64 (c:Int)] → Ext σ r.2 → ∃ v' L,FZ 8 r.2.ai L r.1 v' ∧ (∀ b∈L,σ.next ≤ b) ∧ Ext σ r.2 ∧ agx (oL t) v':=fun {k c r} hp h E=>⟨r.1,[],by rw [h];exact W2,by simp,E,by rw [hp,h];exact agy⟩
  unfold j7
  refine Ok.cT rfl ?_
  refine Ok.to (x:=t) rfl ?_
  refine Ok.step (Ju (c:=10) (by omega)) ?_
  rintro _ ⟨A,rfl,hA⟩
  have hf:=fun v hv=>aju (c:=10) (w:=v) (s:=t) hv
  have hn:(dK 10 t).length ≤ 1000000:=by have:=yz 10 t;omega
  have hP:oL t=match De 0 [] (dK 10 t) with |.inr k=>(HS,k,61) |.inl (N,k,ls)=>wc N k ls:=rfl
  have YE:(dK 10 t).length ≤ 90001:=by have:=yz 10 t;omega
  generalize dK 10 t=L at*
  have VD:∀ s∈L,s.length ≤ 90000:=fun s hs=>Nat.le_trans (hf s hs) ht
  refine Ok.to (x:=(A,L.length)) rfl ?_
  have E1:Ext σ ((σ.bump 1).put σ.next (.cells true 25 [.sl .nil 0,.sl .nil 0,.sl .nil 0])):=((Ext.refl σ).bump 1).put (Nat.le_refl _) _
  have b1:((σ.bump 1).put σ.next (.cells true 25 [.sl .nil 0,.sl .nil 0,.sl .nil 0])).ai σ.next=some (.cells true 25 [.sl .nil 0,.sl .nil 0,.sl .nil 0]):=cH
  have n1:((σ.bump 1).put σ.next (.cells true 25 [.sl .nil 0,.sl .nil 0,.sl .nil 0])).next=σ.next+1:=rfl
  generalize (σ.bump 1).put σ.next (.cells true 25 [.sl .nil 0,.sl .nil 0,.sl .nil 0])=aJ at*
  have b2:((aJ.bump 1).put aJ.next (.cells true 25 [.sl .nil 0,.sl .nil 0,.sl .nil 0])).ai σ.next=some (.cells true 25 [.sl .nil 0,.sl .nil 0,.sl .nil 0]):=by rw [bu (by omega)];exact b1
  have L2:xY aJ.next aJ ((aJ.bump 1).put aJ.next (.cells true 25 [.sl .nil 0,.sl .nil 0,.sl .nil 0])):=⟨by simp,fun k hk=>by rw [bu (Nat.ne_of_lt hk)];rfl⟩
  refine Ok.bK (agA (r3:=(.sl A L.length,aJ)) (h:=σ) (B0:=σ.next) (Bf:=aJ.next) rfl rfl (show σ.next<aJ.next by omega) hA VD (Nat.le_refl _) hn b2 cH (by simp)) (fun q hq=>?_) (fun r hr=>?_)
  · obtain ⟨k,N,a,vs,hgo,hk,hNk,hNx,q1,c1,own,im,fr,LW⟩:=hq
    obtain ⟨q,cE⟩:=q
    simp only at q1 c1 own LW
    subst q1
    have hP:oL t=wc N k (L.drop k):=by rw [hP,hgo]
    have L13:xY aJ.next aJ cE:=L2.trans LW
    have n3:=L13.next
    have b3:cE.ai σ.next=some (.cells true 25 [.sl .nil 0,.sl .nil 0,.sl .nil 0]):=by rw [L13.ai _ (by omega)];exact b1
    have n3':aJ.next<cE.next:=Nat.lt_of_lt_of_le (show aJ.next<_ by simp) LW.next
    refine Ok.to (x:=(k:Int)) rfl ?_
    show Ok (bK _ _) _
    generalize N5:((([AV.i .i64 (k:Int)],cE):List AV × AH O).snd.bump 1).put (([AV.i .i64 (k:Int)],cE):List AV × AH O).snd.next (.cells true 9 [.s [114,111,111,116,115],.s [119,101,97,107]])=ky
    have N5:(cE.bump 1).put cE.next (.cells true 9 [.s [114,111,111,116,115],.s [119,101,97,107]])=ky:=N5
    have bw:ky.ai cE.next=some (.cells true 9 [.s fV,.s lH]):=by rw [← N5];exact cH
    have q4:∀ b,b<cE.next → ky.ai b=cE.ai b:=fun b hb=>by rw [← N5,bu (by omega)];rfl
    have n4:ky.next=cE.next+1:=by rw [← N5];rfl
    have b4:ky.ai σ.next=some (.cells true 25 [.sl .nil 0,.sl .nil 0,.sl .nil 0]):=by rw [q4 _ (by omega)];exact b3
    have c4:ky.ai aJ.next=some (.cells true 25 [.sl a N.length,.sl .nil 0,.sl .nil 0]):=by rw [q4 _ (by omega)];exact c1
    have L14:xY aJ.next aJ ky:=⟨by omega,fun b hb=>(q4 b (by omega)).trans (L13.ai b hb)⟩
    have Wu:aN ky 50 7 a N.length vs:=own.of (by omega) fun b hb=>q4 b (own.lt b hb)
    clear N5
    have toE:∀ {aj:AH O},xY σ.next aJ aj → Ext σ aj:=fun {aj} h=>⟨by have:=h.next;omega,fun b hb=>(h.ai b hb).trans (E1.ai b hb)⟩
    have L04:xY σ.next aJ ky:=⟨L14.next,fun b hb=>L14.ai b (by omega)⟩
    refine Ok.bK (Q:=fun r=>match r with
        |.inl q=>∃ r w b c,wc N k (L.drop k)=UO N k r w (L.drop (k+2)) ∧ q.1=[.i .i64 ((k+2:Nat):Int)] ∧ bF .i64 b r ∧ bF .i64 c w ∧ k+2 ≤ L.length ∧ q.2.ai aJ.next=some (.cells true 25 [.sl a N.length,.sl b r.length,.sl c w.length]) ∧ dE [aJ.next] ky q.2 ∧ (∀ n∈r,Kf n) ∧ (∀ n∈w,Kf n) ∧ r.length ≤ 90000 ∧ w.length ≤ 90000
        |.inr q=>∃ m,wc N k (L.drop k)=(HS,m,61) ∧ q.1=.aS [.agg [.sl .nil 0,.sl .nil 0,.sl .nil 0],.i .i64 (m:Int),.i .i64 61] ∧ xY σ.next ky q.2) ?_ (fun q hq=>?_) (fun r hr=>?_)
    · refine Ok.acA ?_
      refine Ok.mono (ajr (h:=σ) (r3:=(.sl A L.length,aJ)) (r64:=([.i .i64 (k:Int)],cE)) (B0:=σ.next) (Bf:=aJ.next) (Bw:=cE.next) rfl rfl rfl hA (fun s hs=>Nat.le_trans (VD s hs) (by omega)) hn hk b4 c4 bw (by omega) n3' (by omega)) ?_
      intro r hr
      cases hl:L[k]? with
      |none=>
        rw [hl] at hr
        obtain ⟨Dv,rfl,L5⟩:=hr
        refine ⟨k+1,?_,rfl,L5⟩
        rw [List.drop_eq_nil_of_le (List.getElem?_eq_none_iff.1 hl)];rfl
      |some l=>
        rw [hl] at hr
        have hr:match gg fV l with |none=>_ |some l=>_:=hr
        have hd:=Jw hl
        cases hR:gg fV l with
        |none=>
          rw [hR] at hr
          obtain ⟨Dv,rfl,L5⟩:=hr
          refine ⟨k+1,?_,rfl,L5⟩
          rw [hd];simp only [wc,hR]
        |some rr=>
          rw [hR] at hr
          obtain ⟨e,Dv,rfl,he,C5,d5⟩:=hr
          have hkl:=(List.getElem?_eq_some_iff.1 hl).1
          have n5:=C5.next
          have b5:Dv.ai σ.next=some (.cells true 25 [.sl .nil 0,.sl .nil 0,.sl .nil 0]):=by rw [C5.ai _ (by omega) (by simp;omega)];exact b4
          have bw5:Dv.ai cE.next=some (.cells true 9 [.s fV,.s lH]):=by rw [C5.ai _ (by omega) (by simp;omega)];exact bw
          refine Ok.acA ?_
          refine Ok.mono (ajs (h:=σ) (r3:=(.sl A L.length,aJ)) (r64:=([.i .i64 (k:Int)],cE)) (B0:=σ.next) (Bf:=aJ.next) (Bw:=cE.next) rfl rfl rfl hA (fun s hs=>Nat.le_trans (VD s hs) (by omega)) hn (at':=k+1) hkl b5 d5 bw5 (by omega) n3' (by omega)) ?_
          intro r hr
          have L45:xY σ.next ky Dv:=⟨n5,fun b hb=>C5.ai b (by omega) (by simp;omega)⟩
          cases hm:L[k+1]? with
          |none=>
            rw [hm] at hr
            obtain ⟨PM,rfl,L6⟩:=hr
            refine ⟨k+2,?_,rfl,L45.trans L6⟩
            rw [hd,List.drop_eq_nil_of_le (List.getElem?_eq_none_iff.1 hm)];simp only [wc,hR]
          |some m=>
            rw [hm] at hr
            have hr:match gg lH m with |none=>_ |some l=>_:=hr
            have xZ:=Jw hm
            cases hW:gg lH m with
            |none=>
              rw [hW] at hr
              obtain ⟨PM,rfl,L6⟩:=hr
              refine ⟨k+2,?_,rfl,L45.trans L6⟩
              rw [hd,xZ];simp only [wc,hR,hW]
            |some ww=>
              rw [hW] at hr
              obtain ⟨e2,PM,rfl,he2,C6,d6⟩:=hr
              refine Ok.acA ?_
              refine Ok.mono ajt ?_
              rintro _ rfl
              have N6:∀ {w s:Bs} {l:List Int},gg w s=some l → s∈L → (∀ n∈l,Kf n) ∧ l.length ≤ 90000:=fun {w s l} h hs=>by
                refine ⟨(WX h).2,?_⟩
                unfold gg at h
                split at h
                · have q1:=Gh h
                  have q2:=yz 32 s
                  have q3:=VD s hs
                  rw [List.length_tail] at q1;omega
                · cases h
              have w1:=N6 hR (List.mem_of_getElem? hl)
              have w2:=N6 hW (List.mem_of_getElem? hm)
              refine ⟨rr,ww,e,e2,by rw [hd,xZ];simp only [wc,hR,hW],rfl,he,he2,(List.getElem?_eq_some_iff.1 hm).1,d6,C5.trans C6,w1.1,w2.1,w1.2,w2.2⟩
    · obtain ⟨rr,ww,e,e2,hT,q1,he,he2,Xq,d5,C5,r1,w1,rl,wl⟩:=hq
      obtain ⟨q,Dv⟩:=q
      simp only at q1 d5 C5
      subst q1
      rw [hT] at hP
      have n5:=C5.next
      have TY:aN Dv 50 7 a N.length vs:=Wu.of n5 fun b hb=>C5.ai b (Wu.lt b hb) (by have:=fr b hb;simp;omega)
      have b5:Dv.ai σ.next=some (.cells true 25 [.sl .nil 0,.sl .nil 0,.sl .nil 0]):=by rw [C5.ai _ (by omega) (by simp;omega)];exact b4
      have L45:xY σ.next ky Dv:=⟨n5,fun b hb=>C5.ai b (by omega) (by simp;omega)⟩
      have E5:Ext σ Dv:=toE (L04.trans L45)
      refine Ok.to (x:=((k+2:Nat):Int)) rfl ?_
      refine Ok.step (Q:=fun r=>∃ b,r=([.b b],Dv) ∧ (b=false ↔ L.drop (k+2)=[[]])) ?_ ?_
      · have ew:IntKind.i64.wrap ((L.length:Int) - 1)=(L.length:Int) - 1:=bJ (by omega) (by omega)
        by_cases hk3:k+3=L.length
        · have dne:(((k+2:Nat):Int) != IntKind.i64.wrap ((L.length:Int) - 1))=false:=by rw [ew];exact bne_eq_false_iff_eq.2 (by omega)
          have hx:L[k+2]? = some L[k+2]:=List.getElem?_eq_getElem (by omega)
          have hd:=Jw hx
          rw [List.drop_eq_nil_of_le (show L.length ≤ k+2+1 by omega)] at hd
          rw [hd]
          generalize L[k+2]=s at*
          obtain ⟨bb,oo,r1,ld⟩:=gQ hA hx
          have ld:=ld O Dv
          refine Ok.cT (by rw [dne];rfl) ?_
          refine Ok.cT (by rw [decide_eq_true (show (0:Int) ≤ ((k+2:Nat):Int) by omega),decide_eq_true (show ((k+2:Nat):Int)<(L.length:Int) by omega)];rfl) ?_
          refine Ok.to (x:=(bb,oo)) r1 ?_
          refine Ok.to (x:=.s s) (by rw [Int.toNat_natCast,Nat.mul_one];exact ld) (Ok.to (x:=s) rfl ?_)
          exact U.2 ⟨_,rfl,by simp⟩
        · have dne:(((k+2:Nat):Int) != IntKind.i64.wrap ((L.length:Int) - 1))=true:=by rw [ew];exact bne_iff_ne.2 (by omega)
          refine Ok.cF (by rw [dne];rfl) (U.2 ⟨true,rfl,?_⟩)
          simp only [Bool.true_eq_false,false_iff]
          intro hd
          have:=congrArg List.length hd
          simp at this;omega
      · rintro _ ⟨b,rfl,hb⟩
        refine Ok.to (x:=b) rfl ?_
        cases b with
        |true=>
          have jL:¬ L.drop (k+2)=[[]]:=fun h=>by cases hb.2 h
          have e1:IntKind.i64.wrap (((k+2:Nat):Int)+1)=((k+3:Nat):Int):=by rw [bJ (by omega) (by omega)];omega
          refine Ok.cT rfl ?_
          simp -implicitDefEqProofs only [b5,e1,Nat.reduceAdd,Nat.reduceMul,Nat.reduceLT,Int.reduceToNat,Int.reduceAdd,Int.reduceSub,Int.reduceMul,aB,ak,ao,au,aw,ax,ay,az,ah,Nat.reduceLeDiff,decide_true,decide_false]
          exact U.2 (fin (k:=k+3) (c:=61) (by rw [hP];unfold UO;rw [if_neg jL]) rfl (E5.put (Nat.le_refl _) _))
        |false=>
          have hd:=hb.1 rfl
          have hP:oL t=if ct ⟨N,rr,ww⟩=true then (⟨N,rr,ww⟩,0,0) else (HS,0,5):=by rw [hP];unfold UO;rw [if_pos hd]
          refine Ok.cF rfl ?_
          refine Ok.to (x:=.sl a N.length) (by simp -implicitDefEqProofs only [d5,Nat.reduceAdd,Nat.reduceMul,Nat.reduceLT,Int.reduceToNat,Int.reduceAdd,Int.reduceSub,Int.reduceMul,aB,ak,ao,au,aw,ax,ay,az,ah,Nat.reduceLeDiff,decide_true,decide_false]) (Ok.to (x:=(a,N.length)) rfl ?_)
          refine Ok.to (x:=.sl e rr.length) (by simp -implicitDefEqProofs only [d5,Nat.reduceAdd,Nat.reduceMul,Nat.reduceLT,Int.reduceToNat,Int.reduceAdd,Int.reduceSub,Int.reduceMul,aB,ak,ao,au,aw,ax,ay,az,ah,Nat.reduceLeDiff,decide_true,decide_false]) (Ok.to (x:=(e,rr.length)) rfl ?_)
          refine Ok.to (x:=.sl e2 ww.length) (by simp -implicitDefEqProofs only [d5,Nat.reduceAdd,Nat.reduceMul,Nat.reduceLT,Int.reduceToNat,Int.reduceAdd,Int.reduceSub,Int.reduceMul,aB,ak,ao,au,aw,ax,ay,az,ah,Nat.reduceLeDiff,decide_true,decide_false]) (Ok.to (x:=(e2,ww.length)) rfl ?_)
          have frd:FRd Dv ⟨N,rr,ww⟩ (.agg [.sl a N.length,.sl e rr.length,.sl e2 ww.length]):=⟨a,e,e2,rfl,gk.own TY im,he,he2⟩
          have Gk:(⟨N,rr,ww⟩:FV).Gk:=⟨by show N.length ≤ _;omega,fun x hx=>⟨by have:=(hNx x hx).1;omega,by have:=(hNx x hx).2;omega⟩,by show rr.length ≤ _;omega,by show ww.length ≤ _;omega⟩
          refine Ok.step (wH frd Gk) ?_
          rintro ⟨v,PM⟩ ⟨v1,E6⟩
          simp only at v1 E6
          subst v1
          refine Ok.to (x:=ct ⟨N,rr,ww⟩) rfl ?_
          have n6:=E6.next
          have b6:PM.ai σ.next=some (.cells true 25 [.sl .nil 0,.sl .nil 0,.sl .nil 0]):=by rw [E6.ai _ (by omega)];exact b5
          have d6:PM.ai aJ.next=some (.cells true 25 [.sl a N.length,.sl e rr.length,.sl e2 ww.length]):=by rw [E6.ai _ (by omega)];exact d5
          cases hR:ct ⟨N,rr,ww⟩ with
          |false=>
            rw [hR] at hP
            refine Ok.cT rfl ?_
            simp -implicitDefEqProofs only [b6,Nat.reduceAdd,Nat.reduceMul,Nat.reduceLT,Int.reduceToNat,Int.reduceAdd,Int.reduceSub,Int.reduceMul,aB,ak,ao,au,aw,ax,ay,az,ah,Nat.reduceLeDiff,decide_true,decide_false]
            exact U.2 (fin (k:=0) (c:=5) hP rfl ((E5.trans E6).put (Nat.le_refl _) _))
          |true=>
            rw [hR,if_pos rfl] at hP
            refine Ok.cF rfl ?_
            simp -implicitDefEqProofs only [b6,d6,Nat.reduceAdd,Nat.reduceMul,Nat.reduceLT,Int.reduceToNat,Int.reduceAdd,Int.reduceSub,Int.reduceMul,aB,ak,ao,au,aw,ax,ay,az,ah,Nat.reduceLeDiff,decide_true,decide_false]
            have Fm:aN (PM.put σ.next (.cells true 25 [.sl a N.length,.sl e rr.length,.sl e2 ww.length])) 50 7 a N.length vs:=TY.of n6 fun b hb=>by rw [bu (by have:=fr b hb;omega),E6.ai _ (TY.lt b hb)]
            obtain ⟨f,f1,f2⟩:=agz (k:=0) (m:=0) Fm im he he2
            exact U.2 ⟨_,_,f1,fun b hb=>by have:=fr b hb;omega,(E5.trans E6).put (Nat.le_refl _) _,by rw [hP];exact ⟨f,rfl,f2⟩⟩
    · obtain ⟨m,hT,h1,h2⟩:=hr
      exact fin (k:=m) (c:=61) (by rw [hP];exact hT) h1 (toE (L04.trans h2))
  · obtain ⟨m,hgo,h1,h2⟩:=hr
    have n1':=L2.next
    have h2:xY σ.next ((aJ.bump 1).put aJ.next (.cells true 25 [.sl .nil 0,.sl .nil 0,.sl .nil 0])) r.2:=h2
    refine fin (k:=m) (c:=61) (by rw [hP,hgo]) h1 ⟨by have:=h2.next;omega,fun b hb=>?_⟩
    rw [h2.ai b hb,L2.ai b (by omega),E1.ai b hb]
end Go.Abs.Tryz
