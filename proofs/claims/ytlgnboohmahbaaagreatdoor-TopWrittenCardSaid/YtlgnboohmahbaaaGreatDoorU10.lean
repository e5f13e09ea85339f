/-
  A node's line is read: lines.readNode. No conditions.
-/
import Derived.Test.YtlgnboohmahbaaaGreatDoorU1
set_option linter.unusedVariables false
set_option linter.unusedSimpArgs false
set_option linter.constructorNameAsVariable false
set_option linter.unusedSimpArgs false
set_option linter.unusedVariables false
set_option maxHeartbeats 2000000
namespace Go.Abs.Tryz
open Go Go.Abs
variable {O:Type}
theorem Ok.to {A B:Type} {m:Option A} {k:A → Option B} {Q:B → Prop} {x:A} (h:m=some x) (hk:Ok (k x) Q):Ok (m.bind k) Q:=by subst h;exact hk
theorem Ok.cT {A:Type} {c:Bool} {x y:Option A} {Q:A → Prop} (h:c=true) (hx:Ok x Q):Ok (bif c then x else y) Q:=by subst h;exact hx
theorem Ok.cF {A:Type} {c:Bool} {x y:Option A} {Q:A → Prop} (h:c=false) (hx:Ok y Q):Ok (bif c then x else y) Q:=by subst h;exact hx
def U6 (x:Option NV) (v:AV):Prop:=match x with
 |some x=>∃ c d,v=.aS [.agg (x.cells c d),.b true] ∧ bF .i64 c x.P ∧ bF .u64 d x.R
 |none=>v=.aS [.agg [.i .i64 0,.i .i64 0,.i .i64 0,.i .i64 0,.b false,.sl .nil 0,.sl .nil 0],.b false]
theorem U6.fz {σ:AH O} {x:Option NV} {v:AV} (h:U6 x v):FZ 8 σ.ai [] v v:=by
 have t1:∀ {vs:List AV} {b:Bool},vs.all AV.flat=true → FZ 8 σ.ai [] (.aS [.agg vs,.b b]) (.aS [.agg vs,.b b]):=fun {vs b} h=>by
  have:=re.cons (FZ.agg (re.flat (H:=σ.ai) (d:=5) (vs:=vs) h)) (re.flat (H:=σ.ai) (d:=6) (vs:=[.b b]) rfl) (by simp)
  exact FZ.aS this
 cases x with
 |some x=>
  obtain ⟨c,d,rfl,hc,hd⟩:=h
  have f1:=hc.imm.flat
  have f2:=hd.imm.flat
  refine t1 ?_
  simp only [NV.cells,List.all_cons,List.all_nil,f1,f2];rfl
 |none=>
  have h:v=_:=h
  subst h
  exact t1 rfl
theorem Gh:∀ {ws:List Bs} {l:List Int},db ws=some l → l.length=ws.length
 |[],l,h=>by cases h;rfl
 |w::ws,l,h=>by
  rw [db] at h
  split at h
  ·cases hr:db ws with
   |none=>rw [hr] at h;cases h
   |some m=>rw [hr] at h;cases h;simp [Gh hr]
  ·cases h
theorem U7 {a:SA} {w:List Bs} (h:Gg a w) {lo hi:Nat} (h1:lo ≤ hi) (h2:hi ≤ w.length):∃ a',a.DD lo 1=some a' ∧ Gg a' ((w.take hi).drop lo) ∧ ((w.take hi).drop lo).length=hi - lo:=by
 obtain ⟨a',q1,q2⟩:=h.DD (lo:=lo) (m:=hi - lo) (by omega)
 have e:((w.take hi).drop lo).length=hi - lo:=by rw [List.length_drop,List.length_take];omega
 refine ⟨a',q1,?_,e⟩
 rw [Nat.mul_one,Nat.mul_one,← List.map_drop,← List.map_take,← List.drop_take] at q2
 show nh 1 a' _ _
 rw [e];exact q2
theorem HU {k:IntKind} {a:SA} {l:List Int} (h:bF k a l) {i:Nat} {x:Int} (hx:l[i]? = some x):∃ b o,SA.ref a=some (b,o) ∧ ∀ (O:Type) (σ:AH O),σ.ld b (o+i)=some (.i k x):=by
 obtain ⟨b,o,rfl,h2⟩:=h.at hx
 exact ⟨b,o,rfl,h2⟩
theorem ZU {k:IntKind} {a:SA} {l:List Int} (h:bF k a l) {lo:Nat} (h1:lo ≤ l.length):∃ a',a.DD lo 1=some a' ∧ bF k a' (l.drop lo):=by
 obtain ⟨a',q1,q2⟩:=h.imm.DD (lo:=lo) (m:=l.length - lo) (by omega)
 refine ⟨a',q1,bF.mk ?_⟩
 rw [Nat.mul_one,Nat.mul_one,← List.map_drop,List.take_of_length_le (by simp)] at q2
 rw [List.length_drop];exact q2
theorem SB {σ:AH O} {a:SA} {w:List Bs} (ha:Gg a w) (hf:∀ s∈w,s.length ≤ 1000000) (hn:w.length ≤ 1000000):
  Ok (dB [.sl a w.length] σ) fun r=>U6 (kZ w) r.1 ∧ Ext σ r.2:=by
 unfold dB
 refine yp (s:=fQ fP kR) (Q:=U6 (kZ w)) ?_
 refine Ok.mono (Q:=fun r=>U6 (kZ w) r.1 ∧ Ext σ r.2) ?_ fun r h=>⟨r.1,[],h.1.fz,by simp,h.2,h.1⟩
 have hno:¬ Dd w → kZ w=none:=fun h=>by unfold kZ;rw [if_neg h]
 unfold fQ
 refine Ok.cT rfl ?_
 refine Ok.to (x:=(a,w.length)) rfl ?_
 refine Ok.step (ZT ha (Nat.le_succ_of_le hn)) ?_
 rintro _ rfl
 generalize hm:(if bN w<w.length then (bN w:Int) else -1)=m
 generalize HW:(σ.bump 1).put σ.next _=aP
 have b2:aP.ai σ.next=some (.cells true 50 [.i .i64 0,.i .i64 0,.i .i64 0,.i .i64 0,.b false,.sl .nil 0,.sl .nil 0]):=by rw [← HW];exact cH
 have E2:Ext σ aP:=by rw [← HW];exact ((Ext.refl σ).bump 1).put (Nat.le_refl _) _
 have n2:aP.next=σ.next+1:=by rw [← HW];rfl
 clear HW
 have t1:(true == true)=true:=rfl
 have t2:(false == true)=false:=rfl
 have t3:(true == false)=false:=rfl
 have t4:(false == false)=true:=rfl
 have t5:(true && true)=true:=rfl
 refine Ok.to (x:=m) rfl ?_
 have hw0:4 ≤ m → m=(bN w:Int) ∧ bN w<w.length:=fun h4=>by split at hm<;>omega
 refine Ok.step (Q:=fun r=>∃ b,r=([.b b],aP) ∧ (b=false ↔ (4 ≤ m ∧ w[0]? = some Dc))) ?_ ?_
 ·by_cases h4:m<4
  ·have d4:decide (m<4)=true:=decide_eq_true h4
   simp -implicitDefEqProofs only [d4,t1,t2,t3,t4,Nat.reduceAdd,Nat.reduceMul,Nat.reduceLT,Int.reduceToNat,Int.reduceAdd,Int.reduceSub,Int.reduceMul,aB,ak,ao,au,aw,ax,ay,az,ah,Nat.reduceLeDiff,decide_true,decide_false]
   exact U.2 ⟨true,rfl,by simp;omega⟩
  ·have d4:decide (m<4)=false:=decide_eq_false h4
   have Yt:=hw0 (by omega)
   obtain ⟨x0,h0⟩:∃ x,w[0]? = some x:=⟨w[0],List.getElem?_eq_getElem (by omega)⟩
   obtain ⟨b,o,r0,X8⟩:=gQ ha h0
   have X8:=X8 O aP
   rw [Nat.add_zero] at X8
   have g0:decide ((0:Int)<(w.length:Int))=true:=decide_eq_true (by omega)
   simp -implicitDefEqProofs only [d4,t4,g0,r0,X8,Nat.reduceAdd,Nat.reduceMul,Nat.reduceLT,Int.reduceToNat,Int.reduceAdd,Int.reduceSub,Int.reduceMul,aB,ak,ao,au,aw,ax,ay,az,ah,Nat.reduceLeDiff,decide_true,decide_false]
   refine U.2 ⟨_,rfl,?_⟩
   rw [h0]
   simp only [Bool.not_eq_false',beq_iff_eq,Option.some.injEq,Dc]
   exact ⟨fun h=>⟨by omega,h⟩,fun h=>h.2⟩
 ·rintro _ ⟨XM,rfl,ajh⟩
  refine Ok.to (x:=XM) rfl ?_
  refine Ok.step (Q:=fun r=>∃ b,r=([.b b],aP) ∧ (b=false ↔ Dd w)) ?_ ?_
  ·cases XM with
   |true=>
    simp -implicitDefEqProofs only [t3,Nat.reduceAdd,Nat.reduceMul,Nat.reduceLT,Int.reduceToNat,Int.reduceAdd,Int.reduceSub,Int.reduceMul,aB,ak,ao,au,aw,ax,ay,az,ah,Nat.reduceLeDiff,decide_true,decide_false]
    refine U.2 ⟨true,rfl,?_⟩
    simp only [Bool.true_eq_false,false_iff] at ajh ⊢
    rintro ⟨p1,p2,p3,p4⟩
    rw [if_pos p2] at hm
    exact ajh ⟨by omega,p3⟩
   |false=>
    obtain ⟨h4,h0⟩:=ajh.1 rfl
    have Yt:=hw0 h4
    obtain ⟨x1,h1⟩:∃ x,w[1]? = some x:=⟨w[1],List.getElem?_eq_getElem (by omega)⟩
    obtain ⟨b,o,r0,X8⟩:=gQ ha h1
    have X8:=X8 O aP
    have g0:decide ((1:Int)<(w.length:Int))=true:=decide_eq_true (by omega)
    by_cases q:x1=na
    ·have q1:(x1 == ([108,97,114,103,101]:List UInt8))=true:=by rw [q];rfl
     simp -implicitDefEqProofs only [t4,t2,g0,r0,X8,q1,Bool.not_true,Nat.reduceAdd,Nat.reduceMul,Nat.reduceLT,Int.reduceToNat,Int.reduceAdd,Int.reduceSub,Int.reduceMul,aB,ak,ao,au,aw,ax,ay,az,ah,Nat.reduceLeDiff,decide_true,decide_false]
     exact U.2 ⟨false,rfl,by simp only [true_iff];exact ⟨by omega,Yt.2,h0,.inl (by rw [h1,q])⟩⟩
    ·have q1:(x1 == ([108,97,114,103,101]:List UInt8))=false:=by simpa [na] using q
     simp -implicitDefEqProofs only [t4,t1,g0,r0,X8,q1,Bool.not_false,Nat.reduceAdd,Nat.reduceMul,Nat.reduceLT,Int.reduceToNat,Int.reduceAdd,Int.reduceSub,Int.reduceMul,aB,ak,ao,au,aw,ax,ay,az,ah,Nat.reduceLeDiff,decide_true,decide_false]
     refine U.2 ⟨_,rfl,?_⟩
     simp only [Bool.not_eq_false',beq_iff_eq]
     constructor
     ·intro h;exact ⟨by omega,Yt.2,h0,.inr (by rw [h1,h];rfl)⟩
     ·rintro ⟨_,_,_,h |h⟩
      ·rw [h1] at h;exact absurd (Option.some.inj h) q
      ·rw [h1] at h;exact Option.some.inj h
  ·rintro _ ⟨b27,rfl,anx⟩
   refine Ok.to (x:=b27) rfl ?_
   cases b27 with
   |true=>
    have hN:¬ Dd w:=fun h=>by cases anx.2 h
    refine Ok.cT rfl ?_
    simp -implicitDefEqProofs only [b2,Nat.reduceAdd,Nat.reduceMul,Nat.reduceLT,Int.reduceToNat,Int.reduceAdd,Int.reduceSub,Int.reduceMul,aB,ak,ao,au,aw,ax,ay,az,ah,Nat.reduceLeDiff,decide_true,decide_false]
    exact U.2 ⟨by rw [hno hN];rfl,E2.put (Nat.le_refl _) _⟩
   |false=>
    have hN:Dd w:=anx.1 rfl
    have hL:kZ w=match db ((w.take (bN w)).drop 2),fu (w.drop (bN w+1)) with
      |some n,some r=>some (mkN (decide (w[1]? = some na)) n r)
      |_,_=>none:=by unfold kZ;rw [if_pos hN];rfl
    obtain ⟨k4,kn,k0,k1⟩:=hN
    rw [if_pos kn] at hm
    refine Ok.cF rfl ?_
    generalize bN w=k at*
    have c1:(decide ((2:Int) ≤ m) && decide (m ≤ (w.length:Int)))=true:=by rw [decide_eq_true (by omega),decide_eq_true (by omega)];rfl
    refine Ok.cT c1 ?_
    obtain ⟨a1,r1,s1,l1⟩:=U7 ha (lo:=2) (hi:=k) (by omega) (by omega)
    refine Ok.to (x:=a1) r1 ?_
    have H1:=X6 (σ:=aP) s1 (fun v hv=>Nat.le_trans (hf v (List.mem_of_mem_take (List.mem_of_mem_drop hv))) (by omega)) (by omega)
    have e1:((w.take k).drop 2).length=m.toNat - 2:=by omega
    generalize aji:(w.take k).drop 2=ws1 at*
    rw [e1] at H1
    refine Ok.step H1 ?_
    rintro ⟨v,cE⟩ ⟨q1,E3⟩
    simp only at q1 E3
    obtain ⟨A1,n1,k1',rfl,hk1,ar6⟩:∃ A n k,v=.aS [.sl A n,.b k] ∧ (k=true → ∃ l,db ws1=some l ∧ n=l.length ∧ bF .i64 A l) ∧ (k=false → db ws1=none):=by
     cases hR:db ws1 with
     |some l=>
      rw [hR] at q1
      obtain ⟨a',rfl,h2⟩:=q1
      exact ⟨_,_,_,rfl,fun _=>⟨l,rfl,rfl,h2⟩,fun h=>Bool.noConfusion h⟩
     |none=>
      rw [hR] at q1
      exact ⟨_,_,_,q1,fun h=>Bool.noConfusion h,fun _=>rfl⟩
    refine Ok.to (x:=[.sl A1 n1,.b k1']) rfl ?_
    refine Ok.to (x:=(A1,n1)) rfl ?_
    refine Ok.to (x:=k1') rfl ?_
    have ew:IntKind.i64.wrap (m+1)=m+1:=bJ (by omega) (by omega)
    refine Ok.cT (by rw [ew,decide_eq_true (show (0:Int) ≤ m+1 by omega),decide_eq_true (show m+1 ≤ (w.length:Int) by omega),decide_eq_true (Int.le_refl _)];rfl) ?_
    obtain ⟨a2,r2,s2,l2⟩:=U7 ha (lo:=k+1) (hi:=w.length) (by omega) (by omega)
    rw [List.take_length] at s2 l2
    have ek:(IntKind.i64.wrap (m+1)).toNat=k+1:=by omega
    refine Ok.to (x:=a2) (by rw [ek];exact r2) ?_
    have H2:=acs (σ:=cE) s2 (fun v hv=>Nat.le_trans (hf v (List.mem_of_mem_drop hv)) (by omega)) (by omega)
    have e2:(w.drop (k+1)).length=((w.length:Int)).toNat - (IntKind.i64.wrap (m+1)).toNat:=by rw [ek,Int.toNat_natCast];omega
    generalize ayV:w.drop (k+1)=ws2 at*
    rw [e2] at H2
    refine Ok.step H2 ?_
    rintro ⟨v,ky⟩ ⟨q2,E4⟩
    simp only at q2 E4
    obtain ⟨A2,n2',k2',rfl,Xq,ar7⟩:∃ A n k,v=.aS [.sl A n,.b k] ∧ (k=true → ∃ l,fu ws2=some l ∧ n=l.length ∧ bF .u64 A l) ∧ (k=false → fu ws2=none):=by
     cases hR:fu ws2 with
     |some l=>
      rw [hR] at q2
      obtain ⟨a',rfl,h2⟩:=q2
      exact ⟨_,_,_,rfl,fun _=>⟨l,rfl,rfl,h2⟩,fun h=>Bool.noConfusion h⟩
     |none=>
      rw [hR] at q2
      exact ⟨_,_,_,q2,fun h=>Bool.noConfusion h,fun _=>rfl⟩
    refine Ok.to (x:=[.sl A2 n2',.b k2']) rfl ?_
    refine Ok.to (x:=(A2,n2')) rfl ?_
    refine Ok.to (x:=k2') rfl ?_
    have b4:ky.ai σ.next=some (.cells true 50 [.i .i64 0,.i .i64 0,.i .i64 0,.i .i64 0,.b false,.sl .nil 0,.sl .nil 0]):=by rw [E4.ai _ (by have:=E3.next;omega),E3.ai _ (by omega)];exact b2
    have n4:σ.next+1 ≤ ky.next:=by have:=E3.next;have:=E4.next;omega
    have EE:Ext σ ky:=(E2.trans E3).trans E4
    clear H1 H2 E3 E4 E2 b2 n2
    refine Ok.step (Q:=fun r=>r=([.b (!(k1' && k2'))],ky)) (by cases k1'<;>cases k2'<;>exact U.2 rfl) ?_
    rintro _ rfl
    refine Ok.to (x := !(k1' && k2')) rfl ?_
    cases hkk:(k1' && k2') with
    |false=>
     refine Ok.cT rfl ?_
     simp -implicitDefEqProofs only [b4,Nat.reduceAdd,Nat.reduceMul,Nat.reduceLT,Int.reduceToNat,Int.reduceAdd,Int.reduceSub,Int.reduceMul,aB,ak,ao,au,aw,ax,ay,az,ah,Nat.reduceLeDiff,decide_true,decide_false]
     refine U.2 ⟨?_,EE.put (Nat.le_refl _) _⟩
     have hnn:kZ w=none:=by
      rw [hL]
      cases k1' with
      |false=>rw [ar6 rfl]
      |true=>rw [ar7 (by simpa using hkk)];cases db ws1<;>rfl
     rw [hnn];rfl
    |true=>
     rw [Bool.and_eq_true] at hkk
     obtain ⟨l,g1,rfl,g2⟩:=hk1 hkk.1
     obtain ⟨r,g3,rfl,g4⟩:=Xq hkk.2
     refine Ok.cF rfl ?_
     have l1:=Gh g1
     have hl:l.length=k - 2:=by omega
     obtain ⟨A3,v1,v2⟩:=ZU g2 (lo:=2) (by omega)
     obtain ⟨y0,h0⟩:∃ y,l[0]? = some y:=⟨l[0],List.getElem?_eq_getElem (by omega)⟩
     obtain ⟨y1,h1⟩:∃ y,l[1]? = some y:=⟨l[1],List.getElem?_eq_getElem (by omega)⟩
     obtain ⟨b,o,r0,X8⟩:=HU g2 h0
     obtain ⟨b',o',r0',ld1⟩:=HU g2 h1
     rw [r0] at r0'
     obtain ⟨rfl,rfl⟩:=Prod.mk.inj (Option.some.inj r0')
     obtain ⟨x1,QT⟩:∃ x,w[1]? = some x:=⟨w[1],List.getElem?_eq_getElem (by omega)⟩
     obtain ⟨b2,o2,r3,ld2⟩:=gQ ha QT
     have X8:=fun σ=>X8 O σ
     have ld1:=fun σ=>ld1 O σ
     have ld2:=fun σ=>ld2 O σ
     simp only [Nat.add_zero] at X8
     have d1:(decide ((2:Int) ≤ (l.length:Int)) && decide ((l.length:Int) ≤ (l.length:Int)))=true:=by rw [decide_eq_true (by omega),decide_eq_true (by omega)];rfl
     refine Ok.cT d1 ?_
     refine Ok.to (x:=A3) v1 ?_
     have d2:decide ((0:Int)<(l.length:Int))=true:=decide_eq_true (by omega)
     have d3:decide ((1:Int)<(l.length:Int))=true:=decide_eq_true (by omega)
     have d4:decide ((1:Int)<(w.length:Int))=true:=decide_eq_true (by omega)
     have ne:ky.next≠σ.next:=by omega
     have ne':σ.next≠ky.next:=by omega
     generalize hnl:l.length=n at*
     have bb:∀ x,((ky.bump 1).put ky.next x).ai σ.next=some (.cells true 50 [.i .i64 0,.i .i64 0,.i .i64 0,.i .i64 0,.b false,.sl .nil 0,.sl .nil 0]):=fun x=>by rw [bu ne'];exact b4
     simp -implicitDefEqProofs only [d2,d3,d4,r0,r3,X8,ld1,ld2,bb,Nat.reduceAdd,Nat.reduceMul,Nat.reduceLT,Int.reduceToNat,Int.reduceAdd,Int.reduceSub,Int.reduceMul,aB,ak,ao,au,aw,ax,ay,az,ah,Nat.reduceLeDiff,decide_true,decide_false]
     refine U.2 ⟨?_,((EE.bump 1).put (by omega) _).put (Nat.le_refl _) _⟩
     rw [hL,g1,g3]
     refine ⟨A3,A2,?_,v2,g4⟩
     have e0:l.getD 0 0=y0:=by simp [List.getD,h0]
     have e1:l.getD 1 0=y1:=by simp [List.getD,h1]
     have e5:decide (w[1]? = some na)=(x1 == ([108,97,114,103,101]:List UInt8)):=by
      rw [QT]
      by_cases h:x1=na
      ·rw [h];rfl
      ·rw [decide_eq_false (fun q=>h (Option.some.inj q))]
       exact (by simpa [na] using h:(x1 == ([108,97,114,103,101]:List UInt8))=false).symm
     simp only [mkN,NV.cells,e0,e1,e5,List.length_drop]
     rw [hnl]
end Go.Abs.Tryz
namespace Go.Abs.Tryz
open Go Go.Abs
variable {O:Type}
theorem acx {σ aJ:AH O} {el:TypeId} {a:SA} {n:Nat} {cs:List AV} {v:AV} (ho:aN σ el 1 a n cs) (E:Ext (σ.bump 2) aJ):
  Ok ((aJ.put σ.next (.cells true el [v])).bP (σ.next+1) el 1 a n 1 [v]) fun r=>∃ a',r.1=.sl a' (n+1) ∧ aN r.2 el 1 a' (n+1) (cs++[v]) ∧ dE (SA.bk a) σ r.2 ∧ ∀ b∈SA.bk a',σ.next ≤ b ∧ b<r.2.next:=by
 have bS:=ho.lt
 have n0:σ.next+2 ≤ aJ.next:=by simpa using E.next
 generalize dP:aJ.put σ.next (.cells true el [v])=aP
 have n1:aP.next=aJ.next:=by rw [← dP];rfl
 have b1:∀ b,b<σ.next → aP.ai b=σ.ai b:=fun b hb=>by rw [← dP,bu (by omega),E.ai b (by simp;omega)];rfl
 clear dP
 have Xk:aN aP el 1 a n cs:=ho.of (by omega) fun b hb=>b1 b (bS b hb)
 refine (nW (nid:=σ.next+1) Xk (fun hm=>by have:=bS _ hm;omega) (by omega) (show ([v]:List AV).length=1*1 from rfl)).mono fun r ⟨a',g1,g2,g3,g4,g5⟩=>⟨a',g1,g2,⟨by omega,fun b hb hm=>(g4 b (by omega) hm).trans (b1 b hb)⟩,fun b hb=>by have:=g5 b hb;omega⟩
theorem anA {σ:AH O} {x:Int} (h:U64 x):Ok (oh [.i .u64 x] σ) fun r=>r.1=.s (En x) ∧ Ext σ r.2:=by
 obtain ⟨h0,h1⟩:=h
 have:=agr (σ:=σ) (w:=x.toNat) (by omega)
 rwa [Int.toNat_of_nonneg h0] at this
theorem jf:∀ k w,(Gb k w).length=k
 |0,_=>rfl
 |k+1,w=>by rw [Gb,List.length_append,jf k];rfl
theorem acy {x:Int}:(En x).length ≤ 21:=by unfold En HP;rw [jf];omega
theorem ags {gJ σ:AH O} {c a:SA} {l:List Int} {Ki:List Bs} (hc:bF .i64 c l) (hr:∀ n∈l,Kf n) (hl:l.length ≤ 1200) (hw:Ki.length ≤ 100000) (own:aN σ 9 1 a Ki.length (Ki.map AV.s)) (E0:Ext gJ σ) (fr:∀ b∈SA.bk a,gJ.next ≤ b):
  Ok (aQ (S:=List AV × AH O) (T:=List AV × AH O) (oG (c,l.length) lr) ([.sl a Ki.length,.i .i64 0],σ)) fun r=>∃ a',r.1=[.sl a' (Ki++l.map cw).length] ∧ aN r.2 9 1 a' (Ki++l.map cw).length ((Ki++l.map cw).map AV.s) ∧ Ext gJ r.2 ∧ ∀ b∈SA.bk a',gJ.next ≤ b:=by
 refine Ok.count l.length (fun k s=>∃ ws a' aj,ws=Ki++(l.take k).map cw ∧ s=([.sl a' ws.length,.i .i64 (k:Int)],aj) ∧ aN aj 9 1 a' ws.length (ws.map AV.s) ∧ Ext gJ aj ∧ (∀ b∈SA.bk a',gJ.next ≤ b)) ?_ ?_ ⟨Ki,a,σ,by simp,rfl,own,E0,fr⟩
 ·rintro k _ hk ⟨ws,a',aj,Zm,rfl,own,E,fr⟩
  have hx:l[k]? = some l[k]:=List.getElem?_eq_getElem hk
  have hm:=hr _ (List.getElem_mem hk)
  have htk:l.take (k+1)=l.take k++[l[k]]:=by rw [List.take_add_one,hx];rfl
  generalize l[k]=x at*
  obtain ⟨bb,oo,r1,ld⟩:=HU hc hx
  have ld:=fun σ=>ld O σ
  have dk:decide ((k:Int)<(l.length:Int))=true:=decide_eq_true (by omega)
  have d0:decide ((0:Int) ≤ (k:Int))=true:=decide_eq_true (by omega)
  have t3:(true && true)=true:=rfl
  have k1:k*1=k:=Nat.mul_one k
  have e1:IntKind.i64.wrap ((k:Int)+1)=((k+1:Nat):Int):=by rw [bJ (by omega) (by omega)];omega
  have hwl:ws.length=Ki.length+k:=by rw [Zm];simp [List.length_take];omega
  have bl:Nat.ble ((ws.length+1)*17) 35184372088832=true:=Nat.ble_eq_true_of_le (by omega)
  have bl':decide ((ws.length+1)*17 ≤ 35184372088832)=true:=decide_eq_true (by omega)
  generalize hn:ws.length=n at*
  simp -implicitDefEqProofs only [oG,dk,d0,t3,r1,Int.toNat_natCast,k1,ld,Nat.reduceAdd,Nat.reduceMul,Nat.reduceLT,Int.reduceToNat,Int.reduceAdd,Int.reduceSub,Int.reduceMul,aB,ak,ao,au,aw,ax,ay,az,ah,Nat.reduceLeDiff,decide_true,decide_false]
  refine Ok.step (HT hm) ?_
  rintro ⟨v,aJ⟩ ⟨v1,E1⟩
  simp only at v1 E1
  subst v1
  simp -implicitDefEqProofs only [Nat.reduceAdd,Nat.reduceMul,Nat.reduceLT,Int.reduceToNat,Int.reduceAdd,Int.reduceSub,Int.reduceMul,aB,ak,ao,au,aw,ax,ay,az,ah,Nat.reduceLeDiff,decide_true,decide_false]
  simp -implicitDefEqProofs only [Jt,bl,bl',Nat.reduceAdd,Nat.reduceMul,Nat.reduceLT,Int.reduceToNat,Int.reduceAdd,Int.reduceSub,Int.reduceMul,aB,ak,ao,au,aw,ax,ay,az,ah,Nat.reduceLeDiff,decide_true,decide_false]
  refine Ok.step (acx own E1) ?_
  rintro ⟨v,aP⟩ ⟨a2,g1,g2,g3,g4⟩
  simp only at g1 g2 g3 g4
  subst g1
  simp -implicitDefEqProofs only [e1,Nat.reduceAdd,Nat.reduceMul,Nat.reduceLT,Int.reduceToNat,Int.reduceAdd,Int.reduceSub,Int.reduceMul,aB,ak,ao,au,aw,ax,ay,az,ah,Nat.reduceLeDiff,decide_true,decide_false]
  exact U.2 ⟨ws++[cw x],a2,aP,by rw [htk,Zm];simp,by simp [hn],by simpa [hn] using g2,dE.new E fr g3,fun b hb=>by have:=g4 b hb;have:=E.next;omega⟩
 ·rintro _ ⟨ws,a',aj,Zm,rfl,own,E,fr⟩
  have dk:decide ((l.length:Int)<(l.length:Int))=false:=decide_eq_false (by omega)
  simp -implicitDefEqProofs only [oG,dk,Nat.reduceAdd,Nat.reduceMul,Nat.reduceLT,Int.reduceToNat,Int.reduceAdd,Int.reduceSub,Int.reduceMul,aB,ak,ao,au,aw,ax,ay,az,ah,Nat.reduceLeDiff,decide_true,decide_false]
  rw [List.take_length] at Zm
  subst Zm
  exact U.2 ⟨a',rfl,own,E,fr⟩
theorem agt {gJ σ:AH O} {c a:SA} {l:List Int} {Ki:List Bs} (hc:bF .u64 c l) (hr:∀ n∈l,U64 n) (hl:l.length ≤ 1200) (hw:Ki.length ≤ 100000) (own:aN σ 9 1 a Ki.length (Ki.map AV.s)) (E0:Ext gJ σ) (fr:∀ b∈SA.bk a,gJ.next ≤ b):
  Ok (aQ (S:=List AV × AH O) (T:=List AV × AH O) (oF (c,l.length) oh) ([.sl a Ki.length,.i .i64 0],σ)) fun r=>∃ a',r.1=[.sl a' (Ki++l.map En).length] ∧ aN r.2 9 1 a' (Ki++l.map En).length ((Ki++l.map En).map AV.s) ∧ Ext gJ r.2 ∧ ∀ b∈SA.bk a',gJ.next ≤ b:=by
 refine Ok.count l.length (fun k s=>∃ ws a' aj,ws=Ki++(l.take k).map En ∧ s=([.sl a' ws.length,.i .i64 (k:Int)],aj) ∧ aN aj 9 1 a' ws.length (ws.map AV.s) ∧ Ext gJ aj ∧ (∀ b∈SA.bk a',gJ.next ≤ b)) ?_ ?_ ⟨Ki,a,σ,by simp,rfl,own,E0,fr⟩
 ·rintro k _ hk ⟨ws,a',aj,Zm,rfl,own,E,fr⟩
  have hx:l[k]? = some l[k]:=List.getElem?_eq_getElem hk
  have hm:=hr _ (List.getElem_mem hk)
  have htk:l.take (k+1)=l.take k++[l[k]]:=by rw [List.take_add_one,hx];rfl
  generalize l[k]=x at*
  obtain ⟨bb,oo,r1,ld⟩:=HU hc hx
  have ld:=fun σ=>ld O σ
  have dk:decide ((k:Int)<(l.length:Int))=true:=decide_eq_true (by omega)
  have d0:decide ((0:Int) ≤ (k:Int))=true:=decide_eq_true (by omega)
  have t3:(true && true)=true:=rfl
  have k1:k*1=k:=Nat.mul_one k
  have e1:IntKind.i64.wrap ((k:Int)+1)=((k+1:Nat):Int):=by rw [bJ (by omega) (by omega)];omega
  have hwl:ws.length=Ki.length+k:=by rw [Zm];simp [List.length_take];omega
  have bl:Nat.ble ((ws.length+1)*17) 35184372088832=true:=Nat.ble_eq_true_of_le (by omega)
  have bl':decide ((ws.length+1)*17 ≤ 35184372088832)=true:=decide_eq_true (by omega)
  generalize hn:ws.length=n at*
  simp -implicitDefEqProofs only [oF,dk,d0,t3,r1,Int.toNat_natCast,k1,ld,Nat.reduceAdd,Nat.reduceMul,Nat.reduceLT,Int.reduceToNat,Int.reduceAdd,Int.reduceSub,Int.reduceMul,aB,ak,ao,au,aw,ax,ay,az,ah,Nat.reduceLeDiff,decide_true,decide_false]
  refine Ok.step (anA hm) ?_
  rintro ⟨v,aJ⟩ ⟨v1,E1⟩
  simp only at v1 E1
  subst v1
  simp -implicitDefEqProofs only [Nat.reduceAdd,Nat.reduceMul,Nat.reduceLT,Int.reduceToNat,Int.reduceAdd,Int.reduceSub,Int.reduceMul,aB,ak,ao,au,aw,ax,ay,az,ah,Nat.reduceLeDiff,decide_true,decide_false]
  simp -implicitDefEqProofs only [Jt,bl,bl',Nat.reduceAdd,Nat.reduceMul,Nat.reduceLT,Int.reduceToNat,Int.reduceAdd,Int.reduceSub,Int.reduceMul,aB,ak,ao,au,aw,ax,ay,az,ah,Nat.reduceLeDiff,decide_true,decide_false]
  refine Ok.step (acx own E1) ?_
  rintro ⟨v,aP⟩ ⟨a2,g1,g2,g3,g4⟩
  simp only at g1 g2 g3 g4
  subst g1
  simp -implicitDefEqProofs only [e1,Nat.reduceAdd,Nat.reduceMul,Nat.reduceLT,Int.reduceToNat,Int.reduceAdd,Int.reduceSub,Int.reduceMul,aB,ak,ao,au,aw,ax,ay,az,ah,Nat.reduceLeDiff,decide_true,decide_false]
  exact U.2 ⟨ws++[En x],a2,aP,by rw [htk,Zm];simp,by simp [hn],by simpa [hn] using g2,dE.new E fr g3,fun b hb=>by have:=g4 b hb;have:=E.next;omega⟩
 ·rintro _ ⟨ws,a',aj,Zm,rfl,own,E,fr⟩
  have dk:decide ((l.length:Int)<(l.length:Int))=false:=decide_eq_false (by omega)
  simp -implicitDefEqProofs only [oF,dk,Nat.reduceAdd,Nat.reduceMul,Nat.reduceLT,Int.reduceToNat,Int.reduceAdd,Int.reduceSub,Int.reduceMul,aB,ak,ao,au,aw,ax,ay,az,ah,Nat.reduceLeDiff,decide_true,decide_false]
  rw [List.take_length] at Zm
  subst Zm
  exact U.2 ⟨a',rfl,own,E,fr⟩
end Go.Abs.Tryz
namespace Go.Abs.Tryz
open Go Go.Abs
variable {O:Type}
theorem Jv (c:UInt8):∀ (w:Bs) (ws:List Bs),bL c (w::ws)=w++ws.flatMap (c :: ·)
 |w,[]=>by simp [bL]
 |w,v::ws=>by rw [ti c w (by simp),Jv c v ws];simp
theorem DB (c:UInt8) {m:Nat}:∀ {ws:List Bs},(∀ w∈ws,w.length ≤ m) → (bL c ws).length ≤ ws.length*(m+1)
 |[],_=>by simp [bL]
 |w::ws,h=>by
  rw [Jv,List.length_append]
  have h1:=h w (by simp)
  have:∀ {us:List Bs},(∀ w∈us,w.length ≤ m) → (us.flatMap (c :: ·)).length ≤ us.length*(m+1):=fun {us} hu=>by
   induction us with
   |nil=>simp
   |cons u us ih=>
    have:=ih fun v hv=>hu v (List.mem_cons_of_mem _ hv)
    have:=hu u (by simp)
    simp only [List.flatMap_cons,List.length_append,List.length_cons,Nat.add_mul];omega
  have:=this fun v hv=>h v (List.mem_cons_of_mem _ hv)
  simp only [List.length_cons,Nat.add_mul];omega
theorem N0 {x:NV} (hx:x.Me):∀ w∈cr x,w.length ≤ 21:=by
 intro w hw
 unfold cr at hw
 simp only [List.mem_append,List.mem_cons,List.mem_map,List.not_mem_nil,or_false] at hw
 rcases hw with (((rfl |rfl |rfl |rfl) |⟨n,hn,rfl⟩) |(rfl |⟨n,hn,rfl⟩))
 ·decide
 ·cases x.h.bW<;>decide
 ·exact xW hx.s
 ·exact xW hx.g
 ·exact xW (hx.P n hn)
 ·decide
 ·exact acy
theorem Gi {x:NV} (hx:x.Me) (hp:x.P.length ≤ 1200) (hr:x.R.length ≤ 1200):(eH x).length ≤ 60000:=by
 have:=DB 32 (N0 hx)
 have e:(cr x).length=4+x.P.length+(x.R.length+1):=by simp [cr];omega
 unfold eH
 rw [e] at this;omega
theorem agu {σ:AH O} {a:SA} {ws:List Bs} {c:UInt8} (own:aN σ 9 1 a ws.length (ws.map AV.s)) (h0:ws≠[]) (hl:(bL c ws).length ≤ 1000000) (hn:ws.length ≤ 1000000):
  Ok (strings_Join [.sl a ws.length,.s [c]] σ) fun r=>r=(.s (bL c ws),σ):=by
 have n0:Nat.beq ws.length 0=false:=by cases ws with
  |nil=>exact absurd rfl h0
  |cons=>rfl
 have:strings_Join [.sl a ws.length,.s [c]] σ=some (.s (bL c ws),σ):=by
  simp only [strings_Join,n0,cond_false,own.rd.bC,Option.bind_some,ME,Nat.ble_eq_true_of_le hl,Nat.ble_eq_true_of_le hn,Bool.and_self,cond_true]
 exact Tm this rfl
theorem anB {σ:AH O} {a:SA} {ws:List Bs} {v:Bs} (ho:aN σ 9 1 a ws.length (ws.map AV.s)):
  Ok (((σ.bump 2).put σ.next (.cells true 9 [.s v])).bP (σ.next+1) 9 1 a ws.length 1 [.s v]) fun r=>∃ a',r.1=.sl a' (ws++[v]).length ∧ aN r.2 9 1 a' (ws++[v]).length ((ws++[v]).map AV.s) ∧ dE (SA.bk a) σ r.2 ∧ ∀ b∈SA.bk a',σ.next ≤ b ∧ b<r.2.next:=by
 refine (BT ho).mono fun r ⟨a',h1,h2,h3,h4⟩=>⟨a',by rw [h1];simp,by simpa using h2,h3,h4⟩
theorem Lr {x y:Option AV} (h:x=y):bc x y=some ():=by
 unfold bc chk
 cases aag x y
 ·simp [h]
 ·rfl
theorem acz {σ:AH O} {x:NV} {c d:SA} (hc:bF .i64 c x.P) (hd:bF .u64 d x.R) (hx:x.Me) (hp:x.P.length ≤ 1200) (hr:x.R.length ≤ 1200):
  Ok (rX [.agg (x.cells c d)] σ) fun r=>r.1=.s (eH x) ∧ Ext σ r.2:=by
 unfold rX yC
 refine Ok.cT rfl ?_
 refine Ok.to (x:=x.cells c d) rfl ?_
 refine Ok.to (x:=x.h.p) rfl ?_
 refine Ok.to (x:=x.h.r) rfl ?_
 refine Ok.to (x:=x.h.site) rfl ?_
 refine Ok.to (x:=x.h.pR) rfl ?_
 refine Ok.to (x:=x.h.bW) rfl ?_
 refine Ok.to (x:=(c,x.P.length)) rfl ?_
 refine Ok.to (x:=(d,x.R.length)) rfl ?_
 refine Ok.to (x:=.b x.h.bW) (by simp -implicitDefEqProofs only [Nat.reduceAdd,Nat.reduceMul,Nat.reduceLT,Int.reduceToNat,Int.reduceAdd,Int.reduceSub,Int.reduceMul,aB,ak,ao,au,aw,ax,ay,az,ah,Nat.reduceLeDiff,decide_true,decide_false]) ?_
 refine Ok.to (x:=x.h.bW) rfl ?_
 generalize HW:(σ.bump 1).put σ.next _=aP
 have b2:aP.ai σ.next=some (.cells true 50 [.i .i64 x.h.p,.i .i64 x.h.r,.i .i64 x.h.site,.i .i64 x.h.pR,.b x.h.bW,.sl c x.P.length,.sl d x.R.length]):=by rw [← HW];exact cH
 have E2:Ext σ aP:=by rw [← HW];exact ((Ext.refl σ).bump 1).put (Nat.le_refl _) _
 have n2:aP.next=σ.next+1:=by rw [← HW];rfl
 clear HW
 refine Ok.step (Q:=fun r=>r=([.s (tj x.h.bW)],aP)) (by generalize x.h.bW=lg;cases lg<;>exact U.2 rfl) ?_
 rintro _ rfl
 refine Ok.to (x:=tj x.h.bW) rfl ?_
 refine Ok.to (x:=.i .i64 x.h.site) (by simp -implicitDefEqProofs only [b2,Nat.reduceAdd,Nat.reduceMul,Nat.reduceLT,Int.reduceToNat,Int.reduceAdd,Int.reduceSub,Int.reduceMul,aB,ak,ao,au,aw,ax,ay,az,ah,Nat.reduceLeDiff,decide_true,decide_false]) (Ok.to (x:=x.h.site) rfl ?_)
 refine Ok.to (x:=.i .i64 x.h.pR) (by simp -implicitDefEqProofs only [b2,Nat.reduceAdd,Nat.reduceMul,Nat.reduceLT,Int.reduceToNat,Int.reduceAdd,Int.reduceSub,Int.reduceMul,aB,ak,ao,au,aw,ax,ay,az,ah,Nat.reduceLeDiff,decide_true,decide_false]) (Ok.to (x:=x.h.pR) rfl ?_)
 refine Ok.step (HT hx.s) ?_
 rintro ⟨v,cE⟩ ⟨v1,E3⟩
 simp only at v1 E3
 subst v1
 refine Ok.to (x:=cw x.h.site) rfl ?_
 have n3:aP.next+1 ≤ cE.next:=by simpa using E3.next
 have b3:cE.ai σ.next=some (.cells true 50 [.i .i64 x.h.p,.i .i64 x.h.r,.i .i64 x.h.site,.i .i64 x.h.pR,.b x.h.bW,.sl c x.P.length,.sl d x.R.length]):=by rw [E3.ai _ (by simp;omega)];exact b2
 refine Ok.to (x:=()) (Lr (by simp -implicitDefEqProofs only [b3,Nat.reduceAdd,Nat.reduceMul,Nat.reduceLT,Int.reduceToNat,Int.reduceAdd,Int.reduceSub,Int.reduceMul,aB,ak,ao,au,aw,ax,ay,az,ah,Nat.reduceLeDiff,decide_true,decide_false])) ?_
 refine Ok.step (HT hx.g) ?_
 rintro ⟨v,ky⟩ ⟨v1,E4⟩
 simp only at v1 E4
 subst v1
 refine Ok.to (x:=cw x.h.pR) rfl ?_
 have n4:aP.next+1 ≤ ky.next:=by have:=E4.next;omega
 have E24:Ext aP ky:=⟨by omega,fun b hb=>(E4.ai b (by omega)).trans (E3.ai b (by simp;omega))⟩
 have b4:∀ y,(ky.put aP.next y).ai σ.next=some (.cells true 50 [.i .i64 x.h.p,.i .i64 x.h.r,.i .i64 x.h.site,.i .i64 x.h.pR,.b x.h.bW,.sl c x.P.length,.sl d x.R.length]):=fun y=>by rw [bu (by omega),E24.ai _ (by omega)];exact b2
 refine Ok.to (x:=.sl c x.P.length) (by simp -implicitDefEqProofs only [b4,Nat.reduceAdd,Nat.reduceMul,Nat.reduceLT,Int.reduceToNat,Int.reduceAdd,Int.reduceSub,Int.reduceMul,aB,ak,ao,au,aw,ax,ay,az,ah,Nat.reduceLeDiff,decide_true,decide_false]) (Ok.to (x:=(c,x.P.length)) rfl ?_)
 generalize ajl:([Dc,tj x.h.bW,cw x.h.site,cw x.h.pR]:List Bs)=Ki
 have TY:aN (ky.put aP.next (.cells true 9 [.s [110,111,100,101],.s (tj x.h.bW),.s (cw x.h.site),.s (cw x.h.pR)])) 9 1 (.loc (.n aP.next) 0 1) Ki.length (Ki.map AV.s):=by
  rw [← ajl];exact aN.new rfl cH (by simp;omega)
 have l4:Ki.length=4:=by rw [← ajl];rfl
 have L1:=ags (gJ:=aP) hc hx.P hp (by omega) TY (E24.put (Nat.le_refl _) _) (by simp [SA.bk])
 rw [l4] at L1
 refine Ok.step L1 ?_
 rintro ⟨v,PM⟩ ⟨a6,v1,Fm,E6,fr6⟩
 simp only at v1 Fm E6
 subst v1
 generalize aji:Ki++x.P.map cw=ws1 at*
 have l1:ws1.length=4+x.P.length:=by rw [← aji];simp [l4]
 refine Ok.to (x:=(a6,ws1.length)) rfl ?_
 refine Ok.to (x:=[.s [58]]) Jt ?_
 refine Ok.cT (Nat.ble_eq_true_of_le (show (ws1.length+1)*17 ≤ _ by omega)) ?_
 refine Ok.step (anB Fm) ?_
 rintro ⟨v,Q0⟩ ⟨a7,v1,abd,C7,fr7⟩
 simp only at v1 abd C7 fr7
 subst v1
 have E7:Ext aP Q0:=dE.new E6 fr6 C7
 have b7:Q0.ai σ.next=some (.cells true 50 [.i .i64 x.h.p,.i .i64 x.h.r,.i .i64 x.h.site,.i .i64 x.h.pR,.b x.h.bW,.sl c x.P.length,.sl d x.R.length]):=by rw [E7.ai _ (by omega)];exact b2
 have l7:(ws1++[([58]:Bs)]).length=5+x.P.length:=by simp [l1];omega
 have j2:ws1++[([58]:Bs)]++x.R.map En=cr x:=by rw [← aji,← ajl];simp [cr,jg]
 generalize ws1++[([58]:Bs)]=ws2 at*
 refine Ok.to (x:=(a7,ws2.length)) rfl ?_
 refine Ok.to (x:=.sl d x.R.length) (by simp -implicitDefEqProofs only [b7,Nat.reduceAdd,Nat.reduceMul,Nat.reduceLT,Int.reduceToNat,Int.reduceAdd,Int.reduceSub,Int.reduceMul,aB,ak,ao,au,aw,ax,ay,az,ah,Nat.reduceLeDiff,decide_true,decide_false]) (Ok.to (x:=(d,x.R.length)) rfl ?_)
 refine Ok.step (agt (gJ:=aP) hd hx.R hr (by omega) abd E7 (fun b hb=>by have:=fr7 b hb;have:=E6.next;omega)) ?_
 rintro ⟨v,TH⟩ ⟨a8,v1,Wv,E8,fr8⟩
 simp only at v1 Wv E8
 subst v1
 rw [j2] at*
 have lw:(cr x).length=4+x.P.length+(x.R.length+1):=by simp [cr];omega
 refine Ok.to (x:=(a8,(cr x).length)) rfl ?_
 refine Ok.step (agu Wv (Qn x) (Nat.le_trans (Gi hx hp hr) (by omega)) (by omega)) ?_
 rintro _ rfl
 exact U.2 ⟨rfl,E2.trans E8⟩
end Go.Abs.Tryz
namespace Go.Abs.Tryz
open Go Go.Abs
variable {O:Type}
def xX (σ:AH O) (b:Nat) (l:Bs):Prop:=∃ q a,σ.ai b=some (.cells true 54 [.p q,.sl a l.length]) ∧ (q=none ∨ q=some (.n b,0)) ∧ aN σ 5 1 a l.length (l.map fun c=>.i .u8 (c.toNat:Int)) ∧ (∀ k∈SA.bk a,b<k) ∧ b<σ.next
structure xY (b:Nat) (σ aj:AH O):Prop where
 next:σ.next ≤ aj.next
 ai:∀ k,k<b → aj.ai k=σ.ai k
theorem xY.refl (b:Nat) (σ:AH O):xY b σ σ:=⟨Nat.le_refl _,fun _ _=>rfl⟩
theorem xY.trans {b:Nat} {σ aj oS:AH O} (h:xY b σ aj) (h':xY b aj oS):xY b σ oS:=⟨Nat.le_trans h.next h'.next,fun k hk=>(h'.ai k hk).trans (h.ai k hk)⟩
theorem xY.of {b:Nat} {σ aj:AH O} (hb:b ≤ σ.next) (h:Ext σ aj):xY b σ aj:=⟨h.next,fun k hk=>h.ai k (by omega)⟩
theorem xX.ext {σ aj:AH O} {b:Nat} {l:Bs} (h:xX σ b l) (E:Ext σ aj):xX aj b l:=by
 obtain ⟨q,a,h1,h2,h3,h4,h5⟩:=h
 exact ⟨q,a,by rw [E.ai _ h5];exact h1,h2,h3.of E.next fun k hk=>E.ai k (h3.lt k hk),h4,Nat.lt_of_lt_of_le h5 E.next⟩
theorem xX.new {σ:AH O} {b:Nat} (h:σ.ai b=some (.cells true 54 [.p none,.sl .nil 0])) (hb:b<σ.next):xX σ b []:=⟨none,.nil,h,.inl rfl,aN.nil _ _ _,by simp [SA.bk],hb⟩
theorem X9 {σ:AH O} {b:Nat} {l:Bs} (h:xX σ b l):Ok (__strings_Builder__copyCheck [.p (some (.n b,0))] σ) fun r=>r.1=.aS [] ∧ xY b σ r.2 ∧ ∃ a,r.2.ai b=some (.cells true 54 [.p (some (.n b,0)),.sl a l.length]) ∧ aN r.2 5 1 a l.length (l.map fun c=>.i .u8 (c.toNat:Int)) ∧ (∀ k∈SA.bk a,b<k) ∧ b<r.2.next:=by
 obtain ⟨q,a,h1,h2,h3,h4,h5⟩:=h
 have e1:Nat.beq 54 54=true:=rfl
 rcases h2 with rfl |rfl
 ·refine Tm (r:=(.aS [],σ.put b (.cells true 54 [.p (some (.n b,0)),.sl a l.length]))) (by simp only [__strings_Builder__copyCheck,h1,e1,cond_true]) ⟨rfl,⟨Nat.le_refl _,fun k hk=>bu (by omega)⟩,a,cH,?_,h4,h5⟩
  exact h3.of (Nat.le_refl _) fun k hk=>by have:=h4 k hk;exact bu (by omega)
 ·exact Tm (r:=(.aS [],σ)) (by simp only [__strings_Builder__copyCheck,h1,e1,cond_true,L8]) ⟨rfl,xY.refl _ _,a,h1,h3,h4,h5⟩
theorem Ls {σ:AH O} {b:Nat} {l s:Bs} (h:xX σ b l) (hl:l.length+s.length ≤ 1000000000000):
  Ok (__strings_Builder__WriteString [.p (some (.n b,0)),.s s] σ) fun r=>r.1=.aS [.i .i64 s.length,.DC] ∧ xY b σ r.2 ∧ xX r.2 b (l++s):=by
 unfold __strings_Builder__WriteString __strings_Builder__WriteString_c
 refine Ok.cT rfl ?_
 refine Ok.to (x:=some (.n b,0)) rfl ?_
 refine Ok.to (x:=s) rfl ?_
 refine Ok.step (X9 h) ?_
 rintro ⟨v,aJ⟩ ⟨v1,L1,a,c1,own,fr,n1⟩
 simp only at v1 L1 c1 own n1
 subst v1
 refine Ok.to (x:=[]) rfl ?_
 refine Ok.to (x:=(.n b,0)) rfl ?_
 refine Ok.to (x:=.sl a l.length) (by simp -implicitDefEqProofs only [c1,Nat.reduceAdd,Nat.reduceMul,Nat.reduceLT,Int.reduceToNat,Int.reduceAdd,Int.reduceSub,Int.reduceMul,aB,ak,ao,au,aw,ax,ay,az,ah,Nat.reduceLeDiff,decide_true,decide_false]) (Ok.to (x:=(a,l.length)) rfl ?_)
 refine Ok.cT (Nat.ble_eq_true_of_le (show (l.length+s.length)*2 ≤ _ by omega)) ?_
 have ar9:aN (aJ.bump 1) 5 1 a l.length (l.map fun c=>.i .u8 (c.toNat:Int)):=own.of (by simp) fun _ _=>rfl
 have bS:=own.lt
 refine Ok.step (nW (nid:=aJ.next) ar9 (fun hm=>by have:=bS _ hm;omega) (by simp) (show (s.map fun c=>(.i .u8 (c.toNat:Int):AV)).length=s.length*1 by simp)) ?_
 rintro ⟨v,aP⟩ ⟨a',v1,g2,g3,g4,g5⟩
 simp only at v1 g2 g3 g4
 subst v1
 refine Ok.to (x:=(a',l.length+s.length)) rfl ?_
 refine Ok.to (x:=(.n b,0)) rfl ?_
 have c2:aP.ai b=some (.cells true 54 [.p (some (.n b,0)),.sl a l.length]):=by rw [g4 b (by omega) (fun hm=>by have:=fr _ hm;omega)];exact c1
 refine Ok.to (x:=aP.put b (.cells true 54 [.p (some (.n b,0)),.sl a' (l.length+s.length)])) (by simp -implicitDefEqProofs only [c2,Nat.reduceAdd,Nat.reduceMul,Nat.reduceLT,Int.reduceToNat,Int.reduceAdd,Int.reduceSub,Int.reduceMul,aB,ak,ao,au,aw,ax,ay,az,ah,Nat.reduceLeDiff,decide_true,decide_false]) ?_
 have n3:aP.next=aJ.next+1:=by rw [g3];rfl
 refine U.2 ⟨rfl,L1.trans ⟨by show aJ.next ≤ aP.next;omega,fun k hk=>?_⟩,some (.n b,0),a',?_,.inr rfl,?_,fun k hk=>by have:=g5 k hk;omega,by show b<aP.next;omega⟩
 ·show (aP.put b _).ai k=_
  rw [bu (by omega),g4 k (by omega) (fun hm=>by have:=fr _ hm;omega)];rfl
 ·rw [List.length_append];exact cH
 ·rw [List.length_append,List.map_append]
  exact g2.of (Nat.le_refl _) fun k hk=>by have:=g5 k hk;exact bu (by omega)
theorem HX {σ:AH O} {b:Nat} {l:Bs} {c:UInt8} (h:xX σ b l) (hl:l.length ≤ 1000000000000):
  Ok (__strings_Builder__WriteByte [.p (some (.n b,0)),.i .u8 (c.toNat:Int)] σ) fun r=>r.1=.DC ∧ xY b σ r.2 ∧ xX r.2 b (l++[c]):=by
 unfold __strings_Builder__WriteByte __strings_Builder__WriteByte_c
 refine Ok.cT rfl ?_
 refine Ok.to (x:=some (.n b,0)) rfl ?_
 refine Ok.to (x:=(c.toNat:Int)) rfl ?_
 refine Ok.step (X9 h) ?_
 rintro ⟨v,aJ⟩ ⟨v1,L1,a,c1,own,fr,n1⟩
 simp only at v1 L1 c1 own n1
 subst v1
 refine Ok.to (x:=[]) rfl ?_
 refine Ok.to (x:=(.n b,0)) rfl ?_
 refine Ok.to (x:=.sl a l.length) (by simp -implicitDefEqProofs only [c1,Nat.reduceAdd,Nat.reduceMul,Nat.reduceLT,Int.reduceToNat,Int.reduceAdd,Int.reduceSub,Int.reduceMul,aB,ak,ao,au,aw,ax,ay,az,ah,Nat.reduceLeDiff,decide_true,decide_false]) (Ok.to (x:=(a,l.length)) rfl ?_)
 refine Ok.to (x:=[.i .u8 (c.toNat:Int)]) Jt ?_
 refine Ok.cT (Nat.ble_eq_true_of_le (show (l.length+1)*2 ≤ _ by omega)) ?_
 refine Ok.step (BT own) ?_
 rintro ⟨v,aP⟩ ⟨a',v1,g2,g3,g4⟩
 simp only at v1 g2 g3 g4
 subst v1
 refine Ok.to (x:=(a',l.length+1)) rfl ?_
 refine Ok.to (x:=(.n b,0)) rfl ?_
 have n3:=g3.next
 have c2:aP.ai b=some (.cells true 54 [.p (some (.n b,0)),.sl a l.length]):=by rw [g3.ai b (by omega) (fun hm=>by have:=fr _ hm;omega)];exact c1
 refine Ok.to (x:=aP.put b (.cells true 54 [.p (some (.n b,0)),.sl a' (l.length+1)])) (by simp -implicitDefEqProofs only [c2,Nat.reduceAdd,Nat.reduceMul,Nat.reduceLT,Int.reduceToNat,Int.reduceAdd,Int.reduceSub,Int.reduceMul,aB,ak,ao,au,aw,ax,ay,az,ah,Nat.reduceLeDiff,decide_true,decide_false]) ?_
 refine U.2 ⟨rfl,L1.trans ⟨by show aJ.next ≤ aP.next;omega,fun k hk=>?_⟩,some (.n b,0),a',?_,.inr rfl,?_,fun k hk=>by have:=g4 k hk;omega,by show b<aP.next;omega⟩
 ·show (aP.put b _).ai k=_
  rw [bu (by omega),g3.ai k (by omega) (fun hm=>by have:=fr _ hm;omega)]
 ·rw [List.length_append];exact cH
 ·rw [List.length_append,List.map_append]
  exact g2.of (Nat.le_refl _) fun k hk=>by have:=g4 k hk;exact bu (by omega)
theorem anC (l:Bs):T6 (l.map fun c=>.i .u8 (c.toNat:Int))=some l:=T8 l
theorem N2 {σ:AH O} {b:Nat} {l:Bs} (h:xX σ b l) (h0:l≠[]):Ok (__strings_Builder__String [.p (some (.n b,0))] σ) fun r=>r.1=.s l ∧ xY b σ r.2:=by
 obtain ⟨q,a,h1,h2,h3,h4,h5⟩:=h
 have hl:l.length≠0:=fun e=>h0 (List.eq_nil_of_length_eq_zero e)
 obtain ⟨k,rfl,c1,n1⟩:=h3.loc hl
 have hk:=h4 k (by simp [SA.bk])
 have e1:(Nat.beq 54 54 && !Nat.beq l.length 0 && !Nat.beq k b)=true:=by
  have e2:Nat.beq l.length 0=false:=Bool.eq_false_iff.2 fun h=>hl (Nat.eq_of_beq_eq_true h)
  have e3:Nat.beq k b=false:=Bool.eq_false_iff.2 fun h=>by have:=Nat.eq_of_beq_eq_true h;omega
  rw [e2,e3];rfl
 have e2:(Nat.beq 5 5 && Nat.ble (0+l.length) (l.map fun c=>(.i .u8 (c.toNat:Int):AV)).length)=true:=by
  rw [List.length_map,Nat.zero_add,Nat.ble_eq_true_of_le (Nat.le_refl _)];rfl
 have e3:((l.map fun c=>(.i .u8 (c.toNat:Int):AV)).drop 0).take l.length=l.map fun c=>(.i .u8 (c.toNat:Int):AV):=by rw [List.drop_zero,List.take_of_length_le (by simp)]
 refine Tm (r:=(.s l,σ.kill k)) (by simp only [__strings_Builder__String,h1,e1,cond_true,c1,e2,e3,anC,Option.bind_some]) ⟨rfl,Nat.le_refl _,fun j hj=>?_⟩
 show (σ.kill k).ai j=_
 rw [lS,if_neg (by omega)]
end Go.Abs.Tryz
namespace Go.Abs.Tryz
open Go Go.Abs
variable {O:Type}
theorem U8 {l:List Int} (hr:∀ n∈l,Kf n):(bL 32 (l.map cw)).length ≤ l.length*22:=by
 have:=DB 32 (m:=21) (ws:=l.map cw) fun w hw=>by
  obtain ⟨n,hn,rfl⟩:=List.mem_map.1 hw
  exact xW (hr n hn)
 simpa using this
theorem X0 (u:Nat):gP u≠[]:=by
 unfold gP;split<;>simp
theorem agv (n:Int):cw n≠[]:=by
 unfold cw;split
 ·simp
 ·exact X0 _
theorem ZV {σ:AH O} {c:SA} {l:List Int} (hc:bF .i64 c l) (hr:∀ n∈l,Kf n) (h0:l≠[]) (hl:l.length ≤ 1200):
  Ok (tX [.sl c l.length] σ) fun r=>r.1=.s (bL 32 (l.map cw)) ∧ Ext σ r.2:=by
 unfold tX vi
 refine Ok.cT rfl ?_
 refine Ok.to (x:=(c,l.length)) rfl ?_
 have B0:xX ((σ.bump 1).put σ.next (.cells true 54 [.p none,.sl .nil 0])) σ.next []:=xX.new cH (by simp)
 have L0:xY σ.next σ ((σ.bump 1).put σ.next (.cells true 54 [.p none,.sl .nil 0])):=⟨by simp,fun k hk=>by rw [bu (by omega)];rfl⟩
 refine Ok.step (Q:=fun r=>r.1=[] ∧ xY σ.next σ r.2 ∧ xX r.2 σ.next (bL 32 (l.map cw))) ?_ ?_
 ·refine Ok.count l.length (fun k q=>∃ aj,q=([.i .i64 (k:Int)],aj) ∧ xY σ.next σ aj ∧ xX aj σ.next (bL 32 ((l.take k).map cw))) ?_ ?_ ⟨_,rfl,L0,by simpa [bL] using B0⟩
  ·rintro k _ hk ⟨aj,rfl,L,B⟩
   have hx:l[k]? = some l[k]:=List.getElem?_eq_getElem hk
   have hm:=hr _ (List.getElem_mem hk)
   have htk:l.take (k+1)=l.take k++[l[k]]:=by rw [List.take_add_one,hx];rfl
   have Gk:=U8 (l:=l.take k) fun n hn=>hr n (List.mem_of_mem_take hn)
   have ltk:(l.take k).length=k:=by rw [List.length_take];omega
   have ne:k≠0 → (l.take k).map cw≠[]:=fun h e=>h (by have:=congrArg List.length e;rw [List.length_map,ltk] at this;exact this)
   have z0:k=0 → bL 32 ((l.take k).map cw)=[]:=fun h=>by subst h;rfl
   generalize l[k]=x at*
   obtain ⟨bb,oo,r1,ld⟩:=HU hc hx
   have ld:=ld O aj
   have hfx:=xW hm
   have dk:decide ((k:Int)<(l.length:Int))=true:=decide_eq_true (by omega)
   have d0:decide ((0:Int) ≤ (k:Int))=true:=decide_eq_true (by omega)
   have e1:IntKind.i64.wrap ((k:Int)+1)=((k+1:Nat):Int):=by rw [bJ (by omega) (by omega)];omega
   refine Ok.to (x:=(k:Int)) rfl ?_
   refine Ok.cT dk ?_
   refine Ok.cT (by rw [d0,dk];rfl) ?_
   refine Ok.to (x:=(bb,oo)) r1 ?_
   refine Ok.to (x:=.i .i64 x) (by rw [Int.toNat_natCast,Nat.mul_one];exact ld) (Ok.to (x:=x) rfl ?_)
   generalize hj:bL 32 ((l.take k).map cw)=j at*
   refine Ok.step (Q:=fun r=>r.1=[] ∧ xY σ.next σ r.2 ∧ xX r.2 σ.next (if k=0 then [] else j++[32])) ?_ ?_
   ·by_cases h:k=0
    ·refine Ok.cF (decide_eq_false (by omega)) (U.2 ⟨rfl,L,?_⟩)
     rw [if_pos h,← z0 h];exact B
    ·refine Ok.cT (decide_eq_true (by omega)) ?_
     refine Ok.step (HX (c:=32) B (by omega)) ?_
     rintro ⟨v,cE⟩ ⟨_,L3,B3⟩
     exact U.2 ⟨rfl,L.trans L3,by rw [if_neg h];exact B3⟩
   ·rintro ⟨v,cE⟩ ⟨v1,L3,B3⟩
    simp only at v1 L3 B3
    subst v1
    refine Ok.step (HT hm) ?_
    rintro ⟨v,ky⟩ ⟨v1,E4⟩
    simp only at v1 E4
    subst v1
    refine Ok.to (x:=cw x) rfl ?_
    have hl3:(if k=0 then [] else j++[(32:UInt8)]).length ≤ 100000:=by split<;>simp<;>omega
    refine Ok.step (Ls (B3.ext E4) (s:=cw x) (by omega)) ?_
    rintro ⟨v,Dv⟩ ⟨v1,L5,B5⟩
    simp only at v1 L5 B5
    subst v1
    refine Ok.to (x:=[.i .i64 (cw x).length,.DC]) rfl ?_
    refine Ok.to (x:=((cw x).length:Int)) rfl ?_
    refine U.2 ⟨Dv,by rw [e1],(L3.trans (xY.of L3.next E4)).trans L5,?_⟩
    have:bL 32 ((l.take (k+1)).map cw)=(if k=0 then [] else j++[32])++cw x:=by
     rw [htk,List.map_append]
     by_cases h:k=0
     ·subst h;simp [bL]
     ·rw [if_neg h,List.map_singleton,NT 32 _ (ne h),hj];simp
    rw [this];exact B5
  ·rintro _ ⟨aj,rfl,L,B⟩
   refine Ok.to (x:=(l.length:Int)) rfl ?_
   refine Ok.cF (decide_eq_false (by omega)) (U.2 ⟨rfl,L,?_⟩)
   rw [List.take_length] at B;exact B
 rintro ⟨v,aP⟩ ⟨v1,L,B⟩
 simp only at v1 L B
 subst v1
 have ne:bL 32 (l.map cw)≠[]:=by
  cases l with
  |nil=>exact absurd rfl h0
  |cons x l=>rw [List.map_cons,Jv];simp [agv]
 refine Ok.step (N2 B ne) ?_
 rintro ⟨v,cE⟩ ⟨v1,L3⟩
 simp only at v1 L3
 subst v1
 refine Ok.to (x:=bL 32 (l.map cw)) rfl ?_
 exact U.2 ⟨rfl,(L.trans L3).next,fun k hk=>(L.trans L3).ai k hk⟩
theorem Kj {σ:AH O} {w:Bs} {c:SA} {l:List Int} (hc:bF .i64 c l) (hr:∀ n∈l,Kf n) (hl:l.length ≤ 1200) (hw:w.length ≤ 100):
  Ok (oH [.s w,.sl c l.length] σ) fun r=>r.1=.s (gI w l) ∧ Ext σ r.2:=by
 unfold oH pX
 refine Ok.cT rfl ?_
 refine Ok.to (x:=w) rfl ?_
 refine Ok.to (x:=(c,l.length)) rfl ?_
 by_cases h0:l=[]
 ·subst h0
  refine Ok.cT rfl (U.2 ⟨rfl,Ext.refl _⟩)
 ·have hn:l.length≠0:=fun e=>h0 (List.eq_nil_of_length_eq_zero e)
  refine Ok.cF (by simpa using h0) ?_
  refine Ok.cT (Nat.ble_eq_true_of_le (show w.length+1 ≤ _ by omega)) ?_
  refine Ok.step (ZV hc hr h0 hl) ?_
  rintro ⟨v,aP⟩ ⟨v1,E⟩
  simp only at v1 E
  subst v1
  have Gk:=U8 hr
  refine Ok.to (x:=bL 32 (l.map cw)) rfl ?_
  refine Ok.cT (Nat.ble_eq_true_of_le (by simp;omega)) ?_
  refine U.2 ⟨?_,E⟩
  have:gI w l=w++[32]++bL 32 (l.map cw):=by
   unfold gI
   rw [ti 32 w (by simpa using h0)];simp
  rw [this]
theorem zC {w:Bs} {l:List Int} (hr:∀ n∈l,Kf n) (hl:l.length ≤ 1200) (hw:w.length ≤ 21):(gI w l).length ≤ 30000:=by
 have:=DB 32 (m:=21) (ws:=w::l.map cw) fun u hu=>by
  rcases List.mem_cons.1 hu with rfl |hu
  ·exact hw
  ·obtain ⟨n,hn,rfl⟩:=List.mem_map.1 hu
   exact xW (hr n hn)
 simp only [List.length_cons,List.length_map] at this
 unfold gI;omega
end Go.Abs.Tryz
