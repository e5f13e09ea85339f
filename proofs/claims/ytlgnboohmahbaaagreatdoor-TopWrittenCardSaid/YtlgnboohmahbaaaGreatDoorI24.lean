/-
  The document's form of bytes. No conditions.
-/
import Derived.Test.YtlgnboohmahbaaaGreatDoorI16
import Derived.Test.YtlgnboohmahbaaaGreatDoorN1
import Derived.Test.YtlgnboohmahbaaaGreatDoorS13a
set_option linter.unusedVariables false
set_option linter.unusedSimpArgs false
set_option linter.constructorNameAsVariable false
set_option linter.unusedSimpArgs false
set_option linter.unusedVariables false
set_option maxHeartbeats 4000000
namespace Go.Abs.Tryz
open Go Go.Abs
variable {O:Type}
def u8s (bs:List Int):List UInt8:=bs.map fun n=>UInt8.ofNat n.toNat
theorem Fo:∀ bs:List Int,dO (bs.map (AV.i .u8))=some (u8s bs)
 |[]=>rfl
 |b::bs=>by
  have:=Fo bs
  simp only [List.map_cons,dO,this,Option.map_some];rfl
end Go.Abs.Tryz
namespace Go.Abs.Tryz
open Go Go.Abs
variable {O:Type}
theorem Xz {l:List NV} {x:NV} (hx:x∈l):l.length ≤ (l.flatMap (eT pck)).length ∧ x.P.length+x.R.length ≤ (l.flatMap (eT pck)).length:=by
 induction l with
 |nil=>cases hx
 |cons y l ih=>
  rw [List.flatMap_cons,List.length_append,List.length_cons]
  have hl:l.length ≤ (l.flatMap (eT pck)).length:=by
   clear ih hx
   induction l with
   |nil=>simp
   |cons z l ih=>
    rw [List.flatMap_cons,List.length_append,List.length_cons]
    have:1 ≤ (eT pck z).length:=by unfold eT;simp
    omega
  have h1:(eT pck y).length=1+y.P.length+y.R.length:=by unfold eT;simp;omega
  refine ⟨by omega,?_⟩
  rcases List.mem_cons.1 hx with rfl |hx
  ·omega
  ·have:=(ih hx).2;omega
theorem YV {F:FV} {n:Nat} (h:(ey pck F).length ≤ n) (hn:n ≤ 100000):F.Gk:=by
 have e:(ey pck F).length=1+((F.nodes.flatMap (eT pck)).length+((F.roots.length+1)+(F.bn.length+1))):=by
  unfold ey fZ
  simp;omega
 refine ⟨?_,fun x hx=>?_,by omega,by omega⟩
 ·cases hN:F.nodes with
  |nil=>simp
  |cons y l=>
   have:=(Xz (l:=F.nodes) (x:=y) (by rw [hN];exact List.mem_cons_self)).1
   rw [hN] at this e
   omega
 ·have:=(Xz hx).2
  exact ⟨by omega,by omega⟩
end Go.Abs.Tryz
namespace Go.Abs.Tryz
open Go Go.Abs
variable {O:Type}
structure XA (F:FV):Prop where
 n:F.nodes.length ≤ 20
 x:∀ x∈F.nodes,x.P.length ≤ 20 ∧ x.R.length ≤ 20
 r:F.roots.length ≤ 300
 w:F.bn.length ≤ 20
end Go.Abs.Tryz
namespace Go.Abs.Tryz
open Go Go.Abs
variable {O:Type}
theorem adV {F:FV} (h:ct F=true) (hr:F.Me) (hf:F.Gk):Iz (oT F)=(F,0):=by
 have hW:=IA h hr hf
 have e:oT F=fN (jk (ey pck F)):=by unfold oT;rw [h];rfl
 rw [e]
 have hl:=Mj (jk (ey pck F))
 have ht:=TI (jk (ey pck F))
 have hO:eu (fN (jk (ey pck F)))=(jk (ey pck F),0):=by
  unfold eu
  rw [if_neg (by omega),hl,Nat.add_sub_cancel,ht,if_pos rfl]
 unfold Iz
 rw [hO]
 simp only
 rw [JI _ _ hW (Nat.le_refl _)]
 simp only
 have:=TJ h (by have:=hf.n;omega)
 unfold abe
 show (bif (0:Int) == 0 then (bif (0:Int) == 0 then _ else _) else _)=_
 rw [this];rfl
theorem tR {F:FV} (hT:XA F):(ey pck F).length ≤ 9000:=by
 have e:(ey pck F).length=1+((F.nodes.flatMap (eT pck)).length+((F.roots.length+1)+(F.bn.length+1))):=by
  unfold ey fZ
  simp;omega
 have key:∀ l:List NV,(∀ x∈l,x.P.length ≤ 20 ∧ x.R.length ≤ 20) → (l.flatMap (eT pck)).length ≤ 41*l.length:=by
  intro l
  induction l with
  |nil=>simp
  |cons y l ih=>
   intro h
   have h1:=h y List.mem_cons_self
   have h2:=ih fun x hx=>h x (List.mem_cons_of_mem _ hx)
   have h3:(eT pck y).length=1+y.P.length+y.R.length:=by unfold eT;simp;omega
   rw [List.flatMap_cons,List.length_append,List.length_cons]
   omega
 have h1:=key F.nodes hT.x
 have h2:=hT.n
 have h3:=hT.r
 have h4:=hT.w
 omega
theorem YW {F:FV} (hT:XA F):F.Gk:=YV (tR hT) (by omega)
end Go.Abs.Tryz
namespace Go.Abs.Tryz
open Go Go.Abs
variable {O:Type}
theorem Wl (F:FV):Bytes (oT F):=by
 unfold oT
 cases ct F with
 |true=>exact Q1 (Mk _)
 |false=>intro x hx;cases hx
theorem abl {F:FV} (hT:XA F) (hr:F.Me):(oT F).length ≤ 90008:=by
 unfold oT
 cases h:ct F with
 |true=>
  simp only [cond_true]
  rw [Mj]
  have:=(BS (IA h hr (YW hT))).2
  have:=tR hT
  omega
 |false=>simp
end Go.Abs.Tryz
set_option linter.unusedSectionVars false
set_option maxHeartbeats 1000000
namespace Go.Abs.Tryz
open Go Go.Abs
variable {O:Type}
theorem Ml {σ:AH O} {a b:SA} {l m:List Int} (ha:bF .i64 a l) (hb:bF .i64 b m) (hl:l.length ≤ 100000) (hm:m.length ≤ 100000):Ok (bZ [.sl a l.length,.sl b m.length] σ) fun r=>r=(.b (decide (l=m)),σ):=by
 by_cases c:l.length=m.length
 ·have q0:((l.length:Int) == (m.length:Int))=true:=Ma (by omega)
  simp (maxSteps:=2000000) -implicitDefEqProofs (disch:=(first |omega |rfl |assumption |(simp only [aK];first |omega |assumption))) only [bZ,dj,q0,Nat.reduceAdd,Nat.reduceMul,Nat.reduceLT,Int.reduceToNat,Int.reduceAdd,Int.reduceSub,Int.reduceMul,aB,aX]
  refine Ok.bK (Q:=fun r=>(l=m ∧ r=.inl ([],σ)) ∨ (l≠m ∧ r=.inr (.b false,σ))) ?_ ?_ ?_
  ·refine XB c (fun k s=>s=([.i .i64 (k:Int)],σ)) _ ?_ ?_ rfl
   ·rintro k s hk rfl
    obtain ⟨x,hx⟩:∃ x,l[k]? = some x:=⟨_,List.getElem?_eq_getElem hk⟩
    obtain ⟨y,hy⟩:∃ y,m[k]? = some y:=⟨_,List.getElem?_eq_getElem (by omega)⟩
    obtain ⟨b1,o1,rfl,l1⟩:=ha.at hx
    obtain ⟨b2,o2,rfl,l2⟩:=hb.at hy
    rw [hx,hy]
    by_cases e:x=y
    ·have q1:=Ma e
     simp (maxSteps:=2000000) -implicitDefEqProofs (disch:=(first |omega |rfl |assumption |(simp only [aK];first |omega |assumption))) only [cV,l1,l2,q1,Nat.reduceAdd,Nat.reduceMul,Nat.reduceLT,Int.reduceToNat,Int.reduceAdd,Int.reduceSub,Int.reduceMul,aB,aX]
     exact U.2 (by rw [if_pos (by rw [e])];simp)
    ·have q1:=Mb e
     simp (maxSteps:=2000000) -implicitDefEqProofs (disch:=(first |omega |rfl |assumption |(simp only [aK];first |omega |assumption))) only [cV,l1,l2,q1,Nat.reduceAdd,Nat.reduceMul,Nat.reduceLT,Int.reduceToNat,Int.reduceAdd,Int.reduceSub,Int.reduceMul,aB,aX]
     exact U.2 (by rw [if_neg (by simp [e])];exact fun h=>.inr ⟨h,rfl⟩)
   ·rintro s rfl
    simp (maxSteps:=2000000) -implicitDefEqProofs (disch:=(first |omega |rfl |assumption |(simp only [aK];first |omega |assumption))) only [cV,Nat.reduceAdd,Nat.reduceMul,Nat.reduceLT,Int.reduceToNat,Int.reduceAdd,Int.reduceSub,Int.reduceMul,aB,aX]
    exact U.2 fun h=>.inl ⟨h,rfl⟩
  ·rintro s (⟨e,hs⟩ |⟨_,hs⟩)
   ·cases hs
    exact U.2 (by simp [e])
   ·cases hs
  ·rintro r (⟨_,hs⟩ |⟨e,hs⟩)
   ·cases hs
   ·cases hs;simp [e]
 ·have q0:((l.length:Int) == (m.length:Int))=false:=Mb (by omega)
  simp (maxSteps:=2000000) -implicitDefEqProofs (disch:=(first |omega |rfl |assumption |(simp only [aK];first |omega |assumption))) only [bZ,dj,q0,Nat.reduceAdd,Nat.reduceMul,Nat.reduceLT,Int.reduceToNat,Int.reduceAdd,Int.reduceSub,Int.reduceMul,aB,aX]
  exact U.2 (by rw [decide_eq_false (fun e=>c (by rw [e]))])
theorem abm {σ:AH O} {a b:SA} {l m:List Int} (ha:bF .u64 a l) (hb:bF .u64 b m) (hl:l.length ≤ 100000) (hm:m.length ≤ 100000):Ok (bQ [.sl a l.length,.sl b m.length] σ) fun r=>r=(.b (decide (l=m)),σ):=by
 by_cases c:l.length=m.length
 ·have q0:((l.length:Int) == (m.length:Int))=true:=Ma (by omega)
  simp (maxSteps:=2000000) -implicitDefEqProofs (disch:=(first |omega |rfl |assumption |(simp only [aK];first |omega |assumption))) only [bQ,cd,q0,Nat.reduceAdd,Nat.reduceMul,Nat.reduceLT,Int.reduceToNat,Int.reduceAdd,Int.reduceSub,Int.reduceMul,aB,aX]
  refine Ok.bK (Q:=fun r=>(l=m ∧ r=.inl ([],σ)) ∨ (l≠m ∧ r=.inr (.b false,σ))) ?_ ?_ ?_
  ·refine XB c (fun k s=>s=([.i .i64 (k:Int)],σ)) _ ?_ ?_ rfl
   ·rintro k s hk rfl
    obtain ⟨x,hx⟩:∃ x,l[k]? = some x:=⟨_,List.getElem?_eq_getElem hk⟩
    obtain ⟨y,hy⟩:∃ y,m[k]? = some y:=⟨_,List.getElem?_eq_getElem (by omega)⟩
    obtain ⟨b1,o1,rfl,l1⟩:=ha.at hx
    obtain ⟨b2,o2,rfl,l2⟩:=hb.at hy
    rw [hx,hy]
    by_cases e:x=y
    ·have q1:=Ma e
     simp (maxSteps:=2000000) -implicitDefEqProofs (disch:=(first |omega |rfl |assumption |(simp only [aK];first |omega |assumption))) only [bX,l1,l2,q1,Nat.reduceAdd,Nat.reduceMul,Nat.reduceLT,Int.reduceToNat,Int.reduceAdd,Int.reduceSub,Int.reduceMul,aB,aX]
     exact U.2 (by rw [if_pos (by rw [e])];simp)
    ·have q1:=Mb e
     simp (maxSteps:=2000000) -implicitDefEqProofs (disch:=(first |omega |rfl |assumption |(simp only [aK];first |omega |assumption))) only [bX,l1,l2,q1,Nat.reduceAdd,Nat.reduceMul,Nat.reduceLT,Int.reduceToNat,Int.reduceAdd,Int.reduceSub,Int.reduceMul,aB,aX]
     exact U.2 (by rw [if_neg (by simp [e])];exact fun h=>.inr ⟨h,rfl⟩)
   ·rintro s rfl
    simp (maxSteps:=2000000) -implicitDefEqProofs (disch:=(first |omega |rfl |assumption |(simp only [aK];first |omega |assumption))) only [bX,Nat.reduceAdd,Nat.reduceMul,Nat.reduceLT,Int.reduceToNat,Int.reduceAdd,Int.reduceSub,Int.reduceMul,aB,aX]
    exact U.2 fun h=>.inl ⟨h,rfl⟩
  ·rintro s (⟨e,hs⟩ |⟨_,hs⟩)
   ·cases hs
    exact U.2 (by simp [e])
   ·cases hs
  ·rintro r (⟨_,hs⟩ |⟨e,hs⟩)
   ·cases hs
   ·cases hs;simp [e]
 ·have q0:((l.length:Int) == (m.length:Int))=false:=Mb (by omega)
  simp (maxSteps:=2000000) -implicitDefEqProofs (disch:=(first |omega |rfl |assumption |(simp only [aK];first |omega |assumption))) only [bQ,cd,q0,Nat.reduceAdd,Nat.reduceMul,Nat.reduceLT,Int.reduceToNat,Int.reduceAdd,Int.reduceSub,Int.reduceMul,aB,aX]
  exact U.2 (by rw [decide_eq_false (fun e=>c (by rw [e]))])
end Go.Abs.Tryz
namespace Go.Abs.Tryz
open Go Go.Abs
variable {O:Type}
theorem alF (x y:HV):(((x.p == y.p) && (x.r == y.r)) && ((x.site == y.site) && ((x.pR == y.pR) && (x.bW == y.bW))))=decide (x=y):=by
 cases x;cases y
 rw [Bool.eq_iff_iff]
 simp only [Bool.and_eq_true,beq_iff_eq,decide_eq_true_eq,HV.mk.injEq,and_assoc]
theorem alG {σ:AH O} {x y:NV} {a b c d:SA} (ha:bF .i64 a x.P) (hb:bF .u64 b x.R) (hx:x.Gk) (hc:bF .i64 c y.P) (hd:bF .u64 d y.R) (hy:y.Gk):Ok (ee [.agg (x.cells a b),.agg (y.cells c d)] σ) fun r=>r.1=.b (decide (x=y)) ∧ Ext σ r.2:=by
 have q:=alF x.h y.h
 by_cases e:x.h=y.h
 ·rw [decide_eq_true e] at q
  simp (maxSteps:=2000000) -implicitDefEqProofs (disch:=(first |omega |rfl |assumption |(simp only [aK];first |omega |assumption))) only [ee,gl,NV.cells,q,Nat.reduceAdd,Nat.reduceMul,Nat.reduceLT,Int.reduceToNat,Int.reduceAdd,Int.reduceSub,Int.reduceMul,aB,aX]
  refine Ok.step (Ml ha hc hx.p hy.p) fun r g=>?_
  subst g
  by_cases e2:x.P=y.P
  ·have q2:=decide_eq_true e2
   simp (maxSteps:=2000000) -implicitDefEqProofs (disch:=(first |omega |rfl |assumption |(simp only [aK];first |omega |assumption))) only [q2,Nat.reduceAdd,Nat.reduceMul,Nat.reduceLT,Int.reduceToNat,Int.reduceAdd,Int.reduceSub,Int.reduceMul,aB,aX]
   refine Ok.step (abm hb hd hx.r hy.r) fun r g=>?_
   subst g
   simp (maxSteps:=2000000) -implicitDefEqProofs (disch:=(first |omega |rfl |assumption |(simp only [aK];first |omega |assumption))) only [Nat.reduceAdd,Nat.reduceMul,Nat.reduceLT,Int.reduceToNat,Int.reduceAdd,Int.reduceSub,Int.reduceMul,aB,aX]
   refine U.2 ⟨?_,(ep (by (try simp only [aK] at *);omega) (fun b hb=>by (try simp only [aK] at *);simp -implicitDefEqProofs (disch:=(first |omega |rfl |assumption |(simp only [aK];first |omega |assumption))) only [bu,iI,bd]))⟩
   have:(x.R=y.R) ↔ x=y:=⟨fun h=>by cases x;cases y;simp_all,fun h=>by rw [h]⟩
   simp only [this]
  ·have q2:=decide_eq_false e2
   simp (maxSteps:=2000000) -implicitDefEqProofs (disch:=(first |omega |rfl |assumption |(simp only [aK];first |omega |assumption))) only [q2,Nat.reduceAdd,Nat.reduceMul,Nat.reduceLT,Int.reduceToNat,Int.reduceAdd,Int.reduceSub,Int.reduceMul,aB,aX]
   refine U.2 ⟨?_,(ep (by (try simp only [aK] at *);omega) (fun b hb=>by (try simp only [aK] at *);simp -implicitDefEqProofs (disch:=(first |omega |rfl |assumption |(simp only [aK];first |omega |assumption))) only [bu,iI,bd]))⟩
   rw [decide_eq_false (fun h=>e2 (by rw [h]))]
 ·rw [decide_eq_false e] at q
  simp (maxSteps:=2000000) -implicitDefEqProofs (disch:=(first |omega |rfl |assumption |(simp only [aK];first |omega |assumption))) only [ee,gl,NV.cells,q,Nat.reduceAdd,Nat.reduceMul,Nat.reduceLT,Int.reduceToNat,Int.reduceAdd,Int.reduceSub,Int.reduceMul,aB,aX]
  refine U.2 ⟨?_,(ep (by (try simp only [aK] at *);omega) (fun b hb=>by (try simp only [aK] at *);simp -implicitDefEqProofs (disch:=(first |omega |rfl |assumption |(simp only [aK];first |omega |assumption))) only [bu,iI,bd]))⟩
  rw [decide_eq_false (fun h=>e (by rw [h]))]
theorem aim {σ:AH O} {a b:SA} {l m:List NV} (ha:JJ a l) (hb:JJ b m) (hl:l.length ≤ 100000) (hm:m.length ≤ 100000) (fl:∀ x∈l,x.Gk) (fm:∀ x∈m,x.Gk):Ok (bV [.sl a l.length,.sl b m.length,.fn (some (.func 36,[],[]))] σ) fun r=>r.1=.b (decide (l=m)) ∧ Ext σ r.2:=by
 by_cases c:l.length=m.length
 ·have q0:((l.length:Int) == (m.length:Int))=true:=Ma (by omega)
  simp (maxSteps:=2000000) -implicitDefEqProofs (disch:=(first |omega |rfl |assumption |(simp only [aK];first |omega |assumption))) only [bV,cp,q0,Nat.reduceAdd,Nat.reduceMul,Nat.reduceLT,Int.reduceToNat,Int.reduceAdd,Int.reduceSub,Int.reduceMul,aB,aX]
  refine Ok.bK (Q:=fun r=>(l=m ∧ ∃ aj,r=.inl ([],aj) ∧ Ext σ aj) ∨ (l≠m ∧ ∃ aj,r=.inr (.b false,aj) ∧ Ext σ aj)) ?_ ?_ ?_
  ·refine Ok.count l.length (fun k s=>∃ aj,s=([.i .i64 (k:Int)],aj) ∧ Ext σ aj ∧ ∀ j,j<k → l[j]? = m[j]?) ?_ ?_ ⟨σ,rfl,Ext.refl σ,fun j hj=>by omega⟩
   ·rintro k s hk ⟨aJ,rfl,E1,hj⟩
    obtain ⟨x,hx⟩:∃ x,l[k]? = some x:=⟨_,List.getElem?_eq_getElem hk⟩
    obtain ⟨y,hy⟩:∃ y,m[k]? = some y:=⟨_,List.getElem?_eq_getElem (by omega)⟩
    obtain ⟨b1,o1,c1,d1,rfl,ic,id,l1⟩:=ha.node hx
    obtain ⟨b2,o2,c2,d2,rfl,jc,jd,l2⟩:=hb.node hy
    simp (maxSteps:=2000000) -implicitDefEqProofs (disch:=(first |omega |rfl |assumption |(simp only [aK];first |omega |assumption))) only [di,l1,l2,JA,Gt,Nat.reduceAdd,Nat.reduceMul,Nat.reduceLT,Int.reduceToNat,Int.reduceAdd,Int.reduceSub,Int.reduceMul,aB,aX]
    refine Ok.step (alG ic id (fl x (List.mem_of_getElem? hx)) jc jd (fm y (List.mem_of_getElem? hy))) fun r ⟨g1,g2⟩=>?_
    obtain ⟨q,aP⟩:=r
    simp only at g1 g2
    subst g1
    by_cases e:x=y
    ·have q1:=decide_eq_true e
     simp (maxSteps:=2000000) -implicitDefEqProofs (disch:=(first |omega |rfl |assumption |(simp only [aK];first |omega |assumption))) only [q1,Nat.reduceAdd,Nat.reduceMul,Nat.reduceLT,Int.reduceToNat,Int.reduceAdd,Int.reduceSub,Int.reduceMul,aB,aX]
     refine U.2 ⟨aP,by simp,(ep (by (have x0:=(g2).next);(have x1:=(E1).next);(try simp only [aK] at *);omega) (fun b hb=>by (have x0:=(g2).next);(have x1:=(E1).next);(try simp only [aK] at *);simp -implicitDefEqProofs (disch:=(first |omega |rfl |assumption |(simp only [aK];first |omega |assumption))) only [bu,iI,bd,dX (g2),dX (E1)])),fun j hj2=>?_⟩
     by_cases c:j=k
     ·rw [c,hx,hy,e]
     ·exact hj j (by omega)
    ·have q1:=decide_eq_false e
     simp (maxSteps:=2000000) -implicitDefEqProofs (disch:=(first |omega |rfl |assumption |(simp only [aK];first |omega |assumption))) only [q1,Nat.reduceAdd,Nat.reduceMul,Nat.reduceLT,Int.reduceToNat,Int.reduceAdd,Int.reduceSub,Int.reduceMul,aB,aX]
     exact U.2 (.inr ⟨fun h=>e (by rw [h,hy] at hx;simpa using hx.symm),aP,rfl,(ep (by (have x0:=(g2).next);(have x1:=(E1).next);(try simp only [aK] at *);omega) (fun b hb=>by (have x0:=(g2).next);(have x1:=(E1).next);(try simp only [aK] at *);simp -implicitDefEqProofs (disch:=(first |omega |rfl |assumption |(simp only [aK];first |omega |assumption))) only [bu,iI,bd,dX (g2),dX (E1)]))⟩)
   ·rintro s ⟨aJ,rfl,E1,hj⟩
    simp (maxSteps:=2000000) -implicitDefEqProofs (disch:=(first |omega |rfl |assumption |(simp only [aK];first |omega |assumption))) only [di,Nat.reduceAdd,Nat.reduceMul,Nat.reduceLT,Int.reduceToNat,Int.reduceAdd,Int.reduceSub,Int.reduceMul,aB,aX]
    refine U.2 (.inl ⟨List.ext_getElem? fun j=>?_,aJ,rfl,E1⟩)
    by_cases c:j<l.length
    ·exact hj j c
    ·rw [List.getElem?_eq_none (by omega),List.getElem?_eq_none (by omega)]
  ·rintro s (⟨e,aJ,hs,E1⟩ |⟨_,aJ,hs,_⟩)
   ·cases hs
    exact U.2 ⟨by simp [e],E1⟩
   ·cases hs
  ·rintro r (⟨_,aJ,hs,_⟩ |⟨e,aJ,hs,E1⟩)
   ·cases hs
   ·cases hs;exact ⟨by simp [e],E1⟩
 ·have q0:((l.length:Int) == (m.length:Int))=false:=Mb (by omega)
  simp (maxSteps:=2000000) -implicitDefEqProofs (disch:=(first |omega |rfl |assumption |(simp only [aK];first |omega |assumption))) only [bV,cp,q0,Nat.reduceAdd,Nat.reduceMul,Nat.reduceLT,Int.reduceToNat,Int.reduceAdd,Int.reduceSub,Int.reduceMul,aB,aX]
  exact U.2 ⟨by rw [decide_eq_false (fun e=>c (by rw [e]))],Ext.refl σ⟩
theorem ahi {σ:AH O} {F G:FV} {v w:AV} (hF:F.At v) (hG:G.At w) (fF:F.Gk) (fG:G.Gk):Ok (nX [v,w] σ) fun r=>r.1=.b (decide (F=G)) ∧ Ext σ r.2:=by
 obtain ⟨a1,b1,c1,rfl,i1,i2,i3⟩:=hF.it
 obtain ⟨a2,b2,c2,rfl,j1,j2,j3⟩:=hG.it
 simp (maxSteps:=2000000) -implicitDefEqProofs (disch:=(first |omega |rfl |assumption |(simp only [aK];first |omega |assumption))) only [nX,yr,Nat.reduceAdd,Nat.reduceMul,Nat.reduceLT,Int.reduceToNat,Int.reduceAdd,Int.reduceSub,Int.reduceMul,aB,aX]
 refine Ok.step (aim i1 j1 fF.n fG.n fF.x fG.x) fun r ⟨g1,g2⟩=>?_
 obtain ⟨q,aJ⟩:=r
 simp only at g1 g2
 subst g1
 by_cases e1:F.nodes=G.nodes
 ·have q1:=decide_eq_true e1
  simp (maxSteps:=2000000) -implicitDefEqProofs (disch:=(first |omega |rfl |assumption |(simp only [aK];first |omega |assumption))) only [q1,dX g2,Nat.reduceAdd,Nat.reduceMul,Nat.reduceLT,Int.reduceToNat,Int.reduceAdd,Int.reduceSub,Int.reduceMul,aB,aX]
  refine Ok.step (Ml i2 j2 fF.r fG.r) fun r g=>?_
  subst g
  by_cases e2:F.roots=G.roots
  ·have q2:=decide_eq_true e2
   simp (maxSteps:=2000000) -implicitDefEqProofs (disch:=(first |omega |rfl |assumption |(simp only [aK];first |omega |assumption))) only [q2,dX g2,Nat.reduceAdd,Nat.reduceMul,Nat.reduceLT,Int.reduceToNat,Int.reduceAdd,Int.reduceSub,Int.reduceMul,aB,aX]
   refine Ok.step (Ml i3 j3 fF.w fG.w) fun r g=>?_
   subst g
   simp (maxSteps:=2000000) -implicitDefEqProofs (disch:=(first |omega |rfl |assumption |(simp only [aK];first |omega |assumption))) only [Nat.reduceAdd,Nat.reduceMul,Nat.reduceLT,Int.reduceToNat,Int.reduceAdd,Int.reduceSub,Int.reduceMul,aB,aX]
   refine U.2 ⟨?_,(ep (by (have x0:=(g2).next);(try simp only [aK] at *);omega) (fun b hb=>by (have x0:=(g2).next);(try simp only [aK] at *);simp -implicitDefEqProofs (disch:=(first |omega |rfl |assumption |(simp only [aK];first |omega |assumption))) only [bu,iI,bd,dX (g2)]))⟩
   have:(F.bn=G.bn) ↔ F=G:=⟨fun h=>by cases F;cases G;simp_all,fun h=>by rw [h]⟩
   simp only [this]
  ·have q2:=decide_eq_false e2
   simp (maxSteps:=2000000) -implicitDefEqProofs (disch:=(first |omega |rfl |assumption |(simp only [aK];first |omega |assumption))) only [q2,Nat.reduceAdd,Nat.reduceMul,Nat.reduceLT,Int.reduceToNat,Int.reduceAdd,Int.reduceSub,Int.reduceMul,aB,aX]
   refine U.2 ⟨?_,(ep (by (have x0:=(g2).next);(try simp only [aK] at *);omega) (fun b hb=>by (have x0:=(g2).next);(try simp only [aK] at *);simp -implicitDefEqProofs (disch:=(first |omega |rfl |assumption |(simp only [aK];first |omega |assumption))) only [bu,iI,bd,dX (g2)]))⟩
   rw [decide_eq_false (fun h=>e2 (by rw [h]))]
 ·have q1:=decide_eq_false e1
  simp (maxSteps:=2000000) -implicitDefEqProofs (disch:=(first |omega |rfl |assumption |(simp only [aK];first |omega |assumption))) only [q1,Nat.reduceAdd,Nat.reduceMul,Nat.reduceLT,Int.reduceToNat,Int.reduceAdd,Int.reduceSub,Int.reduceMul,aB,aX]
  refine U.2 ⟨?_,(ep (by (have x0:=(g2).next);(try simp only [aK] at *);omega) (fun b hb=>by (have x0:=(g2).next);(try simp only [aK] at *);simp -implicitDefEqProofs (disch:=(first |omega |rfl |assumption |(simp only [aK];first |omega |assumption))) only [bu,iI,bd,dX (g2)]))⟩
  rw [decide_eq_false (fun h=>e1 (by rw [h]))]
end Go.Abs.Tryz
