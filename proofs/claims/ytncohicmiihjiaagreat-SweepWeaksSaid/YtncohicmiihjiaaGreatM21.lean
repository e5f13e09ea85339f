/-
  What is moved when all that lives is gone over, by definition; the plain law. No conditions.
-/
import Derived.Test.YtncohicmiihjiaaGreatL21
import Derived.Test.YtncohicmiihjiaaGreatS9w
set_option linter.unusedVariables false
set_option linter.unusedSimpArgs false
set_option linter.constructorNameAsVariable false
set_option linter.unusedSimpArgs false
set_option linter.unusedVariables false
set_option linter.unusedSectionVars false
set_option maxHeartbeats 1000000
namespace Go.Abs.Tryz
open Go Go.Abs
variable {O:Type}
structure PS where
 now:Nat->Option Nat
 mv:List Nat
 top:Nat
 sd:Nat
 ld:Nat
def sy (Ds:List DO) (i:Nat):Bool:=match Ds[i]? with |some d=>d.h.l |none=>false
def Qm (Ds:List DO) (i:Nat):Nat:=match Ds[i]? with |some d=>d.n |none=>0
def PS.sm (Ds:List DO) (p:PS):List Nat:=p.mv.filter fun i => !sy Ds i
def PS.lg (Ds:List DO) (p:PS):List Nat:=p.mv.filter fun i=>sy Ds i
def fP (Ds:List DO) (l:List Nat) (j:Nat):Nat:=((l.take j).map (Qm Ds)).sum
def PS.move (Ds:List DO) (p:PS) (i:Nat):PS:=
 match p.now i,Ds[i]? with
 |none,some d=>{p with now:=cW p.now i (if d.h.l then d.at_ else p.top),mv:=p.mv++[i],top:=p.top+if d.h.l then 0 else d.n}
 |_,_=>p
def Kr (Ds:List DO) (w:Int):Option Nat:=Ds.findIdx? fun d=>d.ref == w
def PS.ptr (Ds:List DO) (p:PS) (w:Int):PS:=
 if w=0 then p else match Kr Ds w with |none=>p |some j=>p.move Ds j
def PS.scan (Ds:List DO) (p:PS) (l:List Int):PS:=l.foldl (PS.ptr Ds) p
def PS.next (Ds:List DO) (p:PS):Option Nat:=if p.sd<(p.sm Ds).length then (p.sm Ds)[p.sd]? else (p.lg Ds)[p.ld]?
def PS.tick (Ds:List DO) (p:PS):PS:=if p.sd<(p.sm Ds).length then {p with sd:=p.sd+1} else {p with ld:=p.ld+1}
def jn (Ds:List DO) (k:Nat):List Int:=match Ds[k]? with |some d=>d.P |none=>[]
def PS.step (Ds:List DO) (p:PS):Option PS:=(p.next Ds).map fun k=>(p.tick Ds).scan Ds (jn Ds k)
def PS.oM (Ds:List DO) (p:PS) (i:Nat):Prop:=i∈(p.sm Ds).take p.sd ∨ i∈(p.lg Ds).take p.ld
structure PI (Ds:List DO) (p:PS):Prop where
 nd:p.mv.Nodup
 mem:∀ i,i∈p.mv ↔ p.now i≠none
 lt:∀ i∈p.mv,i<Ds.length
 pos:∀ j i,(p.sm Ds)[j]? = some i->p.now i=some (fP Ds (p.sm Ds) j)
 lgp:∀ i d,Ds[i]? = some d->d.h.l=true->p.now i≠none->p.now i=some d.at_
 top:p.top=fP Ds (p.sm Ds) (p.sm Ds).length
 sd:p.sd<=(p.sm Ds).length
 ld:p.ld<=(p.lg Ds).length
def PS.zero:PS:=⟨fun _=>none,[],0,0,0⟩
theorem PI.zero (Ds:List DO):PI Ds PS.zero:=⟨List.nodup_nil,fun i=>by simp [PS.zero],by simp [PS.zero],by simp [PS.zero,PS.sm],fun i d _ _ h=>absurd rfl h,rfl,Nat.le_refl _,Nat.le_refl _⟩
theorem AW {Ds:List DO} {l:List Nat} {j:Nat} (h:l.length<=j):fP Ds l j=(l.map (Qm Ds)).sum:=by unfold fP;rw [List.take_of_length_le h]
theorem mI {Ds:List DO} {l m:List Nat} {j:Nat} (h:j<=l.length):fP Ds (l++m) j=fP Ds l j:=by unfold fP;rw [List.take_append_of_le_length h]
theorem ng {Ds:List DO} {l:List Nat} {j i:Nat} (h:l[j]? = some i):fP Ds l (j+1)=fP Ds l j+Qm Ds i:=by
 unfold fP
 rw [List.take_add_one,h,List.map_append,List.sum_append]
 simp
structure PS.more (Ds:List DO) (p q:PS):Prop where
 now:∀ i t,p.now i=some t->q.now i=some t
 mv:∃ l,q.mv=p.mv++l
 sd:q.sd=p.sd
 ld:q.ld=p.ld
theorem PS.more.refl (Ds:List DO) (p:PS):PS.more Ds p p:=⟨fun _ _ h=>h,⟨[],by simp⟩,rfl,rfl⟩
theorem PS.more.trans {Ds:List DO} {p q r:PS} (h:PS.more Ds p q) (g:PS.more Ds q r):PS.more Ds p r:=by
 obtain ⟨l,hl⟩:=h.mv
 obtain ⟨m,hm⟩:=g.mv
 exact ⟨fun i t q=>g.now i t (h.now i t q),⟨l++m,by rw [hm,hl,List.append_assoc]⟩,g.sd.trans h.sd,g.ld.trans h.ld⟩
theorem PS.more.oM {Ds:List DO} {p q:PS} (h:PS.more Ds p q) (hp:PI Ds p) (i:Nat):q.oM Ds i ↔ p.oM Ds i:=by
 obtain ⟨l,hl⟩:=h.mv
 unfold PS.oM
 have e1:q.sm Ds=p.sm Ds++l.filter fun i => !sy Ds i:=by unfold PS.sm;rw [hl,List.filter_append]
 have e2:q.lg Ds=p.lg Ds++l.filter fun i=>sy Ds i:=by unfold PS.lg;rw [hl,List.filter_append]
 rw [e1,e2,h.sd,h.ld,List.take_append_of_le_length hp.sd,List.take_append_of_le_length hp.ld]
theorem nh {Ds:List DO} {p:PS} {i t:Nat} (h:p.now i=some t):p.move Ds i=p:=by
 unfold PS.move;rw [h]
theorem ni {Ds:List DO} {p:PS} {i:Nat} {d:DO} (h:p.now i=none) (hd:Ds[i]? = some d):p.move Ds i={p with now:=cW p.now i (if d.h.l then d.at_ else p.top),mv:=p.mv++[i],top:=p.top+if d.h.l then 0 else d.n}:=by
 unfold PS.move;rw [h,hd]
theorem km {Ds:List DO} {p:PS} {i:Nat}:PS.more Ds p (p.move Ds i):=by
 cases h:p.now i with
 |some t=>rw [nh h];exact PS.more.refl _ _
 |none=>
  cases hd:Ds[i]? with
  |none=>unfold PS.move;rw [h,hd];exact PS.more.refl _ _
  |some d=>
   rw [ni h hd]
   refine ⟨fun j t hj=>?_,⟨[i],rfl⟩,rfl,rfl⟩
   show cW p.now i _ j=_
   unfold cW
   rw [if_neg (fun e=>by rw [e,h] at hj;cases hj)]
   exact hj
theorem ig {Ds:List DO} {i:Nat} {d:DO} (hd:Ds[i]? = some d):sy Ds i=d.h.l:=by unfold sy;rw [hd]
theorem Da {Ds:List DO} {i:Nat} {d:DO} (hd:Ds[i]? = some d):Qm Ds i=d.n:=by unfold Qm;rw [hd]
theorem PI.move {Ds:List DO} {p:PS} (h:PI Ds p) (i:Nat):PI Ds (p.move Ds i):=by
 cases hn:p.now i with
 |some t=>rw [nh hn];exact h
 |none=>
  cases hd:Ds[i]? with
  |none=>unfold PS.move;rw [hn,hd];exact h
  |some d=>
   have hi:=(List.getElem?_eq_some_iff.1 hd).1
   have F8:i∉p.mv:=fun hm=>(h.mem i).1 hm hn
   rw [ni hn hd]
   have up:∀ (t:Nat) (j:Nat),j≠i->cW p.now i t j=p.now j:=fun t j hj=>by unfold cW;rw [if_neg hj]
   have ui:∀ (t:Nat),cW p.now i t i=some t:=fun t=>by unfold cW;rw [if_pos rfl]
   have smi:∀ j,j∈p.sm Ds->j≠i:=fun j hj e=>F8 (by rw [<-e];exact (List.mem_filter.1 hj).1)
   cases hl:d.h.l with
   |true=>
    have e1:PS.sm Ds {p with now:=cW p.now i d.at_,mv:=p.mv++[i],top:=p.top+0}=p.sm Ds:=by
     unfold PS.sm;simp [List.filter_append,ig hd,hl]
    have e2:PS.lg Ds {p with now:=cW p.now i d.at_,mv:=p.mv++[i],top:=p.top+0}=p.lg Ds++[i]:=by
     unfold PS.lg;simp [List.filter_append,ig hd,hl]
    simp only [if_true]
    refine ⟨?_,fun j=>?_,fun j hj=>?_,fun j k hj=>?_,fun j b hb cy hj=>?_,?_,?_,?_⟩
    ·exact List.nodup_append.2 ⟨h.nd,by simp,fun a ha b hb e=>F8 (by simp at hb;rw [<-hb,<-e];exact ha)⟩
    ·simp only [List.mem_append,List.mem_singleton]
     by_cases c:j=i
     ·subst c;rw [ui];simp
     ·rw [up _ j c];simp [c,h.mem j]
    ·simp only [List.mem_append,List.mem_singleton] at hj
     rcases hj with hj |rfl
     ·exact h.lt j hj
     ·exact hi
    ·rw [e1] at hj ⊢
     have:=smi k (List.mem_of_getElem? hj)
     show cW p.now i _ k=_
     rw [up _ k this];exact h.pos j k hj
    ·show cW p.now i _ j=_
     by_cases c:j=i
     ·subst c;rw [hd] at hb;cases hb;exact ui _
     ·have hj:cW p.now i d.at_ j≠none:=hj
      rw [up _ j c] at hj ⊢
      exact h.lgp j b hb cy hj
    ·rw [e1];exact h.top
    ·rw [e1];exact h.sd
    ·rw [e2,List.length_append];have:=h.ld;simp;omega
   |false=>
    have e1:PS.sm Ds {p with now:=cW p.now i p.top,mv:=p.mv++[i],top:=p.top+d.n}=p.sm Ds++[i]:=by
     unfold PS.sm;simp [List.filter_append,ig hd,hl]
    have e2:PS.lg Ds {p with now:=cW p.now i p.top,mv:=p.mv++[i],top:=p.top+d.n}=p.lg Ds:=by
     unfold PS.lg;simp [List.filter_append,ig hd,hl]
    simp only [Bool.false_eq_true,if_false]
    refine ⟨?_,fun j=>?_,fun j hj=>?_,fun j k hj=>?_,fun j b hb cy hj=>?_,?_,?_,?_⟩
    ·exact List.nodup_append.2 ⟨h.nd,by simp,fun a ha b hb e=>F8 (by simp at hb;rw [<-hb,<-e];exact ha)⟩
    ·simp only [List.mem_append,List.mem_singleton]
     by_cases c:j=i
     ·subst c;rw [ui];simp
     ·rw [up _ j c];simp [c,h.mem j]
    ·simp only [List.mem_append,List.mem_singleton] at hj
     rcases hj with hj |rfl
     ·exact h.lt j hj
     ·exact hi
    ·rw [e1] at hj ⊢
     show cW p.now i _ k=_
     by_cases c:j<(p.sm Ds).length
     ·rw [List.getElem?_append_left c] at hj
      rw [up _ k (smi k (List.mem_of_getElem? hj)),mI (by omega)]
      exact h.pos j k hj
     ·have Ho:=(List.getElem?_eq_some_iff.1 hj).1
      simp at Ho
      have:j=(p.sm Ds).length:=by omega
      subst this
      simp at hj
      subst hj
      rw [ui,mI (Nat.le_refl _),<-h.top]
    ·show cW p.now i _ j=_
     have c:j≠i:=fun e=>by rw [e,hd] at hb;cases hb;rw [hl] at cy;cases cy
     have hj:cW p.now i p.top j≠none:=hj
     rw [up _ j c] at hj ⊢
     exact h.lgp j b hb cy hj
    ·rw [e1]
     show p.top+d.n=_
     rw [List.length_append]
     show _=fP Ds (p.sm Ds++[i]) ((p.sm Ds).length+1)
     rw [ng (i:=i) (by simp),mI (Nat.le_refl _),<-h.top,Da hd]
    ·rw [e1,List.length_append];have:=h.sd;simp;omega
    ·rw [e2];exact h.ld
theorem PI.ptr {Ds:List DO} {p:PS} (h:PI Ds p) (w:Int):PI Ds (p.ptr Ds w):=by
 unfold PS.ptr
 split
 ·exact h
 ·split
  ·exact h
  ·exact h.move _
theorem Ks {Ds:List DO} {p:PS} {w:Int}:PS.more Ds p (p.ptr Ds w):=by
 unfold PS.ptr
 split
 ·exact PS.more.refl _ _
 ·split
  ·exact PS.more.refl _ _
  ·exact km
theorem PI.scan {Ds:List DO}:∀ {l:List Int} {p:PS},PI Ds p->PI Ds (p.scan Ds l)
 |[],_,h=>h
 |w::l,p,h=>PI.scan (l:=l) (h.ptr w)
theorem iV {Ds:List DO}:∀ {l:List Int} {p:PS},PS.more Ds p (p.scan Ds l)
 |[],_=>PS.more.refl _ _
 |w::l,p=>Ks.trans (iV (l:=l))
theorem rQ {Ds:List DO} {p:PS} {l:List Int} {q:Nat} {w:Int} (h:l[q]? = some w):p.scan Ds (l.take (q+1))=(p.scan Ds (l.take q)).ptr Ds w:=by
 unfold PS.scan
 rw [List.take_add_one,h,List.foldl_append];rfl
theorem gE {Ds:List DO} {p:PS} (h:p.sd<(p.sm Ds).length):p.tick Ds={p with sd:=p.sd+1}:=if_pos h
theorem gG {Ds:List DO} {p:PS} (h:¬ p.sd<(p.sm Ds).length):p.tick Ds={p with ld:=p.ld+1}:=if_neg h
theorem PI.tick {Ds:List DO} {p:PS} (h:PI Ds p) {k:Nat} (hk:p.next Ds=some k):PI Ds (p.tick Ds):=by
 unfold PS.next at hk
 by_cases c:p.sd<(p.sm Ds).length
 ·rw [gE c]
  exact {h with sd:=c}
 ·rw [gG c]
  rw [if_neg c] at hk
  have:=(List.getElem?_eq_some_iff.1 hk).1
  exact {h with ld:=this}
theorem PI.step {Ds:List DO} {p q:PS} (h:PI Ds p) (hs:p.step Ds=some q):PI Ds q:=by
 unfold PS.step at hs
 cases hn:p.next Ds with
 |none=>rw [hn] at hs;cases hs
 |some k=>
  rw [hn] at hs
  simp only [Option.map_some,Option.some.injEq] at hs
  rw [<-hs]
  exact (h.tick hn).scan
def PS.run (Ds:List DO):Nat->PS->PS
 |0,p=>p
 |n+1,p=>match p.step Ds with |none=>p |some q=>PS.run Ds n q
theorem mJ {Ds:List DO} {p:PS} (h:p.step Ds=none):∀ n,PS.run Ds n p=p
 |0=>rfl
 |n+1=>by show (match p.step Ds with |none=>p |some q=>_)=p;rw [h]
theorem Er {Ds:List DO}:∀ {n m:Nat} {p:PS},(PS.run Ds n p).step Ds=none->(PS.run Ds m p).step Ds=none->PS.run Ds n p=PS.run Ds m p
 |0,m,p,h,_=>(mJ h m).symm
 |n+1,0,p,_,g=>mJ g (n+1)
 |n+1,m+1,p,h,g=>by
  cases hs:p.step Ds with
  |none=>rw [mJ hs,mJ hs]
  |some q=>
   have e1:PS.run Ds (n+1) p=PS.run Ds n q:=by show (match p.step Ds with |none=>p |some q=>_)=_;rw [hs]
   have e2:PS.run Ds (m+1) p=PS.run Ds m q:=by show (match p.step Ds with |none=>p |some q=>_)=_;rw [hs]
   rw [e1] at h ⊢
   rw [e2] at g ⊢
   exact Er h g
theorem u0 {Ds:List DO}:∀ {n:Nat} {p q:PS},(PS.run Ds n p).step Ds=some q->PS.run Ds (n+1) p=q
 |0,p,q,h=>by show (match p.step Ds with |none=>p |some q=>_)=_;rw [show p.step Ds=some q from h];rfl
 |n+1,p,q,h=>by
  cases hs:p.step Ds with
  |none=>rw [mJ hs,hs] at h;cases h
  |some r=>
   have e1:PS.run Ds (n+1) p=PS.run Ds n r:=by show (match p.step Ds with |none=>p |some q=>_)=_;rw [hs]
   have e2:PS.run Ds (n+1+1) p=PS.run Ds (n+1) r:=by show (match p.step Ds with |none=>p |some q=>_)=_;rw [hs]
   rw [e1] at h
   rw [e2]
   exact u0 h
theorem xy {Ds:List DO} {p q:PS} (h:PI Ds p) (hs:p.step Ds=some q):q.sd+q.ld=p.sd+p.ld+1:=by
 unfold PS.step at hs
 cases hn:p.next Ds with
 |none=>rw [hn] at hs;cases hs
 |some k=>
  rw [hn] at hs
  simp only [Option.map_some,Option.some.injEq] at hs
  have m:=iV (Ds:=Ds) (l:=jn Ds k) (p:=p.tick Ds)
  rw [hs] at m
  rw [m.sd,m.ld]
  by_cases c:p.sd<(p.sm Ds).length
  ·rw [gE c];show p.sd+1+p.ld=_;omega
  ·rw [gG c];rfl
theorem sA (f:Nat->Bool):∀ l:List Nat,(l.filter fun i => !f i).length+(l.filter fun i=>f i).length=l.length
 |[]=>rfl
 |x::l=>by
  have:=sA f l
  cases h:f x<;>simp [List.filter_cons,h]<;>omega
theorem PI.bW {Ds:List DO} {p:PS} (h:PI Ds p):p.mv.length<=Ds.length/\p.sd+p.ld<=p.mv.length:=by
 refine ⟨?_,?_⟩
 ·have:=List.Nodup.length_le_of_subset h.nd (l₂:=List.range Ds.length) fun i hi=>List.mem_range.2 (h.lt i hi)
  simpa using this
 ·have h1:=h.sd
  have h2:=h.ld
  have:(p.sm Ds).length+(p.lg Ds).length=p.mv.length:=by
   unfold PS.sm PS.lg
   exact sA _ _
  omega
end Go.Abs.Tryz
set_option maxHeartbeats 4000000
namespace Go.Abs.Tryz
open Go Go.Abs
variable {O:Type}
def atN (Ds:List DO) (i:Nat):Nat:=match Ds[i]? with |some d=>d.at_ |none=>0
theorem Kt {Ds:List DO} {i:Nat} {d:DO} (hd:Ds[i]? = some d):atN Ds i=d.at_:=by unfold atN;rw [hd]
theorem NT {H K:List Nat} {t:Nat} (ht:t<=H.length):pid (H++K) t=pid H t:=by
 cases t with
 |zero=>rfl
 |succ t=>
  simp only [pid]
  rw [List.getElem?_append_left (show t<H.length by omega)]
def PV (Ds:List DO):Prop:=∀ d∈Ds,∀ w∈d.P,w=0 ∨ ∃ (j:Nat) (b:DO),Ds[j]? = some b/\b.ref=w
structure GC (f:Fn × List AV × List AV) (Tw:List Hd->AH O->List Nat->Prop) (J:AH O) (eb sb nb lb pb mb:Nat) (M:ah) (S:ao) (w:List Int) (L:aP) (T:bn) (X:List Nat) (aW:Int) (v:List Int) (ot:Nat) (hs:List Hd) (Z:List Nat) (Ds:List DO) (p:PS) (C:Nat->DO):Prop where
 h:bd f Tw J eb sb nb lb pb mb M S w L T X [] aW v ot hs Z
 e:EG Ds p.now C L T v ot
 pi:PI Ds p
 top:T.top=p.top
 H:L.H=(p.lg Ds).map (atN Ds)
 last:L.last=(pid L.H p.ld:Int)
 H0:hs.length=p.mv.length
 gen:∀ e∈S.E,e.gen=0
def Raw (Ds:List DO) (p:PS) (C:Nat->DO) (k:Nat):Prop:=∀ (i:Nat) (d:DO),Ds[i]? = some d->p.now i≠none->i≠k->¬ p.oM Ds i->(C i).P=d.P
section
variable {f:Fn × List AV × List AV} {Tw:List Hd->AH O->List Nat->Prop} (tl:eL f Tw) {J:AH O} {eb sb nb lb pb mb:Nat} {M:ah} {S:ao} {w:List Int} {L:aP} {T:bn} {X Z:List Nat} {aW:Int} {v:List Int} {ot:Nat} {hs:List Hd} {Ds:List DO} {p:PS} {C:Nat->DO}
theorem GC.sub (g:GC f Tw J eb sb nb lb pb mb M S w L T X aW v ot hs Z Ds p C) {J':AH O} {X':List Nat} {M':ah} (h:bd f Tw J' eb sb nb lb pb mb M' S w L T X' [] aW v ot hs Z):GC f Tw J' eb sb nb lb pb mb M' S w L T X' aW v ot hs Z Ds p C:=⟨h,g.e,g.pi,g.top,g.H,g.last,g.H0,g.gen⟩
include tl
theorem Ep (g:GC f Tw J eb sb nb lb pb mb M S w L T X aW v ot hs Z Ds p C) (hf:M.cT 100000) (vS:Ds.length<=500) (oN:∀ d∈Ds,d.n<=50) {j:Nat} {d:DO} (hd:Ds[j]? = some d):Ok (zG [.p (some (.n eb,0)),.i .u64 d.ref] J) fun r=>∃ t,r.1=.i .u64 (d.to t)/\(p.move Ds j).now j=some t/\∃ M' S' w' L' T' v' iU Z' C',GC f Tw r.2 eb sb nb lb pb mb M' S' w' L' T' X aW v' ot iU Z' Ds (p.move Ds j) C'/\v'.length=v.length/\(∀ i,p.now i≠none->C' i=C i)/\(∀ i b,Ds[i]? = some b->p.now i=none->(p.move Ds j).now i≠none->(C' i).P=b.P)/\Alike S S'/\dp [] M M' 200 0 0/\aw X J r.2:=by
 cases hn:p.now j with
 |some t=>
  rw [nh hn]
  refine (Jm tl g.h hf g.e hd hn).mono fun r ⟨g1,M',g2,g3,g4⟩=>⟨t,g1,hn,M',S,w,L,T,v,hs,Z,C,g.sub g2,rfl,fun i _=>rfl,fun i b _ h1 h2=>absurd h1 h2,Alike.refl S,g3.as (by decide) rfl rfl,g4⟩
 |none=>
  have hm:=ni hn hd
  have pf:=g.pi.bW
  have mf:=(g.pi.move j).bW
  refine (Nm tl g.h hf g.e hd hn (by rw [g.H0];omega)).mono fun r ⟨g1,M',S',w',L',T',v',Z',g2,g3,g4,g5,g6,g7,g8,g9⟩=>?_
  have nw:(p.move Ds j).now=cW p.now j (if d.h.l then d.at_ else T.top):=by rw [hm,g.top]
  have lgE:(p.move Ds j).lg Ds=if d.h.l then p.lg Ds++[j] else p.lg Ds:=by
   rw [hm]
   unfold PS.lg
   simp only [List.filter_append]
   cases hl:d.h.l<;>simp [ig hd,hl]
  have tp:=g3.top
  rw [g.e.CP hd hn] at tp
  refine ⟨_,g1,by rw [nw];unfold cW;rw [if_pos rfl],M',S',w',L',T',v',_,Z',_,⟨g2,by rw [nw];exact g3,g.pi.move j,?_,?_,?_,?_,g7.g0 g.gen⟩,g6,fun i hi=>?_,fun i b hb h1 h2=>?_,g7,g8.as (by have:=oN d (List.mem_of_getElem? hd);omega) rfl rfl,g9⟩
  ·rw [tp,hm,g.top]
  ·rw [g4,lgE,g.H]
   cases hl:d.h.l
   ·simp
   ·simp [Kt hd]
  ·have Xf:(p.move Ds j).ld=p.ld:=km.ld
   rw [g5,g.last,Xf,g4]
   split
   ·rw [NT]
    rw [g.H,List.length_map];exact g.pi.ld
   ·rfl
  ·rw [hm,List.length_append,List.length_append,g.H0];rfl
  ·unfold sv
   rw [if_neg (fun e=>hi (by rw [e];exact hn))]
  ·have:i=j:=by
    by_cases c:i=j
    ·exact c
    ·exfalso
     rw [nw] at h2
     unfold cW at h2
     rw [if_neg c] at h2
     exact h2 h1
   subst this
   rw [hd] at hb;cases hb
   unfold sv;rw [if_pos rfl];rfl
theorem AX (h:bd f Tw J eb sb nb lb pb mb M S w L T X [] aW v ot hs Z) (hf:M.cT 1000) {o:Ob} (ho:o.is T L) {k:Nat} (hk:k<o.n) (x:Int):Ok (NL [.p (some (.n sb,0)),.i .u64 o.ref,.i .i64 (k:Int),.i .u64 x] J) fun r=>r.1=.i .i64 0/\∃ M',bd f Tw r.2 eb sb nb lb pb mb M' S w (fO L o k x) (cC T o k x) X [] aW v ot hs Z/\dp [] M M' 3 0 0/\aw X J r.2:=by
 refine (oS h.t.s hf ho hk x).mono fun r ⟨g1,M',g2,g3,g4,g5⟩=>⟨g1,M',h.as tl ⟨g2,?_,(g3.dv aW (by simp)).trans h.t.w,h.t.top⟩ g5,g3.mono fun y hy=>(nomatch hy),g5.mono fun b hb=>by simp [hb]⟩
 have:(cC T o k x).cO=T.cO:=by unfold cC;split<;>rfl
 rw [this];exact h.t.cO
omit tl in
theorem ED {Ds:List DO} (ap:∀ (i j:Nat) (a b:DO),i<j->Ds[i]? = some a->Ds[j]? = some b->a.h.l=b.h.l->if a.h.l then a.at_≠b.at_ else a.at_+a.n<=b.at_) {j:Nat} {d:DO} (hd:Ds[j]? = some d):Kr Ds d.ref=some j:=by
 unfold Kr
 rw [List.findIdx?_eq_some_iff_getElem]
 obtain ⟨I9,hje⟩:=List.getElem?_eq_some_iff.1 hd
 refine ⟨I9,by rw [hje];simp,fun i pj=>?_⟩
 have xS:i<Ds.length:=by omega
 have hi:Ds[i]? = some (Ds[i]'xS):=List.getElem?_eq_getElem xS
 generalize Ds[i]'xS=a at hi
 simp only [beq_iff_eq]
 intro e
 unfold DO.ref DO.to at e
 by_cases c:a.h.l=d.h.l
 ·have:=ap i j a d pj hi hd c
  rw [c] at e this
  cases hl:d.h.l with
  |true=>
   rw [hl] at e this
   simp only [if_true] at e this
   unfold nD at e;omega
  |false=>
   rw [hl] at e this
   simp only [Bool.false_eq_true,if_false] at e this
   have:1<=a.n:=by unfold DO.n;omega
   unfold m8 at e;omega
 ·cases h1:a.h.l<;>cases h2:d.h.l<;>rw [h1,h2] at e c
  ·exact c rfl
  ·simp only [Bool.false_eq_true,if_false,if_true] at e;unfold m8 nD at e;omega
  ·simp only [Bool.false_eq_true,if_false,if_true] at e;unfold m8 nD at e;omega
  ·exact c rfl
end
end Go.Abs.Tryz
namespace Go.Abs.Tryz
open Go Go.Abs
variable {O:Type}
theorem xA (d:DO) (t:Nat):d.to t≠0:=by
 unfold DO.to;split
 ·unfold nD;omega
 ·unfold m8;omega
theorem EE {Ds:List DO} {p:PS} (ap:∀ (i j:Nat) (a b:DO),i<j->Ds[i]? = some a->Ds[j]? = some b->a.h.l=b.h.l->if a.h.l then a.at_≠b.at_ else a.at_+a.n<=b.at_) {j:Nat} {b:DO} (hb:Ds[j]? = some b):p.ptr Ds b.ref=p.move Ds j:=by
 unfold PS.ptr
 rw [if_neg (show b.ref≠0 from xA b b.at_),ED ap hb]
theorem SL {d:DO} {q:Nat} (h:q<d.P.length):d.ws.getD (1+q) 0=d.P.getD q 0:=by
 unfold DO.ws
 rw [Nat.add_comm,List.getD_cons_succ,List.getD_eq_getElem?_getD,List.getElem?_append_left h,List.getD_eq_getElem?_getD]
theorem NU {f:Fn × List AV × List AV} {Tw:List Hd->AH O->List Nat->Prop} (tl:eL f Tw) {J:AH O} {gb eb sb nb lb pb mb:Nat} {M:ah} {S:ao} {w:List Int} {L:aP} {T:bn} {X Z:List Nat} {aW:Int} {v:List Int} {ot:Nat} {hs:List Hd} {Ds:List DO} {p:PS} {C:Nat->DO} (g:GC f Tw J eb sb nb lb pb mb M S w L T (gb::X) aW v ot hs Z Ds p C) {a dn:Int} (hb:J.aa gb=some (.cells true 205 [.p (some (.n eb,0)),.i .i64 a,.i .i64 dn])) {c c2:Int} (hf:M.bW c c2) (hc:c<=10000000) (vS:Ds.length<=500) (oN:∀ d∈Ds,d.n<=50) (pv:PV Ds) {k:Nat} {d:DO} (hd:Ds[k]? = some d) {t:Nat} (hn:p.now k=some t) (hP:(C k).P=d.P) (raw:Raw Ds p C k):
  Ok (Vi [.p (some (.n gb,0)),.i .u64 (d.to t),.i .i64 (d.P.length:Int)] J) fun r=>r.1=.aB []/\∃ M' S' w' L' T' v' iU Z' C',GC f Tw r.2 eb sb nb lb pb mb M' S' w' L' T' (gb::X) aW v' ot iU Z' Ds (p.scan Ds d.P) C'/\Raw Ds (p.scan Ds d.P) C' k/\v'.length=v.length/\M'.bW (c+210*d.P.length) c2/\aw (gb::X) J r.2:=by
 have hPl:d.P.length<=50:=by have:=oN d (List.mem_of_getElem? hd);unfold DO.n at this;omega
 have z0:((0:Int) == 0)=true:=rfl
 have lp:Ok (bC (qth (d.P.length:Int) (some (.n gb,0)) Ku Nj (d.to t) zG NL) ([.i .i64 0],J)) fun q=>∃ J',q=.inl ([],J')/\∃ M' S' w' L' T' v' iU Z' C',GC f Tw J' eb sb nb lb pb mb M' S' w' L' T' (gb::X) aW v' ot iU Z' Ds (p.scan Ds d.P) C'/\Raw Ds (p.scan Ds d.P) C' k/\v'.length=v.length/\M'.bW (c+210*d.P.length) c2/\aw (gb::X) J J':=by
  refine Ok.count d.P.length (fun q s=>∃ J' M' S' w' L' T' v' iU Z' C',s=([.i .i64 (q:Int)],J')/\GC f Tw J' eb sb nb lb pb mb M' S' w' L' T' (gb::X) aW v' ot iU Z' Ds (p.scan Ds (d.P.take q)) C'/\Raw Ds (p.scan Ds (d.P.take q)) C' k/\(∀ q',q<=q'->(C' k).P.getD q' 0=d.P.getD q' 0)/\v'.length=v.length/\M'.bW (c+210*q) c2/\aw (gb::X) J J') ?_ ?_ ⟨J,M,S,w,L,T,v,hs,Z,C,rfl,g,raw,fun q' _=>by rw [hP],rfl,hf.le (by omega) (Int.le_refl _),aw.refl _ _⟩
  ·rintro q _ hq ⟨J1,M1,S1,w1,L1,T1,v1,Db,Z1,C1,rfl,g1,r1,p1,e1,f1,k1⟩
   obtain ⟨x,hx⟩:∃ x,d.P[q]? = some x:=⟨_,List.getElem?_eq_getElem hq⟩
   have vI:=(iV (Ds:=Ds) (l:=d.P.take q) (p:=p)).now k t hn
   obtain ⟨has,yU⟩:=g1.e.has hd vI
   obtain ⟨ch,cp,cr⟩:=g1.e.c k d t hd vI
   have cK:=(k1.aa gb (by simp)).trans hb
   have NW:=g1.h.b
   have qn:1+q<d.n:=by unfold DO.n;omega
   have i1:decide ((q:Int)<(d.P.length:Int))=true:=decide_eq_true (by omega)
   have w1':IntKind.i64.wrap (1+(q:Int))=((1+q:Nat):Int):=by rw [cd (by omega)];omega
   have w2:IntKind.i64.wrap ((q:Int)+1)=((q+1:Nat):Int):=by rw [cd (by omega)];omega
   have hv:Ht T1 L1 (d.fC t) (1+q)=x:=by
    rw [yU _ qn,SL (by omega),p1 q (Nat.le_refl _),List.getD_eq_getElem?_getD,hx];rfl
   (unfold qth Ku QF;refine UD i1 cK NW w1' ?_)
   refine Ok.step (AD tl g1.h (f1.cT g1.h.t.s.l.p.mi.ok (by omega)) has.is (k:=1+q) qn) fun r ⟨q1,M2,h2,y2,k2⟩=>?_
   obtain ⟨rv,J2⟩:=r
   simp only at q1 h2 k2
   rw [hv] at q1
   subst q1
   have g2:=g1.sub h2
   have f2:M2.bW (c+210*q+3) c2:=(y2.bW f1).le (by omega) (by omega)
   have fv:=(k2.aa gb (by simp)).trans cK
   have WH:=h2.b
   by_cases x0:x=0
   ·have xb:(x == 0)=true:=by simp [x0]
    simp -implicitDefEqProofs only [bne,z0,Bool.not_true,xb,w2,Nat.reduceAdd,Nat.reduceMul,Nat.reduceLT,Int.reduceToNat,Int.reduceAdd,Int.reduceSub,Int.reduceMul,eA,dK,dL,dM,dN,dO,dQ,dS,cM,Nat.reduceLeDiff,decide_true,decide_false]
    have es:p.scan Ds (d.P.take (q+1))=p.scan Ds (d.P.take q):=by
     rw [rQ hx];unfold PS.ptr;rw [if_pos x0]
    refine U.2 ⟨J2,M2,S1,w1,L1,T1,v1,Db,Z1,C1,rfl,?_,?_,fun q' Cy=>p1 q' (by omega),e1,f2.le (by omega) (Int.le_refl _),k1.trans k2⟩
    ·rw [es];exact g2
    ·rw [es];exact r1
   ·have xb:(x == 0)=false:=by rw [beq_eq_false_iff_ne];exact x0
    rcases pv d (List.mem_of_getElem? hd) x (List.mem_of_getElem? hx) with e0 |⟨j,b,Qh,rfl⟩
    ·exact absurd e0 x0
    simp -implicitDefEqProofs only [bne,z0,Bool.not_true,xb,Bool.not_false,fv,Ku,QF,WH,w1',Nat.reduceAdd,Nat.reduceMul,Nat.reduceLT,Int.reduceToNat,Int.reduceAdd,Int.reduceSub,Int.reduceMul,eA,dK,dL,dM,dN,dO,dQ,dS,cM,Nat.reduceLeDiff,decide_true,decide_false]
    refine Ok.step (Ep tl g2 (f2.cT g2.h.t.s.l.p.mi.ok (by omega)) vS oN Qh) fun r ⟨u,q3,q4,M3,S3,w3,L3,T3,v3,Sc,Z3,C3,g3,e3,s3,s4,_,y3,k3⟩=>?_
    obtain ⟨rv,J3⟩:=r
    simp only at q3 g3 k3
    subst q3
    have f3:M3.bW (c+210*q+203) c2:=(y3.bW f2).le (by omega) (by omega)
    have hn3:=(km (Ds:=Ds) (p:=p.scan Ds (d.P.take q)) (i:=j)).now k t vI
    obtain ⟨aiV,_⟩:=g3.e.has hd hn3
    refine kf w1' ?_
    refine Ok.step (AX tl g3.h (f3.cT g3.h.t.s.l.p.mi.ok (by omega)) aiV.is (k:=1+q) qn (b.to u)) fun r ⟨q5,M4,h4,y4,k4⟩=>?_
    obtain ⟨rv,J4⟩:=r
    simp only at q5 h4 k4
    subst q5
    refine kf w2 ?_
    have f4:M4.bW (c+210*q+206) c2:=(y4.bW f3).le (by omega) (by omega)
    have es:p.scan Ds (d.P.take (q+1))=(p.scan Ds (d.P.take q)).move Ds j:=by
     rw [rQ hx,EE g1.e.ap Qh]
    have ck:C3 k=C1 k:=s3 k (by rw [vI];simp)
    have tH:(fO L3 (d.fC t) (1+q) (b.to u)).H=L3.H:=by unfold fO;split<;>rfl
    have tl':(fO L3 (d.fC t) (1+q) (b.to u)).last=L3.last:=by unfold fO;split<;>rfl
    have tt:(cC T3 (d.fC t) (1+q) (b.to u)).top=T3.top:=by unfold cC;split<;>rfl
    have e4:=g3.e.agz hd hn3 (k:=q) hq (b.to u)
    refine U.2 ⟨J4,M4,S3,w3,fO L3 (d.fC t) (1+q) (b.to u),cC T3 (d.fC t) (1+q) (b.to u),v3,Sc,Z3,sv C3 k {C3 k with P:=(C3 k).P.set q (b.to u)},rfl,?_,?_,fun q' Cy=>?_,e3.trans e1,f4.le (by omega) (Int.le_refl _),((k1.trans k2).trans k3).trans k4⟩
    ·rw [es]
     exact ⟨h4,e4,g3.pi,by rw [tt];exact g3.top,by rw [tH];exact g3.H,by rw [tl',tH];exact g3.last,g3.H0,g3.gen⟩
    ·rw [es]
     intro i di RV F8 Xo Hs
     unfold sv
     rw [if_neg Xo]
     by_cases cn:(p.scan Ds (d.P.take q)).now i=none
     ·exact s4 i di RV cn F8
     ·rw [s3 i cn]
      exact r1 i di RV cn Xo (fun h=>Hs ((km.oM g1.pi i).2 h))
    ·have ui:sv C3 k {C3 k with P:=(C3 k).P.set q (b.to u)} k={C3 k with P:=(C3 k).P.set q (b.to u)}:=by unfold sv;rw [if_pos rfl]
     rw [ui]
     show ((C3 k).P.set q (b.to u)).getD q' 0=_
     rw [getD_set_ne (by omega),ck]
     exact p1 q' (by omega)
  ·rintro _ ⟨J1,M1,S1,w1,L1,T1,v1,Db,Z1,C1,rfl,g1,r1,p1,e1,f1,k1⟩
   have i1:decide ((d.P.length:Int)<(d.P.length:Int))=false:=decide_eq_false (by omega)
   (unfold qth;refine kf i1 ?_)
   rw [List.take_length] at g1 r1
   exact U.2 ⟨J1,rfl,M1,S1,w1,L1,T1,v1,Db,Z1,C1,g1,r1,e1,f1,k1⟩
 (unfold Vi qti;refine zE ?_)
 refine Ok.cv lp ?_ (fun q hq=>by obtain ⟨_,e,_⟩:=hq;cases e)
 rintro _ ⟨J1,e,rest⟩
 simp only [Sum.inl.injEq] at e
 subst e
 refine zE ?_
 exact U.2 ⟨rfl,rest⟩
end Go.Abs.Tryz
namespace Go.Abs.Tryz
open Go Go.Abs
variable {O:Type}
theorem NX {f:Fn × List AV × List AV} {Tw:List Hd->AH O->List Nat->Prop} (tl:eL f Tw) {J0 J:AH O} {gb eb sb nb lb pb mb:Nat} {M:ah} {S:ao} {w:List Int} {L:aP} {T:bn} {X Z:List Nat} {aW:Int} {v:List Int} {ot:Nat} {hs:List Hd} {Ds:List DO} {p:PS} {C:Nat->DO} (g:GC f Tw J eb sb nb lb pb mb M S w L T (gb::X) aW v ot hs Z Ds p C) (Hu:gb∉X) {a dn:Int} (hb:J.aa gb=some (.cells true 205 [.p (some (.n eb,0)),.i .i64 a,.i .i64 dn])) (ha:0<=a/\a<=1000000) (hdn:0<=dn/\dn<=1000000) {c c2:Int} (hf:M.bW c c2) (hc:c<=9000000) (vS:Ds.length<=500) (oN:∀ d∈Ds,d.n<=50) (pv:PV Ds) {k:Nat} {d:DO} (hd:Ds[k]? = some d) {t:Nat} (hn:p.now k=some t) (hP:(C k).P=d.P) (raw:Raw Ds p C k)
  (nx:Me [.p (some (.n gb,0))] J0=some (.aB [.i .u64 (d.to t),.b true],J)):
  Ok (QG [.p (some (.n gb,0))] J0) fun r=>r.1=.b true/\∃ M' S' w' L' T' v' iU Z' C',GC f Tw r.2 eb sb nb lb pb mb M' S' w' L' T' (gb::X) aW v' ot iU Z' Ds (p.scan Ds d.P) C'/\Raw Ds (p.scan Ds d.P) C' k/\v'.length=v.length/\r.2.aa gb=some (.cells true 205 [.p (some (.n eb,0)),.i .i64 (a+if d.h.l then 0 else (d.n:Int)),.i .i64 (dn+1)])/\M'.bW (c+11000) c2/\aw X J r.2:=by
 have Ql:=List.mem_of_getElem? hd
 have aiX:=oN d Ql
 have ok:=g.e.ok d Ql
 have hPl:d.P.length<=50:=by unfold DO.n at aiX;omega
 obtain ⟨has,yU⟩:=g.e.has hd hn
 have z0:((0:Int) == 0)=true:=rfl
 have hm:=g.h.b
 (unfold QG qtn Ku QF;refine UD nx @Bool.not_true hb hm ?_)
 refine Ok.step (AD tl g.h (hf.cT g.h.t.s.l.p.mi.ok (by omega)) has.is (k:=0) (by show 0<d.n;unfold DO.n;omega)) fun r ⟨q1,M2,h2,y2,k2⟩=>?_
 obtain ⟨rv,J2⟩:=r
 simp only at q1 h2 k2
 rw [has.w] at q1
 subst q1
 have f2:M2.bW (c+3) c2:=(y2.bW hf).le (by omega) (by omega)
 have fv:=(k2.aa gb (by simp)).trans hb
 refine zE ?_
 refine Ok.step (kr (J2.az 1) ok.h.aI) fun r ⟨q3,q4⟩=>?_
 obtain ⟨rv,J3⟩:=r
 simp only at q3 q4
 subst q3
 have h2b:bd f Tw (J2.az 1) eb sb nb lb pb mb M2 S w L T (gb::J2.next::X) [] aW v ot hs Z:=h2.bF tl (K:=[]) ⟨by simp,fun _ _ _=>rfl⟩ (by simp) (fun b hb=>by
  simp only [List.mem_cons] at hb
  rcases hb with rfl |rfl |hb
  ·exact .inl (by simp)
  ·exact .inr ⟨Nat.le_refl _,by simp⟩
  ·exact .inl (by simp [hb]))
 have h3:=h2b.ext tl q4
 have lg2:gb<J2.next:=h2.lX gb (by simp)
 have Vd:∀ b∈X,b<J2.next:=fun b hb=>h2.lX b (by simp [hb])
 have kX3:aw X J J3:=⟨by have:=k2.next;have:=q4.next;simp at this;omega,fun b hb=>(q4.aa b (by have:=Vd b hb;simp;omega)).trans (k2.aa b (by simp [hb]))⟩
 have mz:=(q4.aa gb (by simp;omega)).trans fv
 generalize UG:J2.next=bx at h2b h3 lg2 q4 Vd
 have lbx:bx<J3.next:=h3.lX bx (by simp)
 simp only [Hd.av]
 simp -implicitDefEqProofs only [bne,z0,Bool.not_true,Nat.reduceAdd,Nat.reduceMul,Nat.reduceLT,Int.reduceToNat,Int.reduceAdd,Int.reduceSub,Int.reduceMul,eA,dK,dL,dM,dN,dO,dQ,dS,cM,Nat.reduceLeDiff,decide_true,decide_false]
 generalize hJ:AH.put J3 bx _=J4
 have n4:J4.next=J3.next:=by rw [<-hJ];rfl
 have b4:J4.aa bx=some (.cells true 39 [.i .i64 (d.h.aI.p:Int),.i .i64 (d.h.aI.r:Int),.i .i64 (d.h.aI.s:Int),.i .i64 (d.h.aI.g:Int),.b d.h.aI.l]):=by rw [<-hJ];exact aH
 have Et:J4.aa gb=some (.cells true 205 [.p (some (.n eb,0)),.i .i64 a,.i .i64 dn]):=by rw [<-hJ,aA (by omega)];exact mz
 have kX:aw X J J4:=⟨by have:=kX3.next;omega,fun b hb=>by rw [<-hJ,aA (by have:=Vd b hb;omega)];exact kX3.aa b hb⟩
 have h4:=h3.bF tl (J':=J4) (K:=[bx]) (X':=gb::bx::X) ⟨by omega,fun b hb hm=>by rw [<-hJ];exact aA (by simpa using hm)⟩ (by simp) (fun b hb=>.inl hb)
 clear hJ
 have op:(d.h.aI.p:Int)=(d.P.length:Int):=by rw [show d.h.aI.p=d.h.p from rfl,ok.p]
 have mid:∀ J5:AH O,bd f Tw J5 eb sb nb lb pb mb M2 S w L T (gb::bx::X) [] aW v ot hs Z->∀ a':Int,J5.aa gb=some (.cells true 205 [.p (some (.n eb,0)),.i .i64 a',.i .i64 dn])->a'=(a+if d.h.l then 0 else (d.n:Int))->J5.aa bx=J4.aa bx->aw X J4 J5->
   Ok ((Vi [.p (some (.n gb,0)),.i .u64 (d.to t),.i .i64 (d.h.aI.p:Int)] J5)) fun r=>r.1=.aB []/\∃ M' S' w' L' T' v' iU Z' C',GC f Tw r.2 eb sb nb lb pb mb M' S' w' L' T' (gb::X) aW v' ot iU Z' Ds (p.scan Ds d.P) C'/\Raw Ds (p.scan Ds d.P) C' k/\v'.length=v.length/\r.2.aa gb=some (.cells true 205 [.p (some (.n eb,0)),.i .i64 (a+if d.h.l then 0 else (d.n:Int)),.i .i64 dn])/\M'.bW (c+11000) c2/\aw X J r.2:=by
  intro J5 h5 a' yP ea Yo k5
  have g5:GC f Tw J5 eb sb nb lb pb mb M2 S w L T (gb::bx::X) aW v ot hs Z Ds p C:=g.sub h5
  rw [op]
  refine (NU tl g5 yP f2 (by omega) vS oN pv hd hn hP raw).mono fun r ⟨r1,M6,S6,w6,L6,T6,v6,Nt,Z6,C6,g6,r6,e6,f6,k6⟩=>?_
  have h7:=g6.h.bF tl (X':=gb::X) (K:=[]) ⟨Nat.le_refl _,fun _ _ _=>rfl⟩ (by simp) (fun b hb=>.inl (by
   simp only [List.mem_cons] at hb ⊢
   rcases hb with hb |hb
   ·exact .inl hb
   ·exact .inr (.inr hb)))
  exact ⟨r1,M6,S6,w6,L6,T6,v6,Nt,Z6,C6,g6.sub h7,r6,e6,by rw [k6.aa gb (by simp),yP,ea],f6.le (by omega) (Int.le_refl _),(kX.trans k5).trans (k6.mono fun b hb=>by simp [hb])⟩
 have fin:∀ J5:AH O,bd f Tw J5 eb sb nb lb pb mb M2 S w L T (gb::bx::X) [] aW v ot hs Z->∀ a':Int,J5.aa gb=some (.cells true 205 [.p (some (.n eb,0)),.i .i64 a',.i .i64 dn])->a'=(a+if d.h.l then 0 else (d.n:Int))->J5.aa bx=J4.aa bx->aw X J4 J5->
   Ok ((Vi [.p (some (.n gb,0)),.i .u64 (d.to t),.i .i64 (d.h.aI.p:Int)] J5).bind fun QH=>(AV.ay 0 QH.1).bind fun c49=>(ldM (QH.2.aa gb) 2).bind fun w=>(AV.aX .i64 w).bind fun xB=>(stM QH.2 gb (QH.2.aa gb) 2 [.i .i64 (IntKind.i64.wrap (xB+1))]).bind fun HC=>some (AV.b true,HC)) fun r=>r.1=.b true/\∃ M' S' w' L' T' v' iU Z' C',GC f Tw r.2 eb sb nb lb pb mb M' S' w' L' T' (gb::X) aW v' ot iU Z' Ds (p.scan Ds d.P) C'/\Raw Ds (p.scan Ds d.P) C' k/\v'.length=v.length/\r.2.aa gb=some (.cells true 205 [.p (some (.n eb,0)),.i .i64 (a+if d.h.l then 0 else (d.n:Int)),.i .i64 (dn+1)])/\M'.bW (c+11000) c2/\aw X J r.2:=by
  intro J5 h5 a' yP ea Yo k5
  refine Ok.step (mid J5 h5 a' yP ea Yo k5) fun r ⟨r1,M6,S6,w6,L6,T6,v6,Nt,Z6,C6,g6,r6,e6,b6,f6,k6⟩=>?_
  obtain ⟨rv,J6⟩:=r
  simp only at r1 g6 b6 k6
  subst r1
  have wd:IntKind.i64.wrap (dn+1)=dn+1:=cd (by omega)
  refine Hr b6 wd ?_
  have h7:=g6.h.bF tl (J':=J6.put gb (.cells true 205 [.p (some (.n eb,0)),.i .i64 (a+if d.h.l then 0 else (d.n:Int)),.i .i64 (dn+1)])) (K:=[gb]) (X':=gb::X) ⟨by simp,fun b hb hm=>aA (by simpa using hm)⟩ (by simp) (fun b hb=>.inl hb)
  exact U.2 ⟨rfl,M6,S6,w6,L6,T6,v6,Nt,Z6,C6,g6.sub h7,r6,e6,aH,f6,k6.trans (aw.put Hu _)⟩
 have Nk:=g.h.t.s.top
 have Nl:=g.h.t.s.tl
 cases hl:d.h.l with
 |true=>
  obtain ⟨e1,e2,e3⟩:=g.e.l1 k d t hd hl hn
  have kd:BE [.i .u64 (d.to t)] J4=some (.i .i64 2,J4):=by
   unfold DO.to;rw [hl,if_pos rfl,e1];exact jF J4 (g.h.t.s.vR e3)
  have z1:((2:Int) == 1)=false:=rfl
  rw [hl] at fin
  refine UD kd z1 b4 Et ?_
  exact fin J4 h4 a Et (by simp) rfl (aw.refl _ _)
 |false=>
  obtain ⟨e1,e2,e3⟩:=g.e.s1 k d t hd hl hn
  have kd:BE [.i .u64 (d.to t)] J4=some (.i .i64 1,J4):=by
   unfold DO.to;rw [hl];exact jG J4 (by
    have:1<=d.n:=by unfold DO.n;omega
    omega)
  have z1:((1:Int) == 1)=true:=rfl
  rw [hl] at fin
  refine UD kd z1 b4 Et ?_
  refine Ok.step (kq J4 (by have:=ok.h.p;rw [show d.h.aI.p=d.h.p from rfl];omega) (by have:=ok.h.r;rw [show d.h.aI.r=d.h.r from rfl];omega)) fun r ⟨q5,q6⟩=>?_
  obtain ⟨rv,J5⟩:=r
  simp only at q5 q6
  subst q5
  have h5:=h4.ext tl q6
  have yP:=(q6.aa gb (by omega)).trans Et
  have b5:=(q6.aa bx (by omega)).trans b4
  have wn:IntKind.i64.wrap (a+(1+(d.h.aI.p:Int)+(d.h.aI.r:Int)))=a+(d.n:Int):=by
   have e:(1+(d.h.aI.p:Int)+(d.h.aI.r:Int))=(d.n:Int):=by
    rw [show d.h.aI.p=d.h.p from rfl,show d.h.aI.r=d.h.r from rfl,ok.p,ok.r];unfold DO.n;omega
   rw [e];exact cd (by omega)
  refine Hr yP wn ?_
  generalize hJ:AH.put J5 gb _=J6
  have U4:J6.aa gb=some (.cells true 205 [.p (some (.n eb,0)),.i .i64 (a+(d.n:Int)),.i .i64 dn]):=by rw [<-hJ];exact aH
  have b6:J6.aa bx=J5.aa bx:=by rw [<-hJ];exact aA (by omega)
  have k6:aw X J4 J6:=⟨by rw [<-hJ];exact q6.next,fun b hb=>by rw [<-hJ,aA (show b≠gb from fun e=>Hu (by rw [<-e];exact hb))];exact q6.aa b (h4.lX b (by simp [hb]))⟩
  have h6:=h5.bF tl (J':=J6) (K:=[gb]) (X':=gb::bx::X) ⟨by rw [<-hJ];exact Nat.le_refl _,fun b hb hm=>by rw [<-hJ];exact aA (by simpa using hm)⟩ (by simp) (fun b hb=>.inl hb)
  clear hJ
  have b6':=b6.trans b5
  refine kf b6' ?_
  exact fin J6 h6 _ U4 (by simp) (b6.trans (q6.aa bx (by omega))) k6
end Go.Abs.Tryz
namespace Go.Abs.Tryz
open Go Go.Abs
variable {O:Type}
theorem yV {Ds:List DO} {l:List Nat} {i:Nat}:∀ {k:Nat},fP Ds l i<=fP Ds l (i+k)
 |0=>Nat.le_refl _
 |k+1=>by
  have:=yV (Ds:=Ds) (l:=l) (i:=i) (k:=k)
  cases h:l[i+k]? with
  |some j=>rw [show i+(k+1)=(i+k)+1 by omega,ng h];omega
  |none=>
   have hl:=List.getElem?_eq_none_iff.1 h
   rw [AW (j:=i+(k+1)) (by omega),<-AW (j:=i+k) hl];exact this
theorem jq {l:List Nat} (h:l.Nodup) {j i:Nat} (hi:l[j]? = some i):i∉l.take j:=by
 intro hm
 obtain ⟨q,hq⟩:=List.getElem?_of_mem hm
 have ql:=(List.getElem?_eq_some_iff.1 hq).1
 simp at ql
 rw [List.getElem?_take_of_lt (by omega)] at hq
 have:=(List.getElem?_inj (i:=q) (j:=j) (by omega) h).1 (hq.trans hi.symm)
 omega
structure GQ (f:Fn × List AV × List AV) (Tw:List Hd->AH O->List Nat->Prop) (J:AH O) (gb eb sb nb lb pb mb:Nat) (M:ah) (S:ao) (w:List Int) (L:aP) (T:bn) (X:List Nat) (aW:Int) (v:List Int) (ot:Nat) (hs:List Hd) (Z:List Nat) (Ds:List DO) (p:PS) (C:Nat->DO) (dn:Int):Prop where
 g:GC f Tw J eb sb nb lb pb mb M S w L T (gb::X) aW v ot hs Z Ds p C
 b:J.aa gb=some (.cells true 205 [.p (some (.n eb,0)),.i .i64 (fP Ds (p.sm Ds) p.sd:Int),.i .i64 dn])
 raw:Raw Ds p C Ds.length
section
variable {f:Fn × List AV × List AV} {Tw:List Hd->AH O->List Nat->Prop} (tl:eL f Tw) {J:AH O} {gb eb sb nb lb pb mb:Nat} {M:ah} {S:ao} {w:List Int} {L:aP} {T:bn} {X Z:List Nat} {aW:Int} {v:List Int} {ot:Nat} {hs:List Hd} {Ds:List DO} {p:PS} {C:Nat->DO} {dn:Int} (G:GQ f Tw J gb eb sb nb lb pb mb M S w L T X aW v ot hs Z Ds p C dn) (Hu:gb∉X) (Hv:ot<=100000)
include tl G Hu Hv
theorem GQ.pos:fP Ds (p.sm Ds) p.sd<=T.top/\T.top<=100000:=by
 have h1:=yV (Ds:=Ds) (l:=p.sm Ds) (i:=p.sd) (k:=(p.sm Ds).length - p.sd)
 have h2:=G.g.pi.sd
 rw [show p.sd+((p.sm Ds).length - p.sd)=(p.sm Ds).length by omega,<-G.g.pi.top,<-G.g.top] at h1
 have h3:=G.g.h.t.s.top
 have h4:=G.g.e.wl
 omega
theorem GQ.NY (c:p.sd<(p.sm Ds).length) {k:Nat} {d:DO} (hk:(p.sm Ds)[p.sd]? = some k) (hd:Ds[k]? = some d) (hl:d.h.l=false):Me [.p (some (.n gb,0))] J=some (.aB [.i .u64 (d.to (fP Ds (p.sm Ds) p.sd)),.b true],J):=by
 have hb:=G.b
 have hm:=G.g.h.b
 obtain ⟨el,hs⟩:=G.g.h.t.s.s
 obtain ⟨vQ,hn⟩:=G.g.h.t.n
 obtain ⟨p1,p2⟩:=G.pos tl Hu Hv
 have bp:fP Ds (p.sm Ds) p.sd<T.top:=by
  have h1:=yV (Ds:=Ds) (l:=p.sm Ds) (i:=p.sd+1) (k:=(p.sm Ds).length - (p.sd+1))
  rw [show p.sd+1+((p.sm Ds).length - (p.sd+1))=(p.sm Ds).length by omega,<-G.g.pi.top,<-G.g.top,ng hk,Da hd] at h1
  have:1<=d.n:=by unfold DO.n;omega
  omega
 have i1:decide ((fP Ds (p.sm Ds) p.sd:Int)<(T.top:Int))=true:=decide_eq_true (by omega)
 have ts:=jm J (at_:=fP Ds (p.sm Ds) p.sd) (by omega)
 have z0:((0:Int) == 0)=true:=rfl
 (unfold Me Yp Ku QF BC LV QE Vg;refine tg hb hm hs hn (cj i1 (cj ts z0)) ?_)
 unfold DO.to
 rw [hl];rfl
omit G in
theorem EF {k:Nat} (g:GC f Tw J eb sb nb lb pb mb M S w L T (gb::X) aW v ot hs Z Ds p C) (hk:p.next Ds=some k) {M':ah} {J':AH O} {x:Int} (h:bd f Tw J' eb sb nb lb pb mb M' S w {L with last:=x} T (gb::X) [] aW v ot hs Z) (hx:x=(pid L.H (p.tick Ds).ld:Int)):GC f Tw J' eb sb nb lb pb mb M' S w {L with last:=x} T (gb::X) aW v ot hs Z Ds (p.tick Ds) C:=by
 have e1:(p.tick Ds).now=p.now:=by unfold PS.tick;split<;>rfl
 have e2:(p.tick Ds).mv=p.mv:=by unfold PS.tick;split<;>rfl
 have e3:(p.tick Ds).top=p.top:=by unfold PS.tick;split<;>rfl
 have e4:(p.tick Ds).lg Ds=p.lg Ds:=by unfold PS.lg;rw [e2]
 refine ⟨h,?_,g.pi.tick hk,by rw [e3];exact g.top,by rw [e4];exact g.H,hx,by rw [e2];exact g.H0,g.gen⟩
 rw [e1]
 exact {g.e with l0:=g.e.l0,l1:=g.e.l1,only:=g.e.only}
theorem NZ {c c2:Int} (hf:M.bW c c2) (hc:c<=8000000) (vS:Ds.length<=500) (oN:∀ d∈Ds,d.n<=50) (pv:PV Ds) (hdn:0<=dn/\dn<=1000000):
  Ok (QG [.p (some (.n gb,0))] J) fun r=>match p.step Ds with
   |some q=>r.1=.b true/\∃ M' S' w' L' T' v' iU Z' C',GQ f Tw r.2 gb eb sb nb lb pb mb M' S' w' L' T' X aW v' ot iU Z' Ds q C' (dn+1)/\v'.length=v.length/\M'.bW (c+12000) c2/\aw X J r.2
   |none=>r.1=.b false/\∃ M',GQ f Tw r.2 gb eb sb nb lb pb mb M' S w L T X aW v ot hs Z Ds p C dn/\M'.bW (c+12000) c2/\aw X J r.2:=by
 obtain ⟨ps1,ps2⟩:=G.pos tl Hu Hv
 have pi:=G.g.pi
 have smn:(p.sm Ds).Nodup:=pi.nd.filter _
 have lgn:(p.lg Ds).Nodup:=pi.nd.filter _
 have fin:∀ (k:Nat) (d:DO) (t:Nat) (J1:AH O) (M1:ah) (L1:aP),p.next Ds=some k->Ds[k]? = some d->p.now k=some t->(d.h.l=true ↔ ¬ p.sd<(p.sm Ds).length)->k∉(p.sm Ds).take p.sd->k∉(p.lg Ds).take p.ld->k∈(if p.sd<(p.sm Ds).length then (p.sm Ds).take (p.sd+1) else (p.lg Ds).take (p.ld+1))->(p.sd<(p.sm Ds).length->(p.sm Ds)[p.sd]? = some k)->GC f Tw J1 eb sb nb lb pb mb M1 S w L1 T (gb::X) aW v ot hs Z Ds (p.tick Ds) C->J1.aa gb=some (.cells true 205 [.p (some (.n eb,0)),.i .i64 (fP Ds (p.sm Ds) p.sd:Int),.i .i64 dn])->M1.bW (c+1) c2->aw X J J1->Me [.p (some (.n gb,0))] J=some (.aB [.i .u64 (d.to t),.b true],J1)->
   Ok (QG [.p (some (.n gb,0))] J) fun r=>r.1=.b true/\∃ M' S' w' L' T' v' iU Z' C',GQ f Tw r.2 gb eb sb nb lb pb mb M' S' w' L' T' X aW v' ot iU Z' Ds ((p.tick Ds).scan Ds (jn Ds k)) C' (dn+1)/\v'.length=v.length/\M'.bW (c+12000) c2/\aw X J r.2:=by
  intro k d t J1 M1 L1 hk hd hn hlg n1 n2 n3 n4 g1 b1 f1 k1 nx
  have e1:(p.tick Ds).now=p.now:=by unfold PS.tick;split<;>rfl
  have e2:(p.tick Ds).mv=p.mv:=by unfold PS.tick;split<;>rfl
  have Yq:(p.tick Ds).sm Ds=p.sm Ds:=by unfold PS.sm;rw [e2]
  have Yr:(p.tick Ds).lg Ds=p.lg Ds:=by unfold PS.lg;rw [e2]
  have kl:k≠Ds.length:=by have:=(List.getElem?_eq_some_iff.1 hd).1;omega
  have hP:(C k).P=d.P:=G.raw k d hd (by rw [hn];simp) kl (fun h=>by
   rcases h with h |h
   ·exact n1 h
   ·exact n2 h)
  have sub:∀ i,p.oM Ds i->(p.tick Ds).oM Ds i:=fun i h=>by
   unfold PS.oM at h ⊢
   rw [Yq,Yr]
   by_cases cc:p.sd<(p.sm Ds).length
   ·rw [gE cc]
    rcases h with h |h
    ·exact .inl (by rw [List.take_add_one];simp [h])
    ·exact .inr h
   ·rw [gG cc]
    rcases h with h |h
    ·exact .inl h
    ·exact .inr (by rw [List.take_add_one];simp [h])
  have ksc:(p.tick Ds).oM Ds k:=by
   unfold PS.oM
   rw [Yq,Yr]
   by_cases cc:p.sd<(p.sm Ds).length
   ·rw [gE cc];rw [if_pos cc] at n3;exact .inl n3
   ·rw [gG cc];rw [if_neg cc] at n3;exact .inr n3
  have rw1:Raw Ds (p.tick Ds) C k:=fun i b hb hi Xo hs=>by
   have il:i≠Ds.length:=by have:=(List.getElem?_eq_some_iff.1 hb).1;omega
   exact G.raw i b hb (by rw [e1] at hi;exact hi) il (fun h=>hs (sub i h))
  have pt:jn Ds k=d.P:=by unfold jn;rw [hd]
  rw [pt]
  refine (NX tl g1 Hu (a:=(fP Ds (p.sm Ds) p.sd:Int)) b1 (by omega) hdn f1 (by omega) vS oN pv hd (by rw [e1];exact hn) hP rw1 nx).mono fun r ⟨r1,M2,S2,w2,L2,T2,v2,vn,Z2,C2,g2,r2,e5,b2,f2,k2⟩=>?_
  have mo:=iV (Ds:=Ds) (l:=d.P) (p:=p.tick Ds)
  have SM:=pi.tick hk
  refine ⟨r1,M2,S2,w2,L2,T2,v2,vn,Z2,C2,⟨g2,?_,fun i b hb hi _ hs=>?_⟩,e5,f2.le (by omega) (Int.le_refl _),k1.trans k2⟩
  ·rw [b2]
   obtain ⟨ll,hll⟩:=mo.mv
   have e6:((p.tick Ds).scan Ds d.P).sm Ds=p.sm Ds++ll.filter fun i => !sy Ds i:=by
    unfold PS.sm;rw [hll,List.filter_append,e2]
   rw [e6,mo.sd]
   by_cases cc:p.sd<(p.sm Ds).length
   ·have pl:d.h.l=false:=by
     cases h:d.h.l with
     |false=>rfl
     |true=>exact absurd cc (hlg.1 h)
    rw [gE cc,pl]
    show some (eY.cells true 205 [_,.i .i64 ((fP Ds (p.sm Ds) p.sd:Int)+(d.n:Int)),_])=some (eY.cells true 205 [_,.i .i64 ((fP Ds (p.sm Ds++_) (p.sd+1):Nat):Int),_])
    rw [mI (show p.sd+1<=(p.sm Ds).length from cc),ng (n4 cc),Da hd]
    rfl
   ·have pl:d.h.l=true:=hlg.2 cc
    rw [gG cc,pl]
    show some (eY.cells true 205 [_,.i .i64 ((fP Ds (p.sm Ds) p.sd:Int)+0),_])=some (eY.cells true 205 [_,.i .i64 ((fP Ds (p.sm Ds++_) p.sd:Nat):Int),_])
    rw [mI pi.sd,Int.add_zero]
  ·by_cases cc:i=k
   ·subst cc
    exact absurd ((mo.oM SM i).2 ksc) hs
   ·exact r2 i b hb hi cc hs
 have Ys:∀ i∈p.mv,∃ d,Ds[i]? = some d:=fun i hi=>⟨_,List.getElem?_eq_getElem (pi.lt i hi)⟩
 by_cases cc:p.sd<(p.sm Ds).length
 ·obtain ⟨k,hk⟩:∃ k,(p.sm Ds)[p.sd]? = some k:=⟨_,List.getElem?_eq_getElem cc⟩
  have wN:=List.mem_filter.1 (List.mem_of_getElem? hk)
  obtain ⟨d,hd⟩:=Ys k wN.1
  have hl:d.h.l=false:=by have:=wN.2;rw [ig hd] at this;simpa using this
  have hn:p.next Ds=some k:=by unfold PS.next;rw [if_pos cc];exact hk
  have st:p.step Ds=some ((p.tick Ds).scan Ds (jn Ds k)):=by unfold PS.step;rw [hn];rfl
  rw [st]
  have nld:k∉(p.lg Ds).take p.ld:=fun h=>by
   have:=(List.mem_filter.1 (List.mem_of_mem_take h)).2
   rw [ig hd,hl] at this;cases this
  have g1:GC f Tw J eb sb nb lb pb mb M S w {L with last:=L.last} T (gb::X) aW v ot hs Z Ds (p.tick Ds) C:=EF tl Hu Hv (x:=L.last) G.g hn G.g.h (by rw [gE cc];exact G.g.last)
  exact fin k d _ J M L hn hd (pi.pos p.sd k hk) ⟨fun h=>(by rw [hl] at h;cases h),fun h=>absurd cc h⟩ (jq smn hk) nld (by rw [if_pos cc,List.take_add_one,hk];simp) (fun _=>hk) g1 G.b (hf.le (by omega) (Int.le_refl _)) (aw.refl _ _) (G.NY tl Hu Hv cc hk hd hl)
 ·have hb:=G.b
  have hm:=G.g.h.b
  obtain ⟨el,iU⟩:=G.g.h.t.s.s
  obtain ⟨vQ,Yt⟩:=G.g.h.t.n
  have CP:fP Ds (p.sm Ds) p.sd=T.top:=by
   have e:p.sd=(p.sm Ds).length:=by have:=pi.sd;omega
   rw [G.g.top,pi.top,e]
  have i1:decide ((fP Ds (p.sm Ds) p.sd:Int)<(T.top:Int))=false:=decide_eq_false (by omega)
  have hHl:L.H.length=(p.lg Ds).length:=by rw [G.g.H,List.length_map]
  have f1000:M.cT 1000:=hf.cT G.g.h.t.s.l.p.mi.ok (by omega)
  by_cases cl:p.ld<(p.lg Ds).length
  ·obtain ⟨k,hk⟩:∃ k,(p.lg Ds)[p.ld]? = some k:=⟨_,List.getElem?_eq_getElem cl⟩
   have wN:=List.mem_filter.1 (List.mem_of_getElem? hk)
   obtain ⟨d,hd⟩:=Ys k wN.1
   have hl:d.h.l=true:=by have:=wN.2;rw [ig hd] at this;exact this
   have hn:p.next Ds=some k:=by unfold PS.next;rw [if_neg cc];exact hk
   have st:p.step Ds=some ((p.tick Ds).scan Ds (jn Ds k)):=by unfold PS.step;rw [hn];rfl
   rw [st]
   have SN:=pi.lgp k d hd hl ((pi.mem k).1 wN.1)
   obtain ⟨e1,e2,e3⟩:=G.g.e.l1 k d d.at_ hd hl SN
   have hHk:L.H[p.ld]? = some d.at_:=by rw [G.g.H,List.getElem?_map,hk];show some (atN Ds k)=_;rw [Kt hd]
   have ai0:pid L.H (p.ld+1)=d.at_+1:=by
    unfold pid
    show (match L.H[p.ld]? with |some i=>i+1 |none=>0)=_
    rw [hHk]
   obtain ⟨⟨rv,J1⟩,er,g1,M1,g2,g3,g4⟩:=Kd G.g.h.t.s.l f1000 (t:=p.ld) (by omega) G.g.last
   simp only at g1 g2 g4
   subst g1
   have t1:=G.g.h.t.fY g2 g3 g4
   have h1:=G.g.h.as tl t1 (g4.mono fun b hb=>by
    simp only [List.mem_cons] at hb ⊢
    exact .inr (.inr hb))
   have tlg:=uW J1 (i:=d.at_) (G.g.h.t.s.vR e3)
   have z0:((0:Int) == 0)=true:=rfl
   have pc:((pid L.H (p.ld+1):Nat):Int)=(d.at_:Int)+1:=by rw [ai0];omega
   rw [pc] at er
   have nx:Me [.p (some (.n gb,0))] J=some (.aB [.i .u64 (d.to d.at_),.b true],J1):=by
    (unfold Me Yp Ku QF BC LV QE Vg El Nh;refine tg hb hm iU Yt (cj i1 (cj er (cj @Bool.not_true (cj tlg z0)))) ?_)
    unfold DO.to
    rw [hl];rfl
   have gt:GC f Tw J1 eb sb nb lb pb mb M1 S w {L with last:=(pid L.H (p.ld+1):Int)} T (gb::X) aW v ot hs Z Ds (p.tick Ds) C:=EF tl Hu Hv (x:=(pid L.H (p.ld+1):Int)) G.g hn h1 (by rw [gG cc])
   have nsm:k∉(p.sm Ds).take p.sd:=fun h=>by
    have:=(List.mem_filter.1 (List.mem_of_mem_take h)).2
    rw [ig hd,hl] at this;cases this
   have b1:J1.aa gb=_:=(g4.aa gb (by simp)).trans hb
   exact fin k d d.at_ J1 M1 _ hn hd SN ⟨fun _=>cc,fun _=>hl⟩ nsm (jq lgn hk) (by rw [if_neg cc,List.take_add_one,hk];simp) (fun h=>absurd h cc) gt b1 ((g3.bW hf).le (by omega) (by omega)) (g4.mono fun b hb=>by simp [hb]) nx
  ·have hn:p.next Ds=none:=by unfold PS.next;rw [if_neg cc];exact List.getElem?_eq_none (by omega)
   have st:p.step Ds=none:=by unfold PS.step;rw [hn];rfl
   rw [st]
   have ll:p.ld=(p.lg Ds).length:=by have:=pi.ld;omega
   have la:=G.g.last
   rw [ll,<-hHl] at la
   obtain ⟨⟨rv,J1⟩,er,g1,M1,g2,g3,g4⟩:=Ke G.g.h.t.s.l f1000 la
   simp only at g1 g2 g4
   subst g1
   have t1:=G.g.h.t.fY g2 g3 g4
   have h1:=G.g.h.as tl t1 (g4.mono fun b hb=>by
    simp only [List.mem_cons] at hb ⊢
    exact .inr (.inr hb))
   have nx:Me [.p (some (.n gb,0))] J=some (.aB [.i .u64 0,.b false],J1):=by
    (unfold Me Yp Ku QF BC LV QE Vg El Nh;exact zO5 hb hm iU Yt (cj i1 (cj er @Bool.not_false)))
   (unfold QG qtn;refine Hr nx @Bool.not_false ?_)
   exact U.2 ⟨rfl,M1,⟨G.g.sub h1,(g4.aa gb (by simp)).trans hb,G.raw⟩,(g3.bW hf).le (by omega) (by omega),g4.mono fun b hb=>by simp [hb]⟩
theorem Sd {c c2:Int} (hf:M.bW c c2) (hc:c<=1000000) (vS:Ds.length<=500) (oN:∀ d∈Ds,d.n<=50) (pv:PV Ds) (hdn:dn=0):
  Ok (qtu [.p (some (.n gb,0))] J) fun r=>(∃ x,r.1=.i .i64 x)/\∃ n,(PS.run Ds n p).step Ds=none/\∃ M' S' w' L' T' v' iU Z' C',GC f Tw r.2 eb sb nb lb pb mb M' S' w' L' T' (gb::X) aW v' ot iU Z' Ds (PS.run Ds n p) C'/\v'.length=v.length/\M'.bW (c+12000*(Ds.length+1)) c2/\aw X J r.2:=by
 have hb:=G.b
 have lp:Ok (bC (qts QG (some (.n gb,0))) ([],J)) fun s=>∃ n J',s=([],J')/\(PS.run Ds n p).step Ds=none/\∃ M' S' w' L' T' v' iU Z' C' dn',GQ f Tw J' gb eb sb nb lb pb mb M' S' w' L' T' X aW v' ot iU Z' Ds (PS.run Ds n p) C' dn'/\0<=dn'/\dn'<=1000/\v'.length=v.length/\M'.bW (c+12000*(Ds.length+1)) c2/\aw X J J':=by
  refine Ok.loop (fun m s=>∃ n J',s=([],J')/\∃ M' S' w' L' T' v' iU Z' C',GQ f Tw J' gb eb sb nb lb pb mb M' S' w' L' T' X aW v' ot iU Z' Ds (PS.run Ds n p) C' (n:Int)/\v'.length=v.length/\M'.bW (c+12000*n) c2/\aw X J J'/\(PS.run Ds n p).sd+(PS.run Ds n p).ld=p.sd+p.ld+n/\m=Ds.length - ((PS.run Ds n p).sd+(PS.run Ds n p).ld)) ?_ (Ds.length - (p.sd+p.ld)) _ ⟨0,J,rfl,M,S,w,L,T,v,hs,Z,C,by rw [hdn] at G;exact G,rfl,hf.le (by omega) (Int.le_refl _),aw.refl _ _,rfl,rfl⟩
  rintro m _ ⟨n,J1,rfl,M1,S1,w1,L1,T1,v1,Db,Z1,C1,G1,e1,f1,k1,n1,rfl⟩
  have fw:=G1.g.pi.bW
  have nl:n<=Ds.length:=by omega
  refine Ok.step (NZ tl G1 Hu Hv f1 (by omega) vS oN pv (by omega)) fun r hr=>?_
  obtain ⟨rv,J2⟩:=r
  cases vn:(PS.run Ds n p).step Ds with
  |some q=>
   rw [vn] at hr
   obtain ⟨r1,M2,S2,w2,L2,T2,v2,ai2,Z2,C2,G2,e2,f2,k2⟩:=hr
   simp only at r1 G2 k2
   subst r1
   refine zE ?_
   have rs:=u0 vn
   have ls:=xy G1.g.pi vn
   have fw2:=G2.g.pi.bW
   refine U.2 ⟨Ds.length - (q.sd+q.ld),by omega,n+1,J2,rfl,M2,S2,w2,L2,T2,v2,ai2,Z2,C2,?_,e2.trans e1,f2.le (by omega) (Int.le_refl _),k1.trans k2,by rw [rs];omega,by rw [rs]⟩
   rw [rs]
   exact G2
  |none=>
   rw [vn] at hr
   obtain ⟨r1,M2,G2,f2,k2⟩:=hr
   simp only at r1 G2 k2
   subst r1
   refine zE ?_
   exact U.2 ⟨n,J2,rfl,vn,M2,S1,w1,L1,T1,v1,Db,Z1,C1,_,G2,by omega,by omega,e1,f2.le (by omega) (Int.le_refl _),k1.trans k2⟩
 (unfold qtu qtt;refine kf hb ?_)
 refine Ok.step lp ?_
 rintro _ ⟨n,J1,rfl,jD,M1,S1,w1,L1,T1,v1,Db,Z1,C1,dn1,G1,d0,d1,e1,f1,k1⟩
 have cK:=G1.b
 refine kf cK ?_
 exact U.2 ⟨⟨_,rfl⟩,n,jD,M1,S1,w1,L1,T1,v1,Db,Z1,C1,G1.g,e1,f1,k1⟩
end
end Go.Abs.Tryz
