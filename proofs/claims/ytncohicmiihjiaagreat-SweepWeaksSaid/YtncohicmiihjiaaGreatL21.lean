/-
  Where objects are now: their headers and words, found and moved. No conditions.
-/
import Derived.Test.YtncohicmiihjiaaGreatL20
set_option linter.unusedVariables false
set_option linter.unusedSimpArgs false
set_option linter.constructorNameAsVariable false
set_option linter.unusedSimpArgs false
set_option linter.unusedVariables false
set_option linter.unusedSectionVars false
set_option maxHeartbeats 2000000
namespace Go.Abs.Tryz
open Go Go.Abs
variable {O:Type}
def DO.fC (d:DO) (t:Nat):Ob:=⟨d.h.l,t,d.n⟩
theorem EV.has {Ds:List DO} {now:Nat->Option Nat} {L:aP} {T:bn} {v:List Int} {ot:Nat} (e:EV Ds now L T v ot) {i:Nat} {d:DO} (hd:Ds[i]? = some d) {t:Nat} (hn:now i=some t):(d.fC t).has T L d.h.aI/\∀ k,k<d.n->Ht T L (d.fC t) k=d.aI.ws.getD k 0:=by
 have hm:=List.mem_of_getElem? hd
 have ok:=e.ok d hm
 have n1:1<=d.n:=by unfold DO.n;omega
 have wd:∀ k,k<d.n->Ht T L (d.fC t) k=d.aI.ws.getD k 0:=fun k hk=>by
  unfold Ht
  show (if d.h.l then ((L.ob t).getD []).getD k 0 else T.ws.getD (t+k) 0)=_
  cases hl:d.h.l with
  |true=>
   obtain ⟨q1,q2,q3⟩:=e.l1 i d t hd hl hn
   rw [if_pos rfl,q1,q3];rfl
  |false=>
   obtain ⟨q1,q2,q3⟩:=e.s1 i d t hd hl hn
   simp only [Bool.false_eq_true,if_false]
   exact q3 k hk
 refine ⟨⟨?_,?_,wd 0 (by omega),ok.h.aI⟩,wd⟩
 ·unfold Ob.is
  show if d.h.l then (∃ ws,L.ob t=some ws/\ws.length=d.n) else t+d.n<=T.top
  cases hl:d.h.l with
  |true=>
   obtain ⟨q1,q2,q3⟩:=e.l1 i d t hd hl hn
   rw [if_pos rfl,q1]
   exact ⟨_,q3,d.aI.Na⟩
  |false=>
   obtain ⟨q1,q2,q3⟩:=e.s1 i d t hd hl hn
   simp only [Bool.false_eq_true,if_false]
   exact q2
 ·show d.n=1+d.h.p+d.h.r
  rw [ok.p,ok.r];rfl
theorem EV.two {Ds:List DO} {now:Nat->Option Nat} {L:aP} {T:bn} {v:List Int} {ot:Nat} (e:EV Ds now L T v ot) {i j:Nat} {a b:DO} (ha:Ds[i]? = some a) (hb:Ds[j]? = some b) {t u:Nat} (hi:now i=some t) (hj:now j=some u):(a.to t == b.to u)=(((i:Nat):Int) == ((j:Nat):Int)):=by
 by_cases c:i=j
 ·subst c
  rw [ha] at hb;cases hb
  rw [hi] at hj;cases hj
  simp
 ·have e2:(((i:Nat):Int) == ((j:Nat):Int))=false:=by simp;omega
  rw [e2]
  have:a.to t≠b.to u:=by
   unfold DO.to
   cases eT:a.h.l with
   |true=>
    cases cy:b.h.l with
    |true=>
     obtain ⟨q1,_⟩:=e.l1 i a t ha eT hi
     obtain ⟨q2,_⟩:=e.l1 j b u hb cy hj
     have:=e.apart c ha hb (by rw [eT,cy])
     rw [eT,if_pos rfl,<-q1,<-q2] at this
     simp only [if_true]
     unfold nD;omega
    |false=>
     simp only [if_true,Bool.false_eq_true,if_false]
     unfold nD m8;omega
   |false=>
    cases cy:b.h.l with
    |true=>
     simp only [if_true,Bool.false_eq_true,if_false]
     unfold nD m8;omega
    |false=>
     have:t≠u:=fun q=>c (e.inj i j a b t ha hb eT cy hi (by rw [q];exact hj))
     simp only [Bool.false_eq_true,if_false]
     unfold m8;omega
  simpa using this
section
variable {f:Fn × List AV × List AV} {Tw:List Hd->AH O->List Nat->Prop} (tl:eL f Tw) {J:AH O} {eb sb nb lb pb mb:Nat} {M:ah} {S:ao} {w:List Int} {L:aP} {T:bn} {X Z:List Nat} {aW:Int} {v:List Int} {ot:Nat} {hs:List Hd} (h:bd f Tw J eb sb nb lb pb mb M S w L T X [] aW v ot hs Z)
include tl h
theorem bd.asked {J':AH O} {M':ah} {k a c:Int} (s:bq J' sb nb lb pb mb M' S w L T (eb::(Z++X)) [aW]) (b:dp [aW] M M' k a c) (kp:aw (eb::(Z++X)) J J'):bd f Tw J' eb sb nb lb pb mb M' S w L T X [] aW v ot hs Z:=
 h.as tl ⟨s,h.t.cO,(b.dv aW (by simp)).trans h.t.w,h.t.top⟩ kp
theorem AD (hf:M.cT 1000) {o:Ob} (ho:o.is T L) {k:Nat} (hk:k<o.n):Ok (Nj [.p (some (.n sb,0)),.i .u64 o.ref,.i .i64 (k:Int)] J) fun r=>r.1=.aB [.i .u64 (Ht T L o k),.i .i64 0]/\∃ M',bd f Tw r.2 eb sb nb lb pb mb M' S w L T X [] aW v ot hs Z/\dp [] M M' 3 0 0/\aw X J r.2:=
 (En h.t.s hf ho hk).mono fun r ⟨g1,M',g2,g3,g4,g5⟩=>⟨g1,M',h.asked tl g2 g3 g5,g3.mono fun y hy=>(nomatch hy),g5.mono fun b hb=>by simp [hb]⟩
variable (hf:M.cT 100000) {Ds:List DO} {now:Nat->Option Nat} (e:EV Ds now L T v ot)
include hf e
end
theorem CO (J:AH O) {h:Hd} (k:h.ok):Ok (LW [.agg [.i .i64 (h.p:Int),.i .i64 (h.r:Int),.i .i64 (h.s:Int),.i .i64 (h.g:Int),.b h.l]] J) fun q=>q.1=.agg h.aI.av/\Ext J q.2:=by
 have h4:=k.g
 by_cases c:(h.g:Int)<7
 ·have d:=decide_eq_true c
  (unfold LW qqr;refine cw d ?_)
  refine U.2 ⟨?_,rj⟩
  have:((min (h.g+1) 7:Nat):Int)=(h.g:Int)+1:=by omega
  simp only [Hd.av,Hd.aI,this]
 ·have d:=decide_eq_false c
  (unfold LW qqr;refine cw d ?_)
  refine U.2 ⟨?_,rj⟩
  have:((min (h.g+1) 7:Nat):Int)=(h.g:Int):=by omega
  simp only [Hd.av,Hd.aI,this]
end Go.Abs.Tryz
set_option maxHeartbeats 4000000
namespace Go.Abs.Tryz
open Go Go.Abs
variable {O:Type}
theorem jh {A S R:Type} {x:Option A} {f:A->Option (S ⊕ R)} {g:S->Option R}:cv (x.bind f) g=x.bind fun r=>cv (f r) g:=by cases x<;>rfl
section
variable {f:Fn × List AV × List AV} {Tw:List Hd->AH O->List Nat->Prop} (tl:eL f Tw) {J:AH O} {eb sb nb lb pb mb:Nat} {M:ah} {S:ao} {w:List Int} {L:aP} {T:bn} {X Z:List Nat} {aW:Int} {v:List Int} {ot:Nat} {hs:List Hd} (h:bd f Tw J eb sb nb lb pb mb M S w L T X [] aW v ot hs Z) (hf:M.cT 1000)
include tl h hf
end
end Go.Abs.Tryz
set_option maxHeartbeats 1000000
namespace Go.Abs.Tryz
open Go Go.Abs
variable {O:Type}
def sv (C:Nat->DO) (i:Nat) (x:DO):Nat->DO:=fun j=>if j=i then x else C j
structure EG (Ds:List DO) (now:Nat->Option Nat) (C:Nat->DO) (L:aP) (T:bn) (v:List Int) (ot:Nat):Prop where
 ok:∀ d∈Ds,d.ok
 sm:∀ d∈Ds,d.h.l=false->d.at_+d.n<=ot
 ap:∀ (i j:Nat) (a b:DO),i<j->Ds[i]? = some a->Ds[j]? = some b->a.h.l=b.h.l->if a.h.l then a.at_≠b.at_ else a.at_+a.n<=b.at_
 vl:ot<=v.length
 top:T.top=dT (lJ Ds now) Ds.length
 Jj:ot=dT (vm Ds) Ds.length
 wl:T.ws.length=ot
 c:∀ i d t,Ds[i]? = some d->now i=some t->(C i).h=d.h.aI/\(C i).P.length=d.P.length/\(C i).R.length=d.R.length
 s0:∀ i d,Ds[i]? = some d->d.h.l=false->now i=none->∀ k,k<d.n->v.getD (d.at_+k) 0=d.ws.getD k 0
 s1:∀ i d t,Ds[i]? = some d->d.h.l=false->now i=some t->v.getD d.at_ 0=fwd t/\t+d.n<=T.top/\∀ k,k<d.n->T.ws.getD (t+k) 0=(C i).ws.getD k 0
 l0:∀ i d,Ds[i]? = some d->d.h.l=true->now i=none->d.at_∉L.H/\L.ob d.at_=some d.ws
 l1:∀ i d t,Ds[i]? = some d->d.h.l=true->now i=some t->t=d.at_/\d.at_∈L.H/\L.ob d.at_=some (C i).ws
 dj:∀ i j a b t u,i≠j->Ds[i]? = some a->Ds[j]? = some b->a.h.l=false->b.h.l=false->now i=some t->now j=some u->t+a.n<=u ∨ u+b.n<=t
 only:∀ (j:Nat),L.ob j≠none->∃ (i:Nat) (d:DO),Ds[i]? = some d/\d.h.l=true/\d.at_=j
section
variable {Ds:List DO} {now:Nat->Option Nat} {C:Nat->DO} {L:aP} {T:bn} {v:List Int} {ot:Nat} (e:EG Ds now C L T v ot)
include e
theorem EG.apart {i j:Nat} {a b:DO} (pj:i≠j) (ha:Ds[i]? = some a) (hb:Ds[j]? = some b) (hl:a.h.l=b.h.l):if a.h.l then a.at_≠b.at_ else a.at_+a.n<=b.at_ ∨ b.at_+b.n<=a.at_:=by
 by_cases c:i<j
 ·have:=e.ap i j a b c ha hb hl
  split at this
  ·next g=>rw [if_pos g];exact this
  ·next g=>rw [if_neg g];exact .inl this
 ·have:=e.ap j i b a (by omega) hb ha hl.symm
  rw [<-hl] at this
  split at this
  ·next g=>rw [if_pos g];exact fun q=>this q.symm
  ·next g=>rw [if_neg g];exact .inr this
theorem EG.room {i:Nat} {d:DO} (hd:Ds[i]? = some d) (hl:d.h.l=false) (hn:now i=none):T.top+d.n<=ot:=by
 have hi:=(List.getElem?_eq_some_iff.1 hd).1
 have h1:∀ j,j≠i->lJ Ds (cW now i 0) j=lJ Ds now j:=fun j hj=>by unfold lJ cW;rw [if_neg hj]
 have h2:=ki h1 hi
 have h3:lJ Ds now i=0:=by unfold lJ;rw [hn];rfl
 have h4:lJ Ds (cW now i 0) i=d.n:=by unfold lJ cW vm;rw [if_pos rfl,hd];simp [hl]
 have h5:dT (lJ Ds (cW now i 0)) Ds.length<=dT (vm Ds) Ds.length:=pY fun j _=>by unfold lJ;split<;>omega
 rw [e.top,e.Jj]
 omega
theorem EG.CP {i:Nat} {d:DO} (hd:Ds[i]? = some d) (hn:now i=none) (t:Nat):dT (lJ Ds (cW now i t)) Ds.length=T.top+if d.h.l then 0 else d.n:=by
 have hi:=(List.getElem?_eq_some_iff.1 hd).1
 have h1:∀ j,j≠i->lJ Ds (cW now i t) j=lJ Ds now j:=fun j hj=>by unfold lJ cW;rw [if_neg hj]
 have h2:=ki h1 hi
 have h3:lJ Ds now i=0:=by unfold lJ;rw [hn];rfl
 have h4:lJ Ds (cW now i t) i=if d.h.l then 0 else d.n:=by unfold lJ cW vm;rw [if_pos rfl,hd];simp
 rw [e.top]
 omega
theorem EG.cn {i:Nat} {d:DO} {t:Nat} (hd:Ds[i]? = some d) (hn:now i=some t):(C i).n=d.n/\(C i).ok:=by
 obtain ⟨c1,c2,c3⟩:=e.c i d t hd hn
 have ok:=e.ok d (List.mem_of_getElem? hd)
 refine ⟨by unfold DO.n;rw [c2,c3],⟨by rw [c1];exact ok.h.aI,by rw [c1,c2];exact ok.p,by rw [c1,c3];exact ok.r⟩⟩
theorem EG.small {i:Nat} {d:DO} (hd:Ds[i]? = some d) (hl:d.h.l=false) (hn:now i=none):EG Ds (cW now i T.top) (sv C i d.aI) L {T with ws:=(gv T.ws v T.top d.at_ d.n).set T.top (d.h.aI.word:Int),top:=T.top+d.n} (v.set d.at_ (fwd T.top)) ot:=by
 have hm:=List.mem_of_getElem? hd
 have hr:=e.room hd hl hn
 have hs:=e.sm d hm hl
 have Qk:=e.vl
 have BD:=e.wl
 have n1:1<=d.n:=by unfold DO.n;omega
 have UM:=uK (ws:=T.ws) (v:=v) (top:=T.top) (at_:=d.at_) (n:=d.n) (by omega) (by omega)
 have hml:(gv T.ws v T.top d.at_ d.n).length=T.ws.length:=eW (by simp;omega)
 have qI:∀ j b,j≠i->Ds[j]? = some b->b.h.l=false->∀ k,k<b.n->d.at_≠b.at_+k:=fun j b hj hb cy k hk=>by
  have:=e.apart hj hb hd (by rw [cy,hl])
  rw [cy] at this
  simp only [Bool.false_eq_true,if_false] at this
  omega
 refine ⟨e.ok,e.sm,e.ap,by rw [List.length_set];exact Qk,?_,e.Jj,by simp only [List.length_set,hml];exact BD,?_,?_,?_,?_,?_,?_,e.only⟩
 ·rw [e.CP hd hn,hl];rfl
 ·intro j b t hb hj
  by_cases bV:j=i
  ·subst bV
   rw [hd] at hb;cases hb
   unfold sv;rw [if_pos rfl];exact ⟨rfl,rfl,rfl⟩
  ·unfold sv;rw [if_neg bV]
   exact e.c j b t hb (by simpa [cW,bV] using hj)
 ·intro j b hb cy hj k hk
  have bV:j≠i:=fun q=>by subst q;simp [cW] at hj
  rw [getD_set_ne (qI j b bV hb cy k hk)]
  exact e.s0 j b hb cy (by simpa [cW,bV] using hj) k hk
 ·intro j b t hb cy hj
  by_cases bV:j=i
  ·subst bV
   rw [hd] at hb;cases hb
   simp [cW] at hj
   subst hj
   refine ⟨cf (by omega),Nat.le_refl _,fun k hk=>?_⟩
   simp only
   have:sv C j d.aI j=d.aI:=by unfold sv;rw [if_pos rfl]
   rw [this,DO.ti]
   by_cases LS:k=0
   ·subst LS
    rw [Nat.add_zero,cf (by omega),cf (by rw [d.Na];omega)]
   ·rw [getD_set_ne (by omega),getD_set_ne (by omega),UM,if_pos (by omega),show d.at_+(T.top+k - T.top)=d.at_+k by omega]
    exact e.s0 j d hd hl hn k hk
  ·obtain ⟨q1,q2,q3⟩:=e.s1 j b t hb cy (by simpa [cW,bV] using hj)
   have o0:=qI j b bV hb cy 0 (by unfold DO.n;omega)
   rw [Nat.add_zero] at o0
   refine ⟨by rw [getD_set_ne o0];exact q1,by simp only;omega,fun k hk=>?_⟩
   simp only
   have:sv C i d.aI j=C j:=by unfold sv;rw [if_neg bV]
   rw [this,getD_set_ne (by omega),UM,if_neg (by omega)]
   exact q3 k hk
 ·intro j b hb cy hj
  have bV:j≠i:=fun q=>by subst q;simp [cW] at hj
  exact e.l0 j b hb cy (by simpa [cW,bV] using hj)
 ·intro j b t hb cy hj
  have bV:j≠i:=fun q=>by subst q;rw [hd] at hb;cases hb;rw [hl] at cy;cases cy
  have:sv C i d.aI j=C j:=by unfold sv;rw [if_neg bV]
  rw [this]
  exact e.l1 j b t hb cy (by simpa [cW,bV] using hj)
 ·intro j k a b t u hjk ha hb eT cy hj hk
  by_cases bV:j=i
  ·have th:k≠i:=fun q=>hjk (by rw [bV,q])
   subst bV
   simp [cW] at hj
   have:=(e.s1 k b u hb cy (by simpa [cW,th] using hk)).2.1
   omega
  ·by_cases th:k=i
   ·subst th
    simp [cW] at hk
    have:=(e.s1 j a t ha eT (by simpa [cW,bV] using hj)).2.1
    omega
   ·exact e.dj j k a b t u hjk ha hb eT cy (by simpa [cW,bV] using hj) (by simpa [cW,th] using hk)
theorem EG.eu {i:Nat} {d:DO} (hd:Ds[i]? = some d) (hl:d.h.l=true) (hn:now i=none):EG Ds (cW now i d.at_) (sv C i d.aI) (L.met d.at_ d.ws (d.h.aI.word:Int)) T v ot:=by
 have qI:∀ j b,j≠i->Ds[j]? = some b->b.h.l=true->b.at_≠d.at_:=fun j b hj hb cy=>by
  have:=e.apart hj hb hd (by rw [cy,hl])
  rw [cy] at this
  simpa using this
 have uc:∀ j,j≠i->sv C i d.aI j=C j:=fun j hj=>by unfold sv;rw [if_neg hj]
 have ui:sv C i d.aI i=d.aI:=by unfold sv;rw [if_pos rfl]
 refine ⟨e.ok,e.sm,e.ap,e.vl,?_,e.Jj,e.wl,?_,?_,?_,?_,?_,?_,?_⟩
 ·rw [e.CP hd hn,hl];rfl
 ·intro j b t hb hj
  by_cases bV:j=i
  ·subst bV
   rw [hd] at hb;cases hb
   rw [ui];exact ⟨rfl,rfl,rfl⟩
  ·rw [uc j bV]
   exact e.c j b t hb (by simpa [cW,bV] using hj)
 ·intro j b hb cy hj
  have bV:j≠i:=fun q=>by subst q;simp [cW] at hj
  exact e.s0 j b hb cy (by simpa [cW,bV] using hj)
 ·intro j b t hb cy hj
  have bV:j≠i:=fun q=>by subst q;rw [hd] at hb;cases hb;rw [hl] at cy;cases cy
  rw [uc j bV]
  exact e.s1 j b t hb cy (by simpa [cW,bV] using hj)
 ·intro j b hb cy hj
  have bV:j≠i:=fun q=>by subst q;simp [cW] at hj
  obtain ⟨q1,q2⟩:=e.l0 j b hb cy (by simpa [cW,bV] using hj)
  have:=qI j b bV hb cy
  refine ⟨?_,?_⟩
  ·simp only [aP.met,List.mem_append,List.mem_singleton]
   rintro (g |g)
   ·exact q1 g
   ·exact this g
  ·simp only [aP.met];rw [if_neg this];exact q2
 ·intro j b t hb cy hj
  by_cases bV:j=i
  ·subst bV
   rw [hd] at hb;cases hb
   simp [cW] at hj
   refine ⟨hj.symm,by simp [aP.met],?_⟩
   simp only [aP.met,if_true]
   rw [ui,DO.ti]
  ·obtain ⟨q1,q2,q3⟩:=e.l1 j b t hb cy (by simpa [cW,bV] using hj)
   have:=qI j b bV hb cy
   refine ⟨q1,by simp [aP.met,q2],?_⟩
   simp only [aP.met];rw [if_neg this,uc j bV];exact q3
 ·intro j k a b t u hjk ha hb eT cy hj hk
  have bV:j≠i:=fun q=>by subst q;rw [hd] at ha;cases ha;rw [hl] at eT;cases eT
  have th:k≠i:=fun q=>by subst q;rw [hd] at hb;cases hb;rw [hl] at cy;cases cy
  exact e.dj j k a b t u hjk ha hb eT cy (by simpa [cW,bV] using hj) (by simpa [cW,th] using hk)
 ·intro j hj
  simp only [aP.met] at hj
  by_cases c:j=d.at_
  ·exact ⟨i,d,hd,hl,c.symm⟩
  ·rw [if_neg c] at hj;exact e.only j hj
theorem EG.has {i:Nat} {d:DO} (hd:Ds[i]? = some d) {t:Nat} (hn:now i=some t):(d.fC t).has T L d.h.aI/\∀ k,k<d.n->Ht T L (d.fC t) k=(C i).ws.getD k 0:=by
 have hm:=List.mem_of_getElem? hd
 have ok:=e.ok d hm
 have n1:1<=d.n:=by unfold DO.n;omega
 obtain ⟨cn,cok⟩:=e.cn hd hn
 have wd:∀ k,k<d.n->Ht T L (d.fC t) k=(C i).ws.getD k 0:=fun k hk=>by
  unfold Ht
  show (if d.h.l then ((L.ob t).getD []).getD k 0 else T.ws.getD (t+k) 0)=_
  cases hl:d.h.l with
  |true=>
   obtain ⟨q1,q2,q3⟩:=e.l1 i d t hd hl hn
   rw [if_pos rfl,q1,q3];rfl
  |false=>
   obtain ⟨q1,q2,q3⟩:=e.s1 i d t hd hl hn
   simp only [Bool.false_eq_true,if_false]
   exact q3 k hk
 refine ⟨⟨?_,?_,?_,ok.h.aI⟩,wd⟩
 ·unfold Ob.is
  show if d.h.l then (∃ ws,L.ob t=some ws/\ws.length=d.n) else t+d.n<=T.top
  cases hl:d.h.l with
  |true=>
   obtain ⟨q1,q2,q3⟩:=e.l1 i d t hd hl hn
   rw [if_pos rfl,q1]
   exact ⟨_,q3,by rw [(C i).Na,cn]⟩
  |false=>
   obtain ⟨q1,q2,q3⟩:=e.s1 i d t hd hl hn
   simp only [Bool.false_eq_true,if_false]
   exact q2
 ·show d.n=1+d.h.p+d.h.r
  rw [ok.p,ok.r];rfl
 ·rw [wd 0 (by omega)]
  show (((C i).h.word:Int))=_
  rw [(e.c i d t hd hn).1]
theorem EG.agz {i:Nat} {d:DO} (hd:Ds[i]? = some d) {t:Nat} (hn:now i=some t) {k:Nat} (hk:k<d.P.length) (x:Int):EG Ds now (sv C i {C i with P:=(C i).P.set k x}) (fO L (d.fC t) (1+k) x) (cC T (d.fC t) (1+k) x) v ot:=by
 have uc:∀ j,j≠i->sv C i {C i with P:=(C i).P.set k x} j=C j:=fun j hj=>by unfold sv;rw [if_neg hj]
 have ui:sv C i {C i with P:=(C i).P.set k x} i={C i with P:=(C i).P.set k x}:=by unfold sv;rw [if_pos rfl]
 obtain ⟨c1,c2,c3⟩:=e.c i d t hd hn
 obtain ⟨cn,cok⟩:=e.cn hd hn
 have kn:1+k<d.n:=by unfold DO.n;omega
 have pw:(DO.ws {C i with P:=(C i).P.set k x})=(C i).ws.set (1+k) x:=by
  unfold DO.ws
  simp only
  rw [Nat.add_comm,List.set_cons_succ,List.set_append_left _ _ (by omega)]
 have tt:(cC T (d.fC t) (1+k) x).top=T.top:=by unfold cC;split<;>rfl
 have tw:(cC T (d.fC t) (1+k) x).ws.length=T.ws.length:=by unfold cC;split<;>simp
 have lH:(fO L (d.fC t) (1+k) x).H=L.H:=by unfold fO;split<;>rfl
 have lob:∀ j,j≠d.at_ ∨ d.h.l=false->(fO L (d.fC t) (1+k) x).ob j=L.ob j:=fun j hj=>by
  unfold fO
  show (if d.h.l then _ else L).ob j=_
  cases hl:d.h.l with
  |false=>rfl
  |true=>
   obtain ⟨q1,q2,q3⟩:=e.l1 i d t hd hl hn
   rcases hj with hj |hj
   ·rw [if_pos rfl]
    show (if j=t then _ else _)=_
    rw [if_neg (by rw [q1];exact hj)]
   ·rw [hl] at hj;cases hj
 refine ⟨e.ok,e.sm,e.ap,e.vl,by rw [tt];exact e.top,e.Jj,by rw [tw];exact e.wl,?_,e.s0,?_,?_,?_,e.dj,?_⟩
 ·intro j b u hb hj
  by_cases bV:j=i
  ·subst bV
   rw [hd] at hb;cases hb
   rw [ui]
   exact ⟨c1,by simpa using c2,c3⟩
  ·rw [uc j bV];exact e.c j b u hb hj
 ·intro j b u hb cy hj
  obtain ⟨q1,q2,q3⟩:=e.s1 j b u hb cy hj
  refine ⟨q1,by rw [tt];exact q2,fun q hq=>?_⟩
  by_cases bV:j=i
  ·subst bV
   rw [hd] at hb;cases hb
   rw [hn] at hj;cases hj
   rw [ui,pw]
   have e1:(cC T (d.fC t) (1+k) x).ws=T.ws.set (t+(1+k)) x:=by
    unfold cC
    show (if d.h.l then T else _).ws=_
    rw [cy];rfl
   have tl:=e.wl
   have hr:=e.top
   have tle:T.top<=ot:=by
    rw [e.top,e.Jj]
    exact pY fun j _=>by unfold lJ;split<;>omega
   rw [e1]
   by_cases cq:q=1+k
   ·subst cq
    rw [cf (by omega),cf (by rw [(C j).Na,cn];exact kn)]
   ·rw [getD_set_ne (by omega),getD_set_ne (fun e=>cq e.symm)]
    exact q3 q hq
  ·rw [uc j bV]
   cases hl:d.h.l with
   |true=>
    have e1:cC T (d.fC t) (1+k) x=T:=by
     unfold cC
     show (if d.h.l then T else _)=_
     rw [hl];rfl
    rw [e1];exact q3 q hq
   |false=>
    have e1:(cC T (d.fC t) (1+k) x).ws=T.ws.set (t+(1+k)) x:=by
     unfold cC
     show (if d.h.l then T else _).ws=_
     rw [hl];rfl
    have:=e.dj j i b d u t bV hb hd cy hl hj hn
    rw [e1,getD_set_ne (by omega)]
    exact q3 q hq
 ·intro j b hb cy hj
  obtain ⟨q1,q2⟩:=e.l0 j b hb cy hj
  have bV:j≠i:=fun q=>by subst q;rw [hn] at hj;cases hj
  rw [lH]
  refine ⟨q1,?_⟩
  rw [lob _ ?_];· exact q2
  cases hl:d.h.l with
  |false=>exact .inr rfl
  |true=>
   have:=e.apart bV hb hd (by rw [cy,hl])
   rw [cy,if_pos rfl] at this
   exact .inl this
 ·intro j b u hb cy hj
  obtain ⟨q1,q2,q3⟩:=e.l1 j b u hb cy hj
  rw [lH]
  refine ⟨q1,q2,?_⟩
  by_cases bV:j=i
  ·subst bV
   rw [hd] at hb;cases hb
   rw [hn] at hj;cases hj
   rw [ui,pw]
   unfold fO
   show (if d.h.l then _ else L).ob d.at_=_
   rw [cy,if_pos rfl]
   show (if d.at_=t then some (((L.ob t).getD []).set (1+k) x) else _)=_
   rw [if_pos q1.symm,q1,q3];rfl
  ·rw [uc j bV,lob _ ?_];· exact q3
   cases hl:d.h.l with
   |false=>exact .inr rfl
   |true=>
    have:=e.apart bV hb hd (by rw [cy,hl])
    rw [cy,if_pos rfl] at this
    exact .inl this
 ·intro j hj
  by_cases c:j≠d.at_ ∨ d.h.l=false
  ·rw [lob j c] at hj;exact e.only j hj
  ·have:j=d.at_/\d.h.l=true:=by
    refine ⟨Classical.byContradiction fun q=>c (.inl q),?_⟩
    cases hl:d.h.l with
    |true=>rfl
    |false=>exact absurd (.inr hl) c
   exact ⟨i,d,hd,this.2,this.1.symm⟩
end
section
variable {f:Fn × List AV × List AV} {Tw:List Hd->AH O->List Nat->Prop} (tl:eL f Tw) {J:AH O} {eb sb nb lb pb mb:Nat} {M:ah} {S:ao} {w:List Int} {L:aP} {T:bn} {X Z:List Nat} {aW:Int} {v:List Int} {ot:Nat} {hs:List Hd} (h:bd f Tw J eb sb nb lb pb mb M S w L T X [] aW v ot hs Z) (hf:M.cT 100000) {Ds:List DO} {now:Nat->Option Nat} {C:Nat->DO} (e:EG Ds now C L T v ot)
include tl h hf e
theorem Jm {i:Nat} {d:DO} (hd:Ds[i]? = some d) {t:Nat} (hn:now i=some t):Ok (zG [.p (some (.n eb,0)),.i .u64 d.ref] J) fun r=>r.1=.i .u64 (d.to t)/\∃ M',bd f Tw r.2 eb sb nb lb pb mb M' S w L T X [] aW v ot hs Z/\dp [] M M' 2 0 0/\aw X J r.2:=by
 have hm:=List.mem_of_getElem? hd
 have Qk:=h.t.vl
 have PN:=e.vl
 unfold DO.ref DO.to
 cases hl:d.h.l with
 |false=>
  obtain ⟨q1,q2,q3⟩:=e.s1 i d t hd hl hn
  have hs:=e.sm d hm hl
  have Nk:=h.t.s.top
  have Nl:=h.t.s.tl
  have n1:1<=d.n:=by unfold DO.n;omega
  simp only [Bool.false_eq_true,if_false]
  exact (Jn tl h hf (at_:=d.at_) (to:=t) (by omega) (by omega) (by omega) q1).mono fun r ⟨g1,M',g2,g3,g4,g5⟩=>⟨g1,M',g2,g3.as (by decide) rfl rfl,g5⟩
 |true=>
  obtain ⟨q1,q2,q3⟩:=e.l1 i d t hd hl hn
  subst q1
  simp only [if_true]
  exact (yE tl h hf q2 (h.t.s.vR q3)).mono fun r ⟨g1,M',g2,g3,g5⟩=>⟨g1,M',g2,g3,g5⟩
theorem Nm {i:Nat} {d:DO} (hd:Ds[i]? = some d) (hn:now i=none) (hc:hs.length<1000):Ok (zG [.p (some (.n eb,0)),.i .u64 d.ref] J) fun r=>r.1=.i .u64 (d.to (if d.h.l then d.at_ else T.top))/\∃ M' S' w' L' T' v' Z',bd f Tw r.2 eb sb nb lb pb mb M' S' w' L' T' X [] aW v' ot (hs++[d.h.aI]) Z'/\EG Ds (cW now i (if d.h.l then d.at_ else T.top)) (sv C i d.aI) L' T' v' ot/\(L'.H=if d.h.l then L.H++[d.at_] else L.H)/\L'.last=L.last/\v'.length=v.length/\Alike S S'/\dp [] M M' (2*d.n+18) 0 0/\aw X J r.2:=by
 have hm:=List.mem_of_getElem? hd
 have jv:=e.ok d hm
 have Qk:=h.t.vl
 have PN:=e.vl
 have BD:=e.wl
 have n1:1<=d.n:=by unfold DO.n;omega
 unfold DO.ref DO.to
 cases hl:d.h.l with
 |false=>
  have q:=e.s0 i d hd hl hn 0 (by omega)
  have hs:=e.sm d hm hl
  have hr:=e.room hd hl hn
  simp only [Bool.false_eq_true,if_false]
  refine (Jo tl h hf (at_:=d.at_) (hd:=d.h) jv.h q (by rw [jv.size];exact hs) (by rw [jv.size];omega) (by simp) (by simp) hc).mono fun r ⟨g1,M',Z',g2,g3,g4,g5⟩=>?_
  rw [jv.size] at g2 g3 g4
  exact ⟨g1,M',S,w,L,_,_,Z',g2,e.small hd hl hn,rfl,rfl,List.length_set,Alike.refl S,g3.as (by omega) rfl rfl,g5⟩
 |true=>
  obtain ⟨q1,q2⟩:=e.l0 i d hd hl hn
  simp only [if_true]
  refine (yF tl h hf q2 q1 jv.h (by rw [d.Na];omega) rfl hc).mono fun r ⟨g1,M',S',w',Z',g2,g3,g4,g5⟩=>?_
  exact ⟨g1,M',S',w',_,T,v,Z',g2,e.eu hd hl hn,rfl,rfl,rfl,g3,g4.as (by omega) rfl rfl,g5⟩
end
end Go.Abs.Tryz
set_option maxHeartbeats 2000000
namespace Go.Abs.Tryz
open Go Go.Abs
variable {O:Type}
section
variable {J:AH O} {sb nb lb pb mb:Nat} {M:ah} {S:ao} {w:List Int} {L:aP} {T:bn} {X:List Nat} {Ds:List DO} {N:Nat} {c:Int} (m:lI J sb nb lb pb mb M S w L T X Ds N c)
include m
theorem lI.ym {J':AH O} {M':ah} {i:Nat} {d d':DO} (hd:Ds[i]? = some d) {q0:Nat} (kn:q0<d.n) (x:Int) (dh:d'.h=d.h) (da:d'.at_=d.at_) (dP:d'.P.length=d.P.length) (dR:d'.R.length=d.R.length) (dw:d'.ws=d.ws.set q0 x) (h:bq J' sb nb lb pb mb M' S w (fO L d.ob q0 x) (cC T d.ob q0 x) X []) {c':Int} (hf:M'.bW c' (2+Ds.length)):
  lI J' sb nb lb pb mb M' S w (fO L d.ob q0 x) (cC T d.ob q0 x) X (Ds.set i d') N c':=by
 have hi:=(List.getElem?_eq_some_iff.1 hd).1
 have hm:=List.mem_of_getElem? hd
 have dn:d'.n=d.n:=by unfold DO.n;rw [dP,dR]
 have tt:(cC T d.ob q0 x).top=T.top:=by unfold cC;split<;>rfl
 have ts:(cC T d.ob q0 x).small=T.small:=by unfold cC;split<;>rfl
 have to:(cC T d.ob q0 x).cO=T.cO:=by unfold cC;split<;>rfl
 have tw:(cC T d.ob q0 x).ws.length=T.ws.length:=by unfold cC;split<;>simp
 have le:(fO L d.ob q0 x).ep=L.ep:=by unfold fO;split<;>rfl
 have get:∀ (j:Nat) (b:DO),(Ds.set i d')[j]? = some b->∃ b0,Ds[j]? = some b0/\b.h=b0.h/\b.at_=b0.at_/\b.n=b0.n/\(j=i->b0=d/\b=d')/\(j≠i->b=b0):=fun j b hb=>by
  rw [List.getElem?_set] at hb
  by_cases c:i=j
  ·subst c
   rw [if_pos rfl,if_pos hi] at hb
   cases hb
   exact ⟨d,hd,dh,da,dn,fun _=>⟨rfl,rfl⟩,fun h=>absurd rfl h⟩
  ·rw [if_neg c] at hb
   exact ⟨b,hb,rfl,rfl,rfl,fun h=>absurd h.symm c,fun _=>rfl⟩
 have apart:∀ (j:Nat) (b:DO),Ds[j]? = some b->j≠i->b.h.l=d.h.l->if b.h.l then b.at_≠d.at_ else b.at_+b.n<=d.at_ ∨ d.at_+d.n<=b.at_:=fun j b hb hj hl=>by
  by_cases cc:j<i
  ·have:=m.ap j i b d cc hb hd hl
   split at this
   ·next g=>rw [if_pos g];exact this
   ·next g=>rw [if_neg g];exact .inl this
  ·have:=m.ap i j d b (by omega) hd hb hl.symm
   rw [<-hl] at this
   split at this
   ·next g=>rw [if_pos g];exact fun q=>this q.symm
   ·next g=>rw [if_neg g];exact .inr this
 have mem:∀ b∈Ds.set i d',∃ j:Nat,(Ds.set i d')[j]? = some b:=fun b hb=>List.getElem?_of_mem hb
 refine ⟨h,fun b hb=>?_,fun b hb cy=>?_,fun u v a b huv hu hv F1=>?_,fun b hb cy q hq=>?_,fun b hb cy=>?_,m.free,?_,m.room,by rw [List.length_set];exact hf,ts.trans m.small,by rw [tw];exact m.ws,?_,by rw [tt,List.length_set];exact m.F0,to.trans m.cO,le.trans m.ep,fun j hj=>?_,m.gen⟩
 ·obtain ⟨j,hj⟩:=mem b hb
  obtain ⟨b0,h1,h2,h3,h4,h5,h6⟩:=get j b hj
  by_cases c:j=i
  ·obtain ⟨rfl,rfl⟩:=h5 c
   obtain ⟨q1,q2,q3⟩:=m.ok b0 hm
   exact ⟨⟨by rw [dh];exact q1.h,by rw [dh,dP];exact q1.p,by rw [dh,dR];exact q1.r⟩,by rw [dP];exact q2,by rw [dR];exact q3⟩
  ·rw [h6 c];exact m.ok b0 (List.mem_of_getElem? h1)
 ·obtain ⟨j,hj⟩:=mem b hb
  obtain ⟨b0,h1,h2,h3,h4,h5,h6⟩:=get j b hj
  rw [tt,h3,h4]
  exact m.sm b0 (List.mem_of_getElem? h1) (by rw [<-h2];exact cy)
 ·obtain ⟨a0,a1,a2,a3,a4,_⟩:=get u a hu
  obtain ⟨b0,b1,b2,b3,b4,_⟩:=get v b hv
  rw [a2,a3,a4,b3]
  exact m.ap u v a0 b0 huv a1 b1 (by rw [<-a2,<-b2];exact F1)
 ·obtain ⟨j,hj⟩:=mem b hb
  obtain ⟨b0,h1,h2,h3,h4,h5,h6⟩:=get j b hj
  have jN:b0.h.l=false:=by rw [<-h2];exact cy
  have cO:=m.s0 b0 (List.mem_of_getElem? h1) jN
  have st:=m.sm b0 (List.mem_of_getElem? h1) jN
  have tp:=m.a.top
  by_cases c:j=i
  ·obtain ⟨rfl,rfl⟩:=h5 c
   have e1:(cC T b0.ob q0 x).ws=T.ws.set (b0.at_+q0) x:=by
    unfold cC
    show (if b0.h.l then T else _).ws=_
    rw [jN];rfl
   rw [e1,dw,da]
   show (T.ws.set _ x).getD (b0.at_+q) 0=_
   rw [dn] at hq
   by_cases cq:q=q0
   ·subst cq
    rw [cf (by omega),cf (by rw [b0.Na];exact kn)]
   ·rw [getD_set_ne (by omega),getD_set_ne (fun e=>cq e.symm)]
    exact cO q hq
  ·rw [h6 c] at hq ⊢
   by_cases cl:d.h.l=true
   ·have e1:cC T d.ob q0 x=T:=by
     unfold cC
     show (if d.h.l then T else _)=_
     rw [cl];rfl
    rw [e1];exact cO q hq
   ·have cl:d.h.l=false:=by simpa using cl
    have e1:(cC T d.ob q0 x).ws=T.ws.set (d.at_+q0) x:=by
     unfold cC
     show (if d.h.l then T else _).ws=_
     rw [cl];rfl
    have:=apart j b0 h1 c (by rw [jN,cl])
    rw [jN] at this
    simp only [Bool.false_eq_true,if_false] at this
    rw [e1,getD_set_ne (by omega)]
    exact cO q hq
 ·obtain ⟨j,hj⟩:=mem b hb
  obtain ⟨b0,h1,h2,h3,h4,h5,h6⟩:=get j b hj
  have jN:b0.h.l=true:=by rw [<-h2];exact cy
  have cO:=m.l0 b0 (List.mem_of_getElem? h1) jN
  by_cases c:j=i
  ·obtain ⟨rfl,rfl⟩:=h5 c
   unfold fO
   rw [da]
   show (if b0.h.l then _ else L).ob b0.at_=_
   rw [jN,if_pos rfl]
   show (if b0.at_=b0.at_ then _ else _)=_
   rw [if_pos rfl]
   show some (((L.ob b0.at_).getD []).set _ x)=_
   rw [cO,dw];rfl
  ·rw [h6 c]
   unfold fO
   show (if d.h.l then _ else L).ob b0.at_=_
   by_cases cl:d.h.l=true
   ·rw [cl,if_pos rfl]
    have:=apart j b0 h1 c (by rw [jN,cl])
    rw [jN,if_pos rfl] at this
    show (if b0.at_=d.at_ then _ else _)=_
    rw [if_neg this];exact cO
   ·rw [if_neg cl];exact cO
 ·rw [m.len]
  unfold I0
  rw [List.set_eq_take_append_cons_drop,if_pos hi]
  conv=>lhs;rw [<-List.take_append_drop i Ds,List.drop_eq_getElem_cons hi]
  have hg:Ds[i]=d:=by rw [List.getElem?_eq_getElem hi] at hd;exact Option.some.inj hd
  rw [hg,List.filter_append,List.filter_append,List.length_append,List.length_append,List.filter_cons,List.filter_cons]
  have Cw:d'.h.l=d.h.l:=by rw [dh]
  rw [Cw]
  split<;>simp
 ·rw [tt,m.top,List.length_set]
  refine (gP fun j hj=>?_).symm
  unfold vm
  cases hb:(Ds.set i d')[j]? with
  |none=>rw [List.getElem?_eq_none_iff,List.length_set] at hb;omega
  |some b=>
   obtain ⟨b0,h1,h2,h3,h4,h5,h6⟩:=get j b hb
   rw [h1]
   simp only
   rw [h2,h4]
 ·have hL:L.ob j≠none ∨ (j=d.at_/\d.h.l=true):=by
   unfold fO at hj
   cases hl:d.h.l with
   |false=>
    rw [if_neg (show ¬ d.ob.lg=true by show ¬ d.h.l=true;rw [hl];simp)] at hj
    exact .inl hj
   |true=>
    by_cases c:j=d.at_
    ·exact .inr ⟨c,rfl⟩
    ·left
     rw [if_pos (show d.ob.lg=true from hl)] at hj
     simp only [if_neg (show ¬ j=d.ob.at_ from c)] at hj
     exact hj
  have back:∀ b∈Ds,b.h.l=true->b.at_=j->∃ b'∈Ds.set i d',b'.h.l=true/\b'.at_=j:=fun b hb cy Qh=>by
   obtain ⟨u,hu⟩:=List.getElem?_of_mem hb
   by_cases c:u=i
   ·subst c
    rw [hd] at hu;cases hu
    exact ⟨d',List.mem_of_getElem? (i:=u) (by rw [List.getElem?_set,if_pos rfl,if_pos hi]),by rw [dh];exact cy,by rw [da];exact Qh⟩
   ·exact ⟨b,List.mem_of_getElem? (i:=u) (by rw [List.getElem?_set,if_neg (fun e=>c e.symm)];exact hu),cy,Qh⟩
  rcases hL with h |⟨h1,h2⟩
  ·obtain ⟨b,b1,b2,b3⟩:=m.only j h
   exact back b b1 b2 b3
  ·exact back d hm h2 h1.symm
end
end Go.Abs.Tryz
