/-
  AbsDraw4: one operation of a drawn region, in any order.
-/
import Derived.Test.YtncohicmiihjiaaGreatAbsDraw3
set_option linter.unusedVariables false
set_option linter.unusedSimpArgs false
set_option linter.constructorNameAsVariable false
namespace Go.Abs
open Go
variable {O:Type} {RO:O->Loc->(Nat->Option Obj)->Prop} {P:Program} {G:List (Nat × Sm O)} {n:Nat}
abbrev iV (aw:Array Bool) (i:Nat):Prop:=aw.getD i false=true
structure FN (ops:List Oper) (l:List Nat) (S:Nat->RS O) (n:Nat) (a0:Act) (aw:Array Bool) (a:Act) (ρ:bT):Prop where
 Ac:aw.size=ops.length
 closed:nW ops (iV aw)
 size:a.tmps.size=n
 bM:∀ t m,m<=l.length->(∀ q i o,q<m->At ops l q i o->o.dst=some t->iV aw i)->(∀ q i o,m<=q->At ops l q i o->o.dst=some t->¬ iV aw i)->aK ρ ((S m).e t) (a.tmps.getD t undef)
 defers:a.defers=a0.defers
 out:∀ t,t∉kz ops->a.tmps.getD t undef=a0.tmps.getD t undef
structure lC (RO:O->Loc->(Nat->Option Obj)->Prop) (P:Program) (ops:List Oper) (l:List Nat) (S:Nat->RS O) (kB:bT) (fp0:Fp) (J0:AH O) (w0:World) (aw:Array Bool) (w:World) (ρ:bT) (fp:Fp) (Jd:AH O) (j:Nat):Prop where
 W1:j<=l.length
 jz:j=0 ∨ ∃ k i o,j=k+1/\At ops l k i o/\iV aw i/\turns o.op=true/\cx ops (S k).e o=some true
 late:∀ q i o,j<=q->At ops l q i o->iV aw i->¬ (turns o.op=true/\cx ops (S q).e o=some true)
 post:aR RO P (· < (S 0).nid) kB fp0 J0 w0 ρ fp Jd w
 nx:Jd.next=(S j).J.next
 pe:∀ q i o b x,j<=q->At ops l q i o->iV aw i->yc ops S q o b x->Jd.aa b=some x
 od:∀ b,Jd.aa b=(S j).J.aa b ∨ ∃ q i o x,j<=q/\At ops l q i o/\iV aw i/\yc ops S q o b x
 bl:∀ b,(S j).nid<=b->b<(S l.length).nid->(S j).J.aa b=none
 nr:∀ q i o,At ops l q i o->¬ iV aw i->aM o.op=true->ρ (S q).nid=none
 top:(S l.length).nid<=(S j).J.next
section step
variable {ops:List Oper} {l:List Nat} {S:Nat->RS O} {V:Nat->AV} {a0:Act} {kB:bT} {fp0:Fp} {J0:AH O} {w0:World} {aw:Array Bool}
theorem cN {i k:Nat} (aY:i<aw.size):iV (aw.setIfInBounds i true) k ↔ k=i ∨ iV aw k:=by
 unfold iV
 by_cases h:i=k
 ·subst h
  simp [aY]
 ·rw [getD_set_ne false h]
  constructor
  ·exact .inr
  ·rintro (h' | h')
   ·exact absurd h'.symm h
   ·exact h'
theorem iV.lt {ops:List Oper} {aw:Array Bool} (hl:aw.size=ops.length) {i:Nat} (h:iV aw i):i<ops.length:=by
 rw [<-hl]
 rcases Nat.lt_or_ge i aw.size with hh |hh
 ·exact hh
 ·simp [iV,Array.getElem?_eq_none hh] at h
theorem FN.Ec (cK:∀ p,p<l.length->∃ i o,At ops l p i o) (hr:rQ P G ops l S V) {a:Act} {ρ:bT} (h:FN ops l S n a0 aw a ρ) {p i:Nat} {o:Oper} (ha:At ops l p i o) (hnd:¬ iV aw i) (Ab:∀ e∈o.after,Region.binds .any e=true->iV aw e.on)
  {t:Nat} (ht:t∈lU ops o):aK ρ ((S p).e t) (a.tmps.getD t undef):=by
 have hD:∀ i,iV aw i->i<ops.length:=fun i hi=>iV.lt h.Ac hi
 refine h.bM t p (Nat.le_of_lt ha.lt) (fun q i' o' hq hb hd=>?_) (fun q i' o' hq hb hd W4=>?_)
 ·have hp:=hr.BO.pair q p i' i o' o hq hb ha
  rcases hp.or with g |⟨g,_⟩
  ·exact qE h.closed hD ha.2 Ab g
  ·exact absurd ht ((lY g).1 t hd).1
 ·by_cases Qu:q=p
  ·subst Qu
   obtain ⟨rfl,rfl⟩:=ha.fn hb
   exact hnd W4
  ·have hp:=hr.BO.pair p q i i' o o' (by omega) ha hb
   rcases hp.or with g |⟨g,_⟩
   ·exact hnd (h.closed.fG hD i' i W4 g)
   ·exact absurd ht ((lY g).2 t hd)
theorem FN.next (cK:∀ p,p<l.length->∃ i o,At ops l p i o) (hr:rQ P G ops l S V) (gJ:∀ (i:Nat) (o:Oper) (d:Nat),ops[i]? = some o->o.dst=some d->d<n) {a:Act} {ρ aQ:bT} (h:FN ops l S n a0 aw a ρ) {p i:Nat} {o:Oper} (ha:At ops l p i o) (hnd:¬ iV aw i)
  (Ab:∀ e∈o.after,Region.binds .any e=true->iV aw e.on) (hle:ρ.le aQ) {u:Value} (hu:aK aQ (V p) u):FN ops l S n a0 (aw.setIfInBounds i true) (a.put o.dst u) aQ:=by
 have hD:∀ i,iV aw i->i<ops.length:=fun i hi=>iV.lt h.Ac hi
 have aY:i<aw.size:=by rw [h.Ac];exact (List.getElem?_eq_some_iff.1 ha.2).1
 refine ⟨by simp [h.Ac],fun k ok hk Ah e he hb=>?_,by cases o.dst<;>simp [Act.put,h.size],fun t m hm h1 h2=>?_,by rw [<-h.defers];cases o.dst<;>rfl,fun t ht=>?_⟩
 ·rw [cN aY] at Ah ⊢
  rcases Ah with rfl |Ah
  ·rw [ha.2] at hk;cases hk
   exact .inr (Ab e he hb)
  ·exact .inr (h.closed k ok hk Ah e he hb)
 ·by_cases hd:o.dst=some t
  ·have hpm:p<m:=by
    rcases Nat.lt_or_ge p m with hh |hh
    ·exact hh
    ·exact absurd ((cN aY).2 (.inl rfl)) (h2 p i o hh ha hd)
   have hv:aK aQ ((S (p+1)).e t) u:=by
    have:=(hr.st p i o ha).1 t
    rw [hd] at this
    simp only [Env.put,Env.jw,if_true] at this
    rcases this with g |g<;>rw [g]
    ·exact hu
    ·exact .u _
   have hav:(a.put o.dst u).tmps.getD t undef=u:=by
    have:=gJ i o t ha.2 hd
    rw [<-h.size] at this
    rw [hd]
    simp [Act.put,this]
   rw [hav]
   rcases hr.Ae cK (t:=t) (show p+1<=m by omega) hm fun r i' o' g1 g2 g3 g4=>by
    have h3:=(cN aY).1 (h1 r i' o' g2 g3 g4)
    have hp:=hr.BO.pair p r i i' o o' (by omega) ha g3
    rcases h3 with rfl |h3
    ·exact hp.ne rfl
    ·rcases hp.or with g |⟨g,_⟩
     ·exact hnd (h.closed.fG hD i' i h3 g)
     ·exact ((lY g).1 t hd).2 g4
    with g |g<;>rw [g]
   ·exact hv
   ·exact .u _
  ·have hav:(a.put o.dst u).tmps.getD t undef=a.tmps.getD t undef:=jS (fun d kC e=>hd (by rw [kC,e])) u
   rw [hav]
   refine (h.bM t m hm (fun q i' o' g1 g2 g3=>?_) (fun q i' o' g1 g2 g3 g4=>h2 q i' o' g1 g2 g3 ((cN aY).2 (.inr g4)))).mono hle
   rcases (cN aY).1 (h1 q i' o' g1 g2 g3) with rfl |g
   ·obtain rfl:q=p:=At.inj hr.BO g2 ha
    obtain ⟨_,rfl⟩:=g2.fn ha
    exact absurd g3 hd
   ·exact g
 ·rw [<-h.out t ht]
  exact jS (fun d hd e=>ht (by rw [e];exact kD ha.2 hd)) u
theorem lC.ge (cK:∀ p,p<l.length->∃ i o,At ops l p i o) (hr:rQ P G ops l S V) {w:World} {ρ:bT} {fp:Fp} {Jd:AH O} {j:Nat} (h:lC RO P ops l S kB fp0 J0 w0 aw w ρ fp Jd j) (vw:nW ops (iV aw)) (jM:aw.size=ops.length)
  {p i:Nat} {o:Oper} (ha:At ops l p i o) (hnd:¬ iV aw i) (ht:turns o.op=true ∨ aM o.op=true):j<=p:=by
 rcases h.jz with hj |⟨k,i',o',hj,hb,hd,qv,_⟩
 ·omega
 ·rcases Nat.lt_or_ge p j with hh |hh
  ·have cJ:p≠k:=fun e=>by
    subst e
    obtain ⟨rfl,rfl⟩:=ha.fn hb
    exact hnd hd
   have hp:=hr.BO.pair p k i i' o o' (by omega) ha hb
   rcases hp.or with g |⟨_,g1,g2⟩
   ·exact absurd (vw.fG (fun i hi=>iV.lt jM hi) i' i hd g) hnd
   ·cases Sw:turns o.op with
    |true=>have:=(g1 Sw).1;rw [qv] at this;cases this
    |false=>
     rw [Sw] at ht
     rcases ht with ht |ht
     ·cases ht
     ·have:=g2 ht Sw;rw [qv] at this;cases this
  ·exact hh
theorem lC.nr' (cK:∀ p,p<l.length->∃ i o,At ops l p i o) (hr:rQ P G ops l S V) {w w':World} {ρ aQ:bT} {fp fp':Fp} {Jd Qs:AH O} {j:Nat} (h:lC RO P ops l S kB fp0 J0 w0 aw w ρ fp Jd j) (jM:aw.size=ops.length) {p i:Nat} {o:Oper} (ha:At ops l p i o)
  (hp:aR RO P (fun b=>b<Jd.next/\(aM o.op=true->b≠(S p).nid)) ρ fp Jd w aQ fp' Qs w'):
  ∀ q i' o',At ops l q i' o'->¬ iV (aw.setIfInBounds i true) i'->aM o'.op=true->aQ (S q).nid=none:=fun q i' o' g1 g2 g3=>by
 have aY:i<aw.size:=by rw [jM];exact (List.getElem?_eq_some_iff.1 ha.2).1
 rw [cN aY] at g2
 have BP:q≠p:=fun e=>by subst e;exact g2 (.inl (g1.fn ha).1)
 rw [hp.ext _ ⟨by
  have:=hr.fR cK g1.lt (Nat.le_refl _) g1 g3
  rw [h.nx];have:=h.top;omega,fun eI=>hr.yi cK BP g1 g3 ha eI⟩]
 exact h.nr q i' o' g1 (fun e=>g2 (.inr e)) g3
theorem lC.IA (cK:∀ p,p<l.length->∃ i o,At ops l p i o) (hr:rQ P G ops l S V) {w w':World} {ρ aQ:bT} {fp fp':Fp} {Jd Qs:AH O} {j:Nat} (h:lC RO P ops l S kB fp0 J0 w0 aw w ρ fp Jd j) {p i:Nat} {o:Oper} (ha:At ops l p i o)
  (hp:aR RO P (fun b=>b<Jd.next/\(aM o.op=true->b≠(S p).nid)) ρ fp Jd w aQ fp' Qs w'):aR RO P (· < (S 0).nid) kB fp0 J0 w0 aQ fp' Qs w':=
 h.post.trans (hp.mono fun b (hb:b<(S 0).nid)=>by
  have h1:=hr.gK cK (Nat.zero_le p) (Nat.le_of_lt ha.lt)
  have h2:=hr.gK cK (Nat.zero_le l.length) (Nat.le_refl _)
  have h3:=h.top
  exact ⟨by rw [h.nx];omega,fun _=>by omega⟩)
theorem lC.same (cK:∀ p,p<l.length->∃ i o,At ops l p i o) (hr:rQ P G ops l S V) {w w':World} {ρ aQ:bT} {fp fp':Fp} {Jd:AH O} {j:Nat} (h:lC RO P ops l S kB fp0 J0 w0 aw w ρ fp Jd j) (jM:aw.size=ops.length) {p i:Nat} {o:Oper} (ha:At ops l p i o)
  (hn:¬ (turns o.op=true/\cx ops (S p).e o=some true)) (hna:∀ b x,¬ yc ops S p o b x) (hp:aR RO P (fun b=>b<Jd.next/\(aM o.op=true->b≠(S p).nid)) ρ fp Jd w aQ fp' Jd w'):
  lC RO P ops l S kB fp0 J0 w0 (aw.setIfInBounds i true) w' aQ fp' Jd j:=by
 have aY:i<aw.size:=by rw [jM];exact (List.getElem?_eq_some_iff.1 ha.2).1
 refine ⟨h.W1,?_,fun q i' o' h1 h2 h3=>?_,h.IA cK hr ha hp,h.nx,fun q i' o' b x h1 h2 h3 h4=>?_,fun b=>?_,h.bl,h.nr' cK hr jM ha hp,h.top⟩
 ·rcases h.jz with hj |⟨k,i',o',hj,hb,hd,qv,g⟩
  ·exact .inl hj
  ·exact .inr ⟨k,i',o',hj,hb,(cN aY).2 (.inr hd),qv,g⟩
 ·rcases (cN aY).1 h3 with rfl |h3
  ·obtain rfl:q=p:=At.inj hr.BO h2 ha
   obtain ⟨_,rfl⟩:=h2.fn ha
   exact hn
  ·exact h.late q i' o' h1 h2 h3
 ·rcases (cN aY).1 h3 with rfl |h3
  ·obtain rfl:q=p:=At.inj hr.BO h2 ha
   obtain ⟨_,rfl⟩:=h2.fn ha
   exact absurd h4 (hna b x)
  ·exact h.pe q i' o' b x h1 h2 h3 h4
 ·rcases h.od b with g |⟨q,i',o',x,g1,g2,g3,g4⟩
  ·exact .inl g
  ·exact .inr ⟨q,i',o',x,g1,g2,(cN aY).2 (.inr g3),g4⟩
theorem lC.alloc (cK:∀ p,p<l.length->∃ i o,At ops l p i o) (hr:rQ P G ops l S V) {w w':World} {ρ aQ:bT} {fp fp':Fp} {Jd:AH O} {j:Nat} (h:lC RO P ops l S kB fp0 J0 w0 aw w ρ fp Jd j) (vw:nW ops (iV aw)) (jM:aw.size=ops.length) {p i:Nat} {o:Oper} (ha:At ops l p i o) (hnd:¬ iV aw i)
  {x:dL O} (hx:yc ops S p o (S p).nid x) (hp:aR RO P (fun b=>b<Jd.next/\(aM o.op=true->b≠(S p).nid)) ρ fp Jd w aQ fp' (Jd.put (S p).nid x) w'):
  lC RO P ops l S kB fp0 J0 w0 (aw.setIfInBounds i true) w' aQ fp' (Jd.put (S p).nid x) j:=by
 have aY:i<aw.size:=by rw [jM];exact (List.getElem?_eq_some_iff.1 ha.2).1
 have HA:j<=p:=h.ge cK hr vw jM ha hnd (.inr hx.al)
 refine ⟨h.W1,?_,fun q i' o' h1 h2 h3=>?_,h.IA cK hr ha hp,h.nx,fun q i' o' b y h1 h2 h3 h4=>?_,fun b=>?_,h.bl,h.nr' cK hr jM ha hp,h.top⟩
 ·rcases h.jz with hj |⟨k,i',o',hj,hb,hd,qv,g⟩
  ·exact .inl hj
  ·exact .inr ⟨k,i',o',hj,hb,(cN aY).2 (.inr hd),qv,g⟩
 ·rcases (cN aY).1 h3 with rfl |h3
  ·obtain rfl:q=p:=At.inj hr.BO h2 ha
   obtain ⟨_,rfl⟩:=h2.fn ha
   rintro ⟨g,_⟩
   rw [hx.nt] at g;cases g
  ·exact h.late q i' o' h1 h2 h3
 ·by_cases BP:q=p
  ·subst BP
   obtain ⟨_,rfl⟩:=h2.fn ha
   have e:=h4.id
   subst e
   have e1:(S (q+1)).J.aa (S q).nid=some y:=by rw [h4.J];simp
   have e2:(S (q+1)).J.aa (S q).nid=some x:=by rw [hx.J];simp
   rw [e1] at e2;cases e2
   simp
  ·have cJ:=hr.yi cK BP h2 h4.al ha hx.al
   rw [<-h4.id] at cJ
   rcases (cN aY).1 h3 with rfl |h3
   ·exact absurd (At.inj hr.BO h2 ha) BP
   ·simp only [AH.pr,cJ,if_false]
    exact h.pe q i' o' b y h1 h2 h3 h4
 ·by_cases hb:b=(S p).nid
  ·subst hb
   exact .inr ⟨p,i,o,x,HA,ha,(cN aY).2 (.inl rfl),hx⟩
  ·simp only [AH.pr,hb,if_false]
   rcases h.od b with g |⟨q,i',o',y,g1,g2,g3,g4⟩
   ·exact .inl g
   ·exact .inr ⟨q,i',o',y,g1,g2,(cN aY).2 (.inr g3),g4⟩
theorem lC.sub (cK:∀ p,p<l.length->∃ i o,At ops l p i o) (hr:rQ P G ops l S V) {w:World} {ρ:bT} {fp:Fp} {Jd:AH O} {j:Nat} (h:lC RO P ops l S kB fp0 J0 w0 aw w ρ fp Jd j) {p:Nat} (HA:j<=p) (Nm:p<=l.length)
  (hq:∀ q i o,j<=q->q<p->At ops l q i o->¬ (turns o.op=true/\cx ops (S q).e o=some true)) {b:Nat} {x:dL O} (hx:(S p).J.aa b=some x)
  (hd:∀ q i o,j<=q->q<p->At ops l q i o->b=(S q).nid->aM o.op=true->turns o.op=false->iV aw i):Jd.aa b=some x:=by
 obtain ⟨h1,h2,h3⟩:=hr.heap cK HA Nm hq
 rcases h1 b with g |⟨q,i,o,y,g1,g2,g3,g4,g5⟩
 ·rcases h.od b with g' | ⟨q,i,o,y,g1,g2,g3,g4⟩
  ·rw [g',<-g];exact hx
  ·rw [g,h.bl b (by rw [g4.id];exact hr.gK cK g1 (Nat.le_of_lt g2.lt)) (by rw [g4.id];exact hr.fR cK g2.lt (Nat.le_refl _) g2 g4.al)] at hx
   cases hx
 ·rw [hx] at g5;cases g5
  exact h.pe q i o b _ g1 g3 (hd q i o g1 g2 g3 g4.id g4.al g4.nt) g4
theorem lC.bI (cK:∀ p,p<l.length->∃ i o,At ops l p i o) (hr:rQ P G ops l S V) {w w':World} {ρ aQ:bT} {fp fp':Fp} {Jd:AH O} {j:Nat} (h:lC RO P ops l S kB fp0 J0 w0 aw w ρ fp Jd j) (vw:nW ops (iV aw)) (jM:aw.size=ops.length) {p i:Nat} {o:Oper} (ha:At ops l p i o) (hnd:¬ iV aw i)
  (Ab:∀ e∈o.after,Region.binds .any e=true->iV aw e.on) (ht:turns o.op=true) (hwt:cx ops (S p).e o=some true):
  Rel RO P ρ (shr fp (S p).J) (S p).J w/\(aM o.op=true->(S p).nid<(S p).J.next/\ρ (S p).nid=none)/\
  (
   aR RO P (fun b=>b<(S p).J.next/\(aM o.op=true->b≠(S p).nid)) ρ (shr fp (S p).J) (S p).J w aQ fp' (S (p+1)).J w'->
   ∃ Cs Qs,lC RO P ops l S kB fp0 J0 w0 (aw.setIfInBounds i true) w' aQ Cs Qs (p+1)):=by
 have aY:i<aw.size:=by rw [jM];exact (List.getElem?_eq_some_iff.1 ha.2).1
 have hD:∀ i,iV aw i->i<ops.length:=fun i hi=>iV.lt jM hi
 have HA:j<=p:=h.ge cK hr vw jM ha hnd (.inl ht)
 have before:∀ q i' o',q<p->At ops l q i' o'->(turns o'.op=true ∨ aM o'.op=true)->iV aw i':=fun q i' o' g1 g2 g3=>by
  have hp:=hr.BO.pair q p i' i o' o g1 g2 ha
  rcases hp.or with g |⟨_,g4,g5⟩
  ·exact qE vw hD ha.2 Ab g
  ·cases Sw:turns o'.op with
   |true=>have:=(g4 Sw).1;rw [ht] at this;cases this
   |false=>
    rw [Sw] at g3
    rcases g3 with g3 |g3
    ·cases g3
    ·have:=g5 g3 Sw;rw [ht] at this;cases this
 have hq:∀ q i' o',j<=q->q<p->At ops l q i' o'->¬ (turns o'.op=true/\cx ops (S q).e o'=some true):=fun q i' o' g1 g2 g3 g4=>
  h.late q i' o' g1 g3 (before q i' o' g2 g3 (.inl g4.1)) g4
 have Nm:=Nat.le_of_lt ha.lt
 obtain ⟨e1,e2,e3⟩:=hr.heap cK HA Nm hq
 have tO:∀ b x,(S p).J.aa b=some x->Jd.aa b=some x:=fun b x hx=>h.sub cK hr HA Nm hq hx fun q i' o' g1 g2 g3 _ g5 _=>before q i' o' g2 g3 (.inr g5)
 have hn:(S p).J.next=Jd.next:=by rw [e3,h.nx]
 have IB:∀ b,(S p).nid<=b->b<(S l.length).nid->(S p).J.aa b=none:=fun b g1 g2=>by
  rcases e1 b with g |⟨q,i',o',y,g3,g4,g5,g6,g7⟩
  ·rw [g]
   exact h.bl b (Nat.le_trans (hr.gK cK HA Nm) g1) g2
  ·have:=hr.fR cK g4 Nm g5 g6.al
   rw [<-g6.id] at this;omega
 have Qx:∀ b x,(S p).J.aa b=none->Jd.aa b=some x->∃ q i' o',p<q/\At ops l q i' o'/\iV aw i'/\yc ops S q o' b x:=fun b x g1 g2=>by
  rcases h.od b with g |⟨q,i',o',y,g3,g4,g5,g6⟩
  ·rw [g2] at g
   rcases e1 b with g' | ⟨q,i',o',y,g3,g4,g5,g6,g7⟩
   ·rw [g1,<-g] at g';cases g'
   ·rw [g7] at g1;cases g1
  ·have BP:p<q:=by
    rcases Nat.lt_trichotomy q p with hh |hh |hh
    ·rw [e2 q i' o' b y g3 hh g4 g6] at g1;cases g1
    ·subst hh
     obtain ⟨rfl,rfl⟩:=g4.fn ha
     exact absurd g5 hnd
    ·exact hh
   have:=h.pe q i' o' b y g3 g4 g5 g6
   rw [g2] at this;cases this
   exact ⟨q,i',o',BP,g4,g5,g6⟩
 have hpS:∀ b x,(S p).J.aa b=none->Jd.aa b=some x->(∃ el cs,x=.cells true el cs)/\(b<(S p).J.next/\(aM o.op=true->b≠(S p).nid)):=fun b x g1 g2=>by
  obtain ⟨q,i',o',g3,g4,_,g6⟩:=Qx b x g1 g2
  refine ⟨g6.sh,?_,fun eI=>?_⟩
  ·rw [g6.id,e3]
   have:=hr.fR cK g4.lt (Nat.le_refl _) g4 g6.al
   have:=h.top
   omega
  ·rw [g6.id];exact hr.yi cK (by omega) g4 g6.al ha eI
 refine ⟨h.post.rel.shrink tO hn,fun eI=>⟨?_,h.nr p i o ha hnd eI⟩,fun hp=>?_⟩
 ·have:=hr.fR cK ha.lt (Nat.le_refl _) ha eI
  have:=h.top
  rw [e3];omega
 ·obtain ⟨Cs,h3⟩:=aR.Sv h.post.rel tO hn hpS hp
  have h3':aR RO P (fun b=>b<Jd.next/\(aM o.op=true->b≠(S p).nid)) ρ fp Jd w aQ Cs (mc (S p).J Jd (S (p+1)).J) w':=h3.mono fun b hb=>by rw [hn];exact hb
  have FT:=hr.nid ha
  have hge:(S p).nid<=(S (p+1)).nid:=by rw [FT];split<;>omega
  refine ⟨Cs,_,ha.lt,.inr ⟨p,i,o,rfl,ha,(cN aY).2 (.inl rfl),ht,hwt⟩,fun q i' o' g1 g2 g3=>?_,h.IA cK hr ha h3',rfl,fun q i' o' b x g1 g2 g3 g4=>?_,fun b=>?_,fun b g1 g2=>?_,h.nr' cK hr jM ha h3',?_⟩
  ·rcases (cN aY).1 g3 with rfl |g3
   ·have:=At.inj hr.BO g2 ha;omega
   ·exact h.late q i' o' (by omega) g2 g3
  ·have g5:iV aw i':=by
    rcases (cN aY).1 g3 with rfl |g3
    ·have:=At.inj hr.BO g2 ha;omega
    ·exact g3
   have g6:=h.pe q i' o' b x (by omega) g2 g5 g4
   have g7:(S p).J.aa b=none:=IB b (by rw [g4.id];exact hr.gK cK (show p<=q by omega) (Nat.le_of_lt g2.lt)) (by rw [g4.id];exact hr.fR cK g2.lt (Nat.le_refl _) g2 g4.al)
   have:gU (S p).J Jd b=true:=by simp [gU,g6,g7]
   simp [mc,this,g6]
  ·by_cases W5:gU (S p).J Jd b=true
   ·right
    obtain ⟨g1,x,g2⟩:=qG W5
    obtain ⟨q,i',o',g3,g4,g5,g6⟩:=Qx b x g1 g2
    exact ⟨q,i',o',x,g3,g4,(cN aY).2 (.inr g5),g6⟩
   ·left;simp [mc,W5]
  ·refine hp.blank b ⟨?_,fun eI=>?_⟩ ?_ (IB b (by omega) g2)
   ·have:=h.top;rw [e3];omega
   ·rw [FT,if_pos eI] at g1;omega
   ·have:=h.top;rw [e3];omega
  ·have h5:=hp.next
   have:=h.top
   rw [e3] at h5
   exact Nat.le_trans this h5
end step
end Go.Abs
