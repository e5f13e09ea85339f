/-
  AbsDraw4: one operation of a drawn region, in any order.
-/
import Derived.Test.YtncohicmiihjiaaGreatAbsDraw3
set_option linter.unusedVariables false
set_option linter.unusedSimpArgs false
set_option linter.constructorNameAsVariable false
namespace Go.Abs
open Go
variable {O:Type} {RO:O->Loc->(Nat->Option Obj)->Prop} {P:Program} {G:List (Nat × Sm O)} {n:Nat}
abbrev jb (ax:Array Bool) (i:Nat):Prop:=ax.getD i false=true
structure FG (ops:List Oper) (l:List Nat) (S:Nat->RS O) (n:Nat) (a0:Act) (ax:Array Bool) (a:Act) (ρ:bX):Prop where
 z7:ax.size=ops.length
 closed:oq ops (jb ax)
 size:a.tmps.size=n
 bM:∀ t m,m<=l.length->(∀ q i o,q<m->At ops l q i o->o.dst=some t->jb ax i)->(∀ q i o,m<=q->At ops l q i o->o.dst=some t->¬ jb ax i)->aK ρ ((S m).e t) (a.tmps.getD t undef)
 defers:a.defers=a0.defers
 out:∀ t,t∉tP ops->a.tmps.getD t undef=a0.tmps.getD t undef
structure lE (RO:O->Loc->(Nat->Option Obj)->Prop) (P:Program) (ops:List Oper) (l:List Nat) (S:Nat->RS O) (mT:bX) (fp0:Fp) (J0:AH O) (w0:World) (ax:Array Bool) (w:World) (ρ:bX) (fp:Fp) (Jd:AH O) (j:Nat):Prop where
 Wf:j<=l.length
 jz:j=0 ∨ ∃ k i o,j=k+1/\At ops l k i o/\jb ax i/\turns o.op=true/\cG ops (S k).e o=some true
 late:∀ q i o,j<=q->At ops l q i o->jb ax i->¬ (turns o.op=true/\cG ops (S q).e o=some true)
 post:aS RO P (· < (S 0).nid) mT fp0 J0 w0 ρ fp Jd w
 nx:Jd.next=(S j).J.next
 pe:∀ q i o b x,j<=q->At ops l q i o->jb ax i->yb ops S q o b x->Jd.aa b=some x
 od:∀ b,Jd.aa b=(S j).J.aa b ∨ ∃ q i o x,j<=q/\At ops l q i o/\jb ax i/\yb ops S q o b x
 bl:∀ b,(S j).nid<=b->b<(S l.length).nid->(S j).J.aa b=none
 nr:∀ q i o,At ops l q i o->¬ jb ax i->aM o.op=true->ρ (S q).nid=none
 top:(S l.length).nid<=(S j).J.next
section step
variable {ops:List Oper} {l:List Nat} {S:Nat->RS O} {V:Nat->AV} {a0:Act} {mT:bX} {fp0:Fp} {J0:AH O} {w0:World} {ax:Array Bool}
theorem cY {i k:Nat} (bp:i<ax.size):jb (ax.setIfInBounds i true) k ↔ k=i ∨ jb ax k:=by
 unfold jb
 by_cases h:i=k
 ·subst h
  simp [bp]
 ·rw [getD_set_ne false h]
  constructor
  ·exact .inr
  ·rintro (h' | h')
   ·exact absurd h'.symm h
   ·exact h'
theorem jb.lt {ops:List Oper} {ax:Array Bool} (hl:ax.size=ops.length) {i:Nat} (h:jb ax i):i<ops.length:=by
 rw [<-hl]
 rcases Nat.lt_or_ge i ax.size with hh |hh
 ·exact hh
 ·simp [jb,Array.getElem?_eq_none hh] at h
theorem FG.DZ (cX:∀ p,p<l.length->∃ i o,At ops l p i o) (hr:se P G ops l S V) {a:Act} {ρ:bX} (h:FG ops l S n a0 ax a ρ) {p i:Nat} {o:Oper} (ha:At ops l p i o) (hnd:¬ jb ax i) (zZ:∀ e∈o.after,Region.binds .any e=true->jb ax e.on)
  {t:Nat} (ht:t∈lT ops o):aK ρ ((S p).e t) (a.tmps.getD t undef):=by
 have hD:∀ i,jb ax i->i<ops.length:=fun i hi=>jb.lt h.z7 hi
 refine h.bM t p (Nat.le_of_lt ha.lt) (fun q i' o' hq hb hd=>?_) (fun q i' o' hq hb hd Wi=>?_)
 ·have hp:=hr.Bv.pair q p i' i o' o hq hb ha
  rcases hp.or with g |⟨g,_⟩
  ·exact qO h.closed hD ha.2 zZ g
  ·exact absurd ht ((lY g).1 t hd).1
 ·by_cases PH:q=p
  ·subst PH
   obtain ⟨rfl,rfl⟩:=ha.fn hb
   exact hnd Wi
  ·have hp:=hr.Bv.pair p q i i' o o' (by omega) ha hb
   rcases hp.or with g |⟨g,_⟩
   ·exact hnd (h.closed.fI hD i' i Wi g)
   ·exact absurd ht ((lY g).2 t hd)
theorem FG.next (cX:∀ p,p<l.length->∃ i o,At ops l p i o) (hr:se P G ops l S V) (gI:∀ (i:Nat) (o:Oper) (d:Nat),ops[i]? = some o->o.dst=some d->d<n) {a:Act} {ρ aQ:bX} (h:FG ops l S n a0 ax a ρ) {p i:Nat} {o:Oper} (ha:At ops l p i o) (hnd:¬ jb ax i)
  (zZ:∀ e∈o.after,Region.binds .any e=true->jb ax e.on) (hle:ρ.le aQ) {u:Value} (hu:aK aQ (V p) u):FG ops l S n a0 (ax.setIfInBounds i true) (a.put o.dst u) aQ:=by
 have hD:∀ i,jb ax i->i<ops.length:=fun i hi=>jb.lt h.z7 hi
 have bp:i<ax.size:=by rw [h.z7];exact (List.getElem?_eq_some_iff.1 ha.2).1
 refine ⟨by simp [h.z7],fun k ok hk RF e he hb=>?_,by cases o.dst<;>simp [Act.put,h.size],fun t m hm h1 h2=>?_,by rw [<-h.defers];cases o.dst<;>rfl,fun t ht=>?_⟩
 ·rw [cY bp] at RF ⊢
  rcases RF with rfl |RF
  ·rw [ha.2] at hk;cases hk
   exact .inr (zZ e he hb)
  ·exact .inr (h.closed k ok hk RF e he hb)
 ·by_cases hd:o.dst=some t
  ·have hpm:p<m:=by
    rcases Nat.lt_or_ge p m with hh |hh
    ·exact hh
    ·exact absurd ((cY bp).2 (.inl rfl)) (h2 p i o hh ha hd)
   have hv:aK aQ ((S (p+1)).e t) u:=by
    have:=(hr.st p i o ha).1 t
    rw [hd] at this
    simp only [Env.put,Env.kE,if_true] at this
    rcases this with g |g<;>rw [g]
    ·exact hu
    ·exact .u _
   have hav:(a.put o.dst u).tmps.getD t undef=u:=by
    have:=gI i o t ha.2 hd
    rw [<-h.size] at this
    rw [hd]
    simp [Act.put,this]
   rw [hav]
   rcases hr.z9 cX (t:=t) (show p+1<=m by omega) hm fun r i' o' g1 g2 g3 g4=>by
    have h3:=(cY bp).1 (h1 r i' o' g2 g3 g4)
    have hp:=hr.Bv.pair p r i i' o o' (by omega) ha g3
    rcases h3 with rfl |h3
    ·exact hp.ne rfl
    ·rcases hp.or with g |⟨g,_⟩
     ·exact hnd (h.closed.fI hD i' i h3 g)
     ·exact ((lY g).1 t hd).2 g4
    with g |g<;>rw [g]
   ·exact hv
   ·exact .u _
  ·have hav:(a.put o.dst u).tmps.getD t undef=a.tmps.getD t undef:=pH (fun d vD e=>hd (by rw [vD,e])) u
   rw [hav]
   refine (h.bM t m hm (fun q i' o' g1 g2 g3=>?_) (fun q i' o' g1 g2 g3 g4=>h2 q i' o' g1 g2 g3 ((cY bp).2 (.inr g4)))).mono hle
   rcases (cY bp).1 (h1 q i' o' g1 g2 g3) with rfl |g
   ·obtain rfl:q=p:=At.inj hr.Bv g2 ha
    obtain ⟨_,rfl⟩:=g2.fn ha
    exact absurd g3 hd
   ·exact g
 ·rw [<-h.out t ht]
  exact pH (fun d hd e=>ht (by rw [e];exact kF ha.2 hd)) u
theorem lE.ge (cX:∀ p,p<l.length->∃ i o,At ops l p i o) (hr:se P G ops l S V) {w:World} {ρ:bX} {fp:Fp} {Jd:AH O} {j:Nat} (h:lE RO P ops l S mT fp0 J0 w0 ax w ρ fp Jd j) (sY:oq ops (jb ax)) (kA:ax.size=ops.length)
  {p i:Nat} {o:Oper} (ha:At ops l p i o) (hnd:¬ jb ax i) (ht:turns o.op=true ∨ aM o.op=true):j<=p:=by
 rcases h.jz with hj |⟨k,i',o',hj,hb,hd,pd,_⟩
 ·omega
 ·rcases Nat.lt_or_ge p j with hh |hh
  ·have db:p≠k:=fun e=>by
    subst e
    obtain ⟨rfl,rfl⟩:=ha.fn hb
    exact hnd hd
   have hp:=hr.Bv.pair p k i i' o o' (by omega) ha hb
   rcases hp.or with g |⟨_,g1,g2⟩
   ·exact absurd (sY.fI (fun i hi=>jb.lt kA hi) i' i hd g) hnd
   ·cases RG:turns o.op with
    |true=>have:=(g1 RG).1;rw [pd] at this;cases this
    |false=>
     rw [RG] at ht
     rcases ht with ht |ht
     ·cases ht
     ·have:=g2 ht RG;rw [pd] at this;cases this
  ·exact hh
theorem lE.nr' (cX:∀ p,p<l.length->∃ i o,At ops l p i o) (hr:se P G ops l S V) {w w':World} {ρ aQ:bX} {fp fp':Fp} {Jd PD:AH O} {j:Nat} (h:lE RO P ops l S mT fp0 J0 w0 ax w ρ fp Jd j) (kA:ax.size=ops.length) {p i:Nat} {o:Oper} (ha:At ops l p i o)
  (hp:aS RO P (fun b=>b<Jd.next/\(aM o.op=true->b≠(S p).nid)) ρ fp Jd w aQ fp' PD w'):
  ∀ q i' o',At ops l q i' o'->¬ jb (ax.setIfInBounds i true) i'->aM o'.op=true->aQ (S q).nid=none:=fun q i' o' g1 g2 g3=>by
 have bp:i<ax.size:=by rw [kA];exact (List.getElem?_eq_some_iff.1 ha.2).1
 rw [cY bp] at g2
 have Bx:q≠p:=fun e=>by subst e;exact g2 (.inl (g1.fn ha).1)
 rw [hp.ext _ ⟨by
  have:=hr.fS cX g1.lt (Nat.le_refl _) g1 g3
  rw [h.nx];have:=h.top;omega,fun eT=>hr.yh cX Bx g1 g3 ha eT⟩]
 exact h.nr q i' o' g1 (fun e=>g2 (.inr e)) g3
theorem lE.Ic (cX:∀ p,p<l.length->∃ i o,At ops l p i o) (hr:se P G ops l S V) {w w':World} {ρ aQ:bX} {fp fp':Fp} {Jd PD:AH O} {j:Nat} (h:lE RO P ops l S mT fp0 J0 w0 ax w ρ fp Jd j) {p i:Nat} {o:Oper} (ha:At ops l p i o)
  (hp:aS RO P (fun b=>b<Jd.next/\(aM o.op=true->b≠(S p).nid)) ρ fp Jd w aQ fp' PD w'):aS RO P (· < (S 0).nid) mT fp0 J0 w0 aQ fp' PD w':=
 h.post.trans (hp.mono fun b (hb:b<(S 0).nid)=>by
  have h1:=hr.gJ cX (Nat.zero_le p) (Nat.le_of_lt ha.lt)
  have h2:=hr.gJ cX (Nat.zero_le l.length) (Nat.le_refl _)
  have h3:=h.top
  exact ⟨by rw [h.nx];omega,fun _=>by omega⟩)
theorem lE.same (cX:∀ p,p<l.length->∃ i o,At ops l p i o) (hr:se P G ops l S V) {w w':World} {ρ aQ:bX} {fp fp':Fp} {Jd:AH O} {j:Nat} (h:lE RO P ops l S mT fp0 J0 w0 ax w ρ fp Jd j) (kA:ax.size=ops.length) {p i:Nat} {o:Oper} (ha:At ops l p i o)
  (hn:¬ (turns o.op=true/\cG ops (S p).e o=some true)) (hna:∀ b x,¬ yb ops S p o b x) (hp:aS RO P (fun b=>b<Jd.next/\(aM o.op=true->b≠(S p).nid)) ρ fp Jd w aQ fp' Jd w'):
  lE RO P ops l S mT fp0 J0 w0 (ax.setIfInBounds i true) w' aQ fp' Jd j:=by
 have bp:i<ax.size:=by rw [kA];exact (List.getElem?_eq_some_iff.1 ha.2).1
 refine ⟨h.Wf,?_,fun q i' o' h1 h2 h3=>?_,h.Ic cX hr ha hp,h.nx,fun q i' o' b x h1 h2 h3 h4=>?_,fun b=>?_,h.bl,h.nr' cX hr kA ha hp,h.top⟩
 ·rcases h.jz with hj |⟨k,i',o',hj,hb,hd,pd,g⟩
  ·exact .inl hj
  ·exact .inr ⟨k,i',o',hj,hb,(cY bp).2 (.inr hd),pd,g⟩
 ·rcases (cY bp).1 h3 with rfl |h3
  ·obtain rfl:q=p:=At.inj hr.Bv h2 ha
   obtain ⟨_,rfl⟩:=h2.fn ha
   exact hn
  ·exact h.late q i' o' h1 h2 h3
 ·rcases (cY bp).1 h3 with rfl |h3
  ·obtain rfl:q=p:=At.inj hr.Bv h2 ha
   obtain ⟨_,rfl⟩:=h2.fn ha
   exact absurd h4 (hna b x)
  ·exact h.pe q i' o' b x h1 h2 h3 h4
 ·rcases h.od b with g |⟨q,i',o',x,g1,g2,g3,g4⟩
  ·exact .inl g
  ·exact .inr ⟨q,i',o',x,g1,g2,(cY bp).2 (.inr g3),g4⟩
theorem lE.alloc (cX:∀ p,p<l.length->∃ i o,At ops l p i o) (hr:se P G ops l S V) {w w':World} {ρ aQ:bX} {fp fp':Fp} {Jd:AH O} {j:Nat} (h:lE RO P ops l S mT fp0 J0 w0 ax w ρ fp Jd j) (sY:oq ops (jb ax)) (kA:ax.size=ops.length) {p i:Nat} {o:Oper} (ha:At ops l p i o) (hnd:¬ jb ax i)
  {x:eY O} (hx:yb ops S p o (S p).nid x) (hp:aS RO P (fun b=>b<Jd.next/\(aM o.op=true->b≠(S p).nid)) ρ fp Jd w aQ fp' (Jd.put (S p).nid x) w'):
  lE RO P ops l S mT fp0 J0 w0 (ax.setIfInBounds i true) w' aQ fp' (Jd.put (S p).nid x) j:=by
 have bp:i<ax.size:=by rw [kA];exact (List.getElem?_eq_some_iff.1 ha.2).1
 have Hm:j<=p:=h.ge cX hr sY kA ha hnd (.inr hx.al)
 refine ⟨h.Wf,?_,fun q i' o' h1 h2 h3=>?_,h.Ic cX hr ha hp,h.nx,fun q i' o' b y h1 h2 h3 h4=>?_,fun b=>?_,h.bl,h.nr' cX hr kA ha hp,h.top⟩
 ·rcases h.jz with hj |⟨k,i',o',hj,hb,hd,pd,g⟩
  ·exact .inl hj
  ·exact .inr ⟨k,i',o',hj,hb,(cY bp).2 (.inr hd),pd,g⟩
 ·rcases (cY bp).1 h3 with rfl |h3
  ·obtain rfl:q=p:=At.inj hr.Bv h2 ha
   obtain ⟨_,rfl⟩:=h2.fn ha
   rintro ⟨g,_⟩
   rw [hx.nt] at g;cases g
  ·exact h.late q i' o' h1 h2 h3
 ·by_cases Bx:q=p
  ·subst Bx
   obtain ⟨_,rfl⟩:=h2.fn ha
   have e:=h4.id
   subst e
   have e1:(S (q+1)).J.aa (S q).nid=some y:=by rw [h4.J];simp
   have e2:(S (q+1)).J.aa (S q).nid=some x:=by rw [hx.J];simp
   rw [e1] at e2;cases e2
   simp
  ·have db:=hr.yh cX Bx h2 h4.al ha hx.al
   rw [<-h4.id] at db
   rcases (cY bp).1 h3 with rfl |h3
   ·exact absurd (At.inj hr.Bv h2 ha) Bx
   ·simp only [AH.pI,db,if_false]
    exact h.pe q i' o' b y h1 h2 h3 h4
 ·by_cases hb:b=(S p).nid
  ·subst hb
   exact .inr ⟨p,i,o,x,Hm,ha,(cY bp).2 (.inl rfl),hx⟩
  ·simp only [AH.pI,hb,if_false]
   rcases h.od b with g |⟨q,i',o',y,g1,g2,g3,g4⟩
   ·exact .inl g
   ·exact .inr ⟨q,i',o',y,g1,g2,(cY bp).2 (.inr g3),g4⟩
theorem lE.sub (cX:∀ p,p<l.length->∃ i o,At ops l p i o) (hr:se P G ops l S V) {w:World} {ρ:bX} {fp:Fp} {Jd:AH O} {j:Nat} (h:lE RO P ops l S mT fp0 J0 w0 ax w ρ fp Jd j) {p:Nat} (Hm:j<=p) (Cb:p<=l.length)
  (hq:∀ q i o,j<=q->q<p->At ops l q i o->¬ (turns o.op=true/\cG ops (S q).e o=some true)) {b:Nat} {x:eY O} (hx:(S p).J.aa b=some x)
  (hd:∀ q i o,j<=q->q<p->At ops l q i o->b=(S q).nid->aM o.op=true->turns o.op=false->jb ax i):Jd.aa b=some x:=by
 obtain ⟨h1,h2,h3⟩:=hr.heap cX Hm Cb hq
 rcases h1 b with g |⟨q,i,o,y,g1,g2,g3,g4,g5⟩
 ·rcases h.od b with g' | ⟨q,i,o,y,g1,g2,g3,g4⟩
  ·rw [g',<-g];exact hx
  ·rw [g,h.bl b (by rw [g4.id];exact hr.gJ cX g1 (Nat.le_of_lt g2.lt)) (by rw [g4.id];exact hr.fS cX g2.lt (Nat.le_refl _) g2 g4.al)] at hx
   cases hx
 ·rw [hx] at g5;cases g5
  exact h.pe q i o b _ g1 g3 (hd q i o g1 g2 g3 g4.id g4.al g4.nt) g4
theorem lE.bF (cX:∀ p,p<l.length->∃ i o,At ops l p i o) (hr:se P G ops l S V) {w w':World} {ρ aQ:bX} {fp fp':Fp} {Jd:AH O} {j:Nat} (h:lE RO P ops l S mT fp0 J0 w0 ax w ρ fp Jd j) (sY:oq ops (jb ax)) (kA:ax.size=ops.length) {p i:Nat} {o:Oper} (ha:At ops l p i o) (hnd:¬ jb ax i)
  (zZ:∀ e∈o.after,Region.binds .any e=true->jb ax e.on) (ht:turns o.op=true) (hwt:cG ops (S p).e o=some true):
  Rel RO P ρ (shr fp (S p).J) (S p).J w/\(aM o.op=true->(S p).nid<(S p).J.next/\ρ (S p).nid=none)/\
  (
   aS RO P (fun b=>b<(S p).J.next/\(aM o.op=true->b≠(S p).nid)) ρ (shr fp (S p).J) (S p).J w aQ fp' (S (p+1)).J w'->
   ∃ Bw PD,lE RO P ops l S mT fp0 J0 w0 (ax.setIfInBounds i true) w' aQ Bw PD (p+1)):=by
 have bp:i<ax.size:=by rw [kA];exact (List.getElem?_eq_some_iff.1 ha.2).1
 have hD:∀ i,jb ax i->i<ops.length:=fun i hi=>jb.lt kA hi
 have Hm:j<=p:=h.ge cX hr sY kA ha hnd (.inl ht)
 have before:∀ q i' o',q<p->At ops l q i' o'->(turns o'.op=true ∨ aM o'.op=true)->jb ax i':=fun q i' o' g1 g2 g3=>by
  have hp:=hr.Bv.pair q p i' i o' o g1 g2 ha
  rcases hp.or with g |⟨_,g4,g5⟩
  ·exact qO sY hD ha.2 zZ g
  ·cases RG:turns o'.op with
   |true=>have:=(g4 RG).1;rw [ht] at this;cases this
   |false=>
    rw [RG] at g3
    rcases g3 with g3 |g3
    ·cases g3
    ·have:=g5 g3 RG;rw [ht] at this;cases this
 have hq:∀ q i' o',j<=q->q<p->At ops l q i' o'->¬ (turns o'.op=true/\cG ops (S q).e o'=some true):=fun q i' o' g1 g2 g3 g4=>
  h.late q i' o' g1 g3 (before q i' o' g2 g3 (.inl g4.1)) g4
 have Cb:=Nat.le_of_lt ha.lt
 obtain ⟨e1,e2,e3⟩:=hr.heap cX Hm Cb hq
 have tS:∀ b x,(S p).J.aa b=some x->Jd.aa b=some x:=fun b x hx=>h.sub cX hr Hm Cb hq hx fun q i' o' g1 g2 g3 _ g5 _=>before q i' o' g2 g3 (.inr g5)
 have hn:(S p).J.next=Jd.next:=by rw [e3,h.nx]
 have Ie:∀ b,(S p).nid<=b->b<(S l.length).nid->(S p).J.aa b=none:=fun b g1 g2=>by
  rcases e1 b with g |⟨q,i',o',y,g3,g4,g5,g6,g7⟩
  ·rw [g]
   exact h.bl b (Nat.le_trans (hr.gJ cX Hm Cb) g1) g2
  ·have:=hr.fS cX g4 Cb g5 g6.al
   rw [<-g6.id] at this;omega
 have PL:∀ b x,(S p).J.aa b=none->Jd.aa b=some x->∃ q i' o',p<q/\At ops l q i' o'/\jb ax i'/\yb ops S q o' b x:=fun b x g1 g2=>by
  rcases h.od b with g |⟨q,i',o',y,g3,g4,g5,g6⟩
  ·rw [g2] at g
   rcases e1 b with g' | ⟨q,i',o',y,g3,g4,g5,g6,g7⟩
   ·rw [g1,<-g] at g';cases g'
   ·rw [g7] at g1;cases g1
  ·have Bx:p<q:=by
    rcases Nat.lt_trichotomy q p with hh |hh |hh
    ·rw [e2 q i' o' b y g3 hh g4 g6] at g1;cases g1
    ·subst hh
     obtain ⟨rfl,rfl⟩:=g4.fn ha
     exact absurd g5 hnd
    ·exact hh
   have:=h.pe q i' o' b y g3 g4 g5 g6
   rw [g2] at this;cases this
   exact ⟨q,i',o',Bx,g4,g5,g6⟩
 have hpS:∀ b x,(S p).J.aa b=none->Jd.aa b=some x->(∃ el cs,x=.cells true el cs)/\(b<(S p).J.next/\(aM o.op=true->b≠(S p).nid)):=fun b x g1 g2=>by
  obtain ⟨q,i',o',g3,g4,_,g6⟩:=PL b x g1 g2
  refine ⟨g6.sh,?_,fun eT=>?_⟩
  ·rw [g6.id,e3]
   have:=hr.fS cX g4.lt (Nat.le_refl _) g4 g6.al
   have:=h.top
   omega
  ·rw [g6.id];exact hr.yh cX (by omega) g4 g6.al ha eT
 refine ⟨h.post.rel.shrink tS hn,fun eT=>⟨?_,h.nr p i o ha hnd eT⟩,fun hp=>?_⟩
 ·have:=hr.fS cX ha.lt (Nat.le_refl _) ha eT
  have:=h.top
  rw [e3];omega
 ·obtain ⟨Bw,h3⟩:=aS.RE h.post.rel tS hn hpS hp
  have h3':aS RO P (fun b=>b<Jd.next/\(aM o.op=true->b≠(S p).nid)) ρ fp Jd w aQ Bw (mc (S p).J Jd (S (p+1)).J) w':=h3.mono fun b hb=>by rw [hn];exact hb
  have FK:=hr.nid ha
  have hge:(S p).nid<=(S (p+1)).nid:=by rw [FK];split<;>omega
  refine ⟨Bw,_,ha.lt,.inr ⟨p,i,o,rfl,ha,(cY bp).2 (.inl rfl),ht,hwt⟩,fun q i' o' g1 g2 g3=>?_,h.Ic cX hr ha h3',rfl,fun q i' o' b x g1 g2 g3 g4=>?_,fun b=>?_,fun b g1 g2=>?_,h.nr' cX hr kA ha h3',?_⟩
  ·rcases (cY bp).1 g3 with rfl |g3
   ·have:=At.inj hr.Bv g2 ha;omega
   ·exact h.late q i' o' (by omega) g2 g3
  ·have g5:jb ax i':=by
    rcases (cY bp).1 g3 with rfl |g3
    ·have:=At.inj hr.Bv g2 ha;omega
    ·exact g3
   have g6:=h.pe q i' o' b x (by omega) g2 g5 g4
   have g7:(S p).J.aa b=none:=Ie b (by rw [g4.id];exact hr.gJ cX (show p<=q by omega) (Nat.le_of_lt g2.lt)) (by rw [g4.id];exact hr.fS cX g2.lt (Nat.le_refl _) g2 g4.al)
   have:gX (S p).J Jd b=true:=by simp [gX,g6,g7]
   simp [mc,this,g6]
  ·by_cases Wj:gX (S p).J Jd b=true
   ·right
    obtain ⟨g1,x,g2⟩:=qQ Wj
    obtain ⟨q,i',o',g3,g4,g5,g6⟩:=PL b x g1 g2
    exact ⟨q,i',o',x,g3,g4,(cY bp).2 (.inr g5),g6⟩
   ·left;simp [mc,Wj]
  ·refine hp.blank b ⟨?_,fun eT=>?_⟩ ?_ (Ie b (by omega) g2)
   ·have:=h.top;rw [e3];omega
   ·rw [FK,if_pos eT] at g1;omega
   ·have:=h.top;rw [e3];omega
  ·have h5:=hp.next
   have:=h.top
   rw [e3] at h5
   exact Nat.le_trans this h5
end step
end Go.Abs
