/-
  AbsDraw: a region whose order is drawn.
-/
import Derived.Test.YtncohicmiihjiaaGreatAbsDraw4
set_option linter.unusedVariables false
set_option linter.unusedSimpArgs false
set_option linter.constructorNameAsVariable false
namespace Go.Abs
open Go
variable {O:Type} {RO:O->Loc->(Nat->Option Obj)->Prop} {P:Program} {G:List (Nat × Sm O)} {n:Nat}
section step
variable {ops:List Oper} {l:List Nat} {S:Nat->RS O} {V:Nat->AV} {a0:Act} {kB:bT} {fp0:Fp} {J0:AH O} {w0:World} {aw:Array Bool}
theorem Iu {J J':AH O} {b:fJ} {o m:Nat} {cs:List AV} (h:J.BM b o m=some cs) (hw:∀ b x,J.aa b=some x->J'.aa b=some x):J'.BM b o m=some cs:=by
 cases b with
 |f=>exact h
 |n b=>
  simp only [AH.BM] at h ⊢
  split at h
  ·rename_i hb;rw [hw _ _ hb];exact h
  ·cases h
theorem Nl {J J':AH O} {b:fJ} {o:Nat} {v:AV} (h:J.ld b o=some v) (hw:∀ b x,J.aa b=some x->J'.aa b=some x):J'.ld b o=some v:=by
 cases b with
 |f=>exact h
 |n b=>
  simp only [AH.ld] at h ⊢
  split at h
  ·rename_i hb;rw [hw _ _ hb];exact h
  ·cases h
theorem FL {J J':AH O} {a:SA} {m es:Nat} {cs:List AV} (h:J.bU a m es=some cs) (hw:∀ b x,J.aa b=some x->J'.aa b=some x):J'.bU a m es=some cs:=by
 cases a with
 |loc b o e=>
  simp only [AH.bU] at h ⊢
  exact Iu h hw
 |nil=>exact h
 |z=>exact h
theorem Kept.wide {o:Oper} {s:RS O} {v:AV} {J J':AH O} (h:Kept o s v J) (nJ:∀ t t' x a m,o.op=.convert t t' x->ev s.e x=.sl a m->∃ cs,s.J.bU a m 1=some cs) (hw:∀ b x,J.aa b=some x->J'.aa b=some x):Kept o s v J':=by
 refine ⟨fun t a e=>?_,fun t t' x e a m hx=>?_⟩
 ·obtain ⟨b,f,h1,h2⟩:=h.1 t a e
  refine ⟨b,f,h1,fun k c hk=>?_⟩
  exact Nl (h2 k c hk) hw
 ·obtain ⟨cs,yb⟩:=nJ t t' x a m e hx
  have:=h.2 t t' x e a m hx
  rw [yb] at this ⊢
  exact FL this hw
theorem Cr {t t' ty:TypeId} {x:Operand} {e:Env} {J J':AH O} {nid:Nat} {v:AV} (h:dF P G (.convert t t' x) ty e J nid two=some (v,J')) {a:SA} {m:Nat} (hx:ev e x=.sl a m):∃ cs,J.bU a m 1=some cs:=by
 simp only [dF,hx] at h
 split at h
 ·split at h
  ·obtain ⟨cs,yb,_⟩:=Option.bind_eq_some_iff.1 h
   exact ⟨cs,yb⟩
  ·cases h
 ·cases h
theorem again {o:Oper} {s:RS O} {v:AV} {J' J2:AH O} (h:dF P G o.op o.type s.e s.J s.nid two=some (v,J')) (hl:ct o.op=true) (hk:Kept o s v J2):dF P G o.op o.type s.e J2 s.nid two=some (v,J2):=by
 cases nJ:o.op<;>rw [nJ] at hl<;>first |(simp [ct] at hl;done) |skip
 case load t x=>
  rw [nJ] at h
  obtain ⟨_,b,f,h1,_,h3⟩:=nV h
  obtain ⟨b',f',W0,h2⟩:=hk.1 t x nJ
  rw [h1] at W0;cases W0
  exact h3 J2 s.nid h2
 case convert t t' x=>
  rw [nJ] at h
  exact (tN h).2 J2 s.nid fun a m hx=>hk.2 t t' x nJ a m hx
theorem FM {o:Oper} {s:RS O} {v:AV} {J':AH O} (h:dF P G o.op o.type s.e s.J s.nid two=some (v,J')) (hl:ct o.op=true):Kept o s v s.J:=by
 refine ⟨fun t a e=>?_,fun _ _ _ _ _ _ _=>rfl⟩
 rw [e] at h
 obtain ⟨_,b,f,h1,h2,_⟩:=nV h
 exact ⟨b,f,h1,h2⟩
def over (J Jd:AH O):AH O:=⟨fun b=>match J.aa b with |some x=>some x |none=>Jd.aa b,Jd.next⟩
def Inv (RO:O->Loc->(Nat->Option Obj)->Prop) (P:Program) (ops:List Oper) (l:List Nat) (S:Nat->RS O) (n:Nat) (a0:Act) (kB:bT) (fp0:Fp) (J0:AH O) (w0:World) (aw:Array Bool) (a:Act) (w:World):Prop:=
 ∃ ρ fp Jd j,FN ops l S n a0 aw a ρ/\lC RO P ops l S kB fp0 J0 w0 aw w ρ fp Jd j
theorem Inv.next (hG:eH RO P G) (cK:∀ p,p<l.length->∃ i o,At ops l p i o) (hr:rQ P G ops l S V) (gJ:∀ (i:Nat) (o:Oper) (d:Nat),ops[i]? = some o->o.dst=some d->d<n) {a:Act} {w:World} (h:Inv RO P ops l S n a0 kB fp0 J0 w0 aw a w)
  {i:Nat} {o:Oper} (ho:ops[i]? = some o) (hnd:¬ iV aw i) (Ab:∀ e∈o.after,Region.binds .any e=true->iV aw e.on) {Q:Exit->Act->World->Prop} {K:Act->World->Prop}
  (hK:∀ a w,Inv RO P ops l S n a0 kB fp0 J0 w0 (aw.setIfInBounds i true) a w->K a w) (ro:Option Nat):wpOpIn (Fw ro) 0 P ops.toArray Q i K a w:=by
 obtain ⟨ρ,fp,Jd,j,hE,hH⟩:=h
 obtain ⟨p,hp⟩:=hr.BO.pos i (List.getElem?_eq_some_iff.1 ho).1
 have ha:At ops l p i o:=⟨hp,ho⟩
 have So:ops.toArray[i]? = some o:=by simpa using ho
 unfold wpOpIn
 rw [So]
 simp only
 have hw:=fun b (hb:cx ops (S p).e o=some b)=>wD (ops:=ops) gJ hE.size (fun j' gT hg oj Iv d hd=>hE.Ec cK hr ha hnd Ab (t:=d) (by
  simp only [lU,hg,Iv,hd,List.mem_append]
  right;simp)) hb
 let e':Env:=fun t=>if t∈lU ops o then (S p).e t else .u
 have oM:aC n ρ e' a:=⟨hE.size,fun t=>by
  show aK ρ (if t∈lU ops o then (S p).e t else .u) _
  split
  ·rename_i ht;exact hE.Ec cK hr ha hnd Ab ht
  ·exact .u _⟩
 have hcg:∀ {R:Type} (J:AH O) (K:AV->AH O->Option R),dF P G o.op o.type (S p).e J (S p).nid K=dF P G o.op o.type e' J (S p).nid K:=fun J K=>FO fun x hx=>by
  cases x with
  |tmp t=>
   have:t∈lU ops o:=by
    simp only [lU,List.mem_append,List.mem_filterMap]
    exact .inl ⟨.tmp t,hx,rfl⟩
   show (S p).e t=if t∈lU ops o then (S p).e t else .u
   rw [if_pos this]
  |const v=>rfl
  |global g=>rfl
  |func f=>rfl
 rcases (hr.st p i o ha).2.2 with ⟨g1,g2⟩ |⟨g1,g2,g3⟩
 ·rw [hw true g1,if_pos rfl]
  cases ht:turns o.op with
  |true=>
   have k1:=(hH.bI (aQ:=ρ) (fp':=fp) (w':=w) cK hr hE.closed hE.Ac ha hnd Ab ht g1).1
   have k2:=(hH.bI (aQ:=ρ) (fp':=fp) (w':=w) cK hr hE.closed hE.Ac ha hnd Ab ht g1).2.1
   rw [hcg] at g2
   refine jQ hG g2 oM k1 k2 ro o K Q rfl rfl fun u w' aQ fp' hu vA _=>hK _ _ ?_
   obtain ⟨Cs,Qs,k3⟩:=(hH.bI (aQ:=aQ) (fp':=fp') (w':=w') cK hr hE.closed hE.Ac ha hnd Ab ht g1).2.2 vA
   exact ⟨aQ,Cs,Qs,p+1,hE.next cK hr gJ ha hnd Ab vA.le hu,k3⟩
  |false=>
   have hnt:¬ (turns o.op=true/\cx ops (S p).e o=some true):=fun e=>by rw [ht] at e;cases e.1
   cases eI:aM o.op with
   |true=>
    obtain ⟨el,cs,h1,h2⟩:=wE g2 ht eI
    have HA:=hH.ge cK hr hE.closed hE.Ac ha hnd (.inr eI)
    have aY:(S p).nid<Jd.next:=by
     have:=hr.fR cK ha.lt (Nat.le_refl _) ha eI
     have:=hH.top
     rw [hH.nx];omega
    have h3:=h2 Jd
    rw [hcg] at h3
    refine jQ hG h3 oM hH.post.rel (fun _=>⟨aY,hH.nr p i o ha hnd eI⟩) ro o K Q rfl rfl fun u w' aQ fp' hu vA _=>hK _ _ ?_
    exact ⟨aQ,fp',_,j,hE.next cK hr gJ ha hnd Ab vA.le hu,hH.alloc cK hr hE.closed hE.Ac ha hnd ⟨eI,ht,g1,rfl,h1,el,cs,rfl⟩ vA⟩
   |false=>
    have hna:∀ b x,¬ yc ops S p o b x:=fun b x hx=>by have:=hx.al;rw [eI] at this;cases this
    have fin:dF P G o.op o.type (S p).e Jd (S p).nid two=some (V p,Jd)->o.wpIn (Fw ro) 0 P a w K Q:=fun h3=>by
     rw [hcg] at h3
     refine jQ hG h3 oM hH.post.rel (fun e=>by rw [eI] at e;cases e) ro o K Q rfl rfl fun u w' aQ fp' hu vA _=>hK _ _ ?_
     exact ⟨aQ,fp',_,j,hE.next cK hr gJ ha hnd Ab vA.le hu,hH.same cK hr hE.Ac ha hnt hna vA⟩
    cases hl:ct o.op with
    |false=>exact fin ((Ad g2 ht eI hl).2 Jd _)
    |true=>
     have Ct:∀ t t' x a m,o.op=.convert t t' x->ev (S p).e x=.sl a m->∃ cs,(S p).J.bU a m 1=some cs:=fun t t' x a m nJ hx=>by
      rw [nJ] at g2
      exact Cr g2 hx
     rcases Nat.lt_or_ge p j with hpj |HA
     ·rcases hH.jz with hj |⟨k,i',o',hj,hb,hd,qv,afS⟩
      ·omega
      ·have Ml:p≠k:=fun e=>by
        subst e
        obtain ⟨rfl,rfl⟩:=ha.fn hb
        exact hnd hd
       have Ve:bit ((o9 ops).getD i' 0) i=false:=by
        cases Vf:bit ((o9 ops).getD i' 0) i with
        |false=>rfl
        |true=>exact absurd (hE.closed.fG (fun i hi=>iV.lt hE.Ac hi) i' i hd Vf) hnd
       have hk:=hr.kp p k i o i' o' (by omega) ha hb hl g1 afS qv Ve
       rw [<-hj] at hk
       refine fin (again g2 hl (hk.wide Ct fun b x hx=>?_))
       rcases hH.od b with g |⟨q,i2,o2,y,q1,q2,q3,q4⟩
       ·rw [g];exact hx
       ·rw [hH.bl b (by rw [q4.id];exact hr.gK cK q1 (Nat.le_of_lt q2.lt)) (by rw [q4.id];exact hr.fR cK q2.lt (Nat.le_refl _) q2 q4.al)] at hx
        cases hx
     ·
      have hq:∀ q i' o',j<=q->q<p->At ops l q i' o'->¬ (turns o'.op=true/\cx ops (S q).e o'=some true):=by
       intro q i' o' q1 q2 q3 q4
       refine hH.late q i' o' q1 q3 ?_ q4
       have hpp:=hr.BO.pair q p i' i o' o q2 q3 ha
       rcases hpp.or with g |⟨_,g4,_⟩
       ·exact qE hE.closed (fun i hi=>iV.lt hE.Ac hi) ha.2 Ab g
       ·have:=(g4 q4.1).2;rw [hl] at this;cases this
      have Nm:=Nat.le_of_lt ha.lt
      have Iw:∀ b,ρ b≠none->(over (S p).J Jd).aa b=Jd.aa b:=fun b hb=>by
       show (match (S p).J.aa b with |some x=>some x |none=>Jd.aa b)=_
       cases hx:(S p).J.aa b with
       |none=>rfl
       |some x=>
        refine (hH.sub cK hr HA Nm hq hx fun q i' o' q1 q2 q3 q4 q5 q6=>?_).symm
        by_cases hdd:iV aw i'
        ·exact hdd
        ·rw [q4,hH.nr q i' o' q3 hdd q5] at hb
         exact absurd rfl hb
      have tO:∀ b x,(S p).J.aa b=some x->(over (S p).J Jd).aa b=some x:=fun b x hx=>by
       show (match (S p).J.aa b with |some x=>some x |none=>Jd.aa b)=_
       rw [hx]
      have Ed:∀ b,Jd.next<=b->(over (S p).J Jd).aa b=none:=fun b hb=>by
       show (match (S p).J.aa b with |some x=>some x |none=>Jd.aa b)=_
       cases hx:(S p).J.aa b with
       |none=>exact (hH.post.rel.next b hb).2
       |some x=>
        obtain ⟨e1,_,_⟩:=hr.heap cK HA Nm hq
        rcases e1 b with g |⟨q,i2,o2,y,q1,q2,q3,q4,q5⟩
        ·rcases hH.od b with g' | ⟨q,i2,o2,y,q1,q2,q3,q4⟩
         ·rw [<-g,hx,(hH.post.rel.next b hb).2] at g';cases g'
         ·have:=hr.fR cK q2.lt (Nat.le_refl _) q2 q4.al
          have:=hH.top
          rw [hH.nx,q4.id] at hb;omega
        ·have:=hr.fR cK q3.lt (Nat.le_refl _) q3 q4.al
         have:=hH.top
         rw [hH.nx,q4.id] at hb;omega
      have h3:=again g2 hl ((FM g2 hl).wide Ct tO)
      rw [hcg] at h3
      refine jQ hG h3 oM (hH.post.rel.Cu (Jx:=over (S p).J Jd) rfl Iw Ed) (fun e=>by rw [eI] at e;cases e) ro o K Q rfl rfl fun u w' aQ fp' hu vA _=>hK _ _ ?_
      have hgh:∀ b,aQ b≠none->(over (S p).J Jd).aa b=Jd.aa b:=fun b hb=>by
       rcases Nat.lt_or_ge b Jd.next with hh |hh
       ·refine Iw b ?_
        rw [<-vA.ext b ⟨hh,fun e=>by rw [eI] at e;cases e⟩];exact hb
       ·rw [Ed b hh,(hH.post.rel.next b hh).2]
      have qu:aR RO P (fun b=>b<Jd.next/\(aM o.op=true->b≠(S p).nid)) ρ fp Jd w aQ fp' Jd w':=aR.Cu (Jx:=over (S p).J Jd) rfl Iw hgh vA fun b hb=>(hH.post.rel.next b hb).2
      exact ⟨aQ,fp',_,j,hE.next cK hr gJ ha hnd Ab vA.le hu,hH.same cK hr hE.Ac ha hnt hna qu⟩
 ·rw [hw false g1,if_neg (by simp)]
  have hnt:¬ (turns o.op=true/\cx ops (S p).e o=some true):=fun e=>by rw [g1] at e;cases e.2
  refine ⟨fun _ _=>trivial,?_⟩
  exact hK _ _ ⟨ρ,fp,Jd,j,hE.next cK hr gJ ha hnd Ab (bT.le_refl _) (by rw [g2];exact .aG [] [] .nil),hH.same cK hr hE.Ac ha hnt (fun b x hx=>by have:=hx.wt;rw [g1] at this;cases this) (aR.refl hH.post.rel)⟩
theorem FP (ro:Option Nat) (hG:eH RO P G) (cK:∀ p,p<l.length->∃ i o,At ops l p i o) (hr:rQ P G ops l S V) (gJ:∀ (i:Nat) (o:Oper) (d:Nat),ops[i]? = some o->o.dst=some d->d<n) {Q:Exit->Act->World->Prop}
  (hQ:∀ a w aw,aw.size=ops.length->(∀ i,i<ops.length->iV aw i)->Inv RO P ops l S n a0 kB fp0 J0 w0 aw a w->Q .normal a w):
  ∀ (fuel:Nat) (aw:Array Bool) (a:Act) (w:World),ops.length<=aw.toList.count true+fuel->Inv RO P ops l S n a0 kB fp0 J0 w0 aw a w->wpAnyIn (Fw ro) 0 P .any ops.toArray Q fuel aw a w:=by
 have done:∀ (aw:Array Bool) (a:Act) (w:World),Inv RO P ops l S n a0 kB fp0 J0 w0 aw a w->Region.ready .any ops.toArray aw=[]->Q .normal a w:=by
  intro aw a w h hn
  have jM:aw.size=ops.length:=by obtain ⟨_,_,_,_,hE,_⟩:=h;exact hE.Ac
  refine hQ a w aw jM ?_ h
  have all:∀ (p i:Nat),l[p]? = some i->iV aw i:=by
   intro p
   induction p using Nat.strongRecOn with
   |_ p ih=>
    intro i hp
    have aY:p<l.length:=(List.getElem?_eq_some_iff.1 hp).1
    obtain ⟨i',o,ha⟩:=cK p aY
    have:i=i':=by have:=ha.1;rw [hp] at this;cases this;rfl
    subst this
    rcases Bool.eq_false_or_eq_true (aw.getD i false) with hd |hd
    ·exact hd
    ·exfalso
     have afT:i<aw.size:=by rw [jM];exact (List.getElem?_eq_some_iff.1 ha.2).1
     have:i∈Region.ready .any ops.toArray aw:=by
      rw [mem_ready]
      refine ⟨by simpa [afT] using hd,o,by simpa using ha.2,fun e he hb=>?_⟩
      obtain ⟨q,h1,h2⟩:=hr.BO.afU p i o ha e he hb
      exact ih q h1 e.on h2
     rw [hn] at this;cases this
  intro i hi
  obtain ⟨p,hp⟩:=hr.BO.pos i hi
  exact all p i hp
 intro fuel
 induction fuel with
 |zero=>
  intro aw a w hc h
  have jM:aw.size=ops.length:=by obtain ⟨_,_,_,_,hE,_⟩:=h;exact hE.Ac
  have lP:Region.ready .any ops.toArray aw=[]:=by
   have h1:aw.toList.count true=aw.toList.length:=by
    have:=List.count_le_length (a:=true) (l:=aw.toList)
    simp only [Array.length_toList] at this ⊢
    omega
   rw [List.count_eq_length] at h1
   apply List.eq_nil_iff_forall_not_mem.2
   intro i hi
   rw [mem_ready] at hi
   have aY:i<aw.size:=by
    rcases Nat.lt_or_ge i aw.size with hh |hh
    ·exact hh
    ·have:=hi.1;simp [Array.getElem?_eq_none hh] at this
   have:=h1 aw[i] (by simp)
   have h2:=hi.1
   simp [aY] at h2
   rw [h2] at this;cases this
  exact ⟨lP,done aw a w h lP⟩
 |succ fuel ih=>
  intro aw a w hc h
  have jM:aw.size=ops.length:=by obtain ⟨_,_,_,_,hE,_⟩:=h;exact hE.Ac
  refine ⟨done aw a w h,fun i hi=>?_⟩
  rw [mem_ready] at hi
  obtain ⟨h1,o,h2,h3⟩:=hi
  have aY:i<aw.size:=by
   rcases Nat.lt_or_ge i aw.size with hh |hh
   ·exact hh
   ·simp [Array.getElem?_eq_none hh] at h1
  have hv:aw[i]=false:=by simpa [aY] using h1
  refine h.next hG cK hr gJ (by simpa using h2) (by simp [iV,aY,hv]) h3 (fun a' w' h'=>ih _ a' w' ?_ h') ro
  have:(aw.setIfInBounds i true).toList.count true=aw.toList.count true+1:=by
   rw [Array.toList_setIfInBounds,List.count_set (by simpa using aY)]
   simp [hv]
  omega
end step
theorem pl (hG:eH RO P G) (hm:P.follows .mixedOrders=true) {R:Type} {qB:List (Nat × Nat × List (Nat × Ty))} {l bf:List Nat} {ops:Array Oper} {id:Nat} {e:Env} {J:AH O} {K:Env->AH O->Option R} {r:R}
  (gJ:∀ (i:Nat) (o:Oper) (d:Nat),ops.toList[i]? = some o->o.dst=some d->d<n) (h:ph P G true qB ops.toList l bf e J K=some r):
  ∃ e' J',K e' J'=some r/\Qt RO P n (.region id ops true) J e e' J':=by
 unfold ph at h
 simp only [cond_true,wF] at h
 obtain ⟨jr,h⟩:=aF h
 rw [Bool.and_eq_true] at jr
 obtain rfl:=yd jr.1
 have hs:=ye jr.2
 obtain ⟨S,V,s',ht,h3⟩:=trace _ _ _ _ _ h
 have h1:=ht.tr.z
 have hf:=ht.fin
 have cK:∀ p,p<l.length->∃ i o,At ops.toList l p i o:=fun p hp=>by
  obtain ⟨i,o,g1,g2,_⟩:=ht.tr.st p hp
  exact ⟨i,o,g1,g2⟩
 have hr:rQ P G ops.toList l S V:=⟨hs,fun p i o ha=>by
  obtain ⟨i',o',g1,g2,g3⟩:=ht.tr.st p ha.lt
  obtain ⟨rfl,rfl⟩:=ha.fn ⟨g1,g2⟩
  exact g3,fun q p i o i' o' g1 g2 g3 g4 g5 g6 g7 g8=>ht.tr.kp rfl q p i o i' o' g1 g2.1 g2.2 g3.1 g3.2 g4 g5 g6 g7 g8⟩
 have hb:(S 0).J=J.ax (dS ops.toList):=h1.J
 have Ee:(S 0).nid=J.next:=h1.nid
 have Sq:(S l.length).nid=J.next+dS ops.toList:=by
  rw [<-hf.nid,ht.nid]
  have:=wG (ops:=ops.toList) l 0 J.next
  rw [Nat.zero_add] at this
  show jv ops.toList l J.next=_
  rw [this,hs.FQ,Nat.add_comm]
 refine ⟨s'.e,s'.J,h3,fun ρ fp a w he aA ro Q hQ=>?_⟩
 refine wpIn_region_any hm ?_
 have e2:ops=ops.toList.toArray:=by simp
 have main:=FP ro (n:=n) (RO:=RO) (a0:=a) (kB:=ρ) (fp0:=fp) (J0:=J) (w0:=w) hG cK hr gJ (Q:=Q) (fun a' w' aw jM lP afV=>?_) ops.size (Array.replicate ops.size false) a w.drew (by simp) ?_
 ·rw [<-e2] at main
  exact main
 ·obtain ⟨aQ,fp',Jd,j,hE,hH⟩:=afV
  have hq:∀ q i' o',j<=q->q<l.length->At ops.toList l q i' o'->¬ (turns o'.op=true/\cx ops.toList (S q).e o'=some true):=fun q i' o' q1 _ q3 q4=>
   hH.late q i' o' q1 q3 (lP i' (List.getElem?_eq_some_iff.1 q3.2).1) q4
  obtain ⟨e1,_,e3⟩:=hr.heap cK hH.W1 (Nat.le_refl _) hq
  have hJ:Jd=s'.J:=by
   rw [hf.J]
   have vH:∀ b,Jd.aa b=(S l.length).J.aa b:=fun b=>by
    cases hx:(S l.length).J.aa b with
    |some x=>exact hH.sub cK hr hH.W1 (Nat.le_refl _) hq hx fun q i' o' _ _ q3 _ _ _=>lP i' (List.getElem?_eq_some_iff.1 q3.2).1
    |none=>
     rcases hH.od b with g |⟨q,i2,o2,y,q1,q2,q3,q4⟩
     ·rw [g]
      rcases e1 b with g' | ⟨q,i2,o2,y,q1,q2,q3,q4,q5⟩
      ·rw [<-g',hx]
      ·rw [hx] at q5;cases q5
     ·obtain ⟨_,e2',_⟩:=hr.heap cK hH.W1 (Nat.le_refl _) hq
      rw [e2' q i2 o2 b y q1 q2.lt q2 q4] at hx;cases hx
   have Ed:Jd.next=(S l.length).J.next:=by rw [hH.nx,e3]
   cases Jd;cases hS:(S l.length).J
   rw [hS] at vH Ed
   simp only at Ed
   subst Ed
   congr
   funext b;exact vH b
  have hp:=hH.post
  rw [Ee,hJ] at hp
  refine hQ a' w' aQ fp' ⟨hE.size,fun t=>?_⟩ hE.defers (fun t qv=>hE.out t qv) hp
  have:=hE.bM t l.length (Nat.le_refl _) (fun q i o _ q2 _=>lP i (List.getElem?_eq_some_iff.1 q2.2).1) (fun q i o q1 q2 _=>absurd q2.lt (by omega))
  rcases hf.e t with g |g<;>rw [g]
  ·exact this
  ·exact .u _
 ·have Sr:∀ i,¬ iV (Array.replicate ops.size false) i:=fun i hi=>by
   simp only [iV,Array.getD_eq_getD_getElem?,Array.getElem?_replicate] at hi
   split at hi<;>simp at hi
  refine ⟨ρ,fp,(S 0).J,0,⟨by simp,fun i o ho hd=>absurd hd (Sr i),he.size,fun t m hm Ss _=>?_,rfl,fun _ _=>rfl⟩,⟨Nat.zero_le _,.inl rfl,fun q i o _ _ hd=>absurd hd (Sr i),?_,rfl,fun q i o b x _ _ hd=>absurd hd (Sr i),fun b=>.inl rfl,fun b g1 _=>?_,fun q i o ha _ eI=>?_,?_⟩⟩
  ·have k1:aK ρ ((S 0).e t) (a.tmps.getD t undef):=by
    rcases h1.e t with g |g<;>rw [g]
    ·exact he.get t
    ·exact .u _
   have:∀ r i o,0<=r->r<m->At ops.toList l r i o->o.dst≠some t:=fun r i o _ g1 g2 g3=>Sr i (Ss r i o g1 g2 g3)
   rcases hr.Ae cK (Nat.zero_le m) hm this with g |g<;>rw [g]
   ·exact k1
   ·exact .u _
  ·rw [Ee,hb]
   exact aR.yg ((aR.drew (aA.ax _)))
  ·rw [hb]
   rw [Ee] at g1
   exact (aA.next b g1).2
  ·refine (aA.next _ ?_).1
   rw [<-Ee]
   exact hr.gK cK (Nat.zero_le q) (Nat.le_of_lt ha.lt)
  ·rw [Sq,hb];exact Nat.le_refl _
end Go.Abs
