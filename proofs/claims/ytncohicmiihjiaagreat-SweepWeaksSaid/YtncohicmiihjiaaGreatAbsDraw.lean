/-
  AbsDraw: a region whose order is drawn.
-/
import Derived.Test.YtncohicmiihjiaaGreatAbsDraw4
set_option linter.unusedVariables false
set_option linter.unusedSimpArgs false
set_option linter.constructorNameAsVariable false
namespace Go.Abs
open Go
variable {O:Type} {RO:O->Loc->(Nat->Option Obj)->Prop} {P:Program} {G:List (Nat × Sm O)} {n:Nat}
section step
variable {ops:List Oper} {l:List Nat} {S:Nat->RS O} {V:Nat->AV} {a0:Act} {mT:bX} {fp0:Fp} {J0:AH O} {w0:World} {ax:Array Bool}
theorem HY {J J':AH O} {b:fH} {o m:Nat} {cs:List AV} (h:J.Bu b o m=some cs) (hw:∀ b x,J.aa b=some x->J'.aa b=some x):J'.Bu b o m=some cs:=by
 cases b with
 |f=>exact h
 |n b=>
  simp only [AH.Bu] at h ⊢
  split at h
  ·rename_i hb;rw [hw _ _ hb];exact h
  ·cases h
theorem MH {J J':AH O} {b:fH} {o:Nat} {v:AV} (h:J.ld b o=some v) (hw:∀ b x,J.aa b=some x->J'.aa b=some x):J'.ld b o=some v:=by
 cases b with
 |f=>exact h
 |n b=>
  simp only [AH.ld] at h ⊢
  split at h
  ·rename_i hb;rw [hw _ _ hb];exact h
  ·cases h
theorem FE {J J':AH O} {a:SA} {m es:Nat} {cs:List AV} (h:J.bT a m es=some cs) (hw:∀ b x,J.aa b=some x->J'.aa b=some x):J'.bT a m es=some cs:=by
 cases a with
 |loc b o e=>
  simp only [AH.bT] at h ⊢
  exact HY h hw
 |nil=>exact h
 |z=>exact h
theorem Kept.wide {o:Oper} {s:RS O} {v:AV} {J J':AH O} (h:Kept o s v J) (nN:∀ t t' x a m,o.op=.convert t t' x->ev s.e x=.sl a m->∃ cs,s.J.bT a m 1=some cs) (hw:∀ b x,J.aa b=some x->J'.aa b=some x):Kept o s v J':=by
 refine ⟨fun t a e=>?_,fun t t' x e a m hx=>?_⟩
 ·obtain ⟨b,f,h1,h2⟩:=h.1 t a e
  refine ⟨b,f,h1,fun k c hk=>?_⟩
  exact MH (h2 k c hk) hw
 ·obtain ⟨cs,ya⟩:=nN t t' x a m e hx
  have:=h.2 t t' x e a m hx
  rw [ya] at this ⊢
  exact FE this hw
theorem Ca {t t' ty:TypeId} {x:Operand} {e:Env} {J J':AH O} {nid:Nat} {v:AV} (h:dX P G (.convert t t' x) ty e J nid two=some (v,J')) {a:SA} {m:Nat} (hx:ev e x=.sl a m):∃ cs,J.bT a m 1=some cs:=by
 simp only [dX,hx] at h
 split at h
 ·split at h
  ·obtain ⟨cs,ya,_⟩:=Option.bind_eq_some_iff.1 h
   exact ⟨cs,ya⟩
  ·cases h
 ·cases h
theorem again {o:Oper} {s:RS O} {v:AV} {J' J2:AH O} (h:dX P G o.op o.type s.e s.J s.nid two=some (v,J')) (hl:cA o.op=true) (hk:Kept o s v J2):dX P G o.op o.type s.e J2 s.nid two=some (v,J2):=by
 cases nN:o.op<;>rw [nN] at hl<;>first |(simp [cA] at hl;done) |skip
 case load t x=>
  rw [nN] at h
  obtain ⟨_,b,f,h1,_,h3⟩:=om h
  obtain ⟨b',f',Wd,h2⟩:=hk.1 t x nN
  rw [h1] at Wd;cases Wd
  exact h3 J2 s.nid h2
 case convert t t' x=>
  rw [nN] at h
  exact (tR h).2 J2 s.nid fun a m hx=>hk.2 t t' x nN a m hx
theorem FF {o:Oper} {s:RS O} {v:AV} {J':AH O} (h:dX P G o.op o.type s.e s.J s.nid two=some (v,J')) (hl:cA o.op=true):Kept o s v s.J:=by
 refine ⟨fun t a e=>?_,fun _ _ _ _ _ _ _=>rfl⟩
 rw [e] at h
 obtain ⟨_,b,f,h1,h2,_⟩:=om h
 exact ⟨b,f,h1,h2⟩
def over (J Jd:AH O):AH O:=⟨fun b=>match J.aa b with |some x=>some x |none=>Jd.aa b,Jd.next⟩
def Inv (RO:O->Loc->(Nat->Option Obj)->Prop) (P:Program) (ops:List Oper) (l:List Nat) (S:Nat->RS O) (n:Nat) (a0:Act) (mT:bX) (fp0:Fp) (J0:AH O) (w0:World) (ax:Array Bool) (a:Act) (w:World):Prop:=
 ∃ ρ fp Jd j,FG ops l S n a0 ax a ρ/\lE RO P ops l S mT fp0 J0 w0 ax w ρ fp Jd j
theorem Inv.next (hG:cS RO P G) (cX:∀ p,p<l.length->∃ i o,At ops l p i o) (hr:se P G ops l S V) (gI:∀ (i:Nat) (o:Oper) (d:Nat),ops[i]? = some o->o.dst=some d->d<n) {a:Act} {w:World} (h:Inv RO P ops l S n a0 mT fp0 J0 w0 ax a w)
  {i:Nat} {o:Oper} (ho:ops[i]? = some o) (hnd:¬ jb ax i) (zZ:∀ e∈o.after,Region.binds .any e=true->jb ax e.on) {Q:Exit->Act->World->Prop} {K:Act->World->Prop}
  (hK:∀ a w,Inv RO P ops l S n a0 mT fp0 J0 w0 (ax.setIfInBounds i true) a w->K a w) (ro:Option Nat):wpOpIn (Fw ro) 0 P ops.toArray Q i K a w:=by
 obtain ⟨ρ,fp,Jd,j,hE,hH⟩:=h
 obtain ⟨p,hp⟩:=hr.Bv.pos i (List.getElem?_eq_some_iff.1 ho).1
 have ha:At ops l p i o:=⟨hp,ho⟩
 have Rz:ops.toArray[i]? = some o:=by simpa using ho
 unfold wpOpIn
 rw [Rz]
 simp only
 have hw:=fun b (hb:cG ops (S p).e o=some b)=>wB (ops:=ops) gI hE.size (fun j' gV hg oj HZ d hd=>hE.DZ cX hr ha hnd zZ (t:=d) (by
  simp only [lT,hg,HZ,hd,List.mem_append]
  right;simp)) hb
 let e':Env:=fun t=>if t∈lT ops o then (S p).e t else .u
 have lU:aJ n ρ e' a:=⟨hE.size,fun t=>by
  show aK ρ (if t∈lT ops o then (S p).e t else .u) _
  split
  ·rename_i ht;exact hE.DZ cX hr ha hnd zZ ht
  ·exact .u _⟩
 have hcg:∀ {R:Type} (J:AH O) (K:AV->AH O->Option R),dX P G o.op o.type (S p).e J (S p).nid K=dX P G o.op o.type e' J (S p).nid K:=fun J K=>FH fun x hx=>by
  cases x with
  |tmp t=>
   have:t∈lT ops o:=by
    simp only [lT,List.mem_append,List.mem_filterMap]
    exact .inl ⟨.tmp t,hx,rfl⟩
   show (S p).e t=if t∈lT ops o then (S p).e t else .u
   rw [if_pos this]
  |const v=>rfl
  |global g=>rfl
  |func f=>rfl
 rcases (hr.st p i o ha).2.2 with ⟨g1,g2⟩ |⟨g1,g2,g3⟩
 ·rw [hw true g1,if_pos rfl]
  cases ht:turns o.op with
  |true=>
   have k1:=(hH.bF (aQ:=ρ) (fp':=fp) (w':=w) cX hr hE.closed hE.z7 ha hnd zZ ht g1).1
   have k2:=(hH.bF (aQ:=ρ) (fp':=fp) (w':=w) cX hr hE.closed hE.z7 ha hnd zZ ht g1).2.1
   rw [hcg] at g2
   refine jX hG g2 lU k1 k2 ro o K Q rfl rfl fun u w' aQ fp' hu wC _=>hK _ _ ?_
   obtain ⟨Bw,PD,k3⟩:=(hH.bF (aQ:=aQ) (fp':=fp') (w':=w') cX hr hE.closed hE.z7 ha hnd zZ ht g1).2.2 wC
   exact ⟨aQ,Bw,PD,p+1,hE.next cX hr gI ha hnd zZ wC.le hu,k3⟩
  |false=>
   have hnt:¬ (turns o.op=true/\cG ops (S p).e o=some true):=fun e=>by rw [ht] at e;cases e.1
   cases eT:aM o.op with
   |true=>
    obtain ⟨el,cs,h1,h2⟩:=wD g2 ht eT
    have Hm:=hH.ge cX hr hE.closed hE.z7 ha hnd (.inr eT)
    have bp:(S p).nid<Jd.next:=by
     have:=hr.fS cX ha.lt (Nat.le_refl _) ha eT
     have:=hH.top
     rw [hH.nx];omega
    have h3:=h2 Jd
    rw [hcg] at h3
    refine jX hG h3 lU hH.post.rel (fun _=>⟨bp,hH.nr p i o ha hnd eT⟩) ro o K Q rfl rfl fun u w' aQ fp' hu wC _=>hK _ _ ?_
    exact ⟨aQ,fp',_,j,hE.next cX hr gI ha hnd zZ wC.le hu,hH.alloc cX hr hE.closed hE.z7 ha hnd ⟨eT,ht,g1,rfl,h1,el,cs,rfl⟩ wC⟩
   |false=>
    have hna:∀ b x,¬ yb ops S p o b x:=fun b x hx=>by have:=hx.al;rw [eT] at this;cases this
    have fin:dX P G o.op o.type (S p).e Jd (S p).nid two=some (V p,Jd)->o.wpIn (Fw ro) 0 P a w K Q:=fun h3=>by
     rw [hcg] at h3
     refine jX hG h3 lU hH.post.rel (fun e=>by rw [eT] at e;cases e) ro o K Q rfl rfl fun u w' aQ fp' hu wC _=>hK _ _ ?_
     exact ⟨aQ,fp',_,j,hE.next cX hr gI ha hnd zZ wC.le hu,hH.same cX hr hE.z7 ha hnt hna wC⟩
    cases hl:cA o.op with
    |false=>exact fin ((z8 g2 ht eT hl).2 Jd _)
    |true=>
     have H0:∀ t t' x a m,o.op=.convert t t' x->ev (S p).e x=.sl a m->∃ cs,(S p).J.bT a m 1=some cs:=fun t t' x a m nN hx=>by
      rw [nN] at g2
      exact Ca g2 hx
     rcases Nat.lt_or_ge p j with hpj |Hm
     ·rcases hH.jz with hj |⟨k,i',o',hj,hb,hd,pd,afs⟩
      ·omega
      ·have PF:p≠k:=fun e=>by
        subst e
        obtain ⟨rfl,rfl⟩:=ha.fn hb
        exact hnd hd
       have We:bit ((pC ops).getD i' 0) i=false:=by
        cases tc:bit ((pC ops).getD i' 0) i with
        |false=>rfl
        |true=>exact absurd (hE.closed.fI (fun i hi=>jb.lt hE.z7 hi) i' i hd tc) hnd
       have hk:=hr.kp p k i o i' o' (by omega) ha hb hl g1 afs pd We
       rw [<-hj] at hk
       refine fin (again g2 hl (hk.wide H0 fun b x hx=>?_))
       rcases hH.od b with g |⟨q,i2,o2,y,q1,q2,q3,q4⟩
       ·rw [g];exact hx
       ·rw [hH.bl b (by rw [q4.id];exact hr.gJ cX q1 (Nat.le_of_lt q2.lt)) (by rw [q4.id];exact hr.fS cX q2.lt (Nat.le_refl _) q2 q4.al)] at hx
        cases hx
     ·
      have hq:∀ q i' o',j<=q->q<p->At ops l q i' o'->¬ (turns o'.op=true/\cG ops (S q).e o'=some true):=by
       intro q i' o' q1 q2 q3 q4
       refine hH.late q i' o' q1 q3 ?_ q4
       have hpp:=hr.Bv.pair q p i' i o' o q2 q3 ha
       rcases hpp.or with g |⟨_,g4,_⟩
       ·exact qO hE.closed (fun i hi=>jb.lt hE.z7 hi) ha.2 zZ g
       ·have:=(g4 q4.1).2;rw [hl] at this;cases this
      have Cb:=Nat.le_of_lt ha.lt
      have H3:∀ b,ρ b≠none->(over (S p).J Jd).aa b=Jd.aa b:=fun b hb=>by
       show (match (S p).J.aa b with |some x=>some x |none=>Jd.aa b)=_
       cases hx:(S p).J.aa b with
       |none=>rfl
       |some x=>
        refine (hH.sub cX hr Hm Cb hq hx fun q i' o' q1 q2 q3 q4 q5 q6=>?_).symm
        by_cases hdd:jb ax i'
        ·exact hdd
        ·rw [q4,hH.nr q i' o' q3 hdd q5] at hb
         exact absurd rfl hb
      have tS:∀ b x,(S p).J.aa b=some x->(over (S p).J Jd).aa b=some x:=fun b x hx=>by
       show (match (S p).J.aa b with |some x=>some x |none=>Jd.aa b)=_
       rw [hx]
      have tf:∀ b,Jd.next<=b->(over (S p).J Jd).aa b=none:=fun b hb=>by
       show (match (S p).J.aa b with |some x=>some x |none=>Jd.aa b)=_
       cases hx:(S p).J.aa b with
       |none=>exact (hH.post.rel.next b hb).2
       |some x=>
        obtain ⟨e1,_,_⟩:=hr.heap cX Hm Cb hq
        rcases e1 b with g |⟨q,i2,o2,y,q1,q2,q3,q4,q5⟩
        ·rcases hH.od b with g' | ⟨q,i2,o2,y,q1,q2,q3,q4⟩
         ·rw [<-g,hx,(hH.post.rel.next b hb).2] at g';cases g'
         ·have:=hr.fS cX q2.lt (Nat.le_refl _) q2 q4.al
          have:=hH.top
          rw [hH.nx,q4.id] at hb;omega
        ·have:=hr.fS cX q3.lt (Nat.le_refl _) q3 q4.al
         have:=hH.top
         rw [hH.nx,q4.id] at hb;omega
      have h3:=again g2 hl ((FF g2 hl).wide H0 tS)
      rw [hcg] at h3
      refine jX hG h3 lU (hH.post.rel.Cc (Jx:=over (S p).J Jd) rfl H3 tf) (fun e=>by rw [eT] at e;cases e) ro o K Q rfl rfl fun u w' aQ fp' hu wC _=>hK _ _ ?_
      have hgh:∀ b,aQ b≠none->(over (S p).J Jd).aa b=Jd.aa b:=fun b hb=>by
       rcases Nat.lt_or_ge b Jd.next with hh |hh
       ·refine H3 b ?_
        rw [<-wC.ext b ⟨hh,fun e=>by rw [eT] at e;cases e⟩];exact hb
       ·rw [tf b hh,(hH.post.rel.next b hh).2]
      have qG:aS RO P (fun b=>b<Jd.next/\(aM o.op=true->b≠(S p).nid)) ρ fp Jd w aQ fp' Jd w':=aS.Cc (Jx:=over (S p).J Jd) rfl H3 hgh wC fun b hb=>(hH.post.rel.next b hb).2
      exact ⟨aQ,fp',_,j,hE.next cX hr gI ha hnd zZ wC.le hu,hH.same cX hr hE.z7 ha hnt hna qG⟩
 ·rw [hw false g1,if_neg (by simp)]
  have hnt:¬ (turns o.op=true/\cG ops (S p).e o=some true):=fun e=>by rw [g1] at e;cases e.2
  refine ⟨fun _ _=>trivial,?_⟩
  exact hK _ _ ⟨ρ,fp,Jd,j,hE.next cX hr gI ha hnd zZ (bX.le_refl _) (by rw [g2];exact .aB [] [] .nil),hH.same cX hr hE.z7 ha hnt (fun b x hx=>by have:=hx.wt;rw [g1] at this;cases this) (aS.refl hH.post.rel)⟩
theorem FI (ro:Option Nat) (hG:cS RO P G) (cX:∀ p,p<l.length->∃ i o,At ops l p i o) (hr:se P G ops l S V) (gI:∀ (i:Nat) (o:Oper) (d:Nat),ops[i]? = some o->o.dst=some d->d<n) {Q:Exit->Act->World->Prop}
  (hQ:∀ a w ax,ax.size=ops.length->(∀ i,i<ops.length->jb ax i)->Inv RO P ops l S n a0 mT fp0 J0 w0 ax a w->Q .normal a w):
  ∀ (fuel:Nat) (ax:Array Bool) (a:Act) (w:World),ops.length<=ax.toList.count true+fuel->Inv RO P ops l S n a0 mT fp0 J0 w0 ax a w->wpAnyIn (Fw ro) 0 P .any ops.toArray Q fuel ax a w:=by
 have done:∀ (ax:Array Bool) (a:Act) (w:World),Inv RO P ops l S n a0 mT fp0 J0 w0 ax a w->Region.ready .any ops.toArray ax=[]->Q .normal a w:=by
  intro ax a w h hn
  have kA:ax.size=ops.length:=by obtain ⟨_,_,_,_,hE,_⟩:=h;exact hE.z7
  refine hQ a w ax kA ?_ h
  have all:∀ (p i:Nat),l[p]? = some i->jb ax i:=by
   intro p
   induction p using Nat.strongRecOn with
   |_ p ih=>
    intro i hp
    have bp:p<l.length:=(List.getElem?_eq_some_iff.1 hp).1
    obtain ⟨i',o,ha⟩:=cX p bp
    have:i=i':=by have:=ha.1;rw [hp] at this;cases this;rfl
    subst this
    rcases Bool.eq_false_or_eq_true (ax.getD i false) with hd |hd
    ·exact hd
    ·exfalso
     have aft:i<ax.size:=by rw [kA];exact (List.getElem?_eq_some_iff.1 ha.2).1
     have:i∈Region.ready .any ops.toArray ax:=by
      rw [mem_ready]
      refine ⟨by simpa [aft] using hd,o,by simpa using ha.2,fun e he hb=>?_⟩
      obtain ⟨q,h1,h2⟩:=hr.Bv.afu p i o ha e he hb
      exact ih q h1 e.on h2
     rw [hn] at this;cases this
  intro i hi
  obtain ⟨p,hp⟩:=hr.Bv.pos i hi
  exact all p i hp
 intro fuel
 induction fuel with
 |zero=>
  intro ax a w hc h
  have kA:ax.size=ops.length:=by obtain ⟨_,_,_,_,hE,_⟩:=h;exact hE.z7
  have vB:Region.ready .any ops.toArray ax=[]:=by
   have h1:ax.toList.count true=ax.toList.length:=by
    have:=List.count_le_length (a:=true) (l:=ax.toList)
    simp only [Array.length_toList] at this ⊢
    omega
   rw [List.count_eq_length] at h1
   apply List.eq_nil_iff_forall_not_mem.2
   intro i hi
   rw [mem_ready] at hi
   have bp:i<ax.size:=by
    rcases Nat.lt_or_ge i ax.size with hh |hh
    ·exact hh
    ·have:=hi.1;simp [Array.getElem?_eq_none hh] at this
   have:=h1 ax[i] (by simp)
   have h2:=hi.1
   simp [bp] at h2
   rw [h2] at this;cases this
  exact ⟨vB,done ax a w h vB⟩
 |succ fuel ih=>
  intro ax a w hc h
  have kA:ax.size=ops.length:=by obtain ⟨_,_,_,_,hE,_⟩:=h;exact hE.z7
  refine ⟨done ax a w h,fun i hi=>?_⟩
  rw [mem_ready] at hi
  obtain ⟨h1,o,h2,h3⟩:=hi
  have bp:i<ax.size:=by
   rcases Nat.lt_or_ge i ax.size with hh |hh
   ·exact hh
   ·simp [Array.getElem?_eq_none hh] at h1
  have hv:ax[i]=false:=by simpa [bp] using h1
  refine h.next hG cX hr gI (by simpa using h2) (by simp [jb,bp,hv]) h3 (fun a' w' h'=>ih _ a' w' ?_ h') ro
  have:(ax.setIfInBounds i true).toList.count true=ax.toList.count true+1:=by
   rw [Array.toList_setIfInBounds,List.count_set (by simpa using bp)]
   simp [hv]
  omega
end step
theorem pF (hG:cS RO P G) (hm:P.follows .mixedOrders=true) {R:Type} {qL:List (Nat × Nat × List (Nat × Ty))} {l bf:List Nat} {ops:Array Oper} {id:Nat} {e:Env} {J:AH O} {K:Env->AH O->Option R} {r:R}
  (gI:∀ (i:Nat) (o:Oper) (d:Nat),ops.toList[i]? = some o->o.dst=some d->d<n) (h:pD P G true qL ops.toList l bf e J K=some r):
  ∃ e' J',K e' J'=some r/\PG RO P n (.region id ops true) J e e' J':=by
 unfold pD at h
 simp only [cond_true,wE] at h
 obtain ⟨jv,h⟩:=aG h
 rw [Bool.and_eq_true] at jv
 obtain rfl:=yc jv.1
 have hs:=yd jv.2
 obtain ⟨S,V,s',ht,h3⟩:=trace _ _ _ _ _ h
 have h1:=ht.tr.z
 have hf:=ht.fin
 have cX:∀ p,p<l.length->∃ i o,At ops.toList l p i o:=fun p hp=>by
  obtain ⟨i,o,g1,g2,_⟩:=ht.tr.st p hp
  exact ⟨i,o,g1,g2⟩
 have hr:se P G ops.toList l S V:=⟨hs,fun p i o ha=>by
  obtain ⟨i',o',g1,g2,g3⟩:=ht.tr.st p ha.lt
  obtain ⟨rfl,rfl⟩:=ha.fn ⟨g1,g2⟩
  exact g3,fun q p i o i' o' g1 g2 g3 g4 g5 g6 g7 g8=>ht.tr.kp rfl q p i o i' o' g1 g2.1 g2.2 g3.1 g3.2 g4 g5 g6 g7 g8⟩
 have hb:(S 0).J=J.az (dY ops.toList):=h1.J
 have Cd:(S 0).nid=J.next:=h1.nid
 have RA:(S l.length).nid=J.next+dY ops.toList:=by
  rw [<-hf.nid,ht.nid]
  have:=wF (ops:=ops.toList) l 0 J.next
  rw [Nat.zero_add] at this
  show jC ops.toList l J.next=_
  rw [this,hs.D1,Nat.add_comm]
 refine ⟨s'.e,s'.J,h3,fun ρ fp a w he aC ro Q hQ=>?_⟩
 refine wpIn_region_any hm ?_
 have e2:ops=ops.toList.toArray:=by simp
 have main:=FI ro (n:=n) (RO:=RO) (a0:=a) (mT:=ρ) (fp0:=fp) (J0:=J) (w0:=w) hG cX hr gI (Q:=Q) (fun a' w' ax kA vB afv=>?_) ops.size (Array.replicate ops.size false) a w.drew (by simp) ?_
 ·rw [<-e2] at main
  exact main
 ·obtain ⟨aQ,fp',Jd,j,hE,hH⟩:=afv
  have hq:∀ q i' o',j<=q->q<l.length->At ops.toList l q i' o'->¬ (turns o'.op=true/\cG ops.toList (S q).e o'=some true):=fun q i' o' q1 _ q3 q4=>
   hH.late q i' o' q1 q3 (vB i' (List.getElem?_eq_some_iff.1 q3.2).1) q4
  obtain ⟨e1,_,e3⟩:=hr.heap cX hH.Wf (Nat.le_refl _) hq
  have hJ:Jd=s'.J:=by
   rw [hf.J]
   have Ce:∀ b,Jd.aa b=(S l.length).J.aa b:=fun b=>by
    cases hx:(S l.length).J.aa b with
    |some x=>exact hH.sub cX hr hH.Wf (Nat.le_refl _) hq hx fun q i' o' _ _ q3 _ _ _=>vB i' (List.getElem?_eq_some_iff.1 q3.2).1
    |none=>
     rcases hH.od b with g |⟨q,i2,o2,y,q1,q2,q3,q4⟩
     ·rw [g]
      rcases e1 b with g' | ⟨q,i2,o2,y,q1,q2,q3,q4,q5⟩
      ·rw [<-g',hx]
      ·rw [hx] at q5;cases q5
     ·obtain ⟨_,e2',_⟩:=hr.heap cX hH.Wf (Nat.le_refl _) hq
      rw [e2' q i2 o2 b y q1 q2.lt q2 q4] at hx;cases hx
   have tf:Jd.next=(S l.length).J.next:=by rw [hH.nx,e3]
   cases Jd;cases hS:(S l.length).J
   rw [hS] at Ce tf
   simp only at tf
   subst tf
   congr
   funext b;exact Ce b
  have hp:=hH.post
  rw [Cd,hJ] at hp
  refine hQ a' w' aQ fp' ⟨hE.size,fun t=>?_⟩ hE.defers (fun t pd=>hE.out t pd) hp
  have:=hE.bM t l.length (Nat.le_refl _) (fun q i o _ q2 _=>vB i (List.getElem?_eq_some_iff.1 q2.2).1) (fun q i o q1 q2 _=>absurd q2.lt (by omega))
  rcases hf.e t with g |g<;>rw [g]
  ·exact this
  ·exact .u _
 ·have RB:∀ i,¬ jb (Array.replicate ops.size false) i:=fun i hi=>by
   simp only [jb,Array.getD_eq_getD_getElem?,Array.getElem?_replicate] at hi
   split at hi<;>simp at hi
  refine ⟨ρ,fp,(S 0).J,0,⟨by simp,fun i o ho hd=>absurd hd (RB i),he.size,fun t m hm Uo _=>?_,rfl,fun _ _=>rfl⟩,⟨Nat.zero_le _,.inl rfl,fun q i o _ _ hd=>absurd hd (RB i),?_,rfl,fun q i o b x _ _ hd=>absurd hd (RB i),fun b=>.inl rfl,fun b g1 _=>?_,fun q i o ha _ eT=>?_,?_⟩⟩
  ·have k1:aK ρ ((S 0).e t) (a.tmps.getD t undef):=by
    rcases h1.e t with g |g<;>rw [g]
    ·exact he.get t
    ·exact .u _
   have:∀ r i o,0<=r->r<m->At ops.toList l r i o->o.dst≠some t:=fun r i o _ g1 g2 g3=>RB i (Uo r i o g1 g2 g3)
   rcases hr.z9 cX (Nat.zero_le m) hm this with g |g<;>rw [g]
   ·exact k1
   ·exact .u _
  ·rw [Cd,hb]
   exact aS.ye ((aS.drew (aC.az _)))
  ·rw [hb]
   rw [Cd] at g1
   exact (aC.next b g1).2
  ·refine (aC.next _ ?_).1
   rw [<-Cd]
   exact hr.gJ cX (Nat.zero_le q) (Nat.le_of_lt ha.lt)
  ·rw [RA,hb];exact Nat.le_refl _
end Go.Abs
