/-
  AbsTrace: what a region's run is made of.
-/
import Derived.Test.YtncohicmiihjiaaGreatAbsHeap2
import Derived.Test.YtncohicmiihjiaaGreatAbsNat
set_option linter.unusedVariables false
set_option linter.unusedSimpArgs false
set_option linter.constructorNameAsVariable false
namespace Go.Abs
open Go
variable {O:Type} {P:Program} {G:List (Nat × Sm O)} {fI:List Nat} {dr:Bool} {ws:List Nat} {qL:List (Nat × Nat × List (Nat × Ty))} {ops:List Oper}
theorem iL:∀ {R:Type} (bM:List (Nat × Ty)) (i:Nat) (vs:List AV) (e:Env) (K:Env->Option R) (r:R),dV bM i vs e K=some r->
    ∃ e',K e'=some r/\∀ t,e' t=e t ∨ ∃ (j:Nat) (ty:Ty),bM[j]? = some (t,ty)/\e' t=vs.getD (i+j) .u
  |_,[],i,vs,e,K,r,h=>⟨e,h,fun _=>.inl rfl⟩
  |_,(t,ty)::bM,i,vs,e,K,r,h=>by
    simp only [dV] at h
    have h:=j9 h
    obtain ⟨e',h1,h2⟩:=iL bM (i+1) vs _ K r h
    refine ⟨e',h1,fun q=>?_⟩
    rcases h2 q with h3 |⟨j,ty',h3,h4⟩
    · rw [Env.kE] at h3
      by_cases hq:q=t
      · subst hq;rw [if_pos rfl] at h3;exact .inr ⟨0,ty,by simp,by simpa using h3⟩
      · rw [if_neg hq] at h3;exact .inl h3
    · exact .inr ⟨j+1,ty',by simpa using h3,by rw [h4];congr 1;omega⟩
theorem FY {bM:List (Nat × Ty)} {e:Env} {j t:Nat} {ty:Ty} (h:bM[j]? = some (t,ty)):(fA bM e).getD j .u=e t:=by
  simp [fA,List.getD,h]
theorem Env.IX (ws:List Nat) (e:Env) (t:Nat):Env.mask ws e t=if t∈ws then .u else e t:=by
  simp only [Env.mask]
  by_cases h:t∈ws
  · have:ws.elem t=true:=by simpa using h
    simp [this,h]
  · have:ws.elem t=false:=by simpa using h
    simp [this,h]
theorem xc {R:Type} {bM:List (Nat × Ty)} {e1 e0:Env} {ws:List Nat} {K:Env->Option R} {r:R} (h:dV bM 0 (fA bM e1) (Env.mask ws e0) K=some r):
    ∃ e',K e'=some r/\∀ t,e' t=e1 t ∨ (t∈ws/\e' t=.u) ∨ (t∉ws/\e' t=e0 t):=by
  obtain ⟨e',h1,h2⟩:=iL _ _ _ _ _ _ h
  refine ⟨e',h1,fun t=>?_⟩
  rcases h2 t with h3 |⟨j,ty,h3,h4⟩
  · rw [Env.IX] at h3
    by_cases ht:t∈ws
    · rw [if_pos ht] at h3;exact .inr (.inl ⟨ht,h3⟩)
    · rw [if_neg ht] at h3;exact .inr (.inr ⟨ht,h3⟩)
  · left;rw [h4,Nat.zero_add,FY h3]
theorem md {R:Type} {bM:List (Nat × Ty)} {e1 e0:Env} {ws:List Nat} {K:Env->Option R} {r:R} (h:dV bM 0 (fA bM e1) (Env.mask ws e0) K=some r):
    ∃ e',K e'=some r/\∀ t,e' t=e1 t ∨ e' t=.u ∨ (t∉ws/\e' t=e0 t):=by
  obtain ⟨e',h1,h2⟩:=xc h
  exact ⟨e',h1,fun t=>(h2 t).imp id (Or.imp And.right id)⟩
def mB (e' e:Env):Prop:=∀ t,e' t=e t ∨ e' t=.u
theorem mB.refl (e:Env):mB e e:=fun _=>.inl rfl
theorem mB.trans {e1 e2 e3:Env} (h:mB e1 e2) (h':mB e2 e3):mB e1 e3:=fun t=>by
  rcases h t with q |q
  · rcases h' t with q' | q'
    · exact .inl (q.trans q')
    · exact .inr (q.trans q')
  · exact .inr q
def cG (ops:List Oper) (e:Env) (o:Oper):Option Bool:=
  match o.guard with
  |none=>some true
  |some (j,gV)=>
    match ops[j]? with
    |none=>none
    |some oj=>
      match oj.dst with
      |none=>none
      |some d=>match e d with |.b t=>some (t == gV) |.aB []=>some false |_=>none
def nQ (P:Program) (G:List (Nat × Sm O)) (ops:List Oper) (o:Oper) (s s':RS O) (v:AV):Prop:=
  mB s'.e (s.e.put o.dst v)/\s'.nid=(if aM o.op=true then s.nid+1 else s.nid)/\
  (
   (cG ops s.e o=some true/\dX P G o.op o.type s.e s.J s.nid two=some (v,s'.J)) ∨
   (cG ops s.e o=some false/\v=.aB []/\s'.J=s.J))
def Kept (o:Oper) (s:RS O) (v:AV) (J:AH O):Prop:=
  (∀ t a,o.op=.load t a->∃ b f,ev s.e a=.p (some (b,f))/\∀ k c,v.cells[k]? = some c->J.ld b (f+k)=some c)/\
  (∀ t t' x,o.op=.convert t t' x->∀ a n,ev s.e x=.sl a n->J.bT a n 1=s.J.bT a n 1)
theorem rp {R:Type} {j:Nat} {J:AH O}:∀ (l:List (Nat × LdC O)) (K:Option R) (r:R),HX fI j J l K=some r->K=some r/\∀ x∈l,bit (fI.getD j 0) x.1=false->x.2.p J
  |[],K,r,h=>⟨h,by simp⟩
  |(i,p)::l,K,r,h=>by
    simp only [HX] at h
    cases hb:bit (fI.getD j 0) i with
    |true=>
      rw [hb] at h
      obtain ⟨h1,h2⟩:=rp l K r h
      refine ⟨h1,fun x hx UG=>?_⟩
      rcases List.mem_cons.1 hx with rfl |hx
      · rw [hb] at UG;cases UG
      · exact h2 x hx UG
    |false=>
      rw [hb] at h
      obtain ⟨u,hu,h⟩:=Option.bind_eq_some_iff.1 h
      obtain ⟨h1,h2⟩:=rp l K r h
      refine ⟨h1,fun x hx UG=>?_⟩
      rcases List.mem_cons.1 hx with rfl |hx
      · exact p.h _ _ hu
      · exact h2 x hx UG
theorem sj {i:Nat} {b:fH}:∀ (l:List AV) (o k:Nat) (c:AV),l[k]? = some c->∃ x∈xZ (O:=O) i b o l,x.1=i/\∀ J,x.2.p J->J.ld b (o+k)=some c
  |[],o,k,c,h=>by cases h
  |v::l,o,0,c,h=>by cases h;exact ⟨_,List.mem_cons_self,rfl,fun J h=>h⟩
  |v::l,o,k+1,c,h=>by
    obtain ⟨x,h1,h2,h3⟩:=sj l (o+1) k c (by simpa using h)
    exact ⟨x,List.mem_cons_of_mem _ h1,h2,fun J hx=>by rw [<-h3 J hx];congr 1;omega⟩
theorem CH {R:Type} {i:Nat} {o:Oper} {s:RS O} {K:RS O->Option R} {r:R} (h:wA P G fI dr i o s K=some r):
    ∃ s' v,K s'=some r/\dX P G o.op o.type s.e s.J s.nid two=some (v,s'.J)/\s'.e=s.e.put o.dst v/\s'.nid=(if aM o.op=true then s.nid+1 else s.nid)/\
      (dr=true->(∃ l,s'.cA=s.cA++l/\∀ J,(∀ x∈l,x.1=i->x.2.p J)->Kept o s v J)/\(turns o.op=true->∀ x∈s.cA,bit (fI.getD i 0) x.1=false->x.2.p s'.J)):=by
  unfold wA at h
  rw [MS] at h
  obtain ⟨⟨v,J'⟩,hv,h⟩:=Option.bind_eq_some_iff.1 h
  simp only at h
  have hn:(bif aM o.op then s.nid+1 else s.nid)=(if aM o.op=true then s.nid+1 else s.nid):=by cases aM o.op<;>rfl
  cases dr with
  |false=>
    simp only [cond_false] at h
    exact ⟨_,v,h,hv,rfl,hn,fun e=>by cases e⟩
  |true=>
    simp only [cond_true] at h
    split at h
    · rename_i t a nN
      obtain ⟨b,f,PN,h⟩:=gn h
      refine ⟨_,v,h,hv,rfl,hn,fun _=>⟨⟨_,rfl,fun J hx=>⟨?_,?_⟩⟩,?_⟩⟩
      · intro t' a' e
        rw [nN] at e;cases e
        refine ⟨b,f,PN,fun k c hk=>?_⟩
        obtain ⟨x,q1,q2,q3⟩:=sj (O:=O) (i:=i) (b:=b) v.cells f k c hk
        exact q3 J (hx x q1 q2)
      · intro t' t'' x e;rw [nN] at e;cases e
      · intro e;rw [nN] at e;cases e
    · rename_i t t' x nN
      split at h
      · rename_i a m PN
        refine ⟨_,v,h,hv,rfl,hn,fun _=>⟨⟨_,rfl,fun J hx=>⟨?_,?_⟩⟩,?_⟩⟩
        · intro t' a' e;rw [nN] at e;cases e
        · intro t2 t3 x' e a' m' lU
          rw [nN] at e;cases e
          rw [PN] at lU;cases lU
          exact hx _ (List.mem_singleton.2 rfl) rfl
        · intro e;rw [nN] at e;cases e
      · rename_i db
        refine ⟨_,v,h,hv,rfl,hn,fun _=>⟨⟨[],by simp,fun J hx=>⟨?_,?_⟩⟩,?_⟩⟩
        · intro t' a' e;rw [nN] at e;cases e
        · intro t2 t3 x' e a' m' lU
          rw [nN] at e;cases e
          exact absurd lU (db a' m')
        · intro e;rw [nN] at e;cases e
    · rename_i UH hnc
      cases ht:turns o.op with
      |true=>
        rw [ht] at h
        obtain ⟨h1,h2⟩:=rp _ _ _ h
        exact ⟨_,v,h1,hv,rfl,hn,fun _=>⟨⟨[],by simp,fun J _=>⟨fun t a e=>absurd e (UH t a),fun t t' x e=>absurd e (hnc t t' x)⟩⟩,fun _=>h2⟩⟩
      |false=>
        rw [ht] at h
        exact ⟨_,v,h,hv,rfl,hn,fun _=>⟨⟨[],by simp,fun J _=>⟨fun t a e=>absurd e (UH t a),fun t t' x e=>absurd e (hnc t t' x)⟩⟩,fun e=>by cases e⟩⟩
structure Ay (s s':RS O):Prop where
  e:mB s.e s'.e
  J:s.J=s'.J
  nid:s.nid=s'.nid
theorem Env.uI {e:Env} {d:Nat} {v:AV} (h:e d=v):e.set d v=e:=by
  funext t;rw [Env.kE];split
  · rename_i ht;rw [ht,h]
  · rfl
structure Tr (P:Program) (G:List (Nat × Sm O)) (fI:List Nat) (dr:Bool) (ops:List Oper) (l:List Nat) (s:RS O) (S:Nat->RS O) (V:Nat->AV):Prop where
  z:Ay (S 0) s
  st:∀ p,p<l.length->∃ i o,l[p]? = some i/\ops[i]? = some o/\nQ P G ops o (S p) (S (p+1)) (V p)
  ld:dr=true->∀ x∈s.cA,∀ p i o,l[p]? = some i->ops[i]? = some o->cG ops (S p).e o=some true->turns o.op=true->bit (fI.getD i 0) x.1=false->x.2.p (S (p+1)).J
  kp:dr=true->∀ q p i o i' o',q<p->l[q]? = some i->ops[i]? = some o->l[p]? = some i'->ops[i']? = some o'->cA o.op=true->cG ops (S q).e o=some true->cG ops (S p).e o'=some true->turns o'.op=true->bit (fI.getD i' 0) i=false->
    Kept o (S q) (V q) (S (p+1)).J
theorem nQ.IY {o:Oper} {s s' UI:RS O} {v:AV} (h:nQ P G ops o s s' v) (h':Ay UI s'):nQ P G ops o s UI v:=
  ⟨h'.e.trans h.1,h'.nid.trans h.2.1,by rw [h'.J];exact h.2.2⟩
theorem Tr.app {l1 l2:List Nat} {s s2:RS O} {S1 S2:Nat->RS O} {V1 V2:Nat->AV} (h1:Tr P G fI dr ops l1 s S1 V1) (h2:Tr P G fI dr ops l2 s2 S2 V2) (hl:0<l1.length) (hs:Ay s2 (S1 l1.length)) (vH:dr=true->∀ x∈s.cA,x∈s2.cA)
    (hx:dr=true->∀ q p i o i' o',l1[q]? = some i->ops[i]? = some o->l2[p]? = some i'->ops[i']? = some o'->cA o.op=true->cG ops (S1 q).e o=some true->cG ops (S2 p).e o'=some true->turns o'.op=true->bit (fI.getD i' 0) i=false->Kept o (S1 q) (V1 q) (S2 (p+1)).J):
    Tr P G fI dr ops (l1++l2) s (fun p=>if p<l1.length then S1 p else S2 (p - l1.length)) (fun p=>if p<l1.length then V1 p else V2 (p - l1.length)):=by
  have UJ:Ay (S2 0) (S1 l1.length):=⟨h2.z.e.trans hs.e,h2.z.J.trans hs.J,h2.z.nid.trans hs.nid⟩
  have nxt:∀ p,p<l1.length->Ay (if p+1<l1.length then S1 (p+1) else S2 (p+1 - l1.length)) (S1 (p+1)):=fun p hp=>by
    by_cases h:p+1<l1.length
    · rw [if_pos h];exact ⟨mB.refl _,rfl,rfl⟩
    · have e:p+1=l1.length:=by omega
      rw [if_neg h,e,Nat.sub_self];exact UJ
  have R0:∀ p,¬ p<l1.length->(if p+1<l1.length then S1 (p+1) else S2 (p+1 - l1.length))=S2 (p - l1.length+1):=fun p hp=>by
    rw [if_neg (by omega)];congr 1;omega
  have g1:∀ {p i},p<l1.length->(l1++l2)[p]? = some i->l1[p]? = some i:=fun hp h=>by rwa [List.getElem?_append_left hp] at h
  have g2:∀ {p i},¬ p<l1.length->(l1++l2)[p]? = some i->l2[p - l1.length]? = some i:=fun hp h=>by rwa [List.getElem?_append_right (by omega)] at h
  refine ⟨?_,fun p hp=>?_,fun hd x hxm p i o a1 a2 a3 a4 a5=>?_,fun hd q p i o i' o' Bx a1 a2 a3 a4 a5 a6 a7 a8 a9=>?_⟩
  · show Ay (if 0<l1.length then S1 0 else _) s
    rw [if_pos hl];exact h1.z
  · by_cases h:p<l1.length
    · obtain ⟨i,o,b1,b2,b3⟩:=h1.st p h
      refine ⟨i,o,by rw [List.getElem?_append_left h];exact b1,b2,?_⟩
      simp only [if_pos h]
      exact b3.IY (nxt p h)
    · obtain ⟨i,o,b1,b2,b3⟩:=h2.st (p - l1.length) (by simp at hp;omega)
      refine ⟨i,o,by rw [List.getElem?_append_right (by omega)];exact b1,b2,?_⟩
      simp only [if_neg h,R0 p h]
      exact b3
  · by_cases h:p<l1.length
    · simp only [if_pos h] at a3
      show x.2.p (if p+1<l1.length then S1 (p+1) else S2 (p+1 - l1.length)).J
      rw [(nxt p h).J]
      exact h1.ld hd x hxm p i o (g1 h a1) a2 a3 a4 a5
    · simp only [if_neg h] at a3
      show x.2.p (if p+1<l1.length then S1 (p+1) else S2 (p+1 - l1.length)).J
      rw [R0 p h]
      exact h2.ld hd x (vH hd x hxm) _ i o (g2 h a1) a2 a3 a4 a5
  · show Kept o _ _ (if p+1<l1.length then S1 (p+1) else S2 (p+1 - l1.length)).J
    by_cases h:p<l1.length
    · have hq:q<l1.length:=by omega
      simp only [if_pos h] at a7
      simp only [if_pos hq] at a6 ⊢
      rw [(nxt p h).J]
      exact h1.kp hd q p i o i' o' Bx (g1 hq a1) a2 (g1 h a3) a4 a5 a6 a7 a8 a9
    · simp only [if_neg h] at a7
      rw [R0 p h]
      by_cases hq:q<l1.length
      · simp only [if_pos hq] at a6 ⊢
        exact hx hd q _ i o i' o' (g1 hq a1) a2 (g2 h a3) a4 a5 a6 a7 a8 a9
      · simp only [if_neg hq] at a6 ⊢
        exact h2.kp hd _ _ i o i' o' (by omega) (g2 hq a1) a2 (g2 h a3) a4 a5 a6 a7 a8 a9
theorem Tr.one {i:Nat} {o:Oper} {s s':RS O} {v:AV} (ho:ops[i]? = some o) (h:nQ P G ops o s s' v)
    (hl:dr=true->cG ops s.e o=some true->turns o.op=true->∀ x∈s.cA,bit (fI.getD i 0) x.1=false->x.2.p s'.J):Tr P G fI dr ops [i] s (fun p=>if p=0 then s else s') (fun _=>v):=by
  refine ⟨⟨mB.refl _,rfl,rfl⟩,fun p hp=>?_,fun hd x hxm p i' o' a1 a2 a3 a4 a5=>?_,fun hd q p i1 o1 i' o' Bx a1 a2 a3=>?_⟩
  · obtain rfl:p=0:=by simpa using hp
    exact ⟨i,o,rfl,ho,h⟩
  · have hp:p=0:=by
      have:=(List.getElem?_eq_some_iff.1 a1).1;simpa using this
    subst hp
    cases a1
    rw [ho] at a2;cases a2
    exact hl hd a3 a4 x hxm a5
  · have:p<1:=(List.getElem?_eq_some_iff.1 a3).1
    omega
structure CI (P:Program) (G:List (Nat × Sm O)) (fI:List Nat) (dr:Bool) (ops:List Oper) (l:List Nat) (s:RS O) (s':RS O) (S:Nat->RS O) (V:Nat->AV):Prop where
  tr:Tr P G fI dr ops l s S V
  fin:Ay s' (S l.length)
  nid:s'.nid=jC ops l s.nid
  out:∀ t,t∉qM ops l->s'.e t=s.e t
theorem xd (ops:List Oper):∀ (l1 l2:List Nat) (n:Nat),jC ops (l1++l2) n=jC ops l2 (jC ops l1 n)
  |[],_,_=>rfl
  |q::l1,l2,n=>by simp only [List.cons_append,jC];exact xd ops l1 l2 _
theorem CI.app {l1 l2:List Nat} {s s1 s2 s3:RS O} {S1 S2:Nat->RS O} {V1 V2:Nat->AV} (h1:CI P G fI dr ops l1 s s1 S1 V1) (h2:CI P G fI dr ops l2 s2 s3 S2 V2) (hl:0<l1.length) (hs:Ay s2 s1) (ho:∀ t,t∉qM ops l1->s2.e t=s1.e t) (vH:dr=true->∀ x∈s.cA,x∈s2.cA)
    (hx:dr=true->∀ q p i o i' o',l1[q]? = some i->ops[i]? = some o->l2[p]? = some i'->ops[i']? = some o'->cA o.op=true->cG ops (S1 q).e o=some true->cG ops (S2 p).e o'=some true->turns o'.op=true->bit (fI.getD i' 0) i=false->Kept o (S1 q) (V1 q) (S2 (p+1)).J):
    ∃ S V,CI P G fI dr ops (l1++l2) s s3 S V:=by
  refine ⟨_,_,h1.tr.app h2.tr hl ⟨hs.e.trans h1.fin.e,hs.J.trans h1.fin.J,hs.nid.trans h1.fin.nid⟩ vH hx,?_,?_,fun t ht=>by
    simp only [qM,List.filterMap_append,List.mem_append,not_or] at ht
    exact (h2.out t ht.2).trans ((ho t ht.1).trans (h1.out t ht.1))⟩
  · simp only [List.length_append]
    rw [if_neg (by omega)]
    have:l1.length+l2.length - l1.length=l2.length:=by omega
    rw [this];exact h2.fin
  · rw [xd,<-h1.nid,h2.nid,hs.nid]
theorem CI.cons {i:Nat} {o:Oper} {l:List Nat} {s s' s3:RS O} {v:AV} {S2:Nat->RS O} {V2:Nat->AV} (ho:ops[i]? = some o) (he:s'.e=s.e.put o.dst v) (h:nQ P G ops o s s' v)
    (hl:dr=true->cG ops s.e o=some true->turns o.op=true->∀ x∈s.cA,bit (fI.getD i 0) x.1=false->x.2.p s'.J)
    (hk:dr=true->∃ l,s'.cA=s.cA++l/\(cG ops s.e o=some true->∀ J,(∀ x∈l,x.1=i->x.2.p J)->Kept o s v J))
    (h2:CI P G fI dr ops l s' s3 S2 V2):∃ S V,CI P G fI dr ops (i::l) s s3 S V:=by
  have one:CI P G fI dr ops [i] s s' (fun p=>if p=0 then s else s') (fun _=>v):=by
    refine ⟨Tr.one ho h hl,⟨mB.refl _,rfl,rfl⟩,?_,fun t ht=>?_⟩
    · simp only [jC,ho];rw [h.2.1];cases aM o.op<;>rfl
    · rw [he]
      cases hd:o.dst with
      |none=>rfl
      |some d=>
        simp only [Env.put,Env.kE]
        rw [if_neg (by intro e;subst e;exact ht (by simp [qM,ho,hd]))]
  refine one.app h2 (by simp) ⟨mB.refl _,rfl,rfl⟩ (fun _ _=>rfl) (fun hd x hx=>?_) fun hd q p i1 o1 i' o' a1 a2 a3 a4 a5 a6 a7 a8 a9=>?_
  · obtain ⟨l',e,_⟩:=hk hd
    rw [e];exact List.mem_append_left _ hx
  · have hq:q=0:=by
      have:=(List.getElem?_eq_some_iff.1 a1).1;simpa using this
    subst hq
    cases a1
    rw [ho] at a2;cases a2
    obtain ⟨l',e,hkk⟩:=hk hd
    refine hkk a6 _ fun x hx hxi=>?_
    exact h2.tr.ld hd x (by rw [e];exact List.mem_append_right _ hx) p i' o' a3 a4 a7 a8 (by rw [hxi];exact a9)
theorem yB {l1 l2:List Nat} (h:x7 fI ops l1 l2=true) {q p i i':Nat} {o o':Oper} (a1:l1[q]? = some i) (a2:ops[i]? = some o) (a3:l2[p]? = some i') (a4:ops[i']? = some o') (a5:cA o.op=true) (a6:turns o'.op=true):bit (fI.getD i' 0) i=true:=by
  have h1:=List.all_eq_true.1 h i (List.mem_of_getElem? a1)
  simp only [a2,a5,Bool.not_true,Bool.false_or] at h1
  have h2:=List.all_eq_true.1 h1 i' (List.mem_of_getElem? a3)
  simpa only [a4,a6,Bool.not_true,Bool.false_or] using h2
theorem trace:∀ (f:Nat) (l:List Nat) {R:Type} (s:RS O) (K:RS O->Option R) (r:R),qN P G fI dr qL ops f l s K=some r->
    ∃ (S:Nat->RS O) (V:Nat->AV) (s':RS O),CI P G fI dr ops l s s' S V/\K s'=some r:=by
  have nil:∀ {R:Type} (s:RS O) (K:RS O->Option R) (r:R),K s=some r->∃ (S:Nat->RS O) (V:Nat->AV) (s':RS O),CI P G fI dr ops [] s s' S V/\K s'=some r:=fun s K r h=>
    ⟨fun _=>s,fun _=>.u,s,⟨⟨⟨mB.refl _,rfl,rfl⟩,fun p hp=>absurd hp (by simp),fun _ _ _ p i o h=>absurd h (by simp),fun _ q p i o i' o' _ h=>absurd h (by simp)⟩,⟨mB.refl _,rfl,rfl⟩,rfl,fun _ _=>rfl⟩,h⟩
  intro f
  induction f with
  |zero=>
    intro l R s K r h
    cases l with
    |nil=>exact nil s K r h
    |cons=>cases h
  |succ f ih=>
    intro l R s K r h
    cases l with
    |nil=>exact nil s K r h
    |cons i l=>
      simp only [qN] at h
      split at h
      · cases h
      · rename_i o ho
        have step:∀ {R':Type} {l':List Nat} {s1:RS O} {K':RS O->Option R'} {r':R'},s1.e=s.e->s1.J=s.J->s1.nid=s.nid->s1.cA=s.cA->cG ops s.e o=some true->wA P G fI dr i o s1 (fun s'=>qN P G fI dr qL ops f l' s' K')=some r'->
            ∃ (S:Nat->RS O) (V:Nat->AV) (s':RS O),CI P G fI dr ops (i::l') s s' S V/\K' s'=some r':=by
          intro R' l' s1 K' r' e1 e2 e3 e4 hw h
          obtain ⟨s',v,h1,h2,h3,h4,h6⟩:=CH h
          rw [e1,e2,e3] at h2
          rw [e1] at h3
          rw [e3] at h4
          rw [e4] at h6
          obtain ⟨S,V,UI,g1,g2⟩:=ih l' s' K' r' h1
          have WU:∀ J,Kept o s1 v J->Kept o s v J:=fun J hk=>by unfold Kept at hk ⊢;rw [e1,e2] at hk;exact hk
          obtain ⟨S',V',g⟩:=CI.cons ho h3 (⟨by rw [h3];exact mB.refl _,h4,.inl ⟨hw,h2⟩⟩:nQ P G ops o s s' v) (fun hd _ ht=>(h6 hd).2 ht) (fun hd=>by obtain ⟨⟨l2,q1,q2⟩,_⟩:=h6 hd;exact ⟨l2,q1,fun _ J hx=>WU J (q2 J hx)⟩) g1
          exact ⟨S',V',UI,g,g2⟩
        have skip:∀ {R':Type} {l':List Nat} {s1:RS O} {K':RS O->Option R'} {r':R'},s1.e=s.e.put o.dst (.aB [])->s1.J=s.J->s1.nid=(bif aM o.op then s.nid+1 else s.nid)->s1.cA=s.cA->cG ops s.e o=some false->qN P G fI dr qL ops f l' s1 K'=some r'->
            ∃ (S:Nat->RS O) (V:Nat->AV) (s':RS O),CI P G fI dr ops (i::l') s s' S V/\K' s'=some r':=by
          intro R' l' s1 K' r' e1 e2 e3 e4 hw h
          obtain ⟨S,V,UI,g1,g2⟩:=ih l' s1 K' r' h
          have e3':s1.nid=(if aM o.op=true then s.nid+1 else s.nid):=by rw [e3];cases aM o.op<;>rfl
          obtain ⟨S',V',g⟩:=CI.cons ho e1 (⟨by rw [e1];exact mB.refl _,e3',.inr ⟨hw,rfl,e2⟩⟩:nQ P G ops o s s1 (.aB [])) (fun hd pV=>by rw [hw] at pV;cases pV) (fun hd=>⟨[],by simp [e4],fun pV=>by rw [hw] at pV;cases pV⟩) g1
          exact ⟨S',V',UI,g,g2⟩
        split at h
        · rename_i hg
          exact step rfl rfl rfl rfl (by simp [cG,hg]) h
        · rename_i j gV hg
          split at h
          · cases h
          · rename_i oj HZ
            split at h
            · cases h
            · rename_i d hd
              split at h
              · rename_i t ht
                have hw:cG ops s.e o=some (t == gV):=by simp [cG,hg,HZ,hd,ht]
                cases WV:s.dec.elem j with
                |true=>
                  rw [WV] at h
                  simp only [cond_true] at h
                  cases IZ:(t == gV) with
                  |true=>
                    simp only [IZ,cond_true] at h
                    exact step rfl rfl rfl rfl (by rw [hw,IZ]) h
                  |false=>
                    simp only [IZ,cond_false] at h
                    exact skip (s1:={s with e:=s.e.put o.dst (.aB []),nid:=bif aM o.op then s.nid+1 else s.nid}) rfl rfl rfl rfl (by rw [hw,IZ]) h
                |false=>
                  rw [WV] at h
                  simp only [cond_false] at h
                  generalize (fG l.length j qL)=sc at h
                  cases Hs:(dr && !x7 fI ops (i::l.take sc.1) (l.drop sc.1)) with
                  |true=>rw [Hs] at h;cases h
                  |false=>
                    rw [Hs] at h
                    simp only [cond_false] at h
                    obtain ⟨r0,FM,h⟩:=Option.bind_eq_some_iff.1 h
                    have br:∃ (S:Nat->RS O) (V:Nat->AV) (s':RS O),CI P G fI dr ops (i::l.take sc.1) s s' S V/\some (fA sc.2 s'.e,s'.J)=some r0:=by
                      cases IZ:(t == gV) with
                      |true=>
                        simp only [IZ,cond_true] at FM
                        have R1:t=gV:=by simpa using IZ
                        exact step (s1:={s with e:=s.e.set d (.b gV),dec:=j::s.dec}) (Env.uI (by rw [ht,R1])) rfl rfl rfl (by rw [hw,IZ]) FM
                      |false=>
                        simp only [IZ,cond_false] at FM
                        have R1:t = !gV:=by cases t<;>cases gV<;>simp at IZ ⊢
                        have hse:s.e.set d (.b !gV)=s.e:=Env.uI (by rw [ht,R1])
                        exact skip (s1:={s with e:=(s.e.set d (.b !gV)).put o.dst (.aB []),dec:=j::s.dec,nid:=bif aM o.op then s.nid+1 else s.nid}) (by show (s.e.set d (.b !gV)).put o.dst (.aB [])=_;rw [hse]) rfl rfl rfl (by rw [hw,IZ]) FM
                    obtain ⟨S1,V1,s1,g1,g2⟩:=br
                    obtain rfl:(fA sc.2 s1.e,s1.J)=r0:=by simpa using g2
                    obtain ⟨e',k1,k2⟩:=xc h
                    obtain ⟨S2,V2,s3,q1,q2⟩:=ih _ _ _ _ k1
                    have WW:∀ t,t∉qM ops (i::l.take sc.1)->e' t=s1.e t:=fun t ht=>by
                      rcases k2 t with q |⟨q,_⟩ |⟨_,q⟩
                      · exact q
                      · exact absurd q ht
                      · exact q.trans (g1.out t ht).symm
                    have hwk:mB e' s1.e:=fun t=>by
                      rcases k2 t with q |⟨_,q⟩ |⟨q1,q⟩
                      · exact .inl q
                      · exact .inr q
                      · exact .inl (WW t q1)
                    have:=g1.app q1 (by simp) ⟨hwk,rfl,g1.nid.symm⟩ WW (fun _ x hx=>hx) (fun vD q p i1 o1 i' o' a1 a2 a3 a4 a5 _ _ a8 a9=>by
                      rw [vD,Bool.true_and,Bool.not_eq_false'] at Hs
                      rw [yB Hs a1 a2 a3 a4 a5 a8] at a9;cases a9)
                    rw [List.cons_append,List.take_append_drop] at this
                    obtain ⟨S,V,g⟩:=this
                    exact ⟨S,V,s3,g,q2⟩
              · rename_i ht
                exact skip (s1:={s with e:=s.e.put o.dst (.aB []),nid:=bif aM o.op then s.nid+1 else s.nid}) rfl rfl rfl rfl (by simp [cG,hg,HZ,hd,ht]) h
              · cases h
end Go.Abs
